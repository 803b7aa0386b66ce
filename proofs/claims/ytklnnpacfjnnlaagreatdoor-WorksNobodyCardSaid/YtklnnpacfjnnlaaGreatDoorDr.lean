/- The reference's disk: done, Write, Fuse; it goes along with the program's. -/
import Derived.Test.YtklnnpacfjnnlaaGreatDoorDs
import Derived.Test.YtklnnpacfjnnlaaGreatDoorDq
namespace Go.Proofs.YtklnnpacfjnnlaaGreatDoor
open Go.RowKit
/-- the reference's disk that goes along with a disk -/
def rk (D : Dk) : Rk := ⟨D.pages.map Prod.fst, D.pages.map Prod.snd, D.off, D.fuse⟩
theorem rk_new (n : Nat) : rk (newDk n) = newRk n := by
  unfold rk newDk newRk
  simp [List.map_replicate, noPage]
theorem RDsk.setDark {w : World} {X r p q : Nat} {D : Rk} (h : RDsk w X r p q D) (b : Bool) : RDsk (w.setCell ⟨r, 2, none⟩ (.bool b)) X r p q { D with dark := b } := by
  obtain ⟨k, a0, a1⟩ := h.row
  obtain ⟨l, b0, b1⟩ := h.row1
  refine ⟨⟨k, by rw [World.cell?_setCell_other _ _ _ _ (by simp)]; exact a0, a1.same fun y hy _ => ?_⟩, ⟨l, by rw [World.cell?_setCell_other _ _ _ _ (by simp)]; exact b0, b1.same fun y hy _ => ?_⟩, World.cell?_setCell_same _ _ _ h.dark, by rw [World.cell?_setCell_other _ _ _ _ (by simp)]; exact h.left, fun j => by rw [World.frozen?_setCell]; exact h.fr j, h.ne1, h.ne2, h.ne3, h.low, h.len, h.pos0, h.most, h.lo, h.hi⟩
  · simp [Value.ownBlock] at hy
    subst hy
    exact heap_setCell_ne _ _ _ _ (Ne.symm h.ne1)
  · simp [Value.ownBlock] at hy
    subst hy
    exact heap_setCell_ne _ _ _ _ (Ne.symm h.ne2)
theorem RDsk.setLeft {w : World} {X r p q : Nat} {D : Rk} (h : RDsk w X r p q D) (f : Int) (hf0 : -1 ≤ f) (hf1 : f ≤ 9223372036854775807) : RDsk (w.setCell ⟨r, 3, none⟩ (.int .i64 f)) X r p q { D with left := f } := by
  obtain ⟨k, a0, a1⟩ := h.row
  obtain ⟨l, b0, b1⟩ := h.row1
  refine ⟨⟨k, by rw [World.cell?_setCell_other _ _ _ _ (by simp)]; exact a0, a1.same fun y hy _ => ?_⟩, ⟨l, by rw [World.cell?_setCell_other _ _ _ _ (by simp)]; exact b0, b1.same fun y hy _ => ?_⟩, by rw [World.cell?_setCell_other _ _ _ _ (by simp)]; exact h.dark, World.cell?_setCell_same _ _ _ h.left, fun j => by rw [World.frozen?_setCell]; exact h.fr j, h.ne1, h.ne2, h.ne3, h.low, h.len, h.pos0, h.most, hf0, hf1⟩
  · simp [Value.ownBlock] at hy
    subst hy
    exact heap_setCell_ne _ _ _ _ (Ne.symm h.ne1)
  · simp [Value.ownBlock] at hy
    subst hy
    exact heap_setCell_ne _ _ _ _ (Ne.symm h.ne2)
theorem RDsk.setPage {w : World} {X r p q : Nat} {D : Rk} (h : RDsk w X r p q D) (j : Nat) (hj : j < D.pages.length) (s : ByteArray) :
    RDsk (w.setCell ⟨p, j, none⟩ (.string s)) X r p q { D with pages := D.pages.set j s } := by
  obtain ⟨k, a0, a1⟩ := h.row
  obtain ⟨l, b0, b1⟩ := h.row1
  have hx : D.pages[j]? = some D.pages[j] := List.getElem?_eq_getElem hj
  refine ⟨⟨k, ?_, ?_⟩, ⟨l, ?_, b1.same fun y hy _ => ?_⟩, ?_, ?_, fun j => by rw [World.frozen?_setCell]; exact h.fr j, h.ne1, h.ne2, h.ne3, h.low, by simpa using h.len, by simpa using h.pos0, by simpa using h.most, h.lo, h.hi⟩
  · rw [World.cell?_setCell_other _ _ _ _ (by simp [Ne.symm h.ne1])]
    simpa using a0
  · simp only [List.length_set]
    exact a1.setField hx 0 (by omega) j (by omega) (.string s) s rfl
  · rw [World.cell?_setCell_other _ _ _ _ (by simp [Ne.symm h.ne1])]; exact b0
  · simp [Value.ownBlock] at hy
    subst hy
    exact heap_setCell_ne _ _ _ _ (Ne.symm h.ne3)
  · rw [World.cell?_setCell_other _ _ _ _ (by simp [Ne.symm h.ne1])]; exact h.dark
  · rw [World.cell?_setCell_other _ _ _ _ (by simp [Ne.symm h.ne1])]; exact h.left
theorem RDsk.same {w w' : World} {X r p q : Nat} {D : Rk} (h : RDsk w X r p q D) (h1 : w'.heap[r]? = w.heap[r]?) (h2 : w'.heap[p]? = w.heap[p]?) (h3 : w'.heap[q]? = w.heap[q]?) : RDsk w' X r p q D := by
  obtain ⟨k, a0, a1⟩ := h.row
  obtain ⟨l, b0, b1⟩ := h.row1
  exact ⟨⟨k, (World.cell?_of_block (w := w) (a := ⟨r, 0, none⟩) h1).trans a0, a1.same fun y hy _ => by simp [Value.ownBlock] at hy; subst hy; exact h2⟩, ⟨l, (World.cell?_of_block (w := w) (a := ⟨r, 1, none⟩) h1).trans b0, b1.same fun y hy _ => by simp [Value.ownBlock] at hy; subst hy; exact h3⟩,
    (World.cell?_of_block (w := w) (a := ⟨r, 2, none⟩) h1).trans h.dark, (World.cell?_of_block (w := w) (a := ⟨r, 3, none⟩) h1).trans h.left, fun j => (World.frozen?_of_block (w := w) (a := ⟨r, j, none⟩) h1).trans (h.fr j), h.ne1, h.ne2, h.ne3, h.low, h.len, h.pos0, h.most, h.lo, h.hi⟩
theorem RDsk.ltr {w : World} {X r p q : Nat} {D : Rk} (h : RDsk w X r p q D) : r < w.heap.size := block_lt_of_cell h.dark
theorem RDsk.ltp {w : World} {X r p q : Nat} {D : Rk} (h : RDsk w X r p q D) : p < w.heap.size := by
  obtain ⟨k, -, b⟩ := h.row
  exact b.lt
theorem RDsk.ltq {w : World} {X r p q : Nat} {D : Rk} (h : RDsk w X r p q D) : q < w.heap.size := by
  obtain ⟨k, -, b⟩ := h.row1
  exact b.lt
theorem RDsk.lowp {w : World} {X r p q : Nat} {D : Rk} (h : RDsk w X r p q D) : X ≤ p ∧ X ≤ q := by
  obtain ⟨k, -, b⟩ := h.row
  obtain ⟨l, -, c⟩ := h.row1
  exact ⟨(World.ownsRow.lt b p rfl).1, (World.ownsRow.lt c q rfl).1⟩
set_option maxHeartbeats 4000000 in
set_option maxRecDepth 100000 in
theorem rdone_any (X r p q : Nat) (D : Dk) (w : World) (h : RDsk w X r p q (rk D)) :
    Calls Tryz.prog 84 #[.pointer (some ⟨r, 0, none⟩)] w fun e w' => e = .returned (.bool (decide (D.spend.2 = 0))) ∧ RDsk w' X r p q (rk D.spend.1) ∧ Oth [r] w w' := by
  have ho := h.dark
  have hf := h.left
  have f2 := h.fr 2
  have f3 := h.fr 3
  have HD := Lib.hid h
  obtain ⟨ps, off, fuse⟩ := D
  simp only [rk] at ho hf
  cases off with
  | true =>
    rw [Dk.spend_off _ (Or.inl rfl)]
    clear h
    go_enter Tryz.func84, Tryz.ntmps84
    go_wp2_with fail
    go_ret
    exact ⟨rfl, HD.out, Oth.refl _ _⟩
  | false =>
    by_cases h2 : fuse = 0
    · rw [Dk.spend_off _ (Or.inr h2)]
      have hq : (fuse == 0) = true := by rw [h2]; rfl
      clear h h2
      go_enter Tryz.func84, Tryz.ntmps84
      go_wp2_with fail
      go_ret
      exact ⟨rfl, HD.out.setDark true, Oth.setCell _ _ _ _ (by simp)⟩
    · rw [Dk.spend_ok _ rfl h2]
      have hq : (fuse == 0) = false := beq_eq_false_iff_ne.2 h2
      have hlo := h.lo
      have hhi := h.hi
      simp only [rk] at hlo hhi
      by_cases h3 : 0 < fuse
      · have hd : decide (0 < fuse) = true := decide_eq_true h3
        have hm : max (fuse - 1) (-1) = fuse - 1 := by omega
        rw [hm]
        have HH := Lib.hid h2
        clear h h2 hm
        go_enter Tryz.func84, Tryz.ntmps84
        go_wp2_with fail
        go_ret
        exact ⟨rfl, HD.out.setLeft _ (by omega) (by omega), Oth.setCell _ _ _ _ (by simp)⟩
      · have hd : decide (0 < fuse) = false := decide_eq_false h3
        have hm : max (fuse - 1) (-1) = fuse := by omega
        rw [hm]
        have HH := Lib.hid h2
        clear h h2 hm
        go_enter Tryz.func84, Tryz.ntmps84
        go_wp2_with fail
        go_ret
        exact ⟨rfl, HD.out, Oth.refl _ _⟩
theorem rk_spend_pages (D : Dk) : D.spend.1.pages = D.pages := by unfold Dk.spend; split <;> rfl
theorem rk_put (D : Dk) (j : Nat) (s : ByteArray) (p : ByteArray × ByteArray) (hp : D.pages[j]? = some p) : rk { D with pages := D.pages.set j (s, p.2) } = { rk D with pages := (rk D).pages.set j s } := by
  unfold rk
  simp only [List.map_set]
  congr 1
  apply List.ext_getElem?
  intro i
  rw [List.getElem?_set]
  split
  · rename_i e
    subst e
    rw [List.getElem?_map, hp]
    split
    · rfl
    · rename_i hn
      exact absurd (List.getElem?_eq_some_iff.1 hp).1 (by simpa using hn)
  · rfl
set_option maxHeartbeats 4000000 in
set_option maxRecDepth 100000 in
theorem rwrite_any (X r p q : Nat) (D : Dk) (i : Int) (t : ByteArray) (w : World) (h : RDsk w X r p q (rk D)) :
    Calls Tryz.prog 55 #[.pointer (some ⟨r, 0, none⟩), .int .i64 i, .string t] w fun e w' => e = .returned (.int .i64 (D.write i t).2) ∧ RDsk w' X r p q (rk (D.write i t).1) ∧ Oth [r, p] w w' := by
  obtain ⟨k, h0, hr⟩ := h.row
  have hlen : (rk D).pages.length = D.pages.length := by simp [rk]
  rw [hlen] at h0
  have HS := Lib.hid (rdone_any X r p q D w h)
  have HD := Lib.hid h
  by_cases hi : D.has i
  · by_cases h80 : 80 < t.size
    · have hd : decide ((80 : Int) < (t.size : Int)) = true := decide_eq_true (by omega)
      have d0 : decide (i < 0) = false := decide_eq_false (by have := hi.1; omega)
      have d1 : decide ((D.pages.length : Int) ≤ i) = false := decide_eq_false (by have := hi.2; omega)
      have e : D.write i t = (D, 2) := by unfold Dk.write; rw [if_pos (Or.inr h80)]
      rw [e]
      clear h hr
      go_enter Tryz.func55, Tryz.ntmps55
      go_wp2_with fail
      go_ret
      exact ⟨rfl, HD.out, Oth.refl _ _⟩
    · have hd : decide ((80 : Int) < (t.size : Int)) = false := decide_eq_false (by omega)
      obtain ⟨j, pp, rfl, hj, hp, hgd⟩ := Dk.has_nat hi
      have d0 : decide ((j : Int) < 0) = false := decide_eq_false (by omega)
      have d1 : decide ((D.pages.length : Int) ≤ (j : Int)) = false := decide_eq_false (by omega)
      by_cases hs : D.spend.2 = 0
      · have e : D.write (j : Int) t = (D.spend.1.put (j : Int) t, 0) := by unfold Dk.write; rw [if_neg (by simp [hi, h80]), if_pos hs]
        have eput : D.spend.1.put (j : Int) t = { D.spend.1 with pages := D.spend.1.pages.set j (t, pp.2) } := by unfold Dk.put; rw [rk_spend_pages, hgd, Int.toNat_natCast]
        have erk := rk_put D.spend.1 j t pp (by rw [rk_spend_pages]; exact hp)
        rw [e, eput, erk]
        rw [hs] at HS
        have HP := Lib.hid hp
        have HSP := Lib.hid (rk_spend_pages D)
        clear h hr hp e eput erk
        go_enter Tryz.func55, Tryz.ntmps55
        go_wp2_with (
          go_at_call 84
          refine HS.out.mono ?_
          rintro e w2 ⟨rfl, hd2, ho2⟩
          obtain ⟨k2, c0, hr2⟩ := hd2.row
          rw [show (rk D.spend.1).pages.length = D.pages.length from by simp [rk, HSP.out]] at c0
          have hfr := hr2.free j
          have hlt2 : j < (rk D.spend.1).pages.length := by simpa [rk, HSP.out] using hj
          have hc2 := hr2.cell (j := j) (x := (rk D.spend.1).pages[j]) (List.getElem?_eq_getElem hlt2) (i := 0) rfl
          rw [Nat.mul_one, Nat.add_zero] at hc2
          have HD2 := Lib.hid hd2
          have HO2 := Lib.hid ho2
          clear hd2 ho2 hr2)
        go_ret
        exact ⟨rfl, HD2.out.setPage j hlt2 t, (HO2.out.more (by simp)).trans (Oth.setCell _ _ _ _ (by simp))⟩
      · have e : D.write (j : Int) t = D.spend := by unfold Dk.write; rw [if_neg (by simp [hi, h80]), if_neg hs]
        rw [e]
        have e8 : D.spend.2 = 8 := by
          unfold Dk.spend at hs ⊢
          split
          · rfl
          · rename_i hn; rw [if_neg hn] at hs; exact absurd rfl hs
        have hq : decide (D.spend.2 = 0) = false := decide_eq_false hs
        rw [hq] at HS
        rw [e8]
        clear h hr e hs hq e8
        go_enter Tryz.func55, Tryz.ntmps55
        go_wp2_with (
          go_at_call 84
          refine HS.out.mono ?_
          rintro e w2 ⟨rfl, hd2, ho2⟩
          have HD2 := Lib.hid hd2
          have HO2 := Lib.hid ho2
          clear hd2 ho2)
        go_ret
        exact ⟨rfl, HD2.out, HO2.out.more (by simp)⟩
  · have e : D.write i t = (D, 2) := by unfold Dk.write; rw [if_pos (Or.inl hi)]
    rw [e]
    clear h hr
    by_cases h1 : i < 0
    · have d0 : decide (i < 0) = true := decide_eq_true h1
      go_enter Tryz.func55, Tryz.ntmps55
      go_wp2_with fail
      go_ret
      exact ⟨rfl, HD.out, Oth.refl _ _⟩
    · have d0 : decide (i < 0) = false := decide_eq_false h1
      have d1 : decide ((D.pages.length : Int) ≤ i) = true := decide_eq_true (by unfold Dk.has at hi; omega)
      go_enter Tryz.func55, Tryz.ntmps55
      go_wp2_with fail
      go_ret
      exact ⟨rfl, HD.out, Oth.refl _ _⟩
set_option maxHeartbeats 4000000 in
set_option maxRecDepth 100000 in
theorem rfuse_any (X r p q : Nat) (D : Dk) (k : Int) (hk0 : -9223372036854775808 ≤ k) (hk : k ≤ 9223372036854775807) (w : World) (h : RDsk w X r p q (rk D)) :
    Calls Tryz.prog 53 #[.pointer (some ⟨r, 0, none⟩), .int .i64 k] w fun e w' => e = .returned (.tuple #[]) ∧ RDsk w' X r p q (rk (D.fused k)) ∧ Oth [r] w w' := by
  have HD := Lib.hid h
  have ho := h.dark
  have hf := h.left
  have f2 := h.fr 3
  simp only [rk] at ho hf
  cases hoff : D.off with
  | true =>
    have e : D.fused k = D := by unfold Dk.fused; rw [if_pos hoff]
    rw [e]
    rw [hoff] at ho
    clear h
    go_enter Tryz.func53, Tryz.ntmps53
    go_wp2_with fail
    go_end0
    exact ⟨rfl, HD.out, Oth.refl _ _⟩
  | false =>
    have e : D.fused k = { D with fuse := max k (-1) } := by unfold Dk.fused; rw [if_neg (by simp [hoff])]
    rw [e]
    rw [hoff] at ho
    clear h
    go_enter Tryz.func53, Tryz.ntmps53
    go_wp2_with fail
    go_end0
    exact ⟨rfl, HD.out.setLeft _ (by omega) (by omega), Oth.setCell _ _ _ _ (by simp)⟩
end Go.Proofs.YtklnnpacfjnnlaaGreatDoor
