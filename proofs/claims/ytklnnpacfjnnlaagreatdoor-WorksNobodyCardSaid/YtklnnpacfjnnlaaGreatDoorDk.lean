/- Disks: none, reach, spend, Read, Write. -/
import Derived.Test.YtklnnpacfjnnlaaGreatDoorDx
namespace Go.Proofs.YtklnnpacfjnnlaaGreatDoor
open Go.RowKit
/-- all blocks but those of S are as they were -/
structure Oth (S : List Nat) (w w' : World) : Prop where
  os : w'.os = w.os
  tape : w'.tape = w.tape
  output : w'.output = w.output
  size : w.heap.size ≤ w'.heap.size
  block : ∀ b, b < w.heap.size → b ∉ S → w'.heap[b]? = w.heap[b]?
theorem Oth.refl (S : List Nat) (w : World) : Oth S w w := ⟨rfl, rfl, rfl, Nat.le_refl _, fun _ _ _ => rfl⟩
theorem Oth.trans {S : List Nat} {a b c : World} (h : Oth S a b) (k : Oth S b c) : Oth S a c :=
  ⟨k.os.trans h.os, k.tape.trans h.tape, k.output.trans h.output, Nat.le_trans h.size k.size, fun i hi hn => (k.block i (Nat.lt_of_lt_of_le hi h.size) hn).trans (h.block i hi hn)⟩
theorem Oth.of {w w' : World} (h : Below w.heap.size w w') (S : List Nat) : Oth S w w' := ⟨h.os, h.tape, h.output, h.size, fun b hb _ => h.block b hb⟩
theorem Oth.more {S T : List Nat} {w w' : World} (h : Oth S w w') (hs : ∀ b ∈ S, b ∈ T) : Oth T w w' := ⟨h.os, h.tape, h.output, h.size, fun b hb hn => h.block b hb fun hm => hn (hs b hm)⟩
theorem Oth.below {S : List Nat} {w w' : World} {B : Nat} (h : Oth S w w') (hB : B ≤ w.heap.size) (hs : ∀ b ∈ S, B ≤ b) : Below B w w' := ⟨h.os, h.tape, h.output, h.size, fun b hb => h.block b (by omega) fun hm => by have := hs b hm; omega⟩
theorem Oth.setCell (S : List Nat) (w : World) (a : Addr) (v : Value) (ha : a.block ∈ S) : Oth S w (w.setCell a v) :=
  ⟨rfl, rfl, rfl, by simp [World.setCell], fun b _ hn => heap_setCell_ne _ _ _ _ (fun e => hn (e ▸ ha))⟩
theorem Oth.cell {S : List Nat} {w w' : World} (h : Oth S w w') (p : Addr) (hp : p.block < w.heap.size) (hn : p.block ∉ S) : w'.cell? p = w.cell? p := World.cell?_of_block (h.block _ hp hn)
theorem Oth.frozen {S : List Nat} {w w' : World} (h : Oth S w w') (p : Addr) (hp : p.block < w.heap.size) (hn : p.block ∉ S) : w'.frozen? p = w.frozen? p := World.frozen?_of_block (h.block _ hp hn)
theorem flat_set1 {α : Type} {k : Nat} (E : Enc α k) (u : Value) (y : α) : ∀ (L : List α) (j : Nat) (x : α) (i : Nat), L[j]? = some x → i < k → E.enc y = (E.enc x).set i u → (L.flatMap E.enc).set (j * k + i) u = (L.set j y).flatMap E.enc
  | [], _, _, _, h, _, _ => by simp at h
  | a :: L, 0, x, i, h, hi, he => by
    simp only [List.getElem?_cons_zero, Option.some.injEq] at h
    subst h
    rw [List.set_cons_zero, List.flatMap_cons, List.flatMap_cons, he, Nat.zero_mul, Nat.zero_add, List.set_append_left _ _ (by rw [E.len]; exact hi)]
  | a :: L, j + 1, x, i, h, hi, he => by
    rw [List.getElem?_cons_succ] at h
    have e : (j + 1) * k = k + j * k := by rw [Nat.add_mul]; omega
    rw [List.set_cons_succ, List.flatMap_cons, List.flatMap_cons, List.set_append_right _ _ (by rw [E.len]; omega), E.len, show (j + 1) * k + i - k = j * k + i by omega, flat_set1 E u y L j x i h hi he]
/-- a field of a thing in a row is set -/
theorem Rw.setField {α : Type} {k : Nat} {E : Enc α k} {e : TypeId} {w : World} {X g n c : Nat} {L : List α} (h : Rw E e w X (.slice (some ⟨g, 0, none⟩) n c) L) {j : Nat} {x : α} (hj : L[j]? = some x) (i : Nat) (hi : i < k) (o : Nat) (ho : o = j * k + i) (u : Value) (y : α) (he : E.enc y = (E.enc x).set i u) :
    Rw E e (w.setCell ⟨g, o, none⟩ u) X (.slice (some ⟨g, 0, none⟩) n c) (L.set j y) := by
  subst ho
  have hfl := flat_set1 E u y L j x i hj hi he
  unfold Rw
  rw [List.length_set]
  refine ⟨by rw [enc_length, List.length_set], ?_⟩
  rcases h.2 with ⟨h0, _⟩ | ⟨g', cap', cur, hv, hb0, hg, hnc, hcm, hcs, htake⟩
  · cases h0
  · simp only [Value.slice.injEq, Option.some.injEq, Addr.mk.injEq] at hv
    obtain ⟨⟨rfl, _⟩, hn, rfl⟩ := hv
    refine .inr ⟨g, c, cur.setIfInBounds (j * k + i) u, by rw [hn], hb0, ?_, hnc, hcm, by simpa using hcs, ?_⟩
    · simp [World.setCell, Array.getElem?_modify, hg]
    · rw [Array.toList_setIfInBounds, List.take_set, htake]
      exact hfl
theorem Rw.free {α : Type} {k : Nat} {E : Enc α k} {e : TypeId} {w : World} {X g n c : Nat} {L : List α} (h : Rw E e w X (.slice (some ⟨g, 0, none⟩) n c) L) (o : Nat) : w.frozen? ⟨g, o, none⟩ = false := by
  rcases h.2 with ⟨h0, _⟩ | ⟨g', cap', cur, hv, hb0, hg, _⟩
  · cases h0
  · simp only [Value.slice.injEq, Option.some.injEq, Addr.mk.injEq] at hv
    obtain ⟨⟨rfl, _⟩, _, rfl⟩ := hv
    simp [World.frozen?, hg]
/-- pages in memory: what they have, what is safe -/
def pgEnc : Enc (ByteArray × ByteArray) 2 := ⟨fun p => [.string p.1, .string p.2], fun _ => rfl, fun _ v h => by simp at h; rcases h with rfl | rfl <;> rfl⟩
/-- a disk -/
structure Dk where
  pages : List (ByteArray × ByteArray)
  off : Bool
  fuse : Int
/-- the disk D lies at block d, its pages at block pg, from block X on -/
structure Dsk (w : World) (X d pg : Nat) (D : Dk) : Prop where
  row : ∃ k, w.cell? ⟨d, 0, none⟩ = some (.slice (some ⟨pg, 0, none⟩) D.pages.length k) ∧ Rw pgEnc 96 w X (.slice (some ⟨pg, 0, none⟩) D.pages.length k) D.pages
  off : w.cell? ⟨d, 1, none⟩ = some (.bool D.off)
  fuse : w.cell? ⟨d, 2, none⟩ = some (.int .i64 D.fuse)
  fr : ∀ j, w.frozen? ⟨d, j, none⟩ = false
  ne : d ≠ pg
  low : X ≤ d
  pos0 : 0 < D.pages.length
  most : D.pages.length ≤ 200
  lo : -1 ≤ D.fuse
  hi : D.fuse ≤ 9223372036854775807
theorem Dsk.same {w w' : World} {X d pg : Nat} {D : Dk} (h : Dsk w X d pg D) (h1 : w'.heap[d]? = w.heap[d]?) (h2 : w'.heap[pg]? = w.heap[pg]?) : Dsk w' X d pg D := by
  obtain ⟨k, a, b⟩ := h.row
  exact ⟨⟨k, (World.cell?_of_block (w := w) (a := ⟨d, 0, none⟩) h1).trans a, b.same fun q hq _ => by simp [Value.ownBlock] at hq; subst hq; exact h2⟩, (World.cell?_of_block (w := w) (a := ⟨d, 1, none⟩) h1).trans h.off, (World.cell?_of_block (w := w) (a := ⟨d, 2, none⟩) h1).trans h.fuse, fun j => (World.frozen?_of_block (w := w) (a := ⟨d, j, none⟩) h1).trans (h.fr j), h.ne, h.low, h.pos0, h.most, h.lo, h.hi⟩
theorem Dsk.ltd {w : World} {X d pg : Nat} {D : Dk} (h : Dsk w X d pg D) : d < w.heap.size := block_lt_of_cell h.off
theorem Dsk.ltp {w : World} {X d pg : Nat} {D : Dk} (h : Dsk w X d pg D) : pg < w.heap.size := by
  obtain ⟨k, -, b⟩ := h.row
  exact b.lt
theorem Dsk.lowp {w : World} {X d pg : Nat} {D : Dk} (h : Dsk w X d pg D) : X ≤ pg := by
  obtain ⟨k, -, b⟩ := h.row
  exact (World.ownsRow.lt b pg rfl).1
theorem Dsk.keep {w w' : World} {X d pg : Nat} {D : Dk} (h : Dsk w X d pg D) (hb : Below w.heap.size w w') : Dsk w' X d pg D := h.same (hb.block d h.ltd) (hb.block pg h.ltp)
/-- an operation is spent -/
def Dk.spend (D : Dk) : Dk × Int := if D.off = true ∨ D.fuse = 0 then ({ D with off := true }, 8) else ({ D with fuse := max (D.fuse - 1) (-1) }, 0)
/-- a page of a disk -/
def Dk.has (D : Dk) (i : Int) : Prop := 0 ≤ i ∧ i < D.pages.length
instance (D : Dk) (i : Int) : Decidable (D.has i) := inferInstanceAs (Decidable (_ ∧ _))
def Dk.put (D : Dk) (i : Int) (s : ByteArray) : Dk := { D with pages := D.pages.set i.toNat (s, (D.pages.getD i.toNat (⟨#[]⟩, ⟨#[]⟩)).2) }
def Dk.write (D : Dk) (i : Int) (s : ByteArray) : Dk × Int := if ¬ D.has i ∨ 80 < s.size then (D, 2) else if D.spend.2 = 0 then (D.spend.1.put i s, 0) else D.spend
def Dk.read (D : Dk) (i : Int) : ByteArray × Int := if ¬ D.has i then (⟨#[]⟩, 2) else if D.off = true then (⟨#[]⟩, 8) else ((D.pages.getD i.toNat (⟨#[]⟩, ⟨#[]⟩)).1, 0)
set_option maxHeartbeats 4000000 in
set_option maxRecDepth 100000 in
theorem dnone_any (X d pg : Nat) (D : Dk) (w : World) (h : Dsk w X d pg D) :
    Calls Tryz.prog 68 #[.pointer (some ⟨d, 0, none⟩)] w fun e w' => e = .returned (.bool false) ∧ w' = w := by
  obtain ⟨k, h0, hr⟩ := h.row
  have hn : ((D.pages.length : Int) == 0) = false := by have := h.pos0; rw [beq_eq_false_iff_ne]; omega
  clear h hr
  go_enter Tryz.func68, Tryz.ntmps68
  go_wp2_with fail
  go_ret
  exact ⟨rfl, rfl⟩
set_option maxHeartbeats 4000000 in
set_option maxRecDepth 100000 in
theorem reach_any (X d pg : Nat) (D : Dk) (i : Int) (w : World) (h : Dsk w X d pg D) :
    Calls Tryz.prog 57 #[.pointer (some ⟨d, 0, none⟩), .int .i64 i] w fun e w' => e = .returned (.int .i64 (if D.has i then 0 else 2)) ∧ w' = w := by
  obtain ⟨k, h0, hr⟩ := h.row
  have HN := Lib.hid (dnone_any X d pg D w h)
  by_cases h1 : i < 0
  · have hd : decide (i < 0) = true := decide_eq_true h1
    rw [if_neg (fun h => by have := h.1; omega)]
    clear h hr
    go_enter Tryz.func57, Tryz.ntmps57
    go_wp2_with (go_at_call 68; refine HN.out.mono ?_; rintro e w1 ⟨rfl, rfl⟩)
    go_ret
    exact ⟨rfl, rfl⟩
  · have hd : decide (i < 0) = false := decide_eq_false h1
    by_cases h2 : (D.pages.length : Int) ≤ i
    · have hd2 : decide ((D.pages.length : Int) ≤ i) = true := decide_eq_true h2
      rw [if_neg (fun h => by have := h.2; omega)]
      clear h hr
      go_enter Tryz.func57, Tryz.ntmps57
      go_wp2_with (go_at_call 68; refine HN.out.mono ?_; rintro e w1 ⟨rfl, rfl⟩)
      go_ret
      exact ⟨rfl, rfl⟩
    · have hd2 : decide ((D.pages.length : Int) ≤ i) = false := decide_eq_false h2
      rw [if_pos ⟨by omega, by omega⟩]
      clear h hr
      go_enter Tryz.func57, Tryz.ntmps57
      go_wp2_with (go_at_call 68; refine HN.out.mono ?_; rintro e w1 ⟨rfl, rfl⟩)
      go_ret
      exact ⟨rfl, rfl⟩
theorem Dsk.setOff {w : World} {X d pg : Nat} {D : Dk} (h : Dsk w X d pg D) (b : Bool) : Dsk (w.setCell ⟨d, 1, none⟩ (.bool b)) X d pg { D with off := b } := by
  obtain ⟨k, h0, hr⟩ := h.row
  refine ⟨⟨k, by rw [World.cell?_setCell_other _ _ _ _ (by simp)]; exact h0, hr.same fun q hq _ => ?_⟩, World.cell?_setCell_same _ _ _ h.off, by rw [World.cell?_setCell_other _ _ _ _ (by simp)]; exact h.fuse, fun j => by rw [World.frozen?_setCell]; exact h.fr j, h.ne, h.low, h.pos0, h.most, h.lo, h.hi⟩
  simp [Value.ownBlock] at hq
  subst hq
  exact heap_setCell_ne _ _ _ _ (Ne.symm h.ne)
theorem Dsk.setFuse {w : World} {X d pg : Nat} {D : Dk} (h : Dsk w X d pg D) (f : Int) (hf0 : -1 ≤ f) (hf1 : f ≤ 9223372036854775807) : Dsk (w.setCell ⟨d, 2, none⟩ (.int .i64 f)) X d pg { D with fuse := f } := by
  obtain ⟨k, h0, hr⟩ := h.row
  refine ⟨⟨k, by rw [World.cell?_setCell_other _ _ _ _ (by simp)]; exact h0, hr.same fun q hq _ => ?_⟩, by rw [World.cell?_setCell_other _ _ _ _ (by simp)]; exact h.off, World.cell?_setCell_same _ _ _ h.fuse, fun j => by rw [World.frozen?_setCell]; exact h.fr j, h.ne, h.low, h.pos0, h.most, hf0, hf1⟩
  simp [Value.ownBlock] at hq
  subst hq
  exact heap_setCell_ne _ _ _ _ (Ne.symm h.ne)
theorem Dsk.setPage {w : World} {X d pg : Nat} {D : Dk} (h : Dsk w X d pg D) (j : Nat) (p q : ByteArray × ByteArray) (hp : D.pages[j]? = some p) (i : Nat) (hi : i < 2) (u : Value) (hq : pgEnc.enc q = (pgEnc.enc p).set i u) (o : Nat) (ho : o = j * 2 + i) :
    Dsk (w.setCell ⟨pg, o, none⟩ u) X d pg { D with pages := D.pages.set j q } := by
  obtain ⟨k, h0, hr⟩ := h.row
  have hne : (⟨pg, o, none⟩ : Addr).block ≠ d := Ne.symm h.ne
  refine ⟨⟨k, ?_, ?_⟩, ?_, ?_, fun j => by rw [World.frozen?_setCell]; exact h.fr j, h.ne, h.low, by simpa using h.pos0, by simpa using h.most, h.lo, h.hi⟩
  · rw [World.cell?_setCell_other _ _ _ _ (by simp [Ne.symm h.ne])]
    simpa using h0
  · simp only [List.length_set]
    exact hr.setField hp i hi o ho u q hq
  · rw [World.cell?_setCell_other _ _ _ _ (by simp [Ne.symm h.ne])]; exact h.off
  · rw [World.cell?_setCell_other _ _ _ _ (by simp [Ne.symm h.ne])]; exact h.fuse
theorem Dk.spend_off (D : Dk) (h : D.off = true ∨ D.fuse = 0) : D.spend = ({ D with off := true }, 8) := by unfold Dk.spend; rw [if_pos h]
theorem Dk.spend_ok (D : Dk) (h1 : D.off = false) (h : D.fuse ≠ 0) : D.spend = ({ D with fuse := max (D.fuse - 1) (-1) }, 0) := by unfold Dk.spend; rw [if_neg (by rw [h1]; simp [h])]
set_option maxHeartbeats 4000000 in
set_option maxRecDepth 100000 in
theorem spend_any (X d pg : Nat) (D : Dk) (w : World) (h : Dsk w X d pg D) :
    Calls Tryz.prog 74 #[.pointer (some ⟨d, 0, none⟩)] w fun e w' => e = .returned (.int .i64 D.spend.2) ∧ Dsk w' X d pg D.spend.1 ∧ Oth [d] w w' := by
  obtain ⟨k, h0, hr⟩ := h.row
  have ho := h.off
  have hf := h.fuse
  have f1 := h.fr 1
  have f2 := h.fr 2
  have HD := Lib.hid h
  obtain ⟨ps, off, fuse⟩ := D
  dsimp only at ho hf h0
  cases off with
  | true =>
    rw [Dk.spend_off _ (Or.inl rfl)]
    clear h hr
    go_enter Tryz.func74, Tryz.ntmps74
    go_wp2_with fail
    go_ret
    exact ⟨rfl, HD.out.setOff true, Oth.setCell _ _ _ _ (by simp)⟩
  | false =>
    by_cases h2 : fuse = 0
    · rw [Dk.spend_off _ (Or.inr h2)]
      have hq : (fuse == 0) = true := by rw [h2]; rfl
      clear h hr h2
      go_enter Tryz.func74, Tryz.ntmps74
      go_wp2_with fail
      go_ret
      exact ⟨rfl, HD.out.setOff true, Oth.setCell _ _ _ _ (by simp)⟩
    · rw [Dk.spend_ok _ rfl h2]
      have hq : (fuse == 0) = false := beq_eq_false_iff_ne.2 h2
      have hlo := h.lo
      have hhi := h.hi
      dsimp only at hlo hhi
      have hw : IntKind.i64.wrap (fuse - 1) = fuse - 1 := by rw [IntWalk.i64_in] <;> omega
      clear h hr h2
      go_enter Tryz.func74, Tryz.ntmps74
      go_wp2_with fail
      go_ret
      exact ⟨rfl, (HD.out.setOff false).setFuse _ (by omega) (by omega), (Oth.setCell _ _ _ _ (by simp)).trans (Oth.setCell _ _ _ _ (by simp))⟩
theorem Dk.has_nat {D : Dk} {i : Int} (h : D.has i) : ∃ (j : Nat) (p : ByteArray × ByteArray), i = (j : Int) ∧ j < D.pages.length ∧ D.pages[j]? = some p ∧ D.pages.getD i.toNat (⟨#[]⟩, ⟨#[]⟩) = p := by
  obtain ⟨j, rfl⟩ : ∃ j : Nat, i = (j : Int) := ⟨i.toNat, by have := h.1; omega⟩
  have hj : j < D.pages.length := by have := h.2; omega
  exact ⟨j, D.pages[j], rfl, hj, List.getElem?_eq_getElem hj, by rw [Int.toNat_natCast, List.getD_eq_getElem?_getD, List.getElem?_eq_getElem hj]; rfl⟩
set_option maxHeartbeats 4000000 in
set_option maxRecDepth 100000 in
theorem dread_any (X d pg : Nat) (D : Dk) (i : Int) (w : World) (h : Dsk w X d pg D) :
    Calls Tryz.prog 25 #[.pointer (some ⟨d, 0, none⟩), .int .i64 i] w fun e w' => e = .returned (.tuple #[.string (D.read i).1, .int .i64 (D.read i).2]) ∧ w' = w := by
  obtain ⟨k, h0, hr⟩ := h.row
  have HR := Lib.hid (reach_any X d pg D i w h)
  have ho := h.off
  by_cases hi : D.has i
  · rw [if_pos hi] at HR
    obtain ⟨j, p, rfl, hj, hp, hgd⟩ := Dk.has_nat hi
    have hc := hr.cell hp (i := 0) rfl
    rw [Nat.add_zero] at hc
    cases hoff : D.off with
    | true =>
      have e : D.read (j : Int) = (⟨#[]⟩, 8) := by unfold Dk.read; rw [if_neg (by simp [hi]), if_pos hoff]
      rw [e]
      rw [hoff] at ho
      clear h hr
      go_enter Tryz.func25, Tryz.ntmps25
      go_wp2_with (go_at_call 57; refine HR.out.mono ?_; rintro e w1 ⟨rfl, rfl⟩)
      go_ret2
      exact ⟨rfl, rfl⟩
    | false =>
      have e : D.read (j : Int) = (p.1, 0) := by unfold Dk.read; rw [if_neg (by simp [hi]), if_neg (by simp [hoff]), hgd]
      rw [e]
      rw [hoff] at ho
      clear h hr
      go_enter Tryz.func25, Tryz.ntmps25
      go_wp2_with (go_at_call 57; refine HR.out.mono ?_; rintro e w1 ⟨rfl, rfl⟩)
      go_ret2
      exact ⟨rfl, rfl⟩
  · rw [if_neg hi] at HR
    have e : D.read i = (⟨#[]⟩, 2) := by unfold Dk.read; rw [if_pos hi]
    rw [e]
    clear h hr
    go_enter Tryz.func25, Tryz.ntmps25
    go_wp2_with (go_at_call 57; refine HR.out.mono ?_; rintro e w1 ⟨rfl, rfl⟩)
    go_ret2
    exact ⟨rfl, rfl⟩
set_option maxHeartbeats 4000000 in
set_option maxRecDepth 100000 in
theorem dwrite_any (X d pg : Nat) (D : Dk) (i : Int) (t : ByteArray) (w : World) (h : Dsk w X d pg D) :
    Calls Tryz.prog 43 #[.pointer (some ⟨d, 0, none⟩), .int .i64 i, .string t] w fun e w' => e = .returned (.int .i64 (D.write i t).2) ∧ Dsk w' X d pg (D.write i t).1 ∧ Oth [d, pg] w w' := by
  have HR := Lib.hid (reach_any X d pg D i w h)
  have HS := Lib.hid (spend_any X d pg D w h)
  have HD := Lib.hid h
  by_cases hi : D.has i
  · rw [if_pos hi] at HR
    by_cases h80 : 80 < t.size
    · have hd : decide ((80 : Int) < (t.size : Int)) = true := decide_eq_true (by omega)
      have e : D.write i t = (D, 2) := by unfold Dk.write; rw [if_pos (Or.inr h80)]
      rw [e]
      clear h
      go_enter Tryz.func43, Tryz.ntmps43
      go_wp2_with (go_at_call 57; refine HR.out.mono ?_; rintro e w1 ⟨rfl, rfl⟩)
      go_ret
      exact ⟨rfl, HD.out, Oth.refl _ _⟩
    · have hd : decide ((80 : Int) < (t.size : Int)) = false := decide_eq_false (by omega)
      have hlen : D.spend.1.pages = D.pages := by unfold Dk.spend; split <;> rfl
      by_cases hs : D.spend.2 = 0
      · have e : D.write i t = (D.spend.1.put i t, 0) := by unfold Dk.write; rw [if_neg (by simp [hi, h80]), if_pos hs]
        rw [e]
        obtain ⟨j, p, rfl, hj, hp, hgd⟩ := Dk.has_nat hi
        have eput : D.spend.1.put (j : Int) t = { D.spend.1 with pages := D.spend.1.pages.set j (t, p.2) } := by unfold Dk.put; rw [hlen, hgd, Int.toNat_natCast]
        rw [eput]
        rw [hs] at HS
        clear h
        have HLEN := Lib.hid hlen
        have HP := Lib.hid hp
        clear hlen hp e eput
        go_enter Tryz.func43, Tryz.ntmps43
        go_wp2_with (first
          | (go_at_call 57; refine HR.out.mono ?_; rintro e w1 ⟨rfl, rfl⟩)
          | (go_at_call 74
             refine HS.out.mono ?_
             rintro e w2 ⟨rfl, hd2, ho2⟩
             obtain ⟨k, c0, hr⟩ := hd2.row
             rw [HLEN.out] at c0
             have hc := hr.cell (j := j) (x := p) (by rw [HLEN.out]; exact HP.out) (i := 0) rfl
             rw [Nat.add_zero] at hc
             have hfr := hr.free (j * 2)
             have HD2 := Lib.hid hd2
             have HO2 := Lib.hid ho2
             clear hd2 ho2 hr))
        go_ret
        refine ⟨rfl, HD2.out.setPage j p _ (by rw [HLEN.out]; exact HP.out) 0 (by omega) (.string t) rfl _ (by omega), (HO2.out.more (by simp)).trans (Oth.setCell _ _ _ _ (by simp))⟩
      · have e : D.write i t = D.spend := by unfold Dk.write; rw [if_neg (by simp [hi, h80]), if_neg hs]
        rw [e]
        have hq : (D.spend.2 == 0) = false := beq_eq_false_iff_ne.2 hs
        clear h e hs hlen
        go_enter Tryz.func43, Tryz.ntmps43
        go_wp2_with (first
          | (go_at_call 57; refine HR.out.mono ?_; rintro e w1 ⟨rfl, rfl⟩)
          | (go_at_call 74
             refine HS.out.mono ?_
             rintro e w2 ⟨rfl, hd2, ho2⟩
             have HD2 := Lib.hid hd2
             have HO2 := Lib.hid ho2
             clear hd2 ho2))
        go_ret
        exact ⟨rfl, HD2.out, HO2.out.more (by simp)⟩
  · rw [if_neg hi] at HR
    have e : D.write i t = (D, 2) := by unfold Dk.write; rw [if_pos (Or.inl hi)]
    rw [e]
    clear h
    go_enter Tryz.func43, Tryz.ntmps43
    go_wp2_with (go_at_call 57; refine HR.out.mono ?_; rintro e w1 ⟨rfl, rfl⟩)
    go_ret
    exact ⟨rfl, HD.out, Oth.refl _ _⟩
end Go.Proofs.YtklnnpacfjnnlaaGreatDoor
