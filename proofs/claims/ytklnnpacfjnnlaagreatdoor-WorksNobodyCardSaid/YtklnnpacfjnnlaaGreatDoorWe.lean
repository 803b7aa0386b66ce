/- Works: Do. -/
import Derived.Test.YtklnnpacfjnnlaaGreatDoorWd
namespace Go.Proofs.YtklnnpacfjnnlaaGreatDoor
open Go.RowKit
/-- what Do gives -/
def DoPost (w : World) (F : Nat → Prop) (wk d pg : Nat) (D : Dk) (S S' : SPred) (done : List ByteArray) (sf : Int) (text rep : ByteArray) (er : Int) (e : Ending) (w' : World) : Prop :=
  e = .returned (.tuple #[.string (wdo D done.length text rep er).rep, .int .i64 (wdo D done.length text rep er).er]) ∧
  ∃ F', Wks w' F' wk d pg (wdo D done.length text rep er).D (if (wdo D done.length text rep er).made = true then S' else S) (if (wdo D done.length text rep er).made = true then done ++ [text] else done) sf (wdo D done.length text rep er).lost ∧
    (∀ k, F' k → F k ∨ w.heap.size ≤ k) ∧ OthP F w w'
theorem Glob.oth {w w' : World} {F : Nat → Prop} (h : Glob w) (ho : OthP F w w') (hF : ∀ k, F k → 8 ≤ k) : Glob w' :=
  h.same ho.size fun k hk => ho.block k (by have := h.big; omega) fun hf => by have := hF k hf; omega
/-- a change is made: the page is written, the state is the next one, the line is in the journal -/
theorem Wks.made {w w2 w4 w6 : World} {F G G' : Nat → Prop} {wk d pg s1 g6 c6 : Nat} {D D' : Dk} {S S' : SPred} {done : List ByteArray} {sf : Int} {text : ByteArray} {A : Option Addr} {c : Nat}
    (h : Wks w F wk d pg D S done sf false) (hb2 : Below w.heap.size w w2) (hs1 : S'.P w2 G' s1) (hGG : ∀ k, G' k → G k ∨ w.heap.size ≤ k)
    (hG : ∀ k, G k → F k ∧ k ≠ wk ∧ k ≠ d ∧ k ≠ pg ∧ (Value.slice A done.length c).ownBlock ≠ some k) (hdv : ∀ k, (Value.slice A done.length c).ownBlock = some k → F k ∧ k ≠ wk ∧ k ≠ d ∧ k ≠ pg)
    (hd4 : Dsk w4 0 d pg D') (ho4 : Oth [d, pg] w2 w4)
    (r6 : Rw stEnc 9 w6 0 (.slice (some ⟨g6, 0, none⟩) (done.length + 1) c6) (done ++ [text])) (b6 : Below 0 (w4.setCell ⟨wk, 1, none⟩ (.pointer (some ⟨s1, 0, none⟩))) w6)
    (o6 : ∀ b, b < (w4.setCell ⟨wk, 1, none⟩ (.pointer (some ⟨s1, 0, none⟩))).heap.size → (Value.slice A done.length c).ownBlock ≠ some b → w6.heap[b]? = (w4.setCell ⟨wk, 1, none⟩ (.pointer (some ⟨s1, 0, none⟩))).heap[b]?)
    (or6 : (Value.slice A done.length c).ownBlock = some g6 ∨ g6 = (w4.setCell ⟨wk, 1, none⟩ (.pointer (some ⟨s1, 0, none⟩))).heap.size + 1)
    (sz6 : (w4.setCell ⟨wk, 1, none⟩ (.pointer (some ⟨s1, 0, none⟩))).heap.size ≤ w6.heap.size) :
    ∃ F', Wks (w6.setCell ⟨wk, 2, none⟩ (.slice (some ⟨g6, 0, none⟩) (done.length + 1) c6)) F' wk d pg D' S' (done ++ [text]) sf false ∧ (∀ k, F' k → F k ∨ w.heap.size ≤ k) ∧
      OthP F w (w6.setCell ⟨wk, 2, none⟩ (.slice (some ⟨g6, 0, none⟩) (done.length + 1) c6)) := by
  have s5 : (w4.setCell ⟨wk, 1, none⟩ (.pointer (some ⟨s1, 0, none⟩))).heap.size = w4.heap.size := by simp [World.setCell]
  have h5 : ∀ b, b ≠ wk → (w4.setCell ⟨wk, 1, none⟩ (.pointer (some ⟨s1, 0, none⟩))).heap[b]? = w4.heap[b]? := fun b hb => heap_setCell_ne _ _ _ _ hb
  have hh := h
  obtain ⟨s, dv, Gx, c0, c1, c2, st, dn, hG0, hdv0⟩ := h.ex
  have hwl := h.lt wk h.own.1
  have hdl := h.lt d h.own.2.1
  have hpl := h.lt pg h.own.2.2
  have z2 := hb2.size
  have z4 := ho4.size
  have own_lt : ∀ k, (Value.slice A done.length c).ownBlock = some k → k < w.heap.size := fun k hk => h.lt k (hdv k hk).1
  have nown : ∀ k, k = wk ∨ k = d ∨ k = pg → (Value.slice A done.length c).ownBlock ≠ some k := fun k hk e => by
    have := hdv k e
    rcases hk with rfl | rfl | rfl
    · exact this.2.1 rfl
    · exact this.2.2.1 rfl
    · exact this.2.2.2 rfl
  -- blocks that are as they were at w2
  have keep : ∀ b, b < w2.heap.size → b ≠ wk → b ≠ d → b ≠ pg → (Value.slice A done.length c).ownBlock ≠ some b → w6.heap[b]? = w2.heap[b]? := fun b hb n1 n2 n3 n4 =>
    (o6 b (by rw [s5]; omega) n4).trans ((h5 b n1).trans (ho4.block b hb (by simp [n2, n3])))
  have ksetw : w6.heap[wk]? = (w4.setCell ⟨wk, 1, none⟩ (.pointer (some ⟨s1, 0, none⟩))).heap[wk]? := o6 wk (by rw [s5]; omega) (nown wk (.inl rfl))
  have kwk : ∀ j, j ≠ 1 → w6.cell? ⟨wk, j, none⟩ = w.cell? ⟨wk, j, none⟩ := fun j hj => by
    rw [World.cell?_of_block (w := w4.setCell ⟨wk, 1, none⟩ (.pointer (some ⟨s1, 0, none⟩))) (a := ⟨wk, j, none⟩) ksetw, World.cell?_setCell_other _ _ _ _ (by first | (simp; done) | (simp; omega))]
    rw [ho4.cell ⟨wk, j, none⟩ (by show wk < _; omega) (by simp [h.ne.1, h.ne.2])]
    exact hb2.cell (p := ⟨wk, j, none⟩) hwl
  have kwk1 : w6.cell? ⟨wk, 1, none⟩ = some (.pointer (some ⟨s1, 0, none⟩)) := by
    rw [World.cell?_of_block (w := w4.setCell ⟨wk, 1, none⟩ (.pointer (some ⟨s1, 0, none⟩))) (a := ⟨wk, 1, none⟩) ksetw]
    have hc1 : w4.cell? ⟨wk, 1, none⟩ = some (.pointer (some ⟨s, 0, none⟩)) := by
      rw [ho4.cell ⟨wk, 1, none⟩ (by show wk < _; omega) (by simp [h.ne.1, h.ne.2])]
      exact (hb2.cell (p := ⟨wk, 1, none⟩) hwl).trans c1
    exact World.cell?_setCell_same _ _ _ hc1
  have kfr : ∀ j, w6.frozen? ⟨wk, j, none⟩ = false := fun j => by
    rw [World.frozen?_of_block (w := w4.setCell ⟨wk, 1, none⟩ (.pointer (some ⟨s1, 0, none⟩))) (a := ⟨wk, j, none⟩) ksetw, World.frozen?_setCell]
    rw [ho4.frozen ⟨wk, j, none⟩ (by show wk < _; omega) (by simp [h.ne.1, h.ne.2])]
    exact (hb2.frozen (p := ⟨wk, j, none⟩) hwl).trans (h.fr j)
  have g6n : g6 ≠ wk ∧ g6 ≠ d ∧ g6 ≠ pg := by
    rcases or6 with e | e
    · exact (hdv g6 e).2
    · rw [s5] at e
      omega
  have hGk : ∀ k, G' k → k < w2.heap.size ∧ k ≠ wk ∧ k ≠ d ∧ k ≠ pg ∧ (Value.slice A done.length c).ownBlock ≠ some k ∧ k ≠ g6 := fun k hk => by
    have hkl := S'.lt hs1 k hk
    rcases hGG k hk with hk1 | hk1
    · have := hG k hk1
      refine ⟨hkl, this.2.1, this.2.2.1, this.2.2.2.1, this.2.2.2.2, fun e => ?_⟩
      rcases or6 with h1 | h1
      · exact this.2.2.2.2 (e ▸ h1)
      · rw [s5] at h1; omega
    · refine ⟨hkl, by omega, by omega, by omega, fun e => by have := own_lt k e; omega, fun e => ?_⟩
      rcases or6 with h1 | h1
      · have := own_lt g6 h1; omega
      · rw [s5] at h1; omega
  have zz : (w6.setCell ⟨wk, 2, none⟩ (.slice (some ⟨g6, 0, none⟩) (done.length + 1) c6)).heap.size = w6.heap.size := by simp [World.setCell]
  have h7 : ∀ b, b ≠ wk → (w6.setCell ⟨wk, 2, none⟩ (.slice (some ⟨g6, 0, none⟩) (done.length + 1) c6)).heap[b]? = w6.heap[b]? := fun b hb => heap_setCell_ne _ _ _ _ hb
  have hg6l : g6 < w6.heap.size := r6.lt
  refine ⟨fun k => F k ∨ (w.heap.size ≤ k ∧ k < w6.heap.size), ⟨⟨s1, _, G', ?_, ?_, World.cell?_setCell_same _ _ _ ((kwk 2 (by omega)).trans c2), S'.same hs1 fun k hk => ?_, r6.same fun k hk _ => ?_, fun k hk => ?_, fun k hk => ?_⟩, ?_, ?_, fun j => ?_, ?_, ?_, h.ne, fun k hk => ?_⟩, fun k hk => ?_, ?_⟩
  · rw [World.cell?_setCell_other _ _ _ _ (by simp)]; exact (kwk 0 (by omega)).trans c0
  · rw [World.cell?_setCell_other _ _ _ _ (by simp)]; exact kwk1
  · obtain ⟨a, b, c, d, e, f⟩ := hGk k hk
    rw [h7 k b]
    exact keep k a b c d e
  · simp [Value.ownBlock] at hk
    subst hk
    exact h7 _ g6n.1
  · obtain ⟨a, b, c, d, e, f⟩ := hGk k hk
    refine ⟨?_, b, c, d, fun e2 => ?_⟩
    · rcases hGG k hk with hk1 | hk1
      · exact .inl (hG k hk1).1
      · exact .inr ⟨hk1, by omega⟩
    · simp [Value.ownBlock] at e2
      exact f e2.symm
  · simp [Value.ownBlock] at hk
    subst hk
    refine ⟨?_, g6n⟩
    rcases or6 with e | e
    · exact .inl (hdv _ e).1
    · rw [s5] at e
      exact .inr ⟨by omega, hg6l⟩
  · rw [World.cell?_setCell_other _ _ _ _ (by simp)]; exact (kwk 3 (by omega)).trans h.safe
  · rw [World.cell?_setCell_other _ _ _ _ (by simp)]; exact (kwk 4 (by omega)).trans h.lost
  · rw [World.frozen?_setCell]; exact kfr j
  · have kd : ∀ k, k = d ∨ k = pg → (w6.setCell ⟨wk, 2, none⟩ (.slice (some ⟨g6, 0, none⟩) (done.length + 1) c6)).heap[k]? = w4.heap[k]? := fun k hk => by
      have hkw : k ≠ wk := by have := h.ne; rcases hk with rfl | rfl; exact Ne.symm this.1; exact Ne.symm this.2
      rw [h7 k hkw, o6 k (by rw [s5]; rcases hk with rfl | rfl <;> omega) (nown k (.inr hk)), h5 k hkw]
    exact hd4.same (kd d (.inl rfl)) (kd pg (.inr rfl))
  · exact ⟨.inl h.own.1, .inl h.own.2.1, .inl h.own.2.2⟩
  · rw [zz]
    rcases hk with hk | hk
    · have := h.lt k hk; omega
    · exact hk.2
  · rcases hk with hk | hk
    · exact .inl hk
    · exact .inr hk.1
  · refine ⟨(b6.os.trans ho4.os).trans hb2.os, (b6.tape.trans ho4.tape).trans hb2.tape, (b6.output.trans ho4.output).trans hb2.output, by rw [zz]; omega, fun b hb hn => ?_⟩
    have n1 : b ≠ wk := fun e => hn (e ▸ h.own.1)
    have n2 : b ≠ d := fun e => hn (e ▸ h.own.2.1)
    have n3 : b ≠ pg := fun e => hn (e ▸ h.own.2.2)
    rw [h7 b n1, keep b (by omega) n1 n2 n3 (fun e => hn (hdv b e).1)]
    exact hb2.block b hb
set_option maxHeartbeats 4000000 in
set_option maxRecDepth 100000 in
theorem wdo_err (text rep : ByteArray) (er : Int) (her : er ≠ 0) {S' : SPred} {w : World} {F : Nat → Prop} {wk d pg : Nat} {D : Dk} {S : SPred} {done : List ByteArray} {sf : Int} (h : Wks w F wk d pg D S done sf false) (hc : DoC w S text er rep S') :
    Calls Tryz.prog 31 #[.pointer (some ⟨wk, 0, none⟩), .string text] w (DoPost w F wk d pg D S S' done sf text rep er) := by
  have HR := Lib.hid (ready_any h)
  have H := Lib.hid h
  obtain ⟨s, dv, G, c0, c1, c2, st, dn, hG, hdv⟩ := h.ex
  have hres : wdo D done.length text rep er = ⟨⟨#[]⟩, er, D, false, false⟩ := by unfold wdo; rw [if_pos her]
  have HRES := Lib.hid hres
  have HC := Lib.hid (hc G s st)
  have hb0 : (er == 0) = false := beq_eq_false_iff_ne.2 her
  clear h st dn hG hdv hc hres
  have hok : ∀ s1, okRes er s s1 rep = .tuple #[.pointer (some ⟨s, 0, none⟩), .string ⟨#[]⟩, .int .i64 er] := fun s1 => by unfold okRes; rw [if_neg her]
  have HOK := Lib.hid hok
  clear hok her
  go_enter Tryz.func31, Tryz.ntmps31
  go_wp2_with (first
    | (go_at_call 59; refine HR.out.mono ?_; rintro e w1 ⟨rfl, hw⟩; rw [hw]; clear hw w1; rw [if_neg (by simp)])
    | (go_at_call 64; refine HC.out.mono ?_; rintro e w2 ⟨hb, s1, rfl, -⟩; rw [HOK.out]))
  go_ret2
  refine ⟨by rw [HRES.out]; rfl, F, ?_, fun k hk => .inl hk, OthP.of hb F⟩
  rw [HRES.out]
  exact H.out.keep hb
set_option maxHeartbeats 4000000 in
set_option maxRecDepth 100000 in
theorem wdo_ok (text rep : ByteArray) {S' : SPred} {w : World} {F : Nat → Prop} {wk d pg : Nat} {D : Dk} {S : SPred} {done : List ByteArray} {sf : Int} (h : Wks w F wk d pg D S done sf false) (hc : DoC w S text 0 rep S') (hg : Glob w) (ht : text.size ≤ 1000) (hdn : done.length ≤ 1000) :
    Calls Tryz.prog 31 #[.pointer (some ⟨wk, 0, none⟩), .string text] w (DoPost w F wk d pg D S S' done sf text rep 0) := by
  have HR := Lib.hid (ready_any h)
  have H := Lib.hid h
  obtain ⟨s, dv, G, c0, c1, c2, st, dn, hG, hdv⟩ := h.ex
  obtain ⟨A, c, hf⟩ := dn.form
  subst hf
  have HC := Lib.hid (hc G s st)
  have HG := Lib.hid hg
  have hwl : wk < w.heap.size := h.lt wk h.own.1
  have hok : ∀ s1, okRes 0 s s1 rep = .tuple #[.pointer (some ⟨s1, 0, none⟩), .string rep, .int .i64 0] := fun s1 => rfl
  have HOK := Lib.hid hok
  have HST := Lib.hid st
  have HDN := Lib.hid dn
  have HGG := Lib.hid hG
  have HDV := Lib.hid hdv
  have hne1 := h.ne.1
  have hne2 := h.ne.2
  clear h st dn hG hdv hc hok hg
  by_cases hfull : done.length = D.pages.length
  · have hres : wdo D done.length text rep 0 = ⟨⟨#[]⟩, 7, D, false, false⟩ := by unfold wdo; rw [if_neg (by simp), if_pos hfull]
    have HRES := Lib.hid hres
    have hbq : ((done.length : Int) == (D.pages.length : Int)) = true := by simp [hfull]
    clear hres hfull
    go_enter Tryz.func31, Tryz.ntmps31
    go_wp2_with (first
      | (go_at_call 59; refine HR.out.mono ?_; rintro e w1 ⟨rfl, hw⟩; rw [hw]; clear hw w1; rw [if_neg (by simp)])
      | (go_at_call 64
         refine HC.out.mono ?_
         rintro e w2 ⟨hb, s1, rfl, -⟩
         rw [HOK.out]
         have H2 := Lib.hid (H.out.keep hb)
         obtain ⟨kk, p0, -⟩ := (H.out.keep hb).dsk.row
         have e0 := (hb.cell (p := ⟨wk, 0, none⟩) hwl).trans c0
         have e2 := (hb.cell (p := ⟨wk, 2, none⟩) hwl).trans c2))
    go_ret2
    refine ⟨by rw [HRES.out]; rfl, F, ?_, fun k hk => .inl hk, OthP.of hb F⟩
    rw [HRES.out]
    exact H2.out
  · have hbq : ((done.length : Int) == (D.pages.length : Int)) = false := beq_eq_false_iff_ne.2 (by omega)
    by_cases hwr : (D.write done.length (pagedB done.length text)).2 = 0
    · have hres : wdo D done.length text rep 0 = ⟨rep, 0, (D.write done.length (pagedB done.length text)).1, true, false⟩ := by unfold wdo; rw [if_neg (by simp), if_neg hfull, if_pos hwr]
      have HRES := Lib.hid hres
      have HWR := Lib.hid hwr
      clear hres hfull hwr
      go_enter Tryz.func31, Tryz.ntmps31
      go_wp2_with (first
        | (go_at_call 59; refine HR.out.mono ?_; rintro e w1 ⟨rfl, hw⟩; rw [hw]; clear hw w1; rw [if_neg (by simp)])
        | (go_at_call 64
           refine HC.out.mono ?_
           rintro e w2 ⟨hb, s1, rfl, hs1⟩
           rw [HOK.out]
           have H2 := Lib.hid (H.out.keep hb)
           have HS1 := Lib.hid (hs1 (by first | trivial | rfl))
           have HB := Lib.hid hb
           obtain ⟨kk, p0, -⟩ := (H.out.keep hb).dsk.row
           have e0 := (hb.cell (p := ⟨wk, 0, none⟩) hwl).trans c0
           have e2 := (hb.cell (p := ⟨wk, 2, none⟩) hwl).trans c2
           have HG2 := Lib.hid (HG.out.next hb)
           have hwl2 : wk < w2.heap.size := Nat.lt_of_lt_of_le hwl hb.size
           clear hb hs1))
      go_region_held3 (fun w' => w'.cell? ⟨wk, 0, none⟩ = some (.pointer (some ⟨d, 0, none⟩)))
        (first | exact q4 | exact q3 | exact e0)
        (first
          | (go_at_call 65
             ((with_reducible refine (paged_any _ text (by omega) (by omega) ht _ (HG2.out.next (Below.refl _ _).drew)).mono ?_); rintro e w3 ⟨rfl, hb3⟩)
             have B3 : Below w2.heap.size w2 w3 := (Below.refl _ _).drew.trans hb3
             have q3 := (B3.cell (p := ⟨wk, 0, none⟩) hwl2).trans e0)
          | (go_at_call 43
             ((with_reducible refine (dwrite_any 0 d pg D _ _ w3 (H2.out.keep B3).dsk).mono ?_); rintro e w4 ⟨rfl, hd4, ho4⟩)
             rw [HWR.out]
             have q4 := (ho4.cell (p := ⟨wk, 0, none⟩) (Nat.lt_of_lt_of_le hwl2 B3.size) (by simp [hne1, hne2])).trans q3))
      have B2 : Below w2.heap.size w2 w2 := Below.refl _ _
      have HD4 := Lib.hid hd4
      have HO4 := Lib.hid ((Oth.of B3 [d, pg]).trans ho4)
      have e4 := (HO4.out.cell ⟨wk, 2, none⟩ hwl2 (by simp [hne1, hne2])).trans e2
      have e41 := (HO4.out.cell ⟨wk, 1, none⟩ hwl2 (by simp [hne1, hne2])).trans ((HB.out.cell (p := ⟨wk, 1, none⟩) hwl).trans c1)
      have f4 : w4.frozen? ⟨wk, 1, none⟩ = false := (HO4.out.frozen ⟨wk, 1, none⟩ hwl2 (by simp [hne1, hne2])).trans (H2.out.fr 1)
      have f42 : w4.frozen? ⟨wk, 2, none⟩ = false := (HO4.out.frozen ⟨wk, 2, none⟩ hwl2 (by simp [hne1, hne2])).trans (H2.out.fr 2)
      have hdn4 : Rw stEnc 9 (w4.setCell ⟨wk, 1, none⟩ (.pointer (some ⟨s1, 0, none⟩))) 0 (.slice A done.length c) done :=
        ((HDN.out.keep HB.out).same fun k hk hlt => (HO4.out.block k hlt (by have := HDV.out k hk; simp [this.2.2.1, this.2.2.2]))).same fun k hk _ => heap_setCell_ne _ _ _ _ (HDV.out k hk).2.1
      have HDN4 := Lib.hid hdn4
      have hnw : (Value.slice A done.length c).ownBlock ≠ some wk := fun e => (HDV.out wk e).2.1 rfl
      have hwl4 : wk < (w4.setCell ⟨wk, 1, none⟩ (.pointer (some ⟨s1, 0, none⟩))).heap.size := by simp only [World.setCell, Array.size_modify]; exact Nat.lt_of_lt_of_le hwl2 HO4.out.size
      have hsz4 : (w4.setCell ⟨wk, 1, none⟩ (.pointer (some ⟨s1, 0, none⟩))).heap.size = w4.heap.size := by simp [World.setCell]
      have HSZ4 := Lib.hid hsz4
      clear hd4 ho4 hb3 B3 q3 q4 hdn4 B2 hsz4
      go_wp2_with (at_builtin
                   refine wpList_rw2 stElt (w4.setCell ⟨wk, 1, none⟩ (.pointer (some ⟨s1, 0, none⟩))) rfl _ _ rfl 0 (.slice A done.length c) done rfl HDN4.out text _ rfl (by rw [HSZ4.out]; rfl) (by omega) (by omega) ?_
                   intro g6 c6 w6 r6 b6 o6 or6 sz6
                   have e6 : w6.cell? ⟨wk, 2, none⟩ = some (.slice A done.length c) := (World.cell?_of_block (a := ⟨wk, 2, none⟩) (o6 wk hwl4 hnw)).trans (by rw [World.cell?_setCell_other _ _ _ _ (by simp)]; exact e4)
                   have f6 : w6.frozen? ⟨wk, 2, none⟩ = false := (World.frozen?_of_block (a := ⟨wk, 2, none⟩) (o6 wk hwl4 hnw)).trans (by rw [World.frozen?_setCell]; exact f42))
      go_ret2
      obtain ⟨G', hs1, hGG⟩ := HS1.out
      unfold DoPost
      rw [HRES.out]
      refine ⟨rfl, ?_⟩
      exact H.out.made HB.out hs1 hGG HGG.out HDV.out HD4.out HO4.out r6 b6 o6 or6 sz6
    · have hres : wdo D done.length text rep 0 = ⟨⟨#[]⟩, (D.write done.length (pagedB done.length text)).2, (D.write done.length (pagedB done.length text)).1, false, true⟩ := by unfold wdo; rw [if_neg (by simp), if_neg hfull, if_neg hwr]
      have HRES := Lib.hid hres
      have hwq : ((D.write done.length (pagedB done.length text)).2 == 0) = false := beq_eq_false_iff_ne.2 hwr
      clear hres hfull hwr
      go_enter Tryz.func31, Tryz.ntmps31
      go_wp2_with (first
        | (go_at_call 59; refine HR.out.mono ?_; rintro e w1 ⟨rfl, hw⟩; rw [hw]; clear hw w1; rw [if_neg (by simp)])
        | (go_at_call 64
           refine HC.out.mono ?_
           rintro e w2 ⟨hb, s1, rfl, hs1⟩
           rw [HOK.out]
           have H2 := Lib.hid (H.out.keep hb)
           have HS1 := Lib.hid (hs1 (by first | trivial | rfl))
           have HB := Lib.hid hb
           obtain ⟨kk, p0, -⟩ := (H.out.keep hb).dsk.row
           have e0 := (hb.cell (p := ⟨wk, 0, none⟩) hwl).trans c0
           have e2 := (hb.cell (p := ⟨wk, 2, none⟩) hwl).trans c2
           have HG2 := Lib.hid (HG.out.next hb)
           have hwl2 : wk < w2.heap.size := Nat.lt_of_lt_of_le hwl hb.size
           clear hb hs1))
      go_region_held3 (fun w' => w'.cell? ⟨wk, 0, none⟩ = some (.pointer (some ⟨d, 0, none⟩)))
        (first | exact q4 | exact q3 | exact e0)
        (first
          | (go_at_call 65
             ((with_reducible refine (paged_any _ text (by omega) (by omega) ht _ (HG2.out.next (Below.refl _ _).drew)).mono ?_); rintro e w3 ⟨rfl, hb3⟩)
             have B3 : Below w2.heap.size w2 w3 := (Below.refl _ _).drew.trans hb3
             have q3 := (B3.cell (p := ⟨wk, 0, none⟩) hwl2).trans e0)
          | (go_at_call 43
             ((with_reducible refine (dwrite_any 0 d pg D _ _ w3 (H2.out.keep B3).dsk).mono ?_); rintro e w4 ⟨rfl, hd4, ho4⟩)
             have q4 := (ho4.cell (p := ⟨wk, 0, none⟩) (Nat.lt_of_lt_of_le hwl2 B3.size) (by simp [hne1, hne2])).trans q3))
      have HD4 := Lib.hid hd4
      have HO4 := Lib.hid ho4
      have HB3 := Lib.hid B3
      have f4 : w4.frozen? ⟨wk, 4, none⟩ = false := ((ho4.frozen ⟨wk, 4, none⟩ (Nat.lt_of_lt_of_le hwl2 B3.size) (by simp [hne1, hne2])).trans (B3.frozen (p := ⟨wk, 4, none⟩) hwl2)).trans (H2.out.fr 4)
      have e4 : w4.cell? ⟨wk, 4, none⟩ = some (.bool false) := ((ho4.cell ⟨wk, 4, none⟩ (Nat.lt_of_lt_of_le hwl2 B3.size) (by simp [hne1, hne2])).trans (B3.cell (p := ⟨wk, 4, none⟩) hwl2)).trans H2.out.lost
      clear hd4 ho4 hb3 B3 q3 q4
      go_wp2_with fail
      go_ret2
      unfold DoPost
      rw [HRES.out]
      have h4 := ((H2.out.keep HB3.out).disk HO4.out HD4.out).setLost true
      obtain ⟨o1, o2, o3⟩ := H.out.own
      exact ⟨rfl, F, h4, fun k hk => .inl hk, (((OthP.of HB.out F).trans (OthP.of HB3.out F) (fun i hi => .inl hi)).trans (OthP.ofL HO4.out (by simp; exact ⟨o2, o3⟩)) (fun i hi => .inl hi)).trans (OthP.setCell F w4 ⟨wk, 4, none⟩ _ o1) (fun i hi => .inl hi)⟩
theorem wdo_any (text rep : ByteArray) (er : Int) {S' : SPred} {w : World} {F : Nat → Prop} {wk d pg : Nat} {D : Dk} {S : SPred} {done : List ByteArray} {sf : Int} (h : Wks w F wk d pg D S done sf false) (hc : DoC w S text er rep S') (hg : Glob w) (ht : er = 0 → text.size ≤ 1000) (hdn : done.length ≤ 1000) :
    Calls Tryz.prog 31 #[.pointer (some ⟨wk, 0, none⟩), .string text] w (DoPost w F wk d pg D S S' done sf text rep er) := by
  by_cases he : er = 0
  · subst he
    exact wdo_ok text rep h hc hg (ht rfl) hdn
  · exact wdo_err text rep er he h hc
end Go.Proofs.YtklnnpacfjnnlaaGreatDoor
