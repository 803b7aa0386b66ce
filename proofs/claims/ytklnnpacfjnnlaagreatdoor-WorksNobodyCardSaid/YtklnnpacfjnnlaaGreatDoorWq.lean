/- Works: Open, new works. -/
import Derived.Test.YtklnnpacfjnnlaaGreatDoorWo
namespace Go.Proofs.YtklnnpacfjnnlaaGreatDoor
open Go.RowKit
/-- new books -/
def bk0 : Bk := ⟨[], [], (#[], 0), (#[], 0), none, 0, 0⟩
/-- what a state's predicate says of new books -/
def Fresh (S : SPred) : Prop := ∀ w B s, Stb w B s bk0 → S.P w (fun k => B ≤ k ∧ k < w.heap.size) s
theorem made_works {w : World} {d pg s X : Nat} {D : Dk} {S : SPred} (hd : Dsk w 0 d pg D) (hX : d < X ∧ pg < X) (hs : S.P w (fun k => X ≤ k ∧ k < w.heap.size) s) (hXs : X ≤ w.heap.size) :
    Wks (w.alloc (.cells #[.pointer (some ⟨d, 0, none⟩), .pointer (some ⟨s, 0, none⟩), .slice none 0 0, .int .i64 0, .bool false] 77)) (fun k => k = d ∨ k = pg ∨ (X ≤ k ∧ k < w.heap.size + 1)) w.heap.size d pg D S [] 0 false := by
  obtain ⟨W, hW⟩ : ∃ W, W = w.alloc (.cells #[.pointer (some ⟨d, 0, none⟩), .pointer (some ⟨s, 0, none⟩), .slice none 0 0, .int .i64 0, .bool false] 77) := ⟨_, rfl⟩
  have hb : Below w.heap.size w W := by rw [hW]; exact (Below.refl _ w).alloc (Nat.le_refl _) _
  have hz : W.heap.size = w.heap.size + 1 := by rw [hW]; simp
  have hc : ∀ j, W.cell? ⟨w.heap.size, j, none⟩ = #[.pointer (some ⟨d, 0, none⟩), .pointer (some ⟨s, 0, none⟩), .slice none 0 0, .int .i64 0, .bool false][j]? := fun j => by
    rw [hW]; exact cell_of_row _ _ j _ 77 (0, 0) (heap_alloc_new w _)
  have hf : ∀ j, W.frozen? ⟨w.heap.size, j, none⟩ = false := fun j => by rw [hW]; simp
  rw [← hW]
  have hdl := hd.ltd
  have hpl := hd.ltp
  refine ⟨⟨s, _, _, hc 0, hc 1, hc 2, S.same hs fun k hk => hb.block k hk.2, Rw.nil _ _, fun k hk => ⟨.inr (.inr ⟨hk.1, by omega⟩), by omega, by omega, by omega, by simp [Value.ownBlock]⟩, fun k hk => by simp [Value.ownBlock] at hk⟩, hc 3, hc 4, hf, hd.keep hb, ⟨.inr (.inr (by omega)), .inl rfl, .inr (.inl rfl)⟩, by omega, fun k hk => by omega⟩
set_option maxHeartbeats 4000000 in
set_option maxRecDepth 100000 in
theorem open_bare (d pg : Nat) (D : Dk) (S : SPred) (hS : Fresh S) (w : World) (h : Dsk w 0 d pg D) (hb : D.bare) (hg : Glob w) :
    Calls Tryz.prog 39 #[.pointer (some ⟨d, 0, none⟩)] w fun e w' => ∃ wk, e = .returned (.tuple #[.pointer (some ⟨wk, 0, none⟩), .int .i64 0]) ∧ (∃ F, Wks w' F wk d pg D S [] 0 false ∧ ∀ k, F k → k = d ∨ k = pg ∨ w.heap.size ≤ k) ∧ Below w.heap.size w w' := by
  have HN := Lib.hid (dnone_any 0 d pg D w h)
  have H := Lib.hid h
  have HB := Lib.hid hb
  have HG := Lib.hid hg
  have hdl := h.ltd
  have hpl := h.ltp
  clear h hb hg
  go_enter Tryz.func39, Tryz.ntmps39
  go_wp2_with (first
    | (go_at_call 68; refine HN.out.mono ?_; rintro e w1 ⟨rfl, hw⟩; rw [hw]; clear hw w1)
    | (go_at_call 69
       refine (begin_any w).mono ?_
       rintro e w1 ⟨rfl, hb1, hsta⟩
       have hw2 := made_works (H.out.keep hb1) ⟨hdl, hpl⟩ (hS w1 w.heap.size _ hsta) hb1.size
       have hb2 := hb1.alloc hb1.size (.cells #[.pointer (some ⟨d, 0, none⟩), .pointer (some ⟨w.heap.size + 2, 0, none⟩), .slice none 0 0, .int .i64 0, .bool false] 77)
       have HW2 := Lib.hid hw2
       have HB2 := Lib.hid hb2
       have HG2 := Lib.hid (HG.out.next hb2)
       clear hw2 hb2 hsta)
    | (go_at_call 70
       refine (wread_bare HW2.out HB.out HG2.out).mono ?_
       rintro e w3 ⟨rfl, hb3⟩
       have HW3 := Lib.hid (HW2.out.keep hb3)
       have HB3 := Lib.hid (HB2.out.trans (hb3.mono HB2.out.size))
       clear hb3)
    | (go_at_call 71
       refine (wclean_bare HW3.out HB.out).mono ?_
       rintro e w4 ⟨rfl, hw⟩
       rw [hw]
       clear hw w4
       obtain ⟨s, dv, G, c0, c1, c2, st, dn, -⟩ := HW3.out.ex
       obtain ⟨A, c, hf⟩ := dn.form
       subst hf
       rw [show ([] : List ByteArray).length = 0 from rfl] at c2
       have c3 := HW3.out.safe
       have f3 := HW3.out.fr 3
       clear st dn))
  go_ret2
  exact ⟨_, rfl, ⟨_, HW3.out.setSafe 0, fun k hk => by rcases hk with h | h | h; exact .inl h; exact .inr (.inl h); exact .inr (.inr h.1)⟩, HB3.out.setCell (p := ⟨w1.heap.size, 3, none⟩) hb1.size _⟩
end Go.Proofs.YtklnnpacfjnnlaaGreatDoor
