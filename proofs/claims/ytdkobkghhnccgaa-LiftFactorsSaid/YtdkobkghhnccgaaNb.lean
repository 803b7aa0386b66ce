/- Walks: a side between two corners; the comparison of fractions. -/
import Derived.Test.YtdkobkghhnccgaaNa
import Derived.Deep.RegionHeld3
import Derived.Deep.RegionWith
import Derived.Deep.DrawnRows
namespace Go.Proofs.Ytdkobkghhnccgaa
open Go.RowKit
open Np (frc Red ord Prm fle flt)
/-- block g is two numbers of element type t -/
def Box (w : World) (g : Nat) (t : TypeId) (x y : Int) : Prop := w.heap[g]? = some (.cells #[.int .i64 x, .int .i64 y] t (0, 0))
section
variable {w w' : World} {g : Nat} {t : TypeId} {x y : Int}
theorem Box.lt (h : Box w g t x y) : g < w.heap.size := (Array.getElem?_eq_some_iff.1 h).1
theorem Box.c0 (h : Box w g t x y) : w.cell? ⟨g, 0, none⟩ = some (.int .i64 x) := by
  unfold Box at h; simp [World.cell?, h]
theorem Box.c1 (h : Box w g t x y) : w.cell? ⟨g, 1, none⟩ = some (.int .i64 y) := by
  unfold Box at h; simp [World.cell?, h]
theorem Box.f (h : Box w g t x y) (o : Nat) : w.frozen? ⟨g, o, none⟩ = false := by
  unfold Box at h; simp [World.frozen?, h]
theorem Box.below {B : Nat} (h : Box w g t x y) (hb : Below B w w') (hg : g < B) : Box w' g t x y := (hb.block g hg).trans h
theorem Box.keep (h : Box w g t x y) (hb : Below w.heap.size w w') : Box w' g t x y := h.below hb h.lt
theorem Box.alloc (h : Box w g t x y) (o : Obj) : Box (w.alloc o) g t x y := (Below.heap_alloc w o g h.lt).trans h
theorem Box.new (w : World) (t : TypeId) (x y : Int) : Box (w.alloc (.cells #[.int .i64 x, .int .i64 y] t)) w.heap.size t x y := heap_alloc_new w _
theorem Box.drew (h : Box w g t x y) : Box w.drew g t x y := h
end
/-- block g is four numbers of element type t -/
def Box4 (w : World) (g : Nat) (t : TypeId) (a b c d : Int) : Prop := w.heap[g]? = some (.cells #[.int .i64 a, .int .i64 b, .int .i64 c, .int .i64 d] t (0, 0))
section
variable {w w' : World} {g : Nat} {t : TypeId} {a b c d : Int}
theorem Box4.lt (h : Box4 w g t a b c d) : g < w.heap.size := (Array.getElem?_eq_some_iff.1 h).1
theorem Box4.cc (h : Box4 w g t a b c d) : w.cell? ⟨g, 0, none⟩ = some (.int .i64 a) ∧ w.cell? ⟨g, 1, none⟩ = some (.int .i64 b) ∧ w.cell? ⟨g, 2, none⟩ = some (.int .i64 c) ∧ w.cell? ⟨g, 3, none⟩ = some (.int .i64 d) := by
  unfold Box4 at h; simp [World.cell?, h]
theorem Box4.f (h : Box4 w g t a b c d) (o : Nat) : w.frozen? ⟨g, o, none⟩ = false := by
  unfold Box4 at h; simp [World.frozen?, h]
theorem Box4.keep (h : Box4 w g t a b c d) (hb : Below w.heap.size w w') : Box4 w' g t a b c d := (hb.block g h.lt).trans h
theorem Box4.new (w : World) (t : TypeId) (a b c d : Int) : Box4 (w.alloc (.cells #[.int .i64 a, .int .i64 b, .int .i64 c, .int .i64 d] t)) w.heap.size t a b c d := heap_alloc_new w _
theorem Box4.drew (h : Box4 w g t a b c d) : Box4 w.drew g t a b c d := h
end
def cmpI (x y : Int) : Int := if x < y then -1 else if y < x then 1 else 0
set_option maxHeartbeats 4000000 in
theorem cmp_any (x y : Int) (w : World) :
    Calls Try.prog 79 #[.int .i64 x, .int .i64 y] w fun e w' => e = .returned (.int .i64 (cmpI x y)) ∧ w = w' := by
  rcases Int.lt_trichotomy x y with h | h | h
  · have h0 : decide (x < y) = true := decide_eq_true h
    have h1 : cmpI x y = -1 := by unfold cmpI; rw [if_pos h]
    rw [h1]
    clear h1
    go_enter Try.func79, Try.ntmps79
    go_wp2_with (go_in)
    go_ret
    exact ⟨rfl, rfl⟩
  · subst h
    have h0 : decide (x < x) = false := decide_eq_false (by omega)
    have h1 : cmpI x x = 0 := by unfold cmpI; rw [if_neg (by omega), if_neg (by omega)]
    rw [h1]
    clear h1
    go_enter Try.func79, Try.ntmps79
    go_wp2_with (go_in)
    go_ret
    exact ⟨rfl, rfl⟩
  · have h0 : decide (x < y) = false := decide_eq_false (by omega)
    have h2 : decide (y < x) = true := decide_eq_true h
    have h1 : cmpI x y = 1 := by unfold cmpI; rw [if_neg (by omega), if_pos h]
    rw [h1]
    clear h1
    go_enter Try.func79, Try.ntmps79
    go_wp2_with (go_in)
    go_ret
    exact ⟨rfl, rfl⟩
theorem natAbs_mul_le {a b : Int} {A B : Nat} (ha : a.natAbs ≤ A) (hb : b.natAbs ≤ B) : (a * b).natAbs ≤ A * B := by
  rw [Int.natAbs_mul]; exact Nat.mul_le_mul ha hb
theorem cmpI_le (x y : Int) : cmpI x y ≤ 0 ↔ x ≤ y := by unfold cmpI; split <;> (try split) <;> omega
theorem cmpI_bd (x y : Int) : -1 ≤ cmpI x y ∧ cmpI x y ≤ 1 := by unfold cmpI; split <;> (try split) <;> omega
set_option maxHeartbeats 4000000 in
theorem compare_any (a b c d : Int) (ha : a.natAbs ≤ 1000000) (hb : b.natAbs ≤ 1000000) (hc : c.natAbs ≤ 1000000) (hd : d.natAbs ≤ 1000000) (w : World) :
    Calls Try.prog 74 #[.agg #[.int .i64 a, .int .i64 b], .agg #[.int .i64 c, .int .i64 d]] w fun e w' => e = .returned (.int .i64 (cmpI (a * d) (c * b))) ∧ Below w.heap.size w w' := by
  have h1 := natAbs_mul_le ha hd
  have h2 := natAbs_mul_le hc hb
  go_enter Try.func74, Try.ntmps74
  go_wp2_with fail
  with_reducible refine (cmp_any _ _ _).mono ?_
  rintro e w1 ⟨rfl, rfl⟩
  go_wp2_with fail
  go_ret
  exact ⟨rfl, (((Below.refl _ _).alloc (Nat.le_refl _) _).alloc (by simp) _)⟩
/-- what a cell holds, whatever it is -/
def cellAt (w : World) (a : Addr) : Value := (w.cell? a).getD undef
theorem has_of {w : World} {a : Addr} {x : Value} (h : w.cell? a = some x) : w.cell? a = some (cellAt w a) := by unfold cellAt; rw [h]; rfl
theorem has_keep {w w' : World} {a : Addr} (h : w.cell? a = some (cellAt w a)) (hb : Below w.heap.size w w') (ha : a.block < w.heap.size) : w'.cell? a = some (cellAt w' a) :=
  has_of ((hb.cell ha).trans h)
theorem has_put {w : World} {a p : Addr} {u : Value} (h : w.cell? a = some (cellAt w a)) : (w.setCell p u).cell? a = some (cellAt (w.setCell p u) a) := by
  obtain ⟨v', hv⟩ := cell?_setCell_some (w := w) (p := p) (x := u) (q := a) (v := cellAt w a) h
  exact has_of hv
/-- the block g has room for four cells and may be written -/
def Room4 (w : World) (g : Nat) : Prop := (w.cell? ⟨g, 0, none⟩ = some (cellAt w ⟨g, 0, none⟩) ∧ w.cell? ⟨g, 1, none⟩ = some (cellAt w ⟨g, 1, none⟩) ∧ w.cell? ⟨g, 2, none⟩ = some (cellAt w ⟨g, 2, none⟩) ∧ w.cell? ⟨g, 3, none⟩ = some (cellAt w ⟨g, 3, none⟩)) ∧
  w.frozen? ⟨g, 0, none⟩ = false ∧ w.frozen? ⟨g, 1, none⟩ = false ∧ w.frozen? ⟨g, 2, none⟩ = false ∧ w.frozen? ⟨g, 3, none⟩ = false
theorem Room4.of {w : World} {g : Nat} {t : TypeId} {a b c d : Int} (h : Box4 w g t a b c d) : Room4 w g := by
  obtain ⟨h0, h1, h2, h3⟩ := h.cc
  exact ⟨⟨has_of h0, has_of h1, has_of h2, has_of h3⟩, h.f _, h.f _, h.f _, h.f _⟩
theorem Room4.keep {w w' : World} {g : Nat} (h : Room4 w g) (hb : Below w.heap.size w w') (hg : g < w.heap.size) : Room4 w' g := by
  obtain ⟨⟨h0, h1, h2, h3⟩, f0, f1, f2, f3⟩ := h
  exact ⟨⟨has_keep h0 hb hg, has_keep h1 hb hg, has_keep h2 hb hg, has_keep h3 hb hg⟩, (hb.frozen (p := ⟨g, 0, none⟩) hg).trans f0, (hb.frozen (p := ⟨g, 1, none⟩) hg).trans f1, (hb.frozen (p := ⟨g, 2, none⟩) hg).trans f2, (hb.frozen (p := ⟨g, 3, none⟩) hg).trans f3⟩
theorem Room4.put {w : World} {g : Nat} (h : Room4 w g) (p : Addr) (u : Value) : Room4 (w.setCell p u) g := by
  obtain ⟨⟨h0, h1, h2, h3⟩, f0, f1, f2, f3⟩ := h
  exact ⟨⟨has_put h0, has_put h1, has_put h2, has_put h3⟩, (World.frozen?_setCell ..).trans f0, (World.frozen?_setCell ..).trans f1, (World.frozen?_setCell ..).trans f2, (World.frozen?_setCell ..).trans f3⟩
/-- what the region keeps -/
def SideS (w : World) (g1 g2 g3 : Nat) (x1 y1 x2 y2 : Int) (w' : World) : Prop :=
  (w'.cell? ⟨g1, 0, none⟩ = some (.int .i64 x1) ∧ w'.cell? ⟨g1, 1, none⟩ = some (.int .i64 y1) ∧ w'.cell? ⟨g2, 0, none⟩ = some (.int .i64 x2) ∧ w'.cell? ⟨g2, 1, none⟩ = some (.int .i64 y2)) ∧ Room4 w' g3 ∧
    g1 < w'.heap.size ∧ g2 < w'.heap.size ∧ g3 < w'.heap.size ∧ Below w.heap.size w w' ∧ w.heap.size ≤ g3 ∧ g1 ≠ g3 ∧ g2 ≠ g3
theorem SideS.keep {w w1 w2 : World} {g1 g2 g3 : Nat} {x1 y1 x2 y2 : Int} (h : SideS w g1 g2 g3 x1 y1 x2 y2 w1) (hb : Below w1.heap.size w1 w2) : SideS w g1 g2 g3 x1 y1 x2 y2 w2 := by
  obtain ⟨⟨a, b, c, d⟩, r, l1, l2, l3, bb, h0⟩ := h
  exact ⟨⟨(hb.cell (p := ⟨g1, 0, none⟩) l1).trans a, (hb.cell (p := ⟨g1, 1, none⟩) l1).trans b, (hb.cell (p := ⟨g2, 0, none⟩) l2).trans c, (hb.cell (p := ⟨g2, 1, none⟩) l2).trans d⟩, r.keep hb l3, Nat.lt_of_lt_of_le l1 hb.size, Nat.lt_of_lt_of_le l2 hb.size, Nat.lt_of_lt_of_le l3 hb.size, bb.trans (hb.mono bb.size), h0⟩
theorem cell_far {w : World} {g g' o o' : Nat} (h : g ≠ g') (u : Value) : (w.setCell ⟨g', o', none⟩ u).cell? ⟨g, o, none⟩ = w.cell? ⟨g, o, none⟩ :=
  World.cell?_of_block (Below.heap_setCell w _ u g h)
theorem SideS.put {w w1 : World} {g1 g2 g3 : Nat} {x1 y1 x2 y2 : Int} (h : SideS w g1 g2 g3 x1 y1 x2 y2 w1) (o : Nat) (u : Value) : SideS w g1 g2 g3 x1 y1 x2 y2 (w1.setCell ⟨g3, o, none⟩ u) := by
  obtain ⟨⟨a, b, c, d⟩, r, l1, l2, l3, bb, h0, n1, n2⟩ := h
  refine ⟨⟨(cell_far n1 u).trans a, (cell_far n1 u).trans b, (cell_far n2 u).trans c, (cell_far n2 u).trans d⟩, r.put _ _, by simp; exact l1, by simp; exact l2, by simp; exact l3, bb.setCell h0 _, h0, n1, n2⟩
theorem SideS.parts {w : World} {g1 g2 g3 : Nat} {x1 y1 x2 y2 : Int} {w' : World} (h : SideS w g1 g2 g3 x1 y1 x2 y2 w') :
    (w'.cell? ⟨g1, 0, none⟩ = some (.int .i64 x1) ∧ w'.cell? ⟨g1, 1, none⟩ = some (.int .i64 y1) ∧ w'.cell? ⟨g2, 0, none⟩ = some (.int .i64 x2) ∧ w'.cell? ⟨g2, 1, none⟩ = some (.int .i64 y2)) ∧ ((w'.cell? ⟨g3, 0, none⟩ = some (cellAt w' ⟨g3, 0, none⟩) ∧ w'.cell? ⟨g3, 1, none⟩ = some (cellAt w' ⟨g3, 1, none⟩) ∧ w'.cell? ⟨g3, 2, none⟩ = some (cellAt w' ⟨g3, 2, none⟩) ∧ w'.cell? ⟨g3, 3, none⟩ = some (cellAt w' ⟨g3, 3, none⟩)) ∧
  w'.frozen? ⟨g3, 0, none⟩ = false ∧ w'.frozen? ⟨g3, 1, none⟩ = false ∧ w'.frozen? ⟨g3, 2, none⟩ = false ∧ w'.frozen? ⟨g3, 3, none⟩ = false) ∧ SideS w g1 g2 g3 x1 y1 x2 y2 w' := ⟨h.1, h.2.1, h⟩
set_option maxHeartbeats 8000000 in
theorem side_any (x1 y1 x2 y2 : Int) (h1 : 0 ≤ x1) (h2 : x1 < x2) (h3 : x2 ≤ 1000) (h4 : 0 ≤ y1) (h5 : y1 ≤ 1000) (h6 : 0 ≤ y2) (h7 : y2 ≤ 1000) (w : World) :
    Calls Try.prog 75 #[.agg #[.int .i64 x1, .int .i64 y1], .agg #[.int .i64 x2, .int .i64 y2]] w fun e w' => e = .returned (.agg #[.int .i64 x1, .int .i64 x2, .int .i64 (frc (y2 - y1) (x2 - x1)).1, .int .i64 (frc (y2 - y1) (x2 - x1)).2]) ∧ Below w.heap.size w w' := by
  have wy : IntKind.i64.wrap (y2 - y1) = y2 - y1 := IntWalk.i64_in _ (by omega)
  have wx : IntKind.i64.wrap (x2 - x1) = x2 - x1 := IntWalk.i64_in _ (by omega)
  go_enter Try.func75, Try.ntmps75
  go_wp2_with fail
  have UW : ∃ W g1 g2 g3, W = ((w.alloc (.cells #[.int .i64 x1, .int .i64 y1] 98)).alloc (.cells #[.int .i64 x2, .int .i64 y2] 98)).alloc (.cells #[.int .i64 0, .int .i64 0, .int .i64 0, .int .i64 0] 71) ∧ g1 = w.heap.size ∧ g2 = w.heap.size + 1 ∧ g3 = w.heap.size + 1 + 1 ∧
      SideS w g1 g2 g3 x1 y1 x2 y2 W := by
    have B1 := ((Box.new w 98 x1 y1).alloc (.cells #[.int .i64 x2, .int .i64 y2] 98)).alloc (.cells #[.int .i64 0, .int .i64 0, .int .i64 0, .int .i64 0] 71)
    have B2 : Box (((w.alloc (.cells #[.int .i64 x1, .int .i64 y1] 98)).alloc (.cells #[.int .i64 x2, .int .i64 y2] 98)).alloc (.cells #[.int .i64 0, .int .i64 0, .int .i64 0, .int .i64 0] 71)) (w.heap.size + 1) 98 x2 y2 := by
      have := (Box.new (w.alloc (.cells #[.int .i64 x1, .int .i64 y1] 98)) 98 x2 y2).alloc (.cells #[.int .i64 0, .int .i64 0, .int .i64 0, .int .i64 0] 71)
      simpa using this
    have B3 : Box4 (((w.alloc (.cells #[.int .i64 x1, .int .i64 y1] 98)).alloc (.cells #[.int .i64 x2, .int .i64 y2] 98)).alloc (.cells #[.int .i64 0, .int .i64 0, .int .i64 0, .int .i64 0] 71)) (w.heap.size + 1 + 1) 71 0 0 0 0 := by
      have := Box4.new ((w.alloc (.cells #[.int .i64 x1, .int .i64 y1] 98)).alloc (.cells #[.int .i64 x2, .int .i64 y2] 98)) 71 0 0 0 0
      simpa using this
    exact ⟨_, _, _, _, rfl, rfl, rfl, rfl, ⟨B1.c0, B1.c1, B2.c0, B2.c1⟩, Room4.of B3, B1.lt, B2.lt, B3.lt, (((Below.refl _ _).alloc (Nat.le_refl _) _).alloc (by simp) _).alloc (by simp; omega) _, by omega, by omega, by omega⟩
  obtain ⟨W, g1, g2, g3, hW, e1, e2, e3, hS⟩ := UW
  rw [← hW, ← e3, ← e2, ← e1]
  clear hW e1 e2 e3
  have HS := hS
  obtain ⟨⟨a0, a1, b0, b1⟩, ⟨⟨r0, r1, r2, r3⟩, f0, f1, f2, f3⟩, l1, l2, l3, BB, n0, n1, n2⟩ := hS
  go_region_held3 (fun w' => (w'.cell? ⟨g1, 0, none⟩ = some (.int .i64 x1) ∧ w'.cell? ⟨g1, 1, none⟩ = some (.int .i64 y1) ∧ w'.cell? ⟨g2, 0, none⟩ = some (.int .i64 x2) ∧ w'.cell? ⟨g2, 1, none⟩ = some (.int .i64 y2)) ∧ ((w'.cell? ⟨g3, 0, none⟩ = some (cellAt w' ⟨g3, 0, none⟩) ∧ w'.cell? ⟨g3, 1, none⟩ = some (cellAt w' ⟨g3, 1, none⟩) ∧ w'.cell? ⟨g3, 2, none⟩ = some (cellAt w' ⟨g3, 2, none⟩) ∧ w'.cell? ⟨g3, 3, none⟩ = some (cellAt w' ⟨g3, 3, none⟩)) ∧
  w'.frozen? ⟨g3, 0, none⟩ = false ∧ w'.frozen? ⟨g3, 1, none⟩ = false ∧ w'.frozen? ⟨g3, 2, none⟩ = false ∧ w'.frozen? ⟨g3, 3, none⟩ = false) ∧ SideS w g1 g2 g3 x1 y1 x2 y2 w')
    (first
      | exact SideS.parts (SideS.keep HS ((Below.refl _ _).drew))
      | (go_split_ands
         exact SideS.parts (SideS.keep (by assumption) hb1))
      | (go_split_ands
         exact SideS.parts (SideS.put (SideS.put (SideS.put (SideS.put (by assumption) _ _) _ _) _ _) _ _)))
    (first
      | (go_at_call 80; ((with_reducible refine (frac_any _ _ (by omega) (by omega) (by omega) _).mono ?_); rintro e w1 ⟨rfl, hb1⟩)))
  have HX := SideS.keep (SideS.keep HS ((Below.refl _ _).drew)) hb1
  clear a0 a1 b0 b1 r0 r1 r2 r3 f0 f1 f2 f3 l1 l2 l3 BB n0 n1 n2 HS
  obtain ⟨_, ⟨⟨r0, r1, r2, r3⟩, f0, f1, f2, f3⟩, l1, l2, l3, BB, n0, n1, n2⟩ := HX
  go_wp2_with fail
  exact bodyPost_ret (v := .agg #[.int .i64 x1, .int .i64 x2, .int .i64 (frc (y2 - y1) (x2 - x1)).1, .int .i64 (frc (y2 - y1) (x2 - x1)).2]) (by simp [results, Try.results75, go_sem, r0, r1, r2, r3]) rfl ⟨rfl, (((BB.setCell n0 _).setCell n0 _).setCell n0 _).setCell n0 _⟩
end Go.Proofs.Ytdkobkghhnccgaa
