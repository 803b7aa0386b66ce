/- The walk of Move. -/
import Derived.Test.YtiknocjdogbajaaJ
namespace Go.Proofs.Ytiknocjdogbajaa
open Go.RowKit

/-- block g is two numbers of element type t -/
def Box (w : World) (g : Nat) (t : TypeId) (x y : Int) : Prop := w.heap[g]? = some (.cells #[.int .i64 x, .int .i64 y] t (0, 0))
section
variable {w w' : World} {g : Nat} {t : TypeId} {x y : Int}
theorem Box.lt (h : Box w g t x y) : g < w.heap.size := (Array.getElem?_eq_some_iff.1 h).1
theorem Box.c0 (h : Box w g t x y) : w.cell? ⟨g, 0, none⟩ = some (.int .i64 x) := by
  unfold Box at h; simp [World.cell?, h]
theorem Box.c1 (h : Box w g t x y) : w.cell? ⟨g, 1, none⟩ = some (.int .i64 y) := by
  unfold Box at h; simp [World.cell?, h]
theorem Box.f (h : Box w g t x y) (o : Nat) : w.frozen? ⟨g, o, none⟩ = false := by
  unfold Box at h; simp [World.frozen?, h]
theorem Box.below {B : Nat} (h : Box w g t x y) (hb : Below B w w') (hg : g < B) : Box w' g t x y := (hb.block g hg).trans h
theorem Box.keep (h : Box w g t x y) (hb : Below w.heap.size w w') : Box w' g t x y := h.below hb h.lt
theorem Box.alloc (h : Box w g t x y) (o : Obj) : Box (w.alloc o) g t x y := (Below.heap_alloc w o g h.lt).trans h
theorem Box.new (w : World) (t : TypeId) (x y : Int) : Box (w.alloc (.cells #[.int .i64 x, .int .i64 y] t)) w.heap.size t x y := heap_alloc_new w _
theorem Box.put (h : Box w g t x y) (x' y' : Int) : Box ((w.setCell ⟨g, 0, none⟩ (.int .i64 x')).setCell ⟨g, 1, none⟩ (.int .i64 y')) g t x' y' := by
  unfold Box at h ⊢
  simp [World.setCell, Array.getElem?_modify, h]
theorem Box.far (h : Box w g t x y) {p : Addr} (hp : g ≠ p.block) (u : Value) : Box (w.setCell p u) g t x y := (Below.heap_setCell w p u g hp).trans h
theorem Box.drew (h : Box w g t x y) : Box w.drew g t x y := h
end

theorem cold_no (a b : Nat) (ha : a ≤ 1000000) (hb : b ≤ 1000000) (h : ¬ Cold a b) (w : World) :
    Calls Try.prog 61 #[.agg #[.int .i64 a, .int .i64 b]] w fun e w' => e = .returned (.bool false) ∧ Below w.heap.size w w' :=
  cold_any a b ha hb false (by simp [h]) w
theorem cold_yes (a b : Nat) (ha : a ≤ 1000000) (hb : b ≤ 1000000) (h : Cold a b) (w : World) :
    Calls Try.prog 61 #[.agg #[.int .i64 a, .int .i64 b]] w fun e w' => e = .returned (.bool true) ∧ Below w.heap.size w w' :=
  cold_any a b ha hb true (by simp [h]) w

set_option maxHeartbeats 1000000 in
theorem Move_bad (a b : Int) (h : a < 0 ∨ b < 0 ∨ 1000000 < a ∨ 1000000 < b) (w : World) :
    Calls Try.prog 32 #[.int .i64 a, .int .i64 b] w fun e w' => e = .returned (.tuple #[.agg #[.int .i64 0, .int .i64 0], .int .i64 2]) ∧ Below w.heap.size w w' := by
  have H := Lib.hid h; clear h
  go_enter Try.func32, Try.ntmps32
  go_wp2_with fail
  refine (hvalid_no a b H.out _).mono ?_
  rintro e w1 ⟨rfl, hb1⟩
  have X4 : Box w1 w.heap.size 43 0 0 := ((Box.new w 43 0 0).alloc _).keep hb1
  have c0 := X4.c0
  have c1 := X4.c1
  have f4 := X4.f
  go_wp2_with fail
  refine bodyPost_ret (v := .tuple #[.agg #[.int .i64 0, .int .i64 0], .int .i64 2]) (by simp [results, Try.results32, go_sem, c0, c1]) rfl ⟨rfl, ?_⟩
  exact ((below_new (below_new hb1)).setCell (p := ⟨w.heap.size, 0, none⟩) (Nat.le_refl _) _).setCell (p := ⟨w.heap.size, 1, none⟩) (Nat.le_refl _) _
set_option maxHeartbeats 1000000 in
theorem Move_cold (a b : Nat) (ha : a ≤ 1000000) (hb : b ≤ 1000000) (h : Cold a b) (w : World) :
    Calls Try.prog 32 #[.int .i64 a, .int .i64 b] w fun e w' => e = .returned (.tuple #[.agg #[.int .i64 0, .int .i64 0], .int .i64 4]) ∧ Below w.heap.size w w' := by
  have H := Lib.hid h; clear h
  go_enter Try.func32, Try.ntmps32
  go_wp2_with fail
  refine (hvalid_yes a b (by omega) (by omega) (by omega) (by omega) _).mono ?_
  rintro e w1 ⟨rfl, hb1⟩
  have X4 : Box w1 w.heap.size 43 0 0 := ((Box.new w 43 0 0).alloc _).keep hb1
  have X6 : Box w1 (w.heap.size + 1) 64 a b := by
    have := (Box.new (w.alloc (Obj.cells #[Value.int IntKind.i64 0, Value.int IntKind.i64 0] 43)) 64 a b).keep hb1
    simpa using this
  have hbw : Below w.heap.size w w1 := below_new (below_new hb1)
  have d0 := X6.c0
  have d1 := X6.c1
  clear hb1
  go_wp2_with fail
  refine (cold_yes a b ha hb H.out _).mono ?_
  rintro e w2 ⟨rfl, hb2⟩
  have Y4 := X4.keep hb2
  have c0 := Y4.c0
  have c1 := Y4.c1
  have f4 := Y4.f
  have hbw2 := hbw.trans (hb2.mono hbw.size)
  clear d0 d1 hb2
  go_wp2_with fail
  refine bodyPost_ret (v := .tuple #[.agg #[.int .i64 0, .int .i64 0], .int .i64 4]) (by simp [results, Try.results32, go_sem, c0, c1]) rfl ⟨rfl, ?_⟩
  exact (hbw2.setCell (p := ⟨w.heap.size, 0, none⟩) (Nat.le_refl _) _).setCell (p := ⟨w.heap.size, 1, none⟩) (Nat.le_refl _) _

/-- the difference -/
def df (a b : Nat) : Nat := max a b - min a b
theorem pair_max (a b : Nat) (ha : a ≤ 1000000) (hb : b ≤ 1000000) (w : World) :
    Calls Try.prog 59 #[.int .i64 (max ((a : Int) - b) ((b : Int) - a))] w fun e w' => e = .returned (.agg #[.int .i64 (pa (df a b)), .int .i64 ((pa (df a b) : Int) + (df a b : Nat))]) ∧ Below w.heap.size w w' := by
  have := pair_any (df a b) (by unfold df; omega) w
  rw [show ((df a b : Nat) : Int) = max ((a : Int) - b) ((b : Int) - a) by unfold df; omega] at this ⊢
  exact this
/-- the candidates of a move -/
structure Cand where
  x : Int
  y : Int
def cands (a b : Nat) (q0 q1 : Int) : Nat → Cand
  | 0 => ⟨a, part a⟩
  | 1 => ⟨part b, b⟩
  | _ => ⟨q0, q1⟩
structure Best where
  x : Int
  y : Int
  n : Int
open Classical in
noncomputable def bstep (a b : Int) (s : Best) (c : Cand) : Best :=
  if TakeOk (a - c.x) (b - c.y) ∧ (s.n < 0 ∨ (a - c.x) + (b - c.y) < s.n ∨ ((a - c.x) + (b - c.y) = s.n ∧ c.x < s.x)) then ⟨c.x, c.y, (a - c.x) + (b - c.y)⟩ else s
noncomputable def bst (a b : Int) (c : Nat → Cand) : Nat → Best
  | 0 => ⟨0, 0, -1⟩
  | k + 1 => bstep a b (bst a b c k) (c k)
/-- six cells of a slice of three pairs -/
def Row3 (w : World) (g : Nat) (c : Nat → Cand) : Prop := g < w.heap.size ∧ ∀ k, k < 3 → w.cell? ⟨g, k * 2, none⟩ = some (.int .i64 (c k).x) ∧ w.cell? ⟨g, k * 2 + 1, none⟩ = some (.int .i64 (c k).y)
theorem Row3.keep {w w' : World} {g : Nat} {c : Nat → Cand} (h : Row3 w g c) (hb : Below w.heap.size w w') : Row3 w' g c :=
  ⟨Nat.lt_of_lt_of_le h.1 hb.size, fun k hk => ⟨(hb.cell (p := ⟨g, k * 2, none⟩) h.1).trans (h.2 k hk).1, (hb.cell (p := ⟨g, k * 2 + 1, none⟩) h.1).trans (h.2 k hk).2⟩⟩
theorem Row3.far {w : World} {g : Nat} {c : Nat → Cand} (h : Row3 w g c) {p : Addr} (hp : g ≠ p.block) (u : Value) : Row3 (w.setCell p u) g c :=
  ⟨by have := h.1; simpa [World.setCell] using this, fun k hk => ⟨(World.cell?_setCell_other w p ⟨g, k * 2, none⟩ u (fun e => hp (by rw [e]))).trans (h.2 k hk).1, (World.cell?_setCell_other w p ⟨g, k * 2 + 1, none⟩ u (fun e => hp (by rw [e]))).trans (h.2 k hk).2⟩⟩
theorem bst_take {a b : Int} {c : Nat → Cand} {k : Nat} (h : TakeOk (a - (c k).x) (b - (c k).y)) (h2 : (bst a b c k).n < 0 ∨ (a - (c k).x) + (b - (c k).y) < (bst a b c k).n ∨ ((a - (c k).x) + (b - (c k).y) = (bst a b c k).n ∧ (c k).x < (bst a b c k).x)) :
    bst a b c (k + 1) = ⟨(c k).x, (c k).y, (a - (c k).x) + (b - (c k).y)⟩ := if_pos ⟨h, h2⟩
theorem bst_skip {a b : Int} {c : Nat → Cand} {k : Nat} (h : ¬ (TakeOk (a - (c k).x) (b - (c k).y) ∧ ((bst a b c k).n < 0 ∨ (a - (c k).x) + (b - (c k).y) < (bst a b c k).n ∨ ((a - (c k).x) + (b - (c k).y) = (bst a b c k).n ∧ (c k).x < (bst a b c k).x)))) :
    bst a b c (k + 1) = bst a b c k := if_neg h
theorem cands_bd (a b : Nat) (ha : a ≤ 1000000) (hb : b ≤ 1000000) (q0 q1 : Int) (hq : 0 ≤ q0 ∧ q0 ≤ 3000000 ∧ 0 ≤ q1 ∧ q1 ≤ 3000000) (k : Nat) :
    0 ≤ (cands a b q0 q1 k).x ∧ (cands a b q0 q1 k).x ≤ 3000000 ∧ 0 ≤ (cands a b q0 q1 k).y ∧ (cands a b q0 q1 k).y ≤ 3000000 := by
  have h1 := partner_le a (by omega)
  have h2 := partner_le b (by omega)
  match k with
  | 0 => simp only [cands]; omega
  | 1 => simp only [cands]; omega
  | k + 2 => simp only [cands]; omega
theorem bst_bd (a b : Nat) (ha : a ≤ 1000000) (hb : b ≤ 1000000) (q0 q1 : Int) (hq : 0 ≤ q0 ∧ q0 ≤ 3000000 ∧ 0 ≤ q1 ∧ q1 ≤ 3000000) (k : Nat) :
    -1 ≤ (bst a b (cands a b q0 q1) k).n ∧ (bst a b (cands a b q0 q1) k).n ≤ 3000000 := by
  induction k with
  | zero => simp [bst]
  | succ k ih =>
    have hc := cands_bd a b ha hb q0 q1 hq k
    by_cases h : TakeOk (a - (cands a b q0 q1 k).x) (b - (cands a b q0 q1 k).y) ∧ ((bst a b (cands a b q0 q1) k).n < 0 ∨ (a - (cands a b q0 q1 k).x) + (b - (cands a b q0 q1 k).y) < (bst a b (cands a b q0 q1) k).n ∨ ((a - (cands a b q0 q1 k).x) + (b - (cands a b q0 q1 k).y) = (bst a b (cands a b q0 q1) k).n ∧ (cands a b q0 q1 k).x < (bst a b (cands a b q0 q1) k).x))
    · rw [bst_take h.1 h.2]
      have := h.1.2.2.1
      simp only
      omega
    · rw [bst_skip h]; exact ih
theorem row3_new (w : World) (a b : Nat) (q0 q1 : Int) : Row3 (w.alloc (.cells #[.int .i64 a, .int .i64 (part a), .int .i64 (part b), .int .i64 b, .int .i64 q0, .int .i64 q1] 64)) w.heap.size (cands a b q0 q1) := by
  refine ⟨by simp, fun k hk => ?_⟩
  match k, hk with
  | 0, _ => exact ⟨cell_of_row _ _ _ _ 64 (0, 0) (heap_alloc_new w _), cell_of_row _ _ _ _ 64 (0, 0) (heap_alloc_new w _)⟩
  | 1, _ => exact ⟨cell_of_row _ _ _ _ 64 (0, 0) (heap_alloc_new w _), cell_of_row _ _ _ _ 64 (0, 0) (heap_alloc_new w _)⟩
  | 2, _ => exact ⟨cell_of_row _ _ _ _ 64 (0, 0) (heap_alloc_new w _), cell_of_row _ _ _ _ 64 (0, 0) (heap_alloc_new w _)⟩

theorem Box.ne_row {w : World} {g g' : Nat} {t : TypeId} {x y : Int} {c : Nat → Cand} (h : Box w g t x y) (h' : Row3 w g' c) : g ≠ g' := by
  rintro rfl
  have h1 := (h'.2 1 (by omega)).1
  unfold Box at h
  simp [World.cell?, h] at h1

set_option maxHeartbeats 16000000 in
theorem Move_le (a b : Nat) (ha : a ≤ 1000000) (hb : b ≤ 1000000) (h : ¬ Cold a b) (hab : a ≤ b) (w : World) :
    Calls Try.prog 32 #[.int .i64 a, .int .i64 b] w fun e w' => (∀ B, B = bst a b (cands a b (pa (df a b) : Int) ((pa (df a b) : Int) + (df a b : Nat))) 3 → e = .returned (.tuple #[.agg #[.int .i64 B.x, .int .i64 B.y], .int .i64 0])) ∧ Below w.heap.size w w' := by
  have H := Lib.hid h; clear h
  go_enter Try.func32, Try.ntmps32
  go_wp2_with fail
  refine (hvalid_yes a b (by omega) (by omega) (by omega) (by omega) _).mono ?_
  rintro e w1 ⟨rfl, hb1⟩
  have X4 : Box w1 w.heap.size 43 0 0 := ((Box.new w 43 0 0).alloc _).keep hb1
  have X6 : Box w1 (w.heap.size + 1) 64 a b := by
    have := (Box.new (w.alloc (Obj.cells #[Value.int IntKind.i64 0, Value.int IntKind.i64 0] 43)) 64 a b).keep hb1
    simpa using this
  have hbw : Below w.heap.size w w1 := below_new (below_new hb1)
  have d0 := X6.c0
  have d1 := X6.c1
  clear hb1
  go_wp2_with fail
  refine (cold_no a b ha hb H.out _).mono ?_
  rintro e w2 ⟨rfl, hb2⟩
  have Y4 := X4.keep hb2
  have Y6 := X6.keep hb2
  have hbw2 := hbw.trans (hb2.mono hbw.size)
  clear d0 d1 hb2 X4 X6 hbw
  go_wp2_with fail
  (with_reducible refine (pair_max a b ha hb _).mono ?_)
  rintro e w3 ⟨rfl, hb3⟩
  have Z4 := Y4.keep hb3
  have Z6 := Y6.keep hb3
  have l6 := Z6.lt
  have hbw3 := hbw2.trans (hb3.mono hbw2.size)
  have hz3 := hbw3.size
  have hpl := pa_le (df a b) (by unfold df; omega)
  have hdl : df a b ≤ 1000000 := by unfold df; omega
  clear hb3 Y4 Y6 hbw2
  go_wp2_with fail
  have UW : ∃ W, W = w3.alloc (.cells #[.int .i64 (pa (df a b) : Int), .int .i64 ((pa (df a b) : Int) + (df a b : Nat))] 64) ∧ Box W w.heap.size 43 0 0 ∧ Box W (w.heap.size + 1) 64 a b ∧ Box W w3.heap.size 64 (pa (df a b) : Int) ((pa (df a b) : Int) + (df a b : Nat)) ∧ Below w.heap.size w W ∧ W.heap.size = w3.heap.size + 1 := by
    refine ⟨_, rfl, Z4.alloc _, Z6.alloc _, Box.new _ _ _ _, hbw3.alloc hbw3.size _, ?_⟩
    simp
  obtain ⟨W0, hW0, T4, T6, T7, TB, hsz0⟩ := UW
  rw [← hW0]
  have U4 := T4.alloc (.cells #[.int .i64 0, .int .i64 0] 64)
  have U6 := T6.alloc (.cells #[.int .i64 0, .int .i64 0] 64)
  have U7 := T7.alloc (.cells #[.int .i64 0, .int .i64 0] 64)
  have U8 := Box.new W0 64 0 0
  have UB : Below w.heap.size w (W0.alloc (.cells #[.int .i64 0, .int .i64 0] 64)) := TB.alloc TB.size _
  rw [hsz0] at U8
  clear T4 T6 T7 TB Z4 Z6 hbw3 hW0 hsz0
  generalize W0.alloc (.cells #[.int .i64 0, .int .i64 0] 64) = W at *
  generalize hq0 : (pa (df a b) : Int) = q0 at *
  generalize hq1 : (q0 + (df a b : Nat) : Int) = q1 at *
  have hqb : 0 ≤ q0 ∧ q0 ≤ 3000000 ∧ 0 ≤ q1 ∧ q1 ≤ 3000000 := by omega
  have HQ0 := Lib.hid hq0
  have HQ1 := Lib.hid hq1
  clear hpl hdl hq0 hq1
  have k0 := U7.c0
  have k1 := U7.c1
  have HPA := Lib.hid (fun V => partner_any a ha V)
  have HPB := Lib.hid (fun V => partner_any b hb V)
  go_region_held3 (fun w' => w'.cell? ⟨w3.heap.size, 0, none⟩ = some (.int .i64 q0) ∧ w'.cell? ⟨w3.heap.size, 1, none⟩ = some (.int .i64 q1) ∧ Box w' w.heap.size 43 0 0 ∧ Box w' (w.heap.size + 1) 64 a b ∧ Box w' (w3.heap.size + 1) 64 0 0 ∧ w3.heap.size < w'.heap.size ∧ Below w.heap.size w w')
    (first
      | exact ⟨k0, k1, U4.drew, U6.drew, U8.drew, U7.lt, UB.drew⟩
      | (go_split_ands; exact ⟨(hb1.cell (p := ⟨w3.heap.size, 0, none⟩) (by assumption)).trans (by assumption), (hb1.cell (p := ⟨w3.heap.size, 1, none⟩) (by assumption)).trans (by assumption), Box.keep (by assumption) hb1, Box.keep (by assumption) hb1, Box.keep (by assumption) hb1, Nat.lt_of_lt_of_le (by assumption) hb1.size, Below.trans (by assumption) (hb1.mono (Below.size (by assumption)))⟩)
      | (go_split_ands; exact ⟨(World.cell?_alloc_lt _ _ (⟨w3.heap.size, 0, none⟩ : Addr) (by assumption)).trans (by assumption), (World.cell?_alloc_lt _ _ (⟨w3.heap.size, 1, none⟩ : Addr) (by assumption)).trans (by assumption), Box.alloc (by assumption) _, Box.alloc (by assumption) _, Box.alloc (by assumption) _, Nat.lt_of_lt_of_le (by assumption) (by simp), Below.alloc (by assumption) (Below.size (by assumption)) _⟩))
    (first
      | (go_at_call 62; first | ((with_reducible refine (HPA.out _).mono ?_); rintro e w1 ⟨rfl, hb1⟩) | ((with_reducible refine (HPB.out _).mono ?_); rintro e w1 ⟨rfl, hb1⟩)))
  have R3 := row3_new w1 a b q0 q1
  clear k0 k1 U4 U6 U8 U7 UB hb1 HPA HPB
  generalize w1.heap.size = gs at *
  generalize w1.alloc (Obj.cells #[Value.int IntKind.i64 ↑a, Value.int IntKind.i64 ↑(part a), Value.int IntKind.i64 ↑(part b), Value.int IntKind.i64 ↑b, Value.int IntKind.i64 q0, Value.int IntKind.i64 q1] 64) = V at *
  have hheld : V.cell? ⟨w3.heap.size, 0, none⟩ = some (.int .i64 q0) ∧ V.cell? ⟨w3.heap.size, 1, none⟩ = some (.int .i64 q1) ∧ Box V w.heap.size 43 0 0 ∧ Box V (w.heap.size + 1) 64 a b ∧ Box V (w3.heap.size + 1) 64 0 0 ∧ w3.heap.size < V.heap.size ∧ Below w.heap.size w V := by assumption
  obtain ⟨_, _, V4, V6, V8, _, VB⟩ := hheld
  go_wp2_with fail
  go_loopw [9, 11, 12, 13, 51] (fun l _ _ _ i wr => ∃ k : Nat, k ≤ 3 ∧ i = .int .i64 k ∧ l = .int .i64 (bst a b (cands a b q0 q1) k).n ∧
      Box wr w.heap.size 43 0 0 ∧ Box wr (w.heap.size + 1) 64 a b ∧ Box wr (w3.heap.size + 1) 64 (bst a b (cands a b q0 q1) k).x (bst a b (cands a b q0 q1) k).y ∧ Row3 wr gs (cands a b q0 q1) ∧ Below w.heap.size w wr)
    (fun _ _ _ _ i _ => 3 - (intOf i).toNat)
  case atStart => exact ⟨0, by omega, rfl, rfl, V4, V6, V8, R3, VB⟩
  case round =>
    obtain ⟨k, hk, rfl, rfl, B4, B6, B8, B3, BB⟩ := hrel
    clear R3 V4 V6 V8 VB
    have hne := B8.ne_row B3
    have e0 := B8.c0
    have e1 := B8.c1
    have f8 := B8.f
    have l8 := B8.lt
    by_cases hlt : k < 3
    · have c0 := (B3.2 k hlt).1
      have c1 := (B3.2 k hlt).2
      have d0 := B6.c0
      have d1 := B6.c1
      have l6' := B6.lt
      have hcb := cands_bd a b ha hb q0 q1 hqb k
      have hbb := bst_bd a b ha hb q0 q1 hqb k
      have HTK := Lib.hid (@bst_take a b (cands a b q0 q1) k)
      have HSK := Lib.hid (@bst_skip a b (cands a b q0 q1) k)
      have hgs2 := B3.1
      generalize (cands a b q0 q1 k).x = cx at *
      generalize (cands a b q0 q1 k).y = cy at *
      generalize hB : bst a b (cands a b q0 q1) k = Bs at *
      have HBs := Lib.hid hB
      clear hB
      obtain ⟨bx, bY, bn⟩ := Bs
      simp only at d0 d1 e0 e1 hbb HTK HSK B8
      have hx1 : -100000000 ≤ (a : Int) - cx := by omega
      have hx2 : (a : Int) - cx ≤ 100000000 := by omega
      have hy1 : -100000000 ≤ (b : Int) - cy := by omega
      have hy2 : (b : Int) - cy ≤ 100000000 := by omega
      by_cases tk : TakeOk (a - cx) (b - cy)
      · have tk0 : (0 : Int) < a - cx + (b - cy) := tk.2.2.1
        have TK := Lib.hid tk
        clear tk
        by_cases n1 : bn < 0
        · have HN := Lib.hid (HTK.out TK.out (.inl n1))
          clear HTK HSK
          go_wp2_with fail
          refine (taken_any a b cx cy _ _ rfl rfl hx1 hy1 hx2 hy2 true (by simp [TK.out]) _).mono ?_
          rintro e v1 ⟨rfl, hb1⟩
          have hbn := below_new hb1
          have XT := (Box.new wr 64 cx cy).keep hb1
          have X4 := B4.keep hbn
          have X6 := B6.keep hbn
          have X8 := B8.keep hbn
          have X3 := B3.keep hbn
          have XB := BB.trans (hbn.mono BB.size)
          have t0 := XT.c0
          have t1 := XT.c1
          have s0 := X8.c0
          have s1 := X8.c1
          have sf := X8.f
          have sl := X8.lt
          have tl := XT.lt
          clear c0 c1 d0 d1 e0 e1 f8 l8 hb1 hbn hgs2 l6' B4 B6 B8 B3 BB
          go_wp2_with fail
          go_roundw
          case rel => exact ⟨k + 1, by omega, by go_num, by rw [HN.out], (X4.far (by simp; omega) _).far (by simp; omega) _, (X6.far (by simp; omega) _).far (by simp; omega) _, by rw [HN.out]; exact X8.put _ _, (X3.far (by simp; omega) _).far (by simp; omega) _, (XB.setCell (p := ⟨w3.heap.size + 1, 0, none⟩) (by simp; omega) _).setCell (p := ⟨w3.heap.size + 1, 1, none⟩) (by simp; omega) _⟩
          case measure => simp [intOf]; omega
        · by_cases n2 : (a : Int) - cx + (b - cy) < bn
          · have HN := Lib.hid (HTK.out TK.out (.inr (.inl n2)))
            clear HTK HSK
            go_wp2_with fail
            refine (taken_any a b cx cy _ _ rfl rfl hx1 hy1 hx2 hy2 true (by simp [TK.out]) _).mono ?_
            rintro e v1 ⟨rfl, hb1⟩
            have hbn := below_new hb1
            have XT := (Box.new wr 64 cx cy).keep hb1
            have X4 := B4.keep hbn
            have X6 := B6.keep hbn
            have X8 := B8.keep hbn
            have X3 := B3.keep hbn
            have XB := BB.trans (hbn.mono BB.size)
            have t0 := XT.c0
            have t1 := XT.c1
            have s0 := X8.c0
            have s1 := X8.c1
            have sf := X8.f
            have sl := X8.lt
            have tl := XT.lt
            clear c0 c1 d0 d1 e0 e1 f8 l8 hb1 hbn hgs2 l6' B4 B6 B8 B3 BB
            go_wp2_with fail
            go_roundw
            case rel => exact ⟨k + 1, by omega, by go_num, by rw [HN.out], (X4.far (by simp; omega) _).far (by simp; omega) _, (X6.far (by simp; omega) _).far (by simp; omega) _, by rw [HN.out]; exact X8.put _ _, (X3.far (by simp; omega) _).far (by simp; omega) _, (XB.setCell (p := ⟨w3.heap.size + 1, 0, none⟩) (by simp; omega) _).setCell (p := ⟨w3.heap.size + 1, 1, none⟩) (by simp; omega) _⟩
            case measure => simp [intOf]; omega
          · by_cases n3 : (a : Int) - cx + (b - cy) = bn
            · subst n3
              by_cases n4 : cx < bx
              · have HN := Lib.hid (HTK.out TK.out (.inr (.inr ⟨rfl, n4⟩)))
                clear HTK HSK
                go_wp2_with fail
                refine (taken_any a b cx cy _ _ rfl rfl hx1 hy1 hx2 hy2 true (by simp [TK.out]) _).mono ?_
                rintro e v1 ⟨rfl, hb1⟩
                have hbn := below_new hb1
                have XT := (Box.new wr 64 cx cy).keep hb1
                have X4 := B4.keep hbn
                have X6 := B6.keep hbn
                have X8 := B8.keep hbn
                have X3 := B3.keep hbn
                have XB := BB.trans (hbn.mono BB.size)
                have t0 := XT.c0
                have t1 := XT.c1
                have s0 := X8.c0
                have s1 := X8.c1
                have sf := X8.f
                have sl := X8.lt
                have tl := XT.lt
                clear c0 c1 d0 d1 e0 e1 f8 l8 hb1 hbn hgs2 l6' B4 B6 B8 B3 BB
                go_wp2_with fail
                go_roundw
                case rel => exact ⟨k + 1, by omega, by go_num, by rw [HN.out], (X4.far (by simp; omega) _).far (by simp; omega) _, (X6.far (by simp; omega) _).far (by simp; omega) _, by rw [HN.out]; exact X8.put _ _, (X3.far (by simp; omega) _).far (by simp; omega) _, (XB.setCell (p := ⟨w3.heap.size + 1, 0, none⟩) (by simp; omega) _).setCell (p := ⟨w3.heap.size + 1, 1, none⟩) (by simp; omega) _⟩
                case measure => simp [intOf]; omega
              · have HN := Lib.hid (HSK.out (fun h => by rcases h.2 with h | h | h <;> omega))
                clear HTK HSK
                go_wp2_with fail
                refine (taken_any a b cx cy _ _ rfl rfl hx1 hy1 hx2 hy2 true (by simp [TK.out]) _).mono ?_
                rintro e v1 ⟨rfl, hb1⟩
                have hbn := below_new hb1
                have XT := (Box.new wr 64 cx cy).keep hb1
                have X4 := B4.keep hbn
                have X6 := B6.keep hbn
                have X8 := B8.keep hbn
                have X3 := B3.keep hbn
                have XB := BB.trans (hbn.mono BB.size)
                have t0 := XT.c0
                have t1 := XT.c1
                have s0 := X8.c0
                have s1 := X8.c1
                have sf := X8.f
                have sl := X8.lt
                have tl := XT.lt
                clear c0 c1 d0 d1 e0 e1 f8 l8 hb1 hbn hgs2 l6' B4 B6 B8 B3 BB
                go_wp2_with fail
                go_roundw
                case rel => exact ⟨k + 1, by omega, by go_num, by rw [HN.out], X4, X6, by rw [HN.out]; exact X8, X3, XB⟩
                case measure => simp [intOf]; omega
            · have HN := Lib.hid (HSK.out (fun h => by rcases h.2 with h | h | h <;> omega))
              have n5 : bn < (a : Int) - cx + (b - cy) := by omega
              clear HTK HSK n3
              go_wp2_with fail
              refine (taken_any a b cx cy _ _ rfl rfl hx1 hy1 hx2 hy2 true (by simp [TK.out]) _).mono ?_
              rintro e v1 ⟨rfl, hb1⟩
              have hbn := below_new hb1
              have XT := (Box.new wr 64 cx cy).keep hb1
              have X4 := B4.keep hbn
              have X6 := B6.keep hbn
              have X8 := B8.keep hbn
              have X3 := B3.keep hbn
              have XB := BB.trans (hbn.mono BB.size)
              have t0 := XT.c0
              have t1 := XT.c1
              have s0 := X8.c0
              have s1 := X8.c1
              have sf := X8.f
              have sl := X8.lt
              have tl := XT.lt
              clear c0 c1 d0 d1 e0 e1 f8 l8 hb1 hbn hgs2 l6' B4 B6 B8 B3 BB
              go_wp2_with fail
              go_roundw
              case rel => exact ⟨k + 1, by omega, by go_num, by rw [HN.out], X4, X6, by rw [HN.out]; exact X8, X3, XB⟩
              case measure => simp [intOf]; omega
      · have HN := Lib.hid (HSK.out (fun h => tk h.1))
        have TK := Lib.hid tk
        clear tk HTK HSK
        go_wp2_with fail
        refine (taken_any a b cx cy _ _ rfl rfl hx1 hy1 hx2 hy2 false (by simp [TK.out]) _).mono ?_
        rintro e v1 ⟨rfl, hb1⟩
        have hbn := below_new hb1
        have XT := (Box.new wr 64 cx cy).keep hb1
        have X4 := B4.keep hbn
        have X6 := B6.keep hbn
        have X8 := B8.keep hbn
        have X3 := B3.keep hbn
        have XB := BB.trans (hbn.mono BB.size)
        have t0 := XT.c0
        have t1 := XT.c1
        have s0 := X8.c0
        have s1 := X8.c1
        have sf := X8.f
        have sl := X8.lt
        have tl := XT.lt
        clear c0 c1 d0 d1 e0 e1 f8 l8 hb1 hbn hgs2 l6' B4 B6 B8 B3 BB
        go_wp2_with fail
        go_roundw
        case rel => exact ⟨k + 1, by omega, by go_num, by rw [HN.out], X4, X6, by rw [HN.out]; exact X8, X3, XB⟩
        case measure => simp [intOf]; omega
    · have hk3 : k = 3 := by omega
      subst hk3
      have g0 := B4.c0
      have g1 := B4.c1
      have gf := B4.f
      have gl := B4.lt
      generalize hB : bst a b (cands a b q0 q1) 3 = Bs at *
      have HBs := Lib.hid hB
      clear hB
      obtain ⟨bx, bY, bn⟩ := Bs
      simp only at e0 e1 B8
      go_wp2_with fail
      refine bodyPost_ret (v := .tuple #[.agg #[.int .i64 bx, .int .i64 bY], .int .i64 0]) (by simp [results, Try.results32, go_sem, g0, g1]) rfl ⟨?_, ?_⟩
      · intro B hB
        subst hB
        rw [HQ0.out, HQ1.out, HBs.out]
      · exact (BB.setCell (p := ⟨w.heap.size, 0, none⟩) (Nat.le_refl _) _).setCell (p := ⟨w.heap.size, 1, none⟩) (Nat.le_refl _) _

set_option maxHeartbeats 16000000 in
theorem Move_gt (a b : Nat) (ha : a ≤ 1000000) (hb : b ≤ 1000000) (h : ¬ Cold a b) (hab : b < a) (w : World) :
    Calls Try.prog 32 #[.int .i64 a, .int .i64 b] w fun e w' => (∀ B, B = bst a b (cands a b ((pa (df a b) : Int) + (df a b : Nat)) (pa (df a b) : Int)) 3 → e = .returned (.tuple #[.agg #[.int .i64 B.x, .int .i64 B.y], .int .i64 0])) ∧ Below w.heap.size w w' := by
  have H := Lib.hid h; clear h
  go_enter Try.func32, Try.ntmps32
  go_wp2_with fail
  refine (hvalid_yes a b (by omega) (by omega) (by omega) (by omega) _).mono ?_
  rintro e w1 ⟨rfl, hb1⟩
  have X4 : Box w1 w.heap.size 43 0 0 := ((Box.new w 43 0 0).alloc _).keep hb1
  have X6 : Box w1 (w.heap.size + 1) 64 a b := by
    have := (Box.new (w.alloc (Obj.cells #[Value.int IntKind.i64 0, Value.int IntKind.i64 0] 43)) 64 a b).keep hb1
    simpa using this
  have hbw : Below w.heap.size w w1 := below_new (below_new hb1)
  have d0 := X6.c0
  have d1 := X6.c1
  clear hb1
  go_wp2_with fail
  refine (cold_no a b ha hb H.out _).mono ?_
  rintro e w2 ⟨rfl, hb2⟩
  have Y4 := X4.keep hb2
  have Y6 := X6.keep hb2
  have hbw2 := hbw.trans (hb2.mono hbw.size)
  clear d0 d1 hb2 X4 X6 hbw
  go_wp2_with fail
  (with_reducible refine (pair_max a b ha hb _).mono ?_)
  rintro e w3 ⟨rfl, hb3⟩
  have Z4 := Y4.keep hb3
  have Z6 := Y6.keep hb3
  have l6 := Z6.lt
  have hbw3 := hbw2.trans (hb3.mono hbw2.size)
  have hz3 := hbw3.size
  have hpl := pa_le (df a b) (by unfold df; omega)
  have hdl : df a b ≤ 1000000 := by unfold df; omega
  clear hb3 Y4 Y6 hbw2
  go_wp2_with fail
  have UW : ∃ W, W = w3.alloc (.cells #[.int .i64 ((pa (df a b) : Int) + (df a b : Nat)), .int .i64 (pa (df a b) : Int)] 64) ∧ Box W w.heap.size 43 0 0 ∧ Box W (w.heap.size + 1) 64 a b ∧ Box W w3.heap.size 64 ((pa (df a b) : Int) + (df a b : Nat)) (pa (df a b) : Int) ∧ Below w.heap.size w W ∧ W.heap.size = w3.heap.size + 1 := by
    refine ⟨_, rfl, Z4.alloc _, Z6.alloc _, Box.new _ _ _ _, hbw3.alloc hbw3.size _, ?_⟩
    simp
  obtain ⟨W0, hW0, T4, T6, T7, TB, hsz0⟩ := UW
  rw [← hW0]
  have U4 := T4.alloc (.cells #[.int .i64 0, .int .i64 0] 64)
  have U6 := T6.alloc (.cells #[.int .i64 0, .int .i64 0] 64)
  have U7 := T7.alloc (.cells #[.int .i64 0, .int .i64 0] 64)
  have U8 := Box.new W0 64 0 0
  have UB : Below w.heap.size w (W0.alloc (.cells #[.int .i64 0, .int .i64 0] 64)) := TB.alloc TB.size _
  rw [hsz0] at U8
  clear T4 T6 T7 TB Z4 Z6 hbw3 hW0 hsz0
  generalize W0.alloc (.cells #[.int .i64 0, .int .i64 0] 64) = W at *
  generalize hq0 : ((pa (df a b) : Int) + (df a b : Nat)) = q0 at *
  generalize hq1 : (pa (df a b) : Int) = q1 at *
  have hqb : 0 ≤ q0 ∧ q0 ≤ 3000000 ∧ 0 ≤ q1 ∧ q1 ≤ 3000000 := by omega
  have HQ0 := Lib.hid hq0
  have HQ1 := Lib.hid hq1
  clear hpl hdl hq0 hq1
  have k0 := U7.c0
  have k1 := U7.c1
  have HPA := Lib.hid (fun V => partner_any a ha V)
  have HPB := Lib.hid (fun V => partner_any b hb V)
  go_region_held3 (fun w' => w'.cell? ⟨w3.heap.size, 0, none⟩ = some (.int .i64 q0) ∧ w'.cell? ⟨w3.heap.size, 1, none⟩ = some (.int .i64 q1) ∧ Box w' w.heap.size 43 0 0 ∧ Box w' (w.heap.size + 1) 64 a b ∧ Box w' (w3.heap.size + 1) 64 0 0 ∧ w3.heap.size < w'.heap.size ∧ Below w.heap.size w w')
    (first
      | exact ⟨k0, k1, U4.drew, U6.drew, U8.drew, U7.lt, UB.drew⟩
      | (go_split_ands; exact ⟨(hb1.cell (p := ⟨w3.heap.size, 0, none⟩) (by assumption)).trans (by assumption), (hb1.cell (p := ⟨w3.heap.size, 1, none⟩) (by assumption)).trans (by assumption), Box.keep (by assumption) hb1, Box.keep (by assumption) hb1, Box.keep (by assumption) hb1, Nat.lt_of_lt_of_le (by assumption) hb1.size, Below.trans (by assumption) (hb1.mono (Below.size (by assumption)))⟩)
      | (go_split_ands; exact ⟨(World.cell?_alloc_lt _ _ (⟨w3.heap.size, 0, none⟩ : Addr) (by assumption)).trans (by assumption), (World.cell?_alloc_lt _ _ (⟨w3.heap.size, 1, none⟩ : Addr) (by assumption)).trans (by assumption), Box.alloc (by assumption) _, Box.alloc (by assumption) _, Box.alloc (by assumption) _, Nat.lt_of_lt_of_le (by assumption) (by simp), Below.alloc (by assumption) (Below.size (by assumption)) _⟩))
    (first
      | (go_at_call 62; first | ((with_reducible refine (HPA.out _).mono ?_); rintro e w1 ⟨rfl, hb1⟩) | ((with_reducible refine (HPB.out _).mono ?_); rintro e w1 ⟨rfl, hb1⟩)))
  have R3 := row3_new w1 a b q0 q1
  clear k0 k1 U4 U6 U8 U7 UB hb1 HPA HPB
  generalize w1.heap.size = gs at *
  generalize w1.alloc (Obj.cells #[Value.int IntKind.i64 ↑a, Value.int IntKind.i64 ↑(part a), Value.int IntKind.i64 ↑(part b), Value.int IntKind.i64 ↑b, Value.int IntKind.i64 q0, Value.int IntKind.i64 q1] 64) = V at *
  have hheld : V.cell? ⟨w3.heap.size, 0, none⟩ = some (.int .i64 q0) ∧ V.cell? ⟨w3.heap.size, 1, none⟩ = some (.int .i64 q1) ∧ Box V w.heap.size 43 0 0 ∧ Box V (w.heap.size + 1) 64 a b ∧ Box V (w3.heap.size + 1) 64 0 0 ∧ w3.heap.size < V.heap.size ∧ Below w.heap.size w V := by assumption
  obtain ⟨_, _, V4, V6, V8, _, VB⟩ := hheld
  go_wp2_with fail
  go_loopw [9, 11, 12, 13, 51] (fun l _ _ _ i wr => ∃ k : Nat, k ≤ 3 ∧ i = .int .i64 k ∧ l = .int .i64 (bst a b (cands a b q0 q1) k).n ∧
      Box wr w.heap.size 43 0 0 ∧ Box wr (w.heap.size + 1) 64 a b ∧ Box wr (w3.heap.size + 1) 64 (bst a b (cands a b q0 q1) k).x (bst a b (cands a b q0 q1) k).y ∧ Row3 wr gs (cands a b q0 q1) ∧ Below w.heap.size w wr)
    (fun _ _ _ _ i _ => 3 - (intOf i).toNat)
  case atStart => exact ⟨0, by omega, rfl, rfl, V4, V6, V8, R3, VB⟩
  case round =>
    obtain ⟨k, hk, rfl, rfl, B4, B6, B8, B3, BB⟩ := hrel
    clear R3 V4 V6 V8 VB
    have hne := B8.ne_row B3
    have e0 := B8.c0
    have e1 := B8.c1
    have f8 := B8.f
    have l8 := B8.lt
    by_cases hlt : k < 3
    · have c0 := (B3.2 k hlt).1
      have c1 := (B3.2 k hlt).2
      have d0 := B6.c0
      have d1 := B6.c1
      have l6' := B6.lt
      have hcb := cands_bd a b ha hb q0 q1 hqb k
      have hbb := bst_bd a b ha hb q0 q1 hqb k
      have HTK := Lib.hid (@bst_take a b (cands a b q0 q1) k)
      have HSK := Lib.hid (@bst_skip a b (cands a b q0 q1) k)
      have hgs2 := B3.1
      generalize (cands a b q0 q1 k).x = cx at *
      generalize (cands a b q0 q1 k).y = cy at *
      generalize hB : bst a b (cands a b q0 q1) k = Bs at *
      have HBs := Lib.hid hB
      clear hB
      obtain ⟨bx, bY, bn⟩ := Bs
      simp only at d0 d1 e0 e1 hbb HTK HSK B8
      have hx1 : -100000000 ≤ (a : Int) - cx := by omega
      have hx2 : (a : Int) - cx ≤ 100000000 := by omega
      have hy1 : -100000000 ≤ (b : Int) - cy := by omega
      have hy2 : (b : Int) - cy ≤ 100000000 := by omega
      by_cases tk : TakeOk (a - cx) (b - cy)
      · have tk0 : (0 : Int) < a - cx + (b - cy) := tk.2.2.1
        have TK := Lib.hid tk
        clear tk
        by_cases n1 : bn < 0
        · have HN := Lib.hid (HTK.out TK.out (.inl n1))
          clear HTK HSK
          go_wp2_with fail
          refine (taken_any a b cx cy _ _ rfl rfl hx1 hy1 hx2 hy2 true (by simp [TK.out]) _).mono ?_
          rintro e v1 ⟨rfl, hb1⟩
          have hbn := below_new hb1
          have XT := (Box.new wr 64 cx cy).keep hb1
          have X4 := B4.keep hbn
          have X6 := B6.keep hbn
          have X8 := B8.keep hbn
          have X3 := B3.keep hbn
          have XB := BB.trans (hbn.mono BB.size)
          have t0 := XT.c0
          have t1 := XT.c1
          have s0 := X8.c0
          have s1 := X8.c1
          have sf := X8.f
          have sl := X8.lt
          have tl := XT.lt
          clear c0 c1 d0 d1 e0 e1 f8 l8 hb1 hbn hgs2 l6' B4 B6 B8 B3 BB
          go_wp2_with fail
          go_roundw
          case rel => exact ⟨k + 1, by omega, by go_num, by rw [HN.out], (X4.far (by simp; omega) _).far (by simp; omega) _, (X6.far (by simp; omega) _).far (by simp; omega) _, by rw [HN.out]; exact X8.put _ _, (X3.far (by simp; omega) _).far (by simp; omega) _, (XB.setCell (p := ⟨w3.heap.size + 1, 0, none⟩) (by simp; omega) _).setCell (p := ⟨w3.heap.size + 1, 1, none⟩) (by simp; omega) _⟩
          case measure => simp [intOf]; omega
        · by_cases n2 : (a : Int) - cx + (b - cy) < bn
          · have HN := Lib.hid (HTK.out TK.out (.inr (.inl n2)))
            clear HTK HSK
            go_wp2_with fail
            refine (taken_any a b cx cy _ _ rfl rfl hx1 hy1 hx2 hy2 true (by simp [TK.out]) _).mono ?_
            rintro e v1 ⟨rfl, hb1⟩
            have hbn := below_new hb1
            have XT := (Box.new wr 64 cx cy).keep hb1
            have X4 := B4.keep hbn
            have X6 := B6.keep hbn
            have X8 := B8.keep hbn
            have X3 := B3.keep hbn
            have XB := BB.trans (hbn.mono BB.size)
            have t0 := XT.c0
            have t1 := XT.c1
            have s0 := X8.c0
            have s1 := X8.c1
            have sf := X8.f
            have sl := X8.lt
            have tl := XT.lt
            clear c0 c1 d0 d1 e0 e1 f8 l8 hb1 hbn hgs2 l6' B4 B6 B8 B3 BB
            go_wp2_with fail
            go_roundw
            case rel => exact ⟨k + 1, by omega, by go_num, by rw [HN.out], (X4.far (by simp; omega) _).far (by simp; omega) _, (X6.far (by simp; omega) _).far (by simp; omega) _, by rw [HN.out]; exact X8.put _ _, (X3.far (by simp; omega) _).far (by simp; omega) _, (XB.setCell (p := ⟨w3.heap.size + 1, 0, none⟩) (by simp; omega) _).setCell (p := ⟨w3.heap.size + 1, 1, none⟩) (by simp; omega) _⟩
            case measure => simp [intOf]; omega
          · by_cases n3 : (a : Int) - cx + (b - cy) = bn
            · subst n3
              by_cases n4 : cx < bx
              · have HN := Lib.hid (HTK.out TK.out (.inr (.inr ⟨rfl, n4⟩)))
                clear HTK HSK
                go_wp2_with fail
                refine (taken_any a b cx cy _ _ rfl rfl hx1 hy1 hx2 hy2 true (by simp [TK.out]) _).mono ?_
                rintro e v1 ⟨rfl, hb1⟩
                have hbn := below_new hb1
                have XT := (Box.new wr 64 cx cy).keep hb1
                have X4 := B4.keep hbn
                have X6 := B6.keep hbn
                have X8 := B8.keep hbn
                have X3 := B3.keep hbn
                have XB := BB.trans (hbn.mono BB.size)
                have t0 := XT.c0
                have t1 := XT.c1
                have s0 := X8.c0
                have s1 := X8.c1
                have sf := X8.f
                have sl := X8.lt
                have tl := XT.lt
                clear c0 c1 d0 d1 e0 e1 f8 l8 hb1 hbn hgs2 l6' B4 B6 B8 B3 BB
                go_wp2_with fail
                go_roundw
                case rel => exact ⟨k + 1, by omega, by go_num, by rw [HN.out], (X4.far (by simp; omega) _).far (by simp; omega) _, (X6.far (by simp; omega) _).far (by simp; omega) _, by rw [HN.out]; exact X8.put _ _, (X3.far (by simp; omega) _).far (by simp; omega) _, (XB.setCell (p := ⟨w3.heap.size + 1, 0, none⟩) (by simp; omega) _).setCell (p := ⟨w3.heap.size + 1, 1, none⟩) (by simp; omega) _⟩
                case measure => simp [intOf]; omega
              · have HN := Lib.hid (HSK.out (fun h => by rcases h.2 with h | h | h <;> omega))
                clear HTK HSK
                go_wp2_with fail
                refine (taken_any a b cx cy _ _ rfl rfl hx1 hy1 hx2 hy2 true (by simp [TK.out]) _).mono ?_
                rintro e v1 ⟨rfl, hb1⟩
                have hbn := below_new hb1
                have XT := (Box.new wr 64 cx cy).keep hb1
                have X4 := B4.keep hbn
                have X6 := B6.keep hbn
                have X8 := B8.keep hbn
                have X3 := B3.keep hbn
                have XB := BB.trans (hbn.mono BB.size)
                have t0 := XT.c0
                have t1 := XT.c1
                have s0 := X8.c0
                have s1 := X8.c1
                have sf := X8.f
                have sl := X8.lt
                have tl := XT.lt
                clear c0 c1 d0 d1 e0 e1 f8 l8 hb1 hbn hgs2 l6' B4 B6 B8 B3 BB
                go_wp2_with fail
                go_roundw
                case rel => exact ⟨k + 1, by omega, by go_num, by rw [HN.out], X4, X6, by rw [HN.out]; exact X8, X3, XB⟩
                case measure => simp [intOf]; omega
            · have HN := Lib.hid (HSK.out (fun h => by rcases h.2 with h | h | h <;> omega))
              have n5 : bn < (a : Int) - cx + (b - cy) := by omega
              clear HTK HSK n3
              go_wp2_with fail
              refine (taken_any a b cx cy _ _ rfl rfl hx1 hy1 hx2 hy2 true (by simp [TK.out]) _).mono ?_
              rintro e v1 ⟨rfl, hb1⟩
              have hbn := below_new hb1
              have XT := (Box.new wr 64 cx cy).keep hb1
              have X4 := B4.keep hbn
              have X6 := B6.keep hbn
              have X8 := B8.keep hbn
              have X3 := B3.keep hbn
              have XB := BB.trans (hbn.mono BB.size)
              have t0 := XT.c0
              have t1 := XT.c1
              have s0 := X8.c0
              have s1 := X8.c1
              have sf := X8.f
              have sl := X8.lt
              have tl := XT.lt
              clear c0 c1 d0 d1 e0 e1 f8 l8 hb1 hbn hgs2 l6' B4 B6 B8 B3 BB
              go_wp2_with fail
              go_roundw
              case rel => exact ⟨k + 1, by omega, by go_num, by rw [HN.out], X4, X6, by rw [HN.out]; exact X8, X3, XB⟩
              case measure => simp [intOf]; omega
      · have HN := Lib.hid (HSK.out (fun h => tk h.1))
        have TK := Lib.hid tk
        clear tk HTK HSK
        go_wp2_with fail
        refine (taken_any a b cx cy _ _ rfl rfl hx1 hy1 hx2 hy2 false (by simp [TK.out]) _).mono ?_
        rintro e v1 ⟨rfl, hb1⟩
        have hbn := below_new hb1
        have XT := (Box.new wr 64 cx cy).keep hb1
        have X4 := B4.keep hbn
        have X6 := B6.keep hbn
        have X8 := B8.keep hbn
        have X3 := B3.keep hbn
        have XB := BB.trans (hbn.mono BB.size)
        have t0 := XT.c0
        have t1 := XT.c1
        have s0 := X8.c0
        have s1 := X8.c1
        have sf := X8.f
        have sl := X8.lt
        have tl := XT.lt
        clear c0 c1 d0 d1 e0 e1 f8 l8 hb1 hbn hgs2 l6' B4 B6 B8 B3 BB
        go_wp2_with fail
        go_roundw
        case rel => exact ⟨k + 1, by omega, by go_num, by rw [HN.out], X4, X6, by rw [HN.out]; exact X8, X3, XB⟩
        case measure => simp [intOf]; omega
    · have hk3 : k = 3 := by omega
      subst hk3
      have g0 := B4.c0
      have g1 := B4.c1
      have gf := B4.f
      have gl := B4.lt
      generalize hB : bst a b (cands a b q0 q1) 3 = Bs at *
      have HBs := Lib.hid hB
      clear hB
      obtain ⟨bx, bY, bn⟩ := Bs
      simp only at e0 e1 B8
      go_wp2_with fail
      refine bodyPost_ret (v := .tuple #[.agg #[.int .i64 bx, .int .i64 bY], .int .i64 0]) (by simp [results, Try.results32, go_sem, g0, g1]) rfl ⟨?_, ?_⟩
      · intro B hB
        subst hB
        rw [HQ1.out, HQ0.out, HBs.out]
      · exact (BB.setCell (p := ⟨w.heap.size, 0, none⟩) (Nat.le_refl _) _).setCell (p := ⟨w.heap.size, 1, none⟩) (Nat.le_refl _) _

end Go.Proofs.Ytiknocjdogbajaa
