/- Contracts of slices.Equal, Contains and Clone at sides and fractions. -/
import Derived.Test.YtdkobkghhnccgaaSgp
import Derived.Test.YtdkobkghhnccgaaNh
import Derived.Laws.StructEq
namespace Go.Proofs.Ytdkobkghhnccgaa
open Go.RowKit Go.Shelf Go.Lib
open Np (frc Red ord Prm fle flt cf nz od Sides Sd Pg slopes)
theorem neq64 : NeqAt Try.prog 64 (fun x => .agg (encQ x).toArray) (fun x y => x.1 == y.1 && x.2 == y.2) := by
  refine ⟨fun x y w => ?_, GuardAt.agg _ (by kernel_rfl)⟩
  have u3 := Try.underlying3
  have a3 := Try.isAgg3
  have z3 := Try.sizeOf3
  have hS : Try.prog.underlying 64 = some (.struct (Try.prog.fieldsOf 64)) := by kernel_rfl
  have hp : Try.prog.stoodInHeld 64 = false := by kernel_rfl
  simp only [encQ]
  rw [run_neq_struct, show (10000 : Nat) = 9999 + 1 from rfl, run_equalIn_agg w 9999 64 _ _ hS hp]
  simp only [Program.fieldsOf, Try.underlying64]
  go_simp
  by_cases h1 : x.fst = y.fst <;> by_cases h2 : x.snd = y.snd <;> simp [h1, h2]
theorem eql64 : EqlAt Try.prog 64 (fun x => .agg (encQ x).toArray) (fun x y => x.1 == y.1 && x.2 == y.2) := by
  refine ⟨fun x y w => ?_, GuardAt.agg _ (by kernel_rfl)⟩
  have u3 := Try.underlying3
  have a3 := Try.isAgg3
  have z3 := Try.sizeOf3
  have hS : Try.prog.underlying 64 = some (.struct (Try.prog.fieldsOf 64)) := by kernel_rfl
  have hp : Try.prog.stoodInHeld 64 = false := by kernel_rfl
  simp only [encQ]
  rw [run_eql_struct, show (10000 : Nat) = 9999 + 1 from rfl, run_equalIn_agg w 9999 64 _ _ hS hp]
  simp only [Program.fieldsOf, Try.underlying64]
  go_simp
  by_cases h1 : x.fst = y.fst <;> by_cases h2 : x.snd = y.snd <;> simp [h1, h2]
theorem eqIn64 (d : Nat) (a b c e : Int) (w : World) : (Op.equalIn (d + 2) 64 (.agg #[.int .i64 a, .int .i64 b]) (.agg #[.int .i64 c, .int .i64 e])).run Try.prog w = .ok (a == c && b == e) w := by
  have u3 := Try.underlying3
  have a3 := Try.isAgg3
  have z3 := Try.sizeOf3
  have hS : Try.prog.underlying 64 = some (.struct (Try.prog.fieldsOf 64)) := by kernel_rfl
  have hp : Try.prog.stoodInHeld 64 = false := by kernel_rfl
  rw [show d + 2 = (d + 1) + 1 from rfl, run_equalIn_agg w (d + 1) 64 _ _ hS hp]
  simp only [Program.fieldsOf, Try.underlying64]
  clear hS hp
  go_simp
  by_cases h1 : a = c <;> by_cases h2 : b = e <;> simp [h1, h2]
theorem neq66 : NeqAt Try.prog 66 (fun x => .agg (encS x).toArray) (fun x y => decide (x = y)) := by
  refine ⟨fun x y w => ?_, GuardAt.agg _ (by kernel_rfl)⟩
  have u3 := Try.underlying3
  have a3 := Try.isAgg3
  have z3 := Try.sizeOf3
  have a64 := Try.isAgg64
  have z64 := Try.sizeOf64
  have hS : Try.prog.underlying 66 = some (.struct (Try.prog.fieldsOf 66)) := by kernel_rfl
  have hp : Try.prog.stoodInHeld 66 = false := by kernel_rfl
  simp only [encS]
  rw [run_neq_struct, show (10000 : Nat) = 9997 + 2 + 1 from rfl, run_equalIn_agg w (9997 + 2) 66 _ _ hS hp]
  simp only [Program.fieldsOf, Try.underlying66]
  clear hS hp
  obtain ⟨x1, x2, x3, x4⟩ := x
  obtain ⟨y1, y2, y3, y4⟩ := y
  have hq := fun w => eqIn64 9997 x3 x4 y3 y4 w
  go_simp
  by_cases h1 : (x1 : Int) = y1
  · have k1 : x1 = y1 := by omega
    by_cases h2 : (x2 : Int) = y2
    · have k2 : x2 = y2 := by omega
      by_cases h3 : x3 = y3 <;> by_cases h4 : x4 = y4 <;> simp [k1, k2, h3, h4]
    · have k2 : ¬ x2 = y2 := by omega
      simp [k1, h2, k2]
  · have k1 : ¬ x1 = y1 := by omega
    simp [h1, k1]
theorem neq71 : NeqAt Try.prog 71 (fun x => .agg (encS x).toArray) (fun x y => decide (x = y)) := by
  refine ⟨fun x y w => ?_, GuardAt.agg _ (by kernel_rfl)⟩
  have u3 := Try.underlying3
  have a3 := Try.isAgg3
  have z3 := Try.sizeOf3
  have a64 := Try.isAgg64
  have z64 := Try.sizeOf64
  have hS : Try.prog.underlying 71 = some (.struct (Try.prog.fieldsOf 71)) := by kernel_rfl
  have hp : Try.prog.stoodInHeld 71 = false := by kernel_rfl
  simp only [encS]
  rw [run_neq_struct, show (10000 : Nat) = 9997 + 2 + 1 from rfl, run_equalIn_agg w (9997 + 2) 71 _ _ hS hp]
  simp only [Program.fieldsOf, Try.underlying71]
  clear hS hp
  obtain ⟨x1, x2, x3, x4⟩ := x
  obtain ⟨y1, y2, y3, y4⟩ := y
  have hq := fun w => eqIn64 9997 x3 x4 y3 y4 w
  go_simp
  by_cases h1 : (x1 : Int) = y1
  · have k1 : x1 = y1 := by omega
    by_cases h2 : (x2 : Int) = y2
    · have k2 : x2 = y2 := by omega
      by_cases h3 : x3 = y3 <;> by_cases h4 : x4 = y4 <;> simp [k1, k2, h3, h4]
    · have k2 : ¬ x2 = y2 := by omega
      simp [k1, h2, k2]
  · have k1 : ¬ x1 = y1 := by omega
    simp [h1, k1]
theorem allEq_refl {α : Type} (eq : α → α → Bool) (he : ∀ x, eq x x = true) : ∀ (L : List α), Lib.allEq eq L L = true := by
  intro L
  induction L with
  | nil => rfl
  | cons x L ih => show (eq x x && Lib.allEq eq L L) = true; rw [he, ih]; rfl
theorem Rw.row {α : Type} [Inhabited α] {k : Nat} {E : Enc α k} {e : TypeId} {w : World} {X g n c : Nat} {L : List α} (h : Rw E e w X (.slice (some ⟨g, 0, none⟩) n c) L) :
    ∀ j, j < L.length → ∀ i v, (E.enc L[j]!)[i]? = some v → w.cell? ⟨g, 0 + j * k + i, none⟩ = some v := by
  intro j hj i v hv
  rw [Nat.zero_add]
  exact h.cell (by rw [List.getElem?_eq_getElem hj, getElem!_pos L j hj]) hv
set_option maxHeartbeats 4000000 in
theorem equal40_yes (b1 b2 : Nat) (v1 v2 : Value) (L : List Sd) (hl : L.length ≤ 1000) (w : World) (h1 : Rw ES 66 w b1 v1 L) (h2 : Rw ES 66 w b2 v2 L) :
    Calls Try.prog 40 #[v1, v2] w fun e w' => e = .returned (.bool true) ∧ Below w.heap.size w w' := by
  by_cases h0 : L.length = 0
  · obtain rfl : L = [] := List.eq_nil_of_length_eq_zero h0
    obtain ⟨A1, c1, rfl⟩ := h1.form
    obtain ⟨A2, c2, rfl⟩ := h2.form
    clear h1 h2 h0 hl
    go_enter Try.func40, Try.ntmps40
    go_wp2_with fail
    go_loop [13] (fun i => i = .int .i64 0) (fun _ => 0)
    case atStart => rfl
    case round =>
      subst hrel
      go_wp2_with fail
      go_ret
      exact ⟨rfl, Below.refl _ _⟩
  · obtain ⟨g1, c1, rfl, _, _⟩ := h1.seen (by omega)
    obtain ⟨g2, c2, rfl, _, _⟩ := h2.seen (by omega)
    have hcon := AnyQ.slices_Equal l40 4 Try.isAgg66 Try.sizeOf66 encS (fun _ => rfl) (fun x y => decide (x = y)) neq66 g1 0 L.length c1 g2 0 L.length c2 L L w (Nat.le_refl _) (Nat.le_refl _) (by omega) (by omega) h1.row h2.row
    change Calls Try.prog 40 _ _ _ at hcon
    refine hcon.mono ?_
    rintro e w' ⟨rfl, q, rfl⟩
    exact ⟨by rw [allEq_refl (fun x y => decide (x = y)) (fun x => by simp)], below_drewN (Below.refl _ _) _⟩
set_option maxHeartbeats 4000000 in
theorem equal48_yes (b1 b2 : Nat) (v1 v2 : Value) (L : List Sd) (hl : L.length ≤ 1000) (w : World) (h1 : Rw ES 71 w b1 v1 L) (h2 : Rw ES 71 w b2 v2 L) :
    Calls Try.prog 48 #[v1, v2] w fun e w' => e = .returned (.bool true) ∧ Below w.heap.size w w' := by
  by_cases h0 : L.length = 0
  · obtain rfl : L = [] := List.eq_nil_of_length_eq_zero h0
    obtain ⟨A1, c1, rfl⟩ := h1.form
    obtain ⟨A2, c2, rfl⟩ := h2.form
    clear h1 h2 h0 hl
    go_enter Try.func48, Try.ntmps48
    go_wp2_with fail
    go_loop [13] (fun i => i = .int .i64 0) (fun _ => 0)
    case atStart => rfl
    case round =>
      subst hrel
      go_wp2_with fail
      go_ret
      exact ⟨rfl, Below.refl _ _⟩
  · obtain ⟨g1, c1, rfl, _, _⟩ := h1.seen (by omega)
    obtain ⟨g2, c2, rfl, _, _⟩ := h2.seen (by omega)
    have hcon := AnyQ.slices_Equal l48 4 Try.isAgg71 Try.sizeOf71 encS (fun _ => rfl) (fun x y => decide (x = y)) neq71 g1 0 L.length c1 g2 0 L.length c2 L L w (Nat.le_refl _) (Nat.le_refl _) (by omega) (by omega) h1.row h2.row
    change Calls Try.prog 48 _ _ _ at hcon
    refine hcon.mono ?_
    rintro e w' ⟨rfl, q, rfl⟩
    exact ⟨by rw [allEq_refl (fun x y => decide (x = y)) (fun x => by simp)], below_drewN (Below.refl _ _) _⟩
set_option maxHeartbeats 4000000 in
theorem equal43_yes (b1 b2 : Nat) (v1 v2 : Value) (L : List (Int × Int)) (hl : L.length ≤ 1000) (w : World) (h1 : Rw EQ 64 w b1 v1 L) (h2 : Rw EQ 64 w b2 v2 L) :
    Calls Try.prog 43 #[v1, v2] w fun e w' => e = .returned (.bool true) ∧ Below w.heap.size w w' := by
  by_cases h0 : L.length = 0
  · obtain rfl : L = [] := List.eq_nil_of_length_eq_zero h0
    obtain ⟨A1, c1, rfl⟩ := h1.form
    obtain ⟨A2, c2, rfl⟩ := h2.form
    clear h1 h2 h0 hl
    go_enter Try.func43, Try.ntmps43
    go_wp2_with fail
    go_loop [13] (fun i => i = .int .i64 0) (fun _ => 0)
    case atStart => rfl
    case round =>
      subst hrel
      go_wp2_with fail
      go_ret
      exact ⟨rfl, Below.refl _ _⟩
  · obtain ⟨g1, c1, rfl, _, _⟩ := h1.seen (by omega)
    obtain ⟨g2, c2, rfl, _, _⟩ := h2.seen (by omega)
    have hcon := AnyQ.slices_Equal l43 2 Try.isAgg64 Try.sizeOf64 encQ (fun _ => rfl) (fun x y : Int × Int => x.1 == y.1 && x.2 == y.2) neq64 g1 0 L.length c1 g2 0 L.length c2 L L w (Nat.le_refl _) (Nat.le_refl _) (by omega) (by omega) h1.row h2.row
    change Calls Try.prog 43 _ _ _ at hcon
    refine hcon.mono ?_
    rintro e w' ⟨rfl, q, rfl⟩
    exact ⟨by rw [allEq_refl (fun x y : Int × Int => x.1 == y.1 && x.2 == y.2) (fun x => by simp)], below_drewN (Below.refl _ _) _⟩
theorem contains_yes (base : Nat) (v : Value) (L : List (Int × Int)) (q : Int × Int) (hq : q ∈ L) (hl : L.length ≤ 1000) (w : World) (h : Rw EQ 64 w base v L) :
    Calls Try.prog 49 #[v, .agg #[.int .i64 q.1, .int .i64 q.2]] w fun e w' => e = .returned (.bool true) ∧ Below w.heap.size w w' := by
  have h0 : 0 < L.length := List.length_pos_of_mem hq
  obtain ⟨g1, c1, rfl, _, _⟩ := h.seen h0
  have hcon := AnyQ.slices_Contains l49 2 Try.isAgg64 Try.sizeOf64 encQ (fun _ => rfl) (fun x y => x.1 == y.1 && x.2 == y.2) eql64 g1 0 L.length c1 L q w (Nat.le_refl _) (by omega) h.row
  change Calls Try.prog 49 _ _ _ at hcon
  refine hcon.mono ?_
  rintro e w' ⟨rfl, hb⟩
  refine ⟨?_, hb⟩
  rw [List.take_length, show (L.any fun y => q.1 == y.1 && q.2 == y.2) = true from List.any_eq_true.2 ⟨q, hq, by simp⟩]
theorem clone_q (base : Nat) (v : Value) (L : List (Int × Int)) (hl : L.length ≤ 1000) (w : World) (h : Rw EQ 64 w base v L) :
    Calls Try.prog 47 #[v] w fun e w' => ∃ v', e = .returned v' ∧ Rw EQ 64 w' w.heap.size v' L ∧ Below w.heap.size w w' := by
  rcases h.2 with ⟨rfl, h0⟩ | ⟨g, cap, cur, rfl, _⟩
  · obtain rfl : L = [] := List.eq_nil_of_length_eq_zero h0
    have hcon := AnyE.slices_Clone_nil l47 0 0 w
    change Calls Try.prog 47 _ _ _ at hcon
    refine hcon.mono ?_
    rintro e w' ⟨rfl, rfl⟩
    exact ⟨_, rfl, Rw.nil _ _, Below.refl _ _⟩
  · obtain ⟨i0, hi, hz0, hz1, hz2⟩ := info_parts info64
    have hcon := AnyE.slices_Clone l47 i0 (.agg #[.int .i64 0, .int .i64 0]) 2 16 hi hz0 hz1 hz2 rfl (by omega) Try.sizeOf64 g 0 L.length cap (L.flatMap EQ.enc) w (enc_length EQ L) (by unfold maxLen; omega) (by omega)
      (fun j u hu => by have := World.ownsRow.cells h (g := g) rfl j u hu; rw [addr_head] at this; rwa [Nat.zero_add]) (fun u hu => by obtain ⟨y, _, hy⟩ := List.mem_flatMap.1 hu; exact EQ.one y u hy)
    change Calls Try.prog 47 _ _ _ at hcon
    refine hcon.mono ?_
    rintro e w' ⟨v', rfl, ho, _, hb⟩
    exact ⟨v', rfl, ho, hb⟩
end Go.Proofs.Ytdkobkghhnccgaa
