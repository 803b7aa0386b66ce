/- Walks: the greatest common divisor, Points, the sort of a slice, the comparison of gaps. -/
import Derived.Test.YtkmnelmgckbmpaaShp
import Derived.Test.YtkmnelmgckbmpaaRw
import Derived.Test.YtkmnelmgckbmpaaA
import Derived.Test.YtkmnelmgckbmpaaGu
import Derived.Sort.Grow
namespace Go.Proofs.Ytkmnelmgckbmpaa
open Go.RowKit
set_option maxHeartbeats 4000000 in
theorem gcd_any (a b : Nat) (ha : a ≤ 1000000000) (hb : b ≤ 1000000000) (w : World) :
    Calls Try.prog 10 #[.int .i64 a, .int .i64 b] w fun e w' => e = .returned (.int .i64 (Nat.gcd a b : Nat)) ∧ Below w.heap.size w w' := by
  go_enter Try.func10, Try.ntmps10
  go_wp2_with fail
  go_loopw [0, 1] (fun u v wr => ∃ x y : Nat, x ≤ 1000000000 ∧ y ≤ 1000000000 ∧ u = .int .i64 x ∧ v = .int .i64 y ∧ Nat.gcd x y = Nat.gcd a b ∧ ∃ q, wr = w.drewN q) (fun _ v _ => (intOf v).toNat)
  case atStart => exact ⟨a, b, ha, hb, rfl, rfl, rfl, 0, rfl⟩
  case round =>
    obtain ⟨x, y, hx, hy, rfl, rfl, hg, nw, rfl⟩ := hrel
    have HG := Lib.hid hg
    clear hg
    by_cases e : y = 0
    · subst e
      have hg := HG.out
      rw [Nat.gcd_zero_right] at hg
      have HG := Lib.hid hg
      clear hg
      go_wp2_with fail
      go_ret
      exact ⟨ret_int (by rw [← HG.out]), below_drewN (Below.refl _ _) _⟩
    · have e1 : ((y : Int) == 0) = false := by rw [beq_eq_false_iff_ne]; omega
      have e2 : ((y : Int) != 0) = true := by rw [bne_iff_ne]; omega
      have hyp : (1 : Int) ≤ y := by omega
      have hlt := Nat.mod_lt x (show 0 < y by omega)
      have HT := Lib.hid (show Nat.gcd y (x % y) = Nat.gcd a b by rw [← HG.out, Nat.gcd_comm x y, Nat.gcd_rec y x, Nat.gcd_comm])
      have HTE := Lib.hid (show (x : Int) % (y : Int) = ((x % y : Nat) : Int) from (Int.natCast_emod x y).symm)
      go_wp2_with fail
      go_quiet (fail)
      go_wp2_with fail
      go_roundw
      case rel => exact ⟨y, x % y, hy, by omega, rfl, by rw [← HTE.out], HT.out, nw + nq, by rw [World.drewN_drewN]⟩
      case measure => show ((x : Int) % (y : Int)).toNat < ((y : Int)).toNat; rw [HTE.out]; omega
set_option maxHeartbeats 4000000 in
theorem rGcd_any (a b : Nat) (ha : a ≤ 1000000000) (hb : b ≤ 1000000000) (w : World) :
    Calls Try.prog 15 #[.int .i64 a, .int .i64 b] w fun e w' => e = .returned (.int .i64 (Nat.gcd a b : Nat)) ∧ Below w.heap.size w w' := by
  go_enter Try.func15, Try.ntmps15
  go_wp2_with fail
  go_loopw [0, 1] (fun u v wr => ∃ x y : Nat, x ≤ 1000000000 ∧ y ≤ 1000000000 ∧ u = .int .i64 x ∧ v = .int .i64 y ∧ Nat.gcd x y = Nat.gcd a b ∧ ∃ q, wr = w.drewN q) (fun _ v _ => (intOf v).toNat)
  case atStart => exact ⟨a, b, ha, hb, rfl, rfl, rfl, 0, rfl⟩
  case round =>
    obtain ⟨x, y, hx, hy, rfl, rfl, hg, nw, rfl⟩ := hrel
    have HG := Lib.hid hg
    clear hg
    by_cases e : y = 0
    · subst e
      have hg := HG.out
      rw [Nat.gcd_zero_right] at hg
      have HG := Lib.hid hg
      clear hg
      go_wp2_with fail
      go_ret
      exact ⟨ret_int (by rw [← HG.out]), below_drewN (Below.refl _ _) _⟩
    · have e1 : ((y : Int) == 0) = false := by rw [beq_eq_false_iff_ne]; omega
      have e2 : ((y : Int) != 0) = true := by rw [bne_iff_ne]; omega
      have hyp : (1 : Int) ≤ y := by omega
      have hlt := Nat.mod_lt x (show 0 < y by omega)
      have HT := Lib.hid (show Nat.gcd y (x % y) = Nat.gcd a b by rw [← HG.out, Nat.gcd_comm x y, Nat.gcd_rec y x, Nat.gcd_comm])
      have HTE := Lib.hid (show (x : Int) % (y : Int) = ((x % y : Nat) : Int) from (Int.natCast_emod x y).symm)
      go_wp2_with fail
      go_quiet (fail)
      go_wp2_with fail
      go_roundw
      case rel => exact ⟨y, x % y, hy, by omega, rfl, by rw [← HTE.out], HT.out, nw + nq, by rw [World.drewN_drewN]⟩
      case measure => show ((x : Int) % (y : Int)).toNat < ((y : Int)).toNat; rw [HTE.out]; omega
/-- where there are gaps -/
def Pts (p m n : Int) : Prop := 2 ≤ m ∧ m ≤ 1000 ∧ 1 ≤ p ∧ p < m ∧ 1 ≤ n ∧ n ≤ m ∧ Int.gcd p m = 1
theorem sort_own (base : Nat) (v : Value) (xs : List Int) (w : World) (hl : xs.length ≤ 1000000) (h : Own w base v xs) :
    Calls Try.prog 11 #[v] w fun e w' => e = .returned (.tuple #[]) ∧ Own w' base v (xs.mergeSort fun x y => decide (x ≤ y)) ∧ Below base w w' := by
  rcases h.parts with ⟨rfl, rfl⟩ | ⟨g, n, cap, rfl⟩
  · have hcon := Any.slices_Sort_int_none l11 none 0 w
    change Calls Try.prog 11 _ _ _ at hcon
    refine hcon.mono ?_
    rintro e w' ⟨rfl, rfl⟩
    exact ⟨rfl, by simpa using h, Below.refl _ _⟩
  · obtain ⟨hn, hc, hm, hb, hlt⟩ := h.nums
    subst hn
    have hcon := Any.slices_Sort_int l11 g 0 cap xs w h.holds hlt (by omega)
    change Calls Try.prog 11 _ _ _ at hcon
    refine hcon.mono ?_
    rintro e w' ⟨rfl, q, os, rfl⟩
    obtain ⟨h1, h2⟩ := h.putRow q (xs.mergeSort fun x y => decide (x ≤ y)) (List.length_mergeSort _) xs.length (Nat.le_refl _)
    rw [List.take_of_length_le (by rw [List.length_mergeSort]; exact Nat.le_refl _)] at h1
    refine ⟨rfl, h1.same (fun b _ hlt => «Sort».heap_grow_old _ os hlt), h2.trans ⟨rfl, rfl, rfl, by simp, fun k hk => ?_⟩⟩
    have hs := h2.size
    exact «Sort».heap_grow_old _ os (by omega)
theorem sorted_pairs (xs : List Int) : (xs.mergeSort fun x y => decide (x ≤ y)).Pairwise (· ≤ ·) := by
  have := List.pairwise_mergeSort (le := fun x y : Int => decide (x ≤ y)) (fun a b c h1 h2 => by simp at *; omega) (fun a b => by simp; omega) xs
  exact this.imp (fun h => by simpa using h)
/-- a gap and how often it occurs, in memory -/
def encG (x : Nat × Nat) : List Value := [.int .i64 x.1, .int .i64 x.2]
def EG : Enc (Nat × Nat) 2 := ⟨encG, fun _ => rfl, fun x v h => by simp [encG] at h; rcases h with rfl | rfl <;> rfl⟩
theorem elt29 : Elt EG 22 29 (.agg #[.int .i64 0, .int .i64 0]) 16 := ⟨by kernel_rfl, rfl, by omega, Try.underlying22, by omega⟩
set_option maxHeartbeats 1000000 in
theorem closure13 (x y : Nat × Nat) (W : World) : Calls Try.prog 13 #[.agg #[.int .i64 x.1, .int .i64 x.2], .agg #[.int .i64 y.1, .int .i64 y.2]] W fun e w' => e = .returned (.int .i64 (Lib.compareInt x.1 y.1)) ∧ ∃ q os', w' = «Sort».grow (W.drewN q) os' := by
  have hcon := fun W' => AnyG.cmp_Compare_int l14 x.1 y.1 W'
  change ∀ W', Calls Try.prog 14 _ _ _ at hcon
  generalize Lib.compareInt x.1 y.1 = r at hcon ⊢
  have HC := Lib.hid hcon
  clear hcon
  go_enter Try.func13, Try.ntmps13
  go_wp2_with (go_at_call 14; refine (HC.out _).mono ?_; rintro e w' ⟨rfl, rfl⟩)
  go_ret
  exact ⟨rfl, 0, _, by rw [«Sort».alloc_eq_grow, «Sort».alloc_eq_grow, «Sort».grow_grow]; rfl⟩
end Go.Proofs.Ytkmnelmgckbmpaa
