/- The walk of LiftPlaces. -/
import Derived.Test.YtdkobkghhnccgaaDn
namespace Go.Proofs.Ytdkobkghhnccgaa
open Go.RowKit
theorem half {a : Int} {P : Nat} (h : Frc a 1 P) (h0 : 0 ≤ a) : 0 ≤ nx a 1 P ∧ 2 * nx a 1 P ≤ a := by
  have e := nx_mul h.hP a 1 h.hb
  have d := h.dgl.1
  generalize dg a 1 P = y at *
  generalize nx a 1 P = x at *
  rcases h.hP with h | h | h | h | h | h <;> subst h <;> omega
theorem rs_half {a : Int} {P : Nat} (h : Frc a 1 P) (h0 : 0 ≤ a) : ∀ n, 0 ≤ rs a 1 P n ∧ 2 * rs a 1 P (n + 1) ≤ rs a 1 P n := by
  intro n
  induction n with
  | zero => exact ⟨h0, (half h h0).2⟩
  | succ n ih =>
    have h1 := half (h.rs n) ih.1
    exact ⟨h1.1, (half (h.rs (n + 1)) h1.1).2⟩
theorem rs_end {a : Int} {P : Nat} (h : Frc a 1 P) (h0 : 0 ≤ a) (n : Nat) (hn : 10 ≤ n) : rs a 1 P n = 0 := by
  have h10 : rs a 1 P 10 = 0 := by
    have a0 : rs a 1 P 0 ≤ 1000 := h.a1
    have b0 := rs_half h h0 0
    have b1 := rs_half h h0 1
    have b2 := rs_half h h0 2
    have b3 := rs_half h h0 3
    have b4 := rs_half h h0 4
    have b5 := rs_half h h0 5
    have b6 := rs_half h h0 6
    have b7 := rs_half h h0 7
    have b8 := rs_half h h0 8
    have b9 := rs_half h h0 9
    have b10 := rs_half h h0 10
    simp only [Nat.reduceAdd] at *
    omega
  have := rs_const a 1 P 10 0 (nx_zero h.hP 1 h.hb) h10 (n - 10)
  rwa [show 10 + (n - 10) = n by omega] at this
theorem one_rep {a : Int} {P s N : Nat} (h : Frc a 1 P) (h0 : 0 ≤ a) (hr : IsRep (rs a 1 P) s N) : N = s + 1 := by
  have h1 := (rs_half h h0 s).1
  have h2 := rep_range h.hP a 1 h.hb (by omega) s N hr s (Nat.le_refl _)
  exact rep_one a 1 P s N s hr (Nat.le_refl _) 0 (nx_zero h.hP 1 h.hb) (by omega)
theorem neg_rep {a b : Int} {P s N : Nat} (h : Frc a b P) (he : a = -b) (hr : IsRep (rs a b P) s N) : s = 0 ∧ N = 1 := by
  have h1 : IsRep (rs a b P) 0 1 := ⟨by omega, by
    show a = nx a b P
    rw [he, nx_neg h.hP b h.hb], fun i j hij hj => by omega⟩
  exact hr.eq h1
theorem dl_get (a b : Int) (P n k : Nat) (h : k < n) : (dl a b P n).getD k 0 = ((dg (rs a b P k) b P : Nat) : Int) := by simp [dl, h]
theorem pn_mod (P j : Nat) (b : Int) : (((pn P j : Nat) : Int) % b) * (P : Int) % b = ((pn P (j + 1) : Nat) : Int) % b := by
  rw [pow_step, pn]; simp
theorem Digits_40 (a b : Int) (P : Nat) (h : Frc a b P) (hfi : FracI a b P) (w : World) :
    Calls Try.prog 31 #[.int .i64 a, .int .i64 b, .int .i64 P, .int .i64 40] w fun e w' => ∃ v', e = .returned (.tuple #[v', .int .i64 0]) ∧ Own w' w.heap.size v' (dl a b P 40) ∧ Below w.heap.size w w' := by
  have := Digits_yes a b P 40 h hfi (by omega) w
  simpa using this
theorem ord_int {b : Int} {P : Nat} (hP : isP P) (h0 : 1 ≤ b) (hb : b % P ≠ 0) : ∃ M : Nat, 1 ≤ M ∧ (M : Int) ≤ b ∧ ((pn P M : Nat) : Int) % b = 1 % b := by
  obtain ⟨B, rfl⟩ := Int.eq_ofNat_of_zero_le (show 0 ≤ b by omega)
  obtain ⟨M, h1, h2, h3⟩ := order_ex hP B (by
    intro e
    apply hb
    have : ((B % P : Nat) : Int) = (B : Int) % P := Int.natCast_emod B P
    rw [← this, e]; rfl)
  refine ⟨M, h1, by omega, ?_⟩
  have := congrArg (fun n : Nat => (n : Int)) h3
  simpa using this
set_option maxRecDepth 100000 in
set_option maxHeartbeats 8000000 in
theorem liftPlaces_bad (a b p : Int) (h : ¬ FracI a b p) (w : World) :
    Calls Try.prog 10 #[.int .i64 a, .int .i64 b, .int .i64 p] w fun e w' => e = .returned (.bool true) ∧ Below w.heap.size w w' := by
  have HF := Lib.hid h
  clear h
  go_enter Try.func10, Try.ntmps10
  go_wp2_with fail
  refine (Digits_no a b p 40 (fun hh => HF.out hh.1) _).mono ?_
  rintro e w1 ⟨rfl, hb1⟩
  go_wp2_with fail
  refine (Again_no a b p HF.out _).mono ?_
  rintro e w2 ⟨rfl, b2⟩
  have hb2 := hb1.trans (b2.mono hb1.size)
  go_wp2_with fail
  (with_reducible refine (awake_any _).mono ?_)
  rintro e wz ⟨rfl, bz⟩
  have hb9 := hb2.trans (bz.mono hb2.size)
  go_wp2_with fail
  go_ret
  exact ⟨rfl, hb9⟩

end Go.Proofs.Ytdkobkghhnccgaa
