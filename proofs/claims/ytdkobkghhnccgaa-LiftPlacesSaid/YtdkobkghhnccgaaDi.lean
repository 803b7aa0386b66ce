/- Walks of digits: the reference's digit, next, Digits; whether a fraction has digits. -/
import Derived.Test.YtdkobkghhnccgaaI
import Derived.Test.YtdkobkghhnccgaaD
namespace Go.Proofs.Ytdkobkghhnccgaa
open Go.RowKit
/-- a / b has digits for P -/
structure Frc (a b : Int) (P : Nat) : Prop where
  hP : isP P
  a0 : -1000 ≤ a
  a1 : a ≤ 1000
  b0 : 1 ≤ b
  b1 : b ≤ 1000
  hb : b % P ≠ 0
theorem Frc.next {a b : Int} {P : Nat} (h : Frc a b P) : Frc (nx a b P) b P := by
  have := nx_bd h.hP a b h.hb h.b0 h.b1 h.a0 h.a1
  exact ⟨h.hP, this.1, this.2, h.b0, h.b1, h.hb⟩
theorem Frc.rs {a b : Int} {P : Nat} (h : Frc a b P) : ∀ n, Frc (rs a b P n) b P := by
  intro n
  induction n with
  | zero => exact h
  | succ n ih => exact ih.next
theorem Frc.dgl {a b : Int} {P : Nat} (h : Frc a b P) : dg a b P < P ∧ dg a b P ≤ 12 := by
  have h1 := (dg_spec h.hP a b h.hb).1
  have h2 := h.hP.le
  omega
theorem dig_zero {a b : Int} {P d : Nat} : ((b * (d : Int) - a).tmod P = 0) ↔ (a - d * b) % P = 0 := by
  rw [← Int.dvd_iff_tmod_eq_zero, ← Int.dvd_iff_emod_eq_zero, ← Int.dvd_neg]
  rw [show -(b * (d : Int) - a) = a - d * b by rw [Int.mul_comm b]; omega]
theorem dig_zero2 {a b : Int} {P d : Nat} : ((a - (d : Int) * b).tmod P = 0) ↔ (a - d * b) % P = 0 := by
  rw [← Int.dvd_iff_tmod_eq_zero, ← Int.dvd_iff_emod_eq_zero]
theorem mul_d {b : Int} {d : Nat} (h0 : 1 ≤ b) (h1 : b ≤ 1000) (hd : d ≤ 13) : 0 ≤ b * (d : Int) ∧ b * (d : Int) ≤ 13000 := by
  have := prod_le (show 0 ≤ b by omega) h1 (show (0 : Int) ≤ d by omega) (show (d : Int) ≤ 13 by omega)
  omega
theorem nx_tdiv {a b : Int} {P : Nat} (h : Frc a b P) : (a - (dg a b P : Int) * b).tdiv P = nx a b P := by
  have e := nx_mul h.hP a b h.hb
  have h2 := h.hP.pos
  rw [← e, Int.mul_comm]
  exact Int.mul_tdiv_cancel _ (by omega)
set_option maxHeartbeats 4000000 in
theorem rdigit_any (a b : Int) (P : Nat) (h : Frc a b P) (w : World) :
    Calls Try.prog 62 #[.int .i64 a, .int .i64 b, .int .i64 P] w fun e w' => e = .returned (.int .i64 (dg a b P : Nat)) ∧ w = w' := by
  obtain ⟨s1, s2, s3⟩ := dg_spec h.hP a b h.hb
  have h13 := h.hP.le
  have h2 := h.hP.pos
  have hb0 := h.b0
  have hb1 := h.b1
  have ha0 := h.a0
  have ha1 := h.a1
  have HS2 := Lib.hid (dig_zero.2 s2)
  have HS3 := Lib.hid (fun (d : Nat) (hd : d < dg a b P) (e : (b * (d : Int) - a).tmod P = 0) => s3 d hd (dig_zero.1 e))
  clear s2 s3 h
  generalize dg a b P = D at *
  go_enter Try.func62, Try.ntmps62
  go_wp2_with fail
  go_loop [9] (fun i => ∃ d : Nat, d ≤ D ∧ i = .int .i64 d) (fun i => D + 1 - (intOf i).toNat)
  case atStart => exact ⟨0, by omega, rfl⟩
  case round =>
    obtain ⟨d, hd, rfl⟩ := hrel
    have hm := mul_d (d := d) hb0 hb1 (by omega)
    have hm1 := hm.1
    have hm2 := hm.2
    clear hm
    by_cases he : d = D
    · subst he
      have hz : ((b * (d : Int) - a).tmod P == 0) = true := by rw [beq_iff_eq]; exact HS2.out
      go_wp2_with fail
      go_ret
      exact ⟨rfl, rfl⟩
    · have hz : ((b * (d : Int) - a).tmod P == 0) = false := by rw [beq_eq_false_iff_ne]; exact HS3.out d (by omega)
      go_wp2_with fail
      go_round
      case rel => exact ⟨d + 1, by omega, by go_num⟩
      case measure => simp [intOf]; omega
set_option maxHeartbeats 4000000 in
theorem rnext_any (a b : Int) (P : Nat) (h : Frc a b P) (w : World) :
    Calls Try.prog 61 #[.int .i64 a, .int .i64 b, .int .i64 P] w fun e w' => e = .returned (.int .i64 (nx a b P)) ∧ w = w' := by
  have H := Lib.hid h
  have h2 := h.hP.pos
  have hb0 := h.b0
  have hb1 := h.b1
  have ha0 := h.a0
  have ha1 := h.a1
  have hd := h.dgl.2
  have hn := nx_bd h.hP a b h.hb h.b0 h.b1 h.a0 h.a1
  have hn1 := hn.1
  have hn2 := hn.2
  have ht := nx_tdiv h
  rw [Int.mul_comm] at ht
  have hm := mul_d (d := dg a b P) hb0 hb1 (by omega)
  have hm1 := hm.1
  have hm2 := hm.2
  clear h hn hm
  go_enter Try.func61, Try.ntmps61
  go_wp2_with fail
  refine (rdigit_any a b P H.out _).mono ?_
  rintro e _ ⟨rfl, rfl⟩
  generalize dg a b P = D at *
  go_wp2_with fail
  go_ret
  exact ⟨rfl, rfl⟩
/-- the first k digits -/
def dl (a b : Int) (P k : Nat) : List Int := (List.range k).map fun i => ((dg (rs a b P i) b P : Nat) : Int)
theorem dl_succ (a b : Int) (P k : Nat) : dl a b P (k + 1) = dl a b P k ++ [((dg (rs a b P k) b P : Nat) : Int)] := by simp [dl, List.range_succ]
theorem dl_length (a b : Int) (P k : Nat) : (dl a b P k).length = k := by simp [dl]
set_option maxHeartbeats 4000000 in
theorem rDigits_any (a b : Int) (P n : Nat) (h : Frc a b P) (hn : n ≤ 40) (w : World) :
    Calls Try.prog 35 #[.int .i64 a, .int .i64 b, .int .i64 P, .int .i64 n] w fun e w' => ∃ v', e = .returned v' ∧ Own w' w.heap.size v' (dl a b P n) ∧ Below w.heap.size w w' := by
  have H := Lib.hid h
  clear h
  go_enter Try.func35, Try.ntmps35
  go_wp2_with fail
  go_loopw [0, 9, 11] (fun x o i wr => ∃ k : Nat, k ≤ n ∧ i = .int .i64 k ∧ x = .int .i64 (rs a b P k) ∧ Own wr w.heap.size o (dl a b P k) ∧ Below w.heap.size w wr) (fun _ _ i _ => n - (intOf i).toNat)
  case atStart => exact ⟨0, by omega, rfl, rfl, Own.nil _ _, Below.refl _ _⟩
  case round =>
    obtain ⟨k, hk, rfl, rfl, hown, hb⟩ := hrel
    have HB := Lib.hid hb
    clear hb
    by_cases hlt : k < n
    · have HF := Lib.hid (H.out.rs k)
      have HD := Lib.hid (dl_succ a b P k)
      have HR := Lib.hid (show rs a b P (k + 1) = nx (rs a b P k) b P from rfl)
      have HDL := Lib.hid (dl_length a b P k)
      generalize rs a b P k = x at *
      go_wp2_with fail
      refine (rdigit_any x b P HF.out _).mono ?_
      rintro e _ ⟨rfl, rfl⟩
      generalize dg x b P = D at *
      go_wp2_with (at_builtin; refine wpList_append_new _ rfl _ _ 22 rfl Try.underlying22 w.heap.size u9 _ rfl hown (D : Int) rfl (by have := HDL.out; omega) HB.out.size ?_; intro v' w1 hown1 _ hb1)
      refine (rnext_any x b P HF.out _).mono ?_
      rintro e _ ⟨rfl, rfl⟩
      go_wp2_with fail
      go_roundw
      case rel => exact ⟨k + 1, by omega, by go_num, by rw [HR.out], by rw [HD.out]; exact hown1, HB.out.trans hb1⟩
      case measure => simp [intOf]; omega
    · obtain rfl : k = n := by omega
      go_wp2_with fail
      go_ret
      exact ⟨_, rfl, hown, HB.out⟩
end Go.Proofs.Ytdkobkghhnccgaa
