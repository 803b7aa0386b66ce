/- Walks of digits: step, Digits, Again of the program. -/
import Derived.Test.YtdkobkghhnccgaaDj
import Derived.Test.YtdkobkghhnccgaaZ
import Derived.Maps.OwnSet
import Derived.Maps.OwnOps
import Derived.DeepKeys4
import Derived.RegionTactic
namespace Go.Proofs.Ytdkobkghhnccgaa
open Go.RowKit
theorem isStruct86 : ∃ fs, Try.prog.underlying 86 = some (.struct fs) := ⟨_, Try.underlying86⟩
theorem keyed86 : Maps.Keyed Try.prog 86 := Maps.Keyed.of_law (deep_law_laid laidOut (m := 3) (by omega) (of_decide_eq_true (by kernel_rfl)) (by kernel_rfl) (by kernel_rfl))
theorem keyType86 : Try.prog.keyType 86 = true := by kernel_rfl
theorem cells86 : Try.prog.cellsOf 86 = 3 := by kernel_rfl
theorem lits86 (a b p : Int) (ha : (Lit.int .i64 a).wf = true) (hb : (Lit.int .i64 b).wf = true) (hp : (Lit.int .i64 p).wf = true) (n : Nat) :
    Try.prog.keyLits (n + 2) 86 [.int .i64 a, .int .i64 b, .int .i64 p] = some [.int .i64 a, .int .i64 b, .int .i64 p] := by
  simp [Program.keyLits, Try.underlying86, Try.underlying3, cells86, cells3, ha, hb, hp]
def rat (a b p : Int) : Value := .agg #[.int .i64 a, .int .i64 b, .int .i64 p]
def kl (a b p : Int) : Lit := .string (keyBytes [.int .i64 a, .int .i64 b, .int .i64 p])
theorem types86 : Try.prog.types.size + 1 = (Try.prog.types.size - 1) + 2 := by
  have : 1 ≤ Try.prog.types.size := of_decide_eq_true (by kernel_rfl)
  omega
theorem key86 (a b p : Int) (ha : (Lit.int .i64 a).wf = true) (hb : (Lit.int .i64 b).wf = true) (hp : (Lit.int .i64 p).wf = true) : keyOf Try.prog 86 (rat a b p) = some (kl a b p) := by
  unfold keyOf rat kl
  rw [Try.underlying86]
  simp only [keyType86, Bool.true_and]
  rw [if_pos (by simp [Value.formed, Try.underlying86, cells86]), types86]
  rw [show (Value.agg #[.int .i64 a, .int .i64 b, .int .i64 p]).cells.toList = [.int .i64 a, .int .i64 b, .int .i64 p] from rfl, lits86 a b p ha hb hp]
  rfl
theorem kl_inj {a a' b p : Int} (ha : (Lit.int .i64 a).wf = true) (ha' : (Lit.int .i64 a').wf = true) (hb : (Lit.int .i64 b).wf = true) (hp : (Lit.int .i64 p).wf = true) (h : kl a b p = kl a' b p) : a = a' := by
  have h1 := key86 a b p ha hb hp
  have h2 := key86 a' b p ha' hb hp
  rw [h] at h1
  have := keyed86.inj h1 h2
  simp [rat] at this
  exact this
set_option maxRecDepth 100000 in
set_option maxHeartbeats 8000000 in
theorem step_any (a b : Int) (P : Nat) (h : Frc a b P) (w : World) :
    Calls Try.prog 60 #[.agg #[.int .i64 a, .int .i64 b, .int .i64 P]] w fun e w' => e = .returned (.tuple #[.int .i64 (dg a b P : Nat), .agg #[.int .i64 (nx a b P), .int .i64 b, .int .i64 P]]) ∧ Below w.heap.size w w' := by
  obtain ⟨s1, s2, s3⟩ := dg_spec h.hP a b h.hb
  have h13 := h.hP.le
  have h2 := h.hP.pos
  have hb0 := h.b0
  have hb1 := h.b1
  have ha0 := h.a0
  have ha1 := h.a1
  have hn := nx_bd h.hP a b h.hb h.b0 h.b1 h.a0 h.a1
  have hn1 := hn.1
  have hn2 := hn.2
  have HTD := Lib.hid (nx_tdiv h)
  have HS2 := Lib.hid (dig_zero2.2 s2)
  have HS3 := Lib.hid (fun (d : Nat) (hd : d < dg a b P) (e : (a - (d : Int) * b).tmod P = 0) => s3 d hd (dig_zero2.1 e))
  clear s2 s3 h hn
  go_enter Try.func60, Try.ntmps60
  go_wp2_with fail
  have hDl : dg a b P ≤ 12 := by omega
  go_loop [4] (fun i => ∃ d : Nat, d ≤ dg a b P ∧ i = .int .i64 d) (fun i => dg a b P + 1 - (intOf i).toNat)
  case atStart => exact ⟨0, by omega, rfl⟩
  case round =>
    obtain ⟨d, hd, rfl⟩ := hrel
    have hm := mul_d (d := d) hb0 hb1 (by omega)
    rw [Int.mul_comm] at hm
    have hm1 := hm.1
    have hm2 := hm.2
    clear hm
    by_cases he : d = dg a b P
    · have hz : ((a - (d : Int) * b).tmod P != 0) = false := by rw [bne_eq_false_iff_eq, he]; exact HS2.out
      have ht : (a - (d : Int) * b).tdiv P = nx a b P := by rw [he]; exact HTD.out
      have HE := Lib.hid he
      clear he
      go_wp2_with fail
      have w1 : IntKind.i64.wrap ((d : Int) * b) = (d : Int) * b := IntWalk.i64_in _ (by omega)
      have w2 : IntKind.i64.wrap (a - (d : Int) * b) = a - (d : Int) * b := IntWalk.i64_in _ (by omega)
      have w3 : IntKind.i64.wrap (nx a b P) = nx a b P := IntWalk.i64_in _ (by omega)
      go_region
      all_goals (go_wp2_with fail)
      exact bodyPost_ret (v := .tuple #[.int .i64 d, .agg #[.int .i64 (nx a b P), .int .i64 b, .int .i64 P]]) (by simp [results, Try.results60, go_sem]) rfl ⟨by rw [HE.out], below_drew (((Below.refl _ _).alloc (Nat.le_refl _) _).alloc (by simp) _)⟩
    · have hz : ((a - (d : Int) * b).tmod P != 0) = true := by rw [bne_iff_ne]; exact HS3.out d (by omega)
      go_wp2_with fail
      go_round
      case rel => exact ⟨d + 1, by omega, by go_num⟩
      case measure => simp [intOf]; omega
end Go.Proofs.Ytdkobkghhnccgaa
