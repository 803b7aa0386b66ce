/- Walks of Fillings, of the program and of the reference. -/
import Derived.Test.YtpgpkgnljoedaaaEn
import Derived.Test.YtpgpkgnljoedaaaTurned
namespace Go.Proofs.Ytpgpkgnljoedaaa
open Go.RowKit

theorem fac_le : ∀ n, n ≤ 20 → fac n ≤ 2432902008176640000 ∧ 1 ≤ fac n := by decide +kernel
def apOk (l : List Int) : Bool := decide (ap l l.length ≤ 2432902008176640000)
theorem ap_all : ∀ n, n ≤ 20 → (allp n).all apOk = true := by decide +kernel
theorem ap_bd {l : List Int} (h : Part l) (hs : l.sum ≤ 20) : ap l l.length ≤ 2432902008176640000 := by
  obtain ⟨n, hn⟩ := Int.eq_ofNat_of_zero_le h.sum0
  have := List.all_eq_true.1 (ap_all n (by omega)) l (h.mem n hn)
  exact of_decide_eq_true this
/-- how many fillings -/
def fills (l : List Int) : Int := (fac l.sum.toNat : Int) / ap l l.length
theorem fac_max (s k : Nat) (h1 : s ≤ k) (h2 : k ≤ max s 1) : fac k = fac s := by
  by_cases h : k = s
  · rw [h]
  · obtain rfl : s = 0 := by omega
    obtain rfl : k = 1 := by omega
    rfl
theorem ediv_step (a p h : Int) (hp : 0 ≤ p) : a / p / h = a / (p * h) := Int.ediv_ediv_of_nonneg hp
theorem hrow_cells {w : World} {A : Option Addr} {c : Nat} {l : List Int} (h : IntsL w (.slice A (hooks l).length c) (hooks l)) (hp : Part l) (m : Nat) (hm : m < l.length) :
    ∃ ad A' c' y, A = some ad ∧ l.getD m 0 = (y : Nat) ∧ w.cell? (ad.add m) = some (.slice (some A') y c') ∧ y ≤ c' ∧ 1 ≤ y ∧ ∀ k, k < y → w.cell? (A'.add k) = some (.int .i64 (hook l m k)) := by
  obtain ⟨_, A0, c0, vs, e, hc, he, hr⟩ := h
  simp only [Value.slice.injEq] at e
  obtain ⟨rfl, _, rfl⟩ := e
  obtain ⟨ad, rfl, hbl, hcell⟩ := hr (by rw [hooks_length]; omega)
  have lm : m < vs.length := by rw [he.1, hooks_length]; exact hm
  have gm := List.getElem?_eq_getElem lm
  have hcs := hcell m _ gm
  have hi := (he.2 m _ _ gm (hooks_get l m hm)).1
  obtain ⟨y, hy⟩ := Int.eq_ofNat_of_zero_le (show 0 ≤ l.getD m 0 by have := (hp.at m hm).1; omega)
  have hy1 : 1 ≤ y := by have := (hp.at m hm).1; omega
  rw [show (l.getD m 0).toNat = y by omega] at hi
  generalize vs[m] = s at *
  obtain ⟨_, Ar, cr, rfl, hcr, hrr⟩ := hi
  rw [hkRow_length] at hcr hrr hcs
  obtain ⟨adr, rfl, _, hcellr⟩ := hrr (by omega)
  exact ⟨ad, adr, cr, y, rfl, hy, hcs, hcr, hy1, fun k hk => hcellr k _ (hkRow_get l m y k hk)⟩

set_option maxRecDepth 100000 in
set_option maxHeartbeats 16000000 in
theorem Fillings_yes (v : Value) (l : List Int) (h : Part l) (hs : l.sum ≤ 20) (w : World) (hv : Ints w v l) :
    Calls Try.prog 39 #[v] w fun e w' => e = .returned (.tuple #[.int .i64 (fills l), .int .i64 0]) ∧ Below w.heap.size w w' := by
  have HV := Lib.hid hv
  have HP := Lib.hid h
  have hl30 := h.len
  have HB := Lib.hid (ap_bd h hs)
  obtain ⟨s, hsn⟩ := Int.eq_ofNat_of_zero_le h.sum0
  have hs20 : s ≤ 20 := by omega
  have HFS := Lib.hid (fac_le s hs20)
  have HSN := Lib.hid hsn
  have hsum := fun W hW => sum_any v l h.1 (by omega) W hW
  rw [hsn] at hsum
  have HSUM := Lib.hid hsum
  have HVAL := Lib.hid (fun W hW => valid_yes v l h W hW)
  have HHK := Lib.hid (fun W hW => hooks_any v l h W hW)
  obtain ⟨_, A, cp, rfl, _, _⟩ := hv
  have d1 : decide ((20 : Int) < s) = false := decide_eq_false (by omega)
  have d1' : decide (20 < s) = false := decide_eq_false (by omega)
  clear h hs hsn hsum
  go_enter Try.func39, Try.ntmps39
  go_wp2_with fail
  refine (HVAL.out _ HV.out).mono ?_
  rintro e _ ⟨rfl, rfl⟩
  go_wp2_with fail
  refine (HSUM.out _ HV.out).mono ?_
  rintro e _ ⟨rfl, rfl⟩
  go_wp2_with fail
  go_loopw [5, 6] (fun o k wr => wr = w ∧ ∃ m : Nat, 1 ≤ m ∧ m ≤ max s 1 ∧ k = .int .i64 ((m : Int) + 1) ∧ o = .int .i64 (fac m : Nat)) (fun _ k _ => 30 - (intOf k).toNat)
  case atStart => exact ⟨rfl, 1, by omega, by omega, rfl, rfl⟩
  case round =>
    obtain ⟨rfl, m, hm1, hm2, rfl, rfl⟩ := hrel
    have hm20 : m ≤ 20 := by omega
    by_cases hlt : m < s
    · have dk : decide ((m : Int) + 1 ≤ s) = true := decide_eq_true (by omega)
      have dk' : decide (m + 1 ≤ s) = true := decide_eq_true (by omega)
      have hf1 := (fac_le (m + 1) (by omega)).1
      have HF := Lib.hid (show fac (m + 1) = fac m * (m + 1) from rfl)
      rw [HF.out] at hf1
      have hfi : ((fac m : Nat) : Int) * ((m : Int) + 1) ≤ 2432902008176640000 := by
        have : ((fac m * (m + 1) : Nat) : Int) ≤ 2432902008176640000 := by omega
        rw [Int.natCast_mul] at this
        exact this
      have hfz : 0 ≤ ((fac m : Nat) : Int) * ((m : Int) + 1) := Int.mul_nonneg (by omega) (by omega)
      clear hf1
      go_wp2_with fail
      refine (HSUM.out _ HV.out).mono ?_
      rintro e _ ⟨rfl, rfl⟩
      go_wp2_with fail
      go_roundw
      case rel => exact ⟨trivial, m + 1, by omega, by omega, by go_num, by rw [HF.out, Int.natCast_mul]; rfl⟩
      case measure => simp [intOf]; omega
    · have dk : decide ((m : Int) + 1 ≤ s) = false := decide_eq_false (by omega)
      have dk' : decide (m + 1 ≤ s) = false := decide_eq_false (by omega)
      rw [fac_max s m (by omega) hm2]
      go_wp2_with fail
      refine (HSUM.out _ HV.out).mono ?_
      rintro e _ ⟨rfl, rfl⟩
      go_wp2_with fail
      refine (HHK.out _ HV.out).mono ?_
      rintro e w1 ⟨vh, rfl, ih, hb⟩
      have HIH := Lib.hid ih
      obtain ⟨_, Ah, ch, vs, rfl, _, _, _⟩ := ih
      have hl1 := hooks_length l
      rw [hl1]
      have HBW := Lib.hid hb
      clear hl1 hb
      go_wp2_with fail
      go_loop [5, 32] (fun o i => ∃ m : Nat, m ≤ l.length ∧ i = .int .i64 m ∧ o = .int .i64 ((fac s : Int) / (ap l m))) (fun _ i => l.length - (intOf i).toNat)
      case atStart => exact ⟨0, Nat.zero_le _, rfl, by rw [ap, Int.ediv_one]⟩
      case round =>
        obtain ⟨m, hm, rfl, rfl⟩ := hrel
        by_cases hlt : m < l.length
        · obtain ⟨ad, A', c', y, rfl, hy, hcs, hyc, hy1, hcells⟩ := hrow_cells HIH.out HP.out m hlt
          have HY := Lib.hid hy
          have HCE := Lib.hid hcells
          have hyb : y ≤ 30 := by have := (HP.out.at m hlt).2; have := HY.out; omega
          have hap1 := ap_pos HP.out m hm
          clear hy hcells
          go_wp2_with fail
          go_loop [5, 38] (fun o j => ∃ k : Nat, k ≤ y ∧ j = .int .i64 k ∧ o = .int .i64 ((fac s : Int) / (ap l m * rp l m k))) (fun _ j => y - (intOf j).toNat)
          case atStart => exact ⟨0, Nat.zero_le _, rfl, by rw [rp, Int.mul_one]⟩
          case round =>
            obtain ⟨k, hk, rfl, rfl⟩ := hrel
            by_cases hky : k < y
            · have hcx := HCE.out k hky
              have hh := hook_pos HP.out m k hlt (by rw [HY.out]; omega)
              have hrp := rp_pos HP.out m hlt k (by rw [HY.out]; omega)
              have hway := ap_way HP.out m hlt (k + 1) (by rw [HY.out]; omega)
              have hwayk := ap_way HP.out m hlt k (by rw [HY.out]; omega)
              have hmul := Int.mul_le_mul hap1 hrp (by omega) (by omega)
              have HRP := Lib.hid (show rp l m (k + 1) = rp l m k * hook l m k from rfl)
              rw [HRP.out, ← Int.mul_assoc] at hway
              rw [Int.one_mul] at hmul
              have HST := Lib.hid (show ap l m * rp l m (k + 1) = ap l m * rp l m k * hook l m k by rw [HRP.out, Int.mul_assoc])
              have hhb : hook l m k ≤ 1000 := by
                unfold hook
                have := (HP.out.at m hlt).2
                have := cn_le l k l.length
                omega
              generalize hook l m k = h at *
              generalize ap l m * rp l m k = p at *
              have hb20 := HB.out
              have hd0 : (h == 0) = false := by rw [beq_eq_false_iff_ne]; omega
              have hed := ediv_step (fac s) p h (by omega)
              have HED := Lib.hid hed
              have hq0 : 0 ≤ (fac s : Int) / p := Int.ediv_nonneg (by omega) (by omega)
              have hq1 : (fac s : Int) / p ≤ fac s := Int.ediv_le_self _ (by omega)
              have hfs := HFS.out.1
              generalize (fac s : Int) / p = q at *
              have hqh : 0 ≤ q / h := Int.ediv_nonneg hq0 (by omega)
              have hqh1 : q / h ≤ q := Int.ediv_le_self _ hq0
              clear hed
              go_wp2_with fail
              go_round
              case rel => exact ⟨k + 1, by omega, by go_num, by rw [HST.out]; rw [HED.out]⟩
              case measure => simp [intOf]; omega
            · obtain rfl : k = y := by omega
              have HAP := Lib.hid (show ap l m * rp l m k = ap l (m + 1) from by rw [ap, show (l.getD m 0).toNat = k by have := HY.out; omega])
              go_wp2_with fail
              go_round
              case rel => exact ⟨m + 1, by omega, by go_num, by rw [HAP.out]⟩
              case measure => simp [intOf]; omega
        · obtain rfl : m = l.length := by omega
          have HF := Lib.hid (show fills l = (fac s : Int) / ap l l.length from by unfold fills; rw [HSN.out]; rfl)
          go_wp2_with fail
          go_ret2
          exact ⟨by rw [HF.out]; rfl, HBW.out⟩

set_option maxRecDepth 100000 in
set_option maxHeartbeats 16000000 in
theorem rFillings_any (v : Value) (l : List Int) (h : Part l) (hs : l.sum ≤ 20) (w : World) (hv : Ints w v l) :
    Calls Try.prog 42 #[v] w fun e w' => e = .returned (.int .i64 (fills l)) ∧ Below w.heap.size w w' := by
  have HV := Lib.hid hv
  have HP := Lib.hid h
  have hl30 := h.len
  have HB := Lib.hid (ap_bd h hs)
  obtain ⟨s, hsn⟩ := Int.eq_ofNat_of_zero_le h.sum0
  have hs20 : s ≤ 20 := by omega
  have HFS := Lib.hid (fac_le s hs20)
  have HSN := Lib.hid hsn
  have hsum := fun W hW => rSum_any v l h.1 (by omega) W hW
  rw [hsn] at hsum
  have HSUM := Lib.hid hsum
  have HHK := Lib.hid (fun W hW => rHooks_any v l h W hW)
  obtain ⟨_, A, cp, rfl, _, _⟩ := hv
  clear h hs hsn hsum
  go_enter Try.func42, Try.ntmps42
  go_wp2_with fail
  refine (HSUM.out _ HV.out).mono ?_
  rintro e _ ⟨rfl, rfl⟩
  go_wp2_with fail
  go_loop [3, 12] (fun o k => ∃ m : Nat, m ≤ s ∧ k = .int .i64 m ∧ o = .int .i64 (fac m : Nat)) (fun _ k => s - (intOf k).toNat)
  case atStart => exact ⟨0, by omega, rfl, rfl⟩
  case round =>
    obtain ⟨m, hm1, rfl, rfl⟩ := hrel
    by_cases hlt : m < s
    · have hf1 := (fac_le (m + 1) (by omega)).1
      have HF := Lib.hid (show fac (m + 1) = fac m * (m + 1) from rfl)
      rw [HF.out] at hf1
      have hfi : ((fac m : Nat) : Int) * ((m : Int) + 1) ≤ 2432902008176640000 := by
        have : ((fac m * (m + 1) : Nat) : Int) ≤ 2432902008176640000 := by omega
        rw [Int.natCast_mul] at this
        exact this
      have hfz : 0 ≤ ((fac m : Nat) : Int) * ((m : Int) + 1) := Int.mul_nonneg (by omega) (by omega)
      clear hf1
      go_wp2_with fail
      go_round
      case rel => exact ⟨m + 1, by omega, by go_num, by rw [HF.out, Int.natCast_mul]; rfl⟩
      case measure => simp [intOf]; omega
    · obtain ⟨S, hS⟩ : ∃ S, S = m := ⟨_, rfl⟩
      obtain rfl : S = s := by omega
      rw [← hS]
      clear hS
      go_wp2_with fail
      refine (HHK.out _ HV.out).mono ?_
      rintro e w1 ⟨vh, rfl, ih, hb⟩
      have HIH := Lib.hid ih
      obtain ⟨_, Ah, ch, vs, rfl, _, _, _⟩ := ih
      have hl1 := hooks_length l
      rw [hl1]
      have HBW := Lib.hid hb
      clear hl1 hb
      go_wp2_with fail
      go_loop [4, 23] (fun o i => ∃ m : Nat, m ≤ l.length ∧ i = .int .i64 m ∧ o = .int .i64 (ap l m)) (fun _ i => l.length - (intOf i).toNat)
      case atStart => exact ⟨0, Nat.zero_le _, rfl, by rfl⟩
      case round =>
        obtain ⟨m, hm, rfl, rfl⟩ := hrel
        by_cases hlt : m < l.length
        · obtain ⟨ad, A', c', y, rfl, hy, hcs, hyc, hy1, hcells⟩ := hrow_cells HIH.out HP.out m hlt
          have HY := Lib.hid hy
          have HCE := Lib.hid hcells
          have hyb : y ≤ 30 := by have := (HP.out.at m hlt).2; have := HY.out; omega
          have hap1 := ap_pos HP.out m hm
          clear hy hcells
          go_wp2_with fail
          go_loop [4, 29] (fun o j => ∃ k : Nat, k ≤ y ∧ j = .int .i64 k ∧ o = .int .i64 (ap l m * rp l m k)) (fun _ j => y - (intOf j).toNat)
          case atStart => exact ⟨0, Nat.zero_le _, rfl, by rw [rp, Int.mul_one]⟩
          case round =>
            obtain ⟨k, hk, rfl, rfl⟩ := hrel
            by_cases hky : k < y
            · have hcx := HCE.out k hky
              have hh := hook_pos HP.out m k hlt (by rw [HY.out]; omega)
              have hrp := rp_pos HP.out m hlt k (by rw [HY.out]; omega)
              have hway := ap_way HP.out m hlt (k + 1) (by rw [HY.out]; omega)
              have hwayk := ap_way HP.out m hlt k (by rw [HY.out]; omega)
              have hmul := Int.mul_le_mul hap1 hrp (by omega) (by omega)
              have HRP := Lib.hid (show rp l m (k + 1) = rp l m k * hook l m k from rfl)
              rw [HRP.out, ← Int.mul_assoc] at hway
              rw [Int.one_mul] at hmul
              have HST := Lib.hid (show ap l m * rp l m (k + 1) = ap l m * rp l m k * hook l m k by rw [HRP.out, Int.mul_assoc])
              have hhb : hook l m k ≤ 1000 := by
                unfold hook
                have := (HP.out.at m hlt).2
                have := cn_le l k l.length
                omega
              generalize hook l m k = h at *
              generalize ap l m * rp l m k = p at *
              have hb20 := HB.out
              have hp0 : 0 ≤ p * h := Int.mul_nonneg (by omega) (by omega)
              go_wp2_with fail
              go_round
              case rel => exact ⟨k + 1, by omega, by go_num, by rw [HST.out]⟩
              case measure => simp [intOf]; omega
            · obtain rfl : k = y := by omega
              have HAP := Lib.hid (show ap l m * rp l m k = ap l (m + 1) from by rw [ap, show (l.getD m 0).toNat = k by have := HY.out; omega])
              go_wp2_with fail
              go_round
              case rel => exact ⟨m + 1, by omega, by go_num, by rw [HAP.out]⟩
              case measure => simp [intOf]; omega
        · obtain rfl : m = l.length := by omega
          have hap := ap_pos HP.out l.length (Nat.le_refl _)
          have HF := Lib.hid (show fills l = (fac S : Int) / ap l l.length from by unfold fills; rw [HSN.out]; rfl)
          have hd0 : (ap l l.length == 0) = false := by rw [beq_eq_false_iff_ne]; omega
          have hb20 := HB.out
          have hfs := HFS.out.1
          have hq0 : 0 ≤ (fac S : Int) / ap l l.length := Int.ediv_nonneg (by omega) (by omega)
          have hq1 : (fac S : Int) / ap l l.length ≤ fac S := Int.ediv_le_self _ (by omega)
          generalize ap l l.length = p at *
          go_wp2_with fail
          go_ret
          exact ⟨by rw [HF.out]; rfl, HBW.out⟩

set_option maxHeartbeats 2000000 in
theorem Fillings_no (v : Value) (l : List Int) (h : ¬ (Part l ∧ l.sum ≤ 20)) (w : World) (hv : Ints w v l) :
    Calls Try.prog 39 #[v] w fun e w' => e = .returned (.tuple #[.int .i64 0, .int .i64 2]) ∧ w = w' := by
  have HV := Lib.hid hv
  have HN := Lib.hid h
  clear h
  by_cases hp : Part l
  · have hs : 20 < l.sum := by
      rcases Int.lt_or_le 20 l.sum with h | h
      · exact h
      · exact absurd ⟨hp, h⟩ HN.out
    have hl30 := hp.len
    have HSUM := Lib.hid (fun W hW => sum_any v l hp.1 (by omega) W hW)
    have HVAL := Lib.hid (fun W hW => valid_yes v l hp W hW)
    obtain ⟨_, A, cp, rfl, _, _⟩ := hv
    have h30 := hp.2
    have d1 : decide (20 < l.sum) = true := decide_eq_true hs
    clear hp
    generalize l.sum = s at *
    go_enter Try.func39, Try.ntmps39
    go_wp2_with fail
    refine (HVAL.out _ HV.out).mono ?_
    rintro e _ ⟨rfl, rfl⟩
    go_wp2_with fail
    refine (HSUM.out _ HV.out).mono ?_
    rintro e _ ⟨rfl, rfl⟩
    go_wp2_with fail
    go_ret2
    exact ⟨rfl, rfl⟩
  · have HVAL := Lib.hid (fun W hW => valid_no v l hp W hW)
    obtain ⟨_, A, cp, rfl, _, _⟩ := hv
    clear hp
    go_enter Try.func39, Try.ntmps39
    go_wp2_with fail
    refine (HVAL.out _ HV.out).mono ?_
    rintro e _ ⟨rfl, rfl⟩
    go_wp2_with fail
    go_ret2
    exact ⟨rfl, rfl⟩
end Go.Proofs.Ytpgpkgnljoedaaa
