/- The walk of LiftOnly. -/
import Derived.Test.YtdkobkghhnccgaaLo
namespace Go.Proofs.Ytdkobkghhnccgaa
open Go.RowKit
/-- how many of the first m are r modulo P -/
def cntP (L : List Int) (P : Nat) (r : Int) (m : Nat) : Nat := ((L.take m).filter fun x => x % P == r).length
theorem cntP_yes {L : List Int} {P : Nat} {r : Int} {m : Nat} (hm : m < L.length) (h : L.getD m 0 % P = r) : cntP L P r (m + 1) = cntP L P r m + 1 := by
  unfold cntP
  rw [List.take_succ_eq_append_getElem hm, List.filter_append]
  have : L[m] % P = r := by simpa [hm] using h
  simp [this]
theorem cntP_no {L : List Int} {P : Nat} {r : Int} {m : Nat} (hm : m < L.length) (h : ¬ L.getD m 0 % P = r) : cntP L P r (m + 1) = cntP L P r m := by
  unfold cntP
  rw [List.take_succ_eq_append_getElem hm, List.filter_append]
  have : ¬ L[m] % P = r := by simpa [hm] using h
  simp [this]
theorem cntP_le (L : List Int) (P : Nat) (r : Int) (m : Nat) : cntP L P r m ≤ L.length := by
  unfold cntP
  refine Nat.le_trans (List.length_filter_le _ _) (by rw [List.length_take]; omega)
theorem cnt_one {f : List Int} {P : Nat} {r : Int} {j : Nat} {R : Int} (h0 : IsLift f P r j R) (h : ∀ x, IsLift f P r j x → x = R) : cntP (rootsL f (pn P j)) P r (rootsL f (pn P j)).length = 1 := by
  unfold cntP
  rw [List.take_length]
  have hn : ((rootsL f (pn P j)).filter fun x => x % P == r).Nodup := (nodup_of_lt (rootsL_lt f _)).filter _
  have : ((rootsL f (pn P j)).filter fun x => x % P == r).Perm [R] := (List.perm_ext_iff_of_nodup hn (by simp)).2 fun x => by
    rw [List.mem_filter, List.mem_singleton, mem_rootsL]
    constructor
    · rintro ⟨⟨a, b, c⟩, d⟩
      exact h x ⟨a, b, c, by simpa using d⟩
    · rintro rfl
      exact ⟨⟨h0.1, h0.2.1, h0.2.2.1⟩, by simpa using h0.2.2.2⟩
  exact this.length_eq
theorem lift_down {f : List Int} {P : Nat} {r : Int} {j k : Nat} {R R2 : Int} (hP : isP P) (hj : 1 ≤ j) (hjk : j ≤ k) (h0 : IsLift f P r k R) (h : ∀ x, IsLift f P r j x → x = R2) : R % (pn P j : Nat) = R2 := by
  have h2 := hP.pos
  have hd := roots_down f P j k (by omega) hjk R (mem_rootsL.2 ⟨h0.1, h0.2.1, h0.2.2.1⟩)
  rw [mem_rootsL] at hd
  refine h _ ⟨hd.1, hd.2.1, hd.2.2, ?_⟩
  have hpm : (P : Int) ∣ (pn P j : Nat) := by have := pn_dvd P 1 j hj; rwa [pn_one] at this
  rw [Int.emod_emod_of_dvd _ hpm]
  exact h0.2.2.2
set_option maxRecDepth 100000 in
set_option maxHeartbeats 16000000 in
theorem liftOnly_bad (v : Value) (f : List Int) (p k r : Int) (h : ¬ LiftOk f p k r) (w : World) (hv : Ints w v f) :
    Calls Try.prog 8 #[v, .int .i64 p, .int .i64 k, .int .i64 r] w fun e w' => e = .returned (.bool true) ∧ Below w.heap.size w w' := by
  have HV := Lib.hid hv
  have HN := Lib.hid h
  obtain ⟨_, A, c, rfl, _, _⟩ := hv
  clear h
  by_cases hp : PK p k ∧ Poly f
  · obtain ⟨⟨P, K, rfl, rfl, hP, hK, hq⟩, hf⟩ := hp
    have HF := Lib.hid hf
    have HP := Lib.hid hP
    have HQ := Lib.hid hq
    clear hP hf hq
    go_enter Try.func8, Try.ntmps8
    go_wp2_with fail
    refine (list_any _ f _ HV.out).mono ?_
    rintro e w1 ⟨v1, rfl, o1, b1⟩
    have hb1 := b1
    go_wp2_with fail
    refine (Lift_arg _ _ _ P K r (fun hh => HN.out hh.take) _ o1).mono ?_
    rintro e w2 ⟨rfl, b2⟩
    have hb2 := hb1.trans (b2.mono hb1.size)
    go_wp2_with fail
    refine (list_any _ f _ (HV.out.keep hb2)).mono ?_
    rintro e w3 ⟨v3, rfl, o3, b3⟩
    have hb3 := hb2.trans (b3.mono hb2.size)
    go_wp2_with fail
    refine (Roots_yes _ _ (f.take 9) P K HP.out hK HQ.out (Poly.take.2 HF.out) _ o3).mono ?_
    rintro e w4 ⟨v4, rfl, o4, b4⟩
    have hb4 := hb3.trans (b4.mono hb3.size)
    have I4 := Lib.hid (o4.ints (by have := rootsL_le (f.take 9) (pn P K); have := HQ.out; omega))
    obtain ⟨_, A4, c4, rfl, _, hcr4⟩ := I4.out
    have HCR4 := Lib.hid hcr4
    have O4 := Lib.hid o4
    clear b4 o4 hcr4
    go_wp2_with fail
    go_wp2_with fail
    (with_reducible refine (awake_any _).mono ?_)
    rintro e wz ⟨rfl, bz⟩
    have hb9 := hb4.trans (bz.mono hb4.size)
    go_wp2_with fail
    go_ret
    exact ⟨rfl, hb9⟩
  · have HPF := Lib.hid hp
    clear hp
    go_enter Try.func8, Try.ntmps8
    go_wp2_with fail
    refine (list_any _ f _ HV.out).mono ?_
    rintro e w1 ⟨v1, rfl, o1, b1⟩
    have hb1 := b1
    go_wp2_with fail
    refine (Lift_arg _ _ _ p k r (fun hh => HN.out hh.take) _ o1).mono ?_
    rintro e w2 ⟨rfl, b2⟩
    have hb2 := hb1.trans (b2.mono hb1.size)
    go_wp2_with fail
    refine (list_any _ f _ (HV.out.keep hb2)).mono ?_
    rintro e w3 ⟨v3, rfl, o3, b3⟩
    have hb3 := hb2.trans (b3.mono hb2.size)
    go_wp2_with fail
    refine (Roots_no _ _ _ p k (fun hh => HPF.out ⟨hh.1, Poly.take.1 hh.2⟩) _ o3).mono ?_
    rintro e w4 ⟨rfl, b4⟩
    have hb4 := hb3.trans (b4.mono hb3.size)
    go_wp2_with fail
    go_wp2_with fail
    (with_reducible refine (awake_any _).mono ?_)
    rintro e wz ⟨rfl, bz⟩
    have hb9 := hb4.trans (bz.mono hb4.size)
    go_wp2_with fail
    go_ret
    exact ⟨rfl, hb9⟩
set_option maxRecDepth 100000 in
set_option maxHeartbeats 16000000 in
theorem liftOnly_state (v : Value) (f : List Int) (P K : Nat) (r : Int) (hP : isP P) (hK : 1 ≤ K) (hq : pn P K ≤ 20000) (hf : Poly f) (hr0 : 0 ≤ r) (hr1 : r < P) (he : ev f r % P = 0) (hd : ev (dv f) r % P = 0) (w : World) (hv : Ints w v f) :
    Calls Try.prog 8 #[v, .int .i64 P, .int .i64 K, .int .i64 r] w fun e w' => e = .returned (.bool true) ∧ Below w.heap.size w w' := by
  have HV := Lib.hid hv
  have HF := Lib.hid hf
  have HP := Lib.hid hP
  have HQ := Lib.hid hq
  have HE := Lib.hid he
  have HD := Lib.hid hd
  have hl7 := hf.2.2.1
  have HT := Lib.hid (show f.take 9 = f from List.take_of_length_le (by omega))
  obtain ⟨_, A, c, rfl, _, _⟩ := hv
  clear hP hf hq he hd
  go_enter Try.func8, Try.ntmps8
  go_wp2_with fail
  refine (list_any _ f _ HV.out).mono ?_
  rintro e w1 ⟨v1, rfl, o1, b1⟩
  have hb1 := b1
  go_wp2_with fail
  refine (Lift_state _ _ (f.take 9) P K HP.out hK HQ.out (by rw [HT.out]; exact HF.out) r hr0 hr1 (by rw [HT.out]; exact HE.out) (by rw [HT.out]; exact HD.out) _ o1).mono ?_
  rintro e w2 ⟨rfl, b2⟩
  have hb2 := hb1.trans (b2.mono hb1.size)
  go_wp2_with fail
  refine (list_any _ f _ (HV.out.keep hb2)).mono ?_
  rintro e w3 ⟨v3, rfl, o3, b3⟩
  have hb3 := hb2.trans (b3.mono hb2.size)
  go_wp2_with fail
  refine (Roots_yes _ _ (f.take 9) P K HP.out hK HQ.out (Poly.take.2 HF.out) _ o3).mono ?_
  rintro e w4 ⟨v4, rfl, o4, b4⟩
  have hb4 := hb3.trans (b4.mono hb3.size)
  have I4 := Lib.hid (o4.ints (by have := rootsL_le (f.take 9) (pn P K); have := HQ.out; omega))
  obtain ⟨_, A4, c4, rfl, _, hcr4⟩ := I4.out
  have HCR4 := Lib.hid hcr4
  have O4 := Lib.hid o4
  clear b4 o4 hcr4
  go_wp2_with fail
  go_wp2_with fail
  (with_reducible refine (awake_any _).mono ?_)
  rintro e wz ⟨rfl, bz⟩
  have hb9 := hb4.trans (bz.mono hb4.size)
  go_wp2_with fail
  go_ret
  exact ⟨rfl, hb9⟩

set_option maxRecDepth 100000 in
set_option maxHeartbeats 32000000 in
theorem liftOnly_one (v : Value) (f : List Int) (P K : Nat) (r : Int) (hP : isP P) (hK : 1 ≤ K) (hq : pn P K ≤ 20000) (hf : Poly f) (hs : Simple f P r) (h1 : K < 2) (w : World) (hv : Ints w v f) :
    Calls Try.prog 8 #[v, .int .i64 P, .int .i64 K, .int .i64 r] w fun e w' => e = .returned (.bool true) ∧ Below w.heap.size w w' := by
  have HV := Lib.hid hv
  have HF := Lib.hid hf
  have HP := Lib.hid hP
  have HQ := Lib.hid hq
  have HS := Lib.hid hs
  obtain ⟨R, hR0, hR⟩ := lift_ex hP hs K hK
  have HR0 := Lib.hid hR0
  have HR := Lib.hid hR
  have h2 := hP.pos
  have h13 := hP.le
  have hK14 := pn_k h2 hq
  have hl7 := hf.2.2.1
  have HT := Lib.hid (show f.take 9 = f from List.take_of_length_le (by omega))
  have hq0 := pn_pos (show 0 < P by omega) K
  have hqb : (((pn P K : Nat) : Int) == 0) = false := by rw [beq_eq_false_iff_ne]; omega
  have hqb2 : ((pn P K) == 0) = false := by rw [beq_eq_false_iff_ne]; omega
  obtain ⟨_, A, c, rfl, _, _⟩ := hv
  clear hP hf hs hR0 hR

  go_enter Try.func8, Try.ntmps8
  go_wp2_with fail
  refine (list_any _ f _ HV.out).mono ?_
  rintro e w1 ⟨v1, rfl, o1, b1⟩
  have hb1 := b1
  rw [HT.out] at o1
  go_wp2_with fail
  refine (Lift_yes _ _ f P K HP.out hK HQ.out HF.out r HS.out R HR.out _ o1).mono ?_
  rintro e w2 ⟨rfl, b2⟩
  have hb2 := hb1.trans (b2.mono hb1.size)
  go_wp2_with fail
  refine (list_any _ f _ (HV.out.keep hb2)).mono ?_
  rintro e w3 ⟨v3, rfl, o3, b3⟩
  have hb3 := hb2.trans (b3.mono hb2.size)
  go_wp2_with fail
  rw [HT.out] at o3
  refine (Roots_yes _ _ f P K HP.out hK HQ.out HF.out _ o3).mono ?_
  rintro e w4 ⟨v4, rfl, o4, b4⟩
  have hb4 := hb3.trans (b4.mono hb3.size)
  have I4 := Lib.hid (o4.ints (by have := rootsL_le f (pn P K); have := HQ.out; omega))
  obtain ⟨_, A4, c4, rfl, _, hcr4⟩ := I4.out
  have HCR4 := Lib.hid hcr4
  have O4 := Lib.hid o4
  clear b4 o4 hcr4
  go_wp2_with fail
  refine (rPower_yes P K HP.out hK HQ.out _).mono ?_
  rintro e _ ⟨rfl, rfl⟩
  go_wp2_with fail
  clear hqb hqb2
  have HC1 := Lib.hid (cnt_one HR0.out HR.out)
  have HRM := Lib.hid (mem_contains (show R ∈ rootsL f (pn P K) from mem_rootsL.2 ⟨HR0.out.1, HR0.out.2.1, HR0.out.2.2.1⟩))
  have HNN := Lib.hid (fun i (hi : i < (rootsL f (pn P K)).length) => (mem_rootsL.1 (rootsL_at f (pn P K) i hi)).1)
  have hlen := rootsL_le f (pn P K)
  generalize rootsL f (pn P K) = L at *
  go_loop [13, 58] (fun c i => ∃ m : Nat, m ≤ L.length ∧ i = .int .i64 m ∧ c = .int .i64 (cntP L P r m : Nat)) (fun _ i => L.length - (intOf i).toNat)
  case atStart => exact ⟨0, by omega, rfl, by simp [cntP]⟩
  case round =>
    obtain ⟨m, hm5, rfl, rfl⟩ := hrel
    by_cases hlt : m < L.length
    · obtain ⟨ad4, rfl, _, hcell4⟩ := HCR4.out (by omega)
      have hcx := hcell4 m _ (getD_get L m hlt)
      have hx0 := HNN.out m hlt
      have HY := Lib.hid (fun h => cntP_yes (P := P) (r := r) hlt h)
      have HNO := Lib.hid (fun h => cntP_no (P := P) (r := r) hlt h)
      have hcl := cntP_le L P r m
      clear hcell4
      generalize L.getD m 0 = x at *
      by_cases he : x % (P : Int) = r
      · have hee : (x % (P : Int) == r) = true := by rw [beq_iff_eq]; exact he
        have HX := Lib.hid (HY.out he)
        clear he
        generalize cntP L P r m = cc at *
        go_wp2_with fail
        go_round
        case rel => exact ⟨m + 1, by omega, by go_num, by rw [HX.out]; go_num⟩
        case measure => simp [intOf]; omega
      · have hee : (x % (P : Int) == r) = false := by rw [beq_eq_false_iff_ne]; exact he
        have HX := Lib.hid (HNO.out he)
        clear he
        generalize cntP L P r m = cc at *
        go_wp2_with fail
        go_round
        case rel => exact ⟨m + 1, by omega, by go_num, by rw [HX.out]⟩
        case measure => simp [intOf]; omega
    · obtain rfl : m = L.length := by omega
      rw [HC1.out]
      have hRr : (R % (P : Int) != r) = false := by rw [bne_eq_false_iff_eq]; exact HR0.out.2.2.2
      have hR00 := HR0.out.1
      go_wp2_with fail
      refine (contains_own _ _ _ R _ O4.out).mono ?_
      rintro e _ ⟨rfl, rfl⟩
      rw [HRM.out]
      have k1 : decide ((K : Int) < 2) = true := decide_eq_true (by omega)
      have k1' : decide (K < 2) = true := decide_eq_true (by omega)
      go_wp2_with fail
      (with_reducible refine (awake_any _).mono ?_)
      rintro e wz ⟨rfl, bz⟩
      have hb9 := hb4.trans (bz.mono hb4.size)
      go_wp2_with fail
      go_ret
      exact ⟨rfl, hb9⟩

set_option maxRecDepth 100000 in
set_option maxHeartbeats 32000000 in
theorem liftOnly_two (v : Value) (f : List Int) (P K : Nat) (r : Int) (hP : isP P) (hK : 1 ≤ K) (hq : pn P K ≤ 20000) (hf : Poly f) (hs : Simple f P r) (h1 : 2 ≤ K) (w : World) (hv : Ints w v f) :
    Calls Try.prog 8 #[v, .int .i64 P, .int .i64 K, .int .i64 r] w fun e w' => e = .returned (.bool true) ∧ Below w.heap.size w w' := by
  have HV := Lib.hid hv
  have HF := Lib.hid hf
  have HP := Lib.hid hP
  have HQ := Lib.hid hq
  have HS := Lib.hid hs
  obtain ⟨R, hR0, hR⟩ := lift_ex hP hs K hK
  have HR0 := Lib.hid hR0
  have HR := Lib.hid hR
  have h2 := hP.pos
  have h13 := hP.le
  have hK14 := pn_k h2 hq
  have hl7 := hf.2.2.1
  have HT := Lib.hid (show f.take 9 = f from List.take_of_length_le (by omega))
  have hq0 := pn_pos (show 0 < P by omega) K
  have hqb : (((pn P K : Nat) : Int) == 0) = false := by rw [beq_eq_false_iff_ne]; omega
  have hqb2 : ((pn P K) == 0) = false := by rw [beq_eq_false_iff_ne]; omega
  obtain ⟨_, A, c, rfl, _, _⟩ := hv
  clear hP hf hs hR0 hR
  obtain ⟨K2, hkk⟩ : ∃ K2 : Nat, (K : Int) - 1 = K2 := ⟨K - 1, by omega⟩
  have hK21 : 1 ≤ K2 := by omega
  have hK22 : K2 < K := by omega
  go_enter Try.func8, Try.ntmps8
  go_wp2_with fail
  refine (list_any _ f _ HV.out).mono ?_
  rintro e w1 ⟨v1, rfl, o1, b1⟩
  have hb1 := b1
  rw [HT.out] at o1
  go_wp2_with fail
  refine (Lift_yes _ _ f P K HP.out hK HQ.out HF.out r HS.out R HR.out _ o1).mono ?_
  rintro e w2 ⟨rfl, b2⟩
  have hb2 := hb1.trans (b2.mono hb1.size)
  go_wp2_with fail
  refine (list_any _ f _ (HV.out.keep hb2)).mono ?_
  rintro e w3 ⟨v3, rfl, o3, b3⟩
  have hb3 := hb2.trans (b3.mono hb2.size)
  go_wp2_with fail
  rw [HT.out] at o3
  refine (Roots_yes _ _ f P K HP.out hK HQ.out HF.out _ o3).mono ?_
  rintro e w4 ⟨v4, rfl, o4, b4⟩
  have hb4 := hb3.trans (b4.mono hb3.size)
  have I4 := Lib.hid (o4.ints (by have := rootsL_le f (pn P K); have := HQ.out; omega))
  obtain ⟨_, A4, c4, rfl, _, hcr4⟩ := I4.out
  have HCR4 := Lib.hid hcr4
  have O4 := Lib.hid o4
  clear b4 o4 hcr4
  go_wp2_with fail
  refine (rPower_yes P K HP.out hK HQ.out _).mono ?_
  rintro e _ ⟨rfl, rfl⟩
  go_wp2_with fail
  clear hqb hqb2
  have HC1 := Lib.hid (cnt_one HR0.out HR.out)
  have HRM := Lib.hid (mem_contains (show R ∈ rootsL f (pn P K) from mem_rootsL.2 ⟨HR0.out.1, HR0.out.2.1, HR0.out.2.2.1⟩))
  have HNN := Lib.hid (fun i (hi : i < (rootsL f (pn P K)).length) => (mem_rootsL.1 (rootsL_at f (pn P K) i hi)).1)
  have hlen := rootsL_le f (pn P K)
  generalize rootsL f (pn P K) = L at *
  go_loop [13, 58] (fun c i => ∃ m : Nat, m ≤ L.length ∧ i = .int .i64 m ∧ c = .int .i64 (cntP L P r m : Nat)) (fun _ i => L.length - (intOf i).toNat)
  case atStart => exact ⟨0, by omega, rfl, by simp [cntP]⟩
  case round =>
    obtain ⟨m, hm5, rfl, rfl⟩ := hrel
    by_cases hlt : m < L.length
    · obtain ⟨ad4, rfl, _, hcell4⟩ := HCR4.out (by omega)
      have hcx := hcell4 m _ (getD_get L m hlt)
      have hx0 := HNN.out m hlt
      have HY := Lib.hid (fun h => cntP_yes (P := P) (r := r) hlt h)
      have HNO := Lib.hid (fun h => cntP_no (P := P) (r := r) hlt h)
      have hcl := cntP_le L P r m
      clear hcell4
      generalize L.getD m 0 = x at *
      by_cases he : x % (P : Int) = r
      · have hee : (x % (P : Int) == r) = true := by rw [beq_iff_eq]; exact he
        have HX := Lib.hid (HY.out he)
        clear he
        generalize cntP L P r m = cc at *
        go_wp2_with fail
        go_round
        case rel => exact ⟨m + 1, by omega, by go_num, by rw [HX.out]; go_num⟩
        case measure => simp [intOf]; omega
      · have hee : (x % (P : Int) == r) = false := by rw [beq_eq_false_iff_ne]; exact he
        have HX := Lib.hid (HNO.out he)
        clear he
        generalize cntP L P r m = cc at *
        go_wp2_with fail
        go_round
        case rel => exact ⟨m + 1, by omega, by go_num, by rw [HX.out]⟩
        case measure => simp [intOf]; omega
    · obtain rfl : m = L.length := by omega
      rw [HC1.out]
      have hRr : (R % (P : Int) != r) = false := by rw [bne_eq_false_iff_eq]; exact HR0.out.2.2.2
      have hR00 := HR0.out.1
      go_wp2_with fail
      refine (contains_own _ _ _ R _ O4.out).mono ?_
      rintro e _ ⟨rfl, rfl⟩
      rw [HRM.out]
      have k1 : decide ((K : Int) < 2) = false := decide_eq_false (by omega)
      have k1' : decide (K < 2) = false := decide_eq_false (by omega)
      obtain ⟨R2, hR20, hR2⟩ := lift_ex HP.out HS.out K2 hK21
      have HR2 := Lib.hid hR2
      have HQ2 := Lib.hid (Nat.le_trans (pn_mono (p := P) (by omega) K2 K (by omega)) HQ.out)
      have HLD := Lib.hid (lift_down HP.out hK21 (show K2 ≤ K by omega) HR0.out hR2)
      have HM := Lib.hid (fun i (hi : i ≤ K2) => (Nat.le_trans (pn_mono (p := P) (by omega) i K2 hi) HQ2.out : pn P i ≤ 20000))
      have hqp := pn_pos (show 0 < P by omega) K2
      have HFV := Lib.hid (HV.out.keep hb4)
      clear hR20 hR2
      go_wp2_with fail
      refine (list_any _ f _ HFV.out).mono ?_
      rintro e w5 ⟨v5, rfl, o5, b5⟩
      have hb5 := hb4.trans (b5.mono hb4.size)
      rw [HT.out] at o5
      clear b5
      go_wp2_with fail
      refine (Lift_yes _ _ f P K2 HP.out hK21 HQ2.out HF.out r HS.out R2 HR2.out _ o5).mono ?_
      rintro e w6 ⟨rfl, b6⟩
      have hb6 := hb5.trans (b6.mono hb5.size)
      clear b6
      go_wp2_with fail
      clear k1 k1'
      go_loop [17, 104] (fun o i => ∃ k : Nat, k ≤ K2 ∧ i = .int .i64 k ∧ o = .int .i64 (pn P k : Nat)) (fun _ i => K2 - (intOf i).toNat)
      case atStart => exact ⟨0, by omega, rfl, rfl⟩
      case round =>
        obtain ⟨k, hk, rfl, rfl⟩ := hrel
        by_cases hlt : k < K2
        · have hb1 := HM.out (k + 1) hlt
          have hb0 := HM.out k (by omega)
          have HE := Lib.hid (show ((pn P k : Nat) : Int) * (P : Int) = (pn P (k + 1) : Nat) by rw [pn]; simp)
          have hpb := prod_bd hb0 h13
          have hpb1 := hpb.1
          have hpb2 := hpb.2
          clear hpb
          generalize pn P k = a at *
          go_wp2_with fail
          go_round
          case rel => exact ⟨k + 1, by omega, by go_num, by rw [HE.out]⟩
          case measure => simp [intOf]; omega
        · obtain rfl : k = K2 := by omega
          have hld : (R % ((pn P k : Nat) : Int) == R2) = true := by rw [beq_iff_eq]; exact HLD.out
          clear hkk
          go_wp2_with fail
          (with_reducible refine (awake_any _).mono ?_)
          rintro e wz ⟨rfl, bz⟩
          have hb9 := hb6.trans (bz.mono hb6.size)
          go_wp2_with fail
          go_ret
          exact ⟨rfl, hb9⟩

/-- The walk of LiftOnly. -/
theorem liftOnly_walk (w : World) (v : Value) (f : List Int) (hv : Ints w v f) (_ : ∀ n ∈ f, -9223372036854775808 ≤ n ∧ n ≤ 9223372036854775807) (p : Int) (_ : -9223372036854775808 ≤ p ∧ p ≤ 9223372036854775807) (k : Int) (_ : -9223372036854775808 ≤ k ∧ k ≤ 9223372036854775807) (r : Int) (_ : -9223372036854775808 ≤ r ∧ r ≤ 9223372036854775807) :
    Calls Try.prog 8 #[v, .int .i64 p, .int .i64 k, .int .i64 r] w fun e w' => e = .returned (.bool true) ∧ Below w.heap.size w w' := by
  by_cases h : LiftOk f p k r
  · obtain ⟨⟨P, K, rfl, rfl, hP, hK, hq⟩, hf, h0, h1, he⟩ := h
    by_cases hd : ev (dv f) r % P = 0
    · exact liftOnly_state v f P K r hP hK hq hf h0 h1 he hd w hv
    · by_cases hk : K < 2
      · exact liftOnly_one v f P K r hP hK hq hf ⟨h0, h1, he, hd⟩ hk w hv
      · exact liftOnly_two v f P K r hP hK hq hf ⟨h0, h1, he, hd⟩ (by omega) w hv
  · exact liftOnly_bad v f p k r h w hv
end Go.Proofs.Ytdkobkghhnccgaa
