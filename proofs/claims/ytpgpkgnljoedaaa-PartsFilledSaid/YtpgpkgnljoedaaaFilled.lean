/- The walk of PartsFilled. -/
import Derived.Test.YtpgpkgnljoedaaaFk
import Derived.Test.YtpgpkgnljoedaaaRl
namespace Go.Proofs.Ytpgpkgnljoedaaa
open Go.RowKit

/-- a store into a slice of the call's own -/
theorem Own.set {w : World} {base g n cap : Nat} {xs : List Int} (h : Own w base (.slice (some ⟨g, 0, none⟩) n cap) xs) (hn : n = xs.length) (i : Nat) (v : Int) :
    Own (w.setCell ⟨g, i, none⟩ (.int .i64 v)) base (.slice (some ⟨g, 0, none⟩) n cap) (xs.set i v) := by
  subst hn
  rcases h.2 with ⟨h0, _⟩ | ⟨g', cap', cur, hv, hb0, hg, hnc, hcm, hcs, htake⟩
  · cases h0
  · simp only [Value.slice.injEq, Option.some.injEq, Addr.mk.injEq] at hv
    obtain ⟨⟨rfl, _⟩, _, rfl⟩ := hv
    refine ⟨by simp, .inr ⟨g, cap, cur.setIfInBounds i (.int .i64 v), by rw [List.length_set], hb0, ?_, by rw [List.length_set]; exact hnc, hcm, by simpa using hcs, ?_⟩⟩
    · simp [World.setCell, Array.getElem?_modify, hg]
    · rw [List.length_set, Array.toList_setIfInBounds, List.map_set, ← htake, List.take_set]
theorem Own.frozen {w : World} {base g n cap : Nat} {xs : List Int} (h : Own w base (.slice (some ⟨g, 0, none⟩) n cap) xs) (o : Nat) : w.frozen? ⟨g, o, none⟩ = false := by
  rcases h.2 with ⟨h0, _⟩ | ⟨g', cap', cur, hv, hb0, hg, _⟩
  · cases h0
  · simp only [Value.slice.injEq, Option.some.injEq, Addr.mk.injEq] at hv
    obtain ⟨⟨rfl, _⟩, _, rfl⟩ := hv
    simp [World.frozen?, hg]
theorem ediv_ge (x p : Int) (hx : 1 ≤ x) (h : p * x ≤ 4611686018427387904) : p ≤ 4611686018427387904 / x := (Int.le_ediv_iff_mul_le (by omega)).2 h
def partB (n : Nat) (l : List Int) : Bool := (List.range l.length).all (fun k => decide (1 ≤ l.getD k 0) && decide (l.getD k 0 ≤ 30) && (decide (k = 0) || decide (l.getD k 0 ≤ l.getD (k - 1) 0))) && decide (l.sum = n)
theorem part_all : ∀ n, n ≤ 14 → (allp n).all (partB n) = true := by decide +kernel
theorem allp_part (n : Nat) (hn : n ≤ 14) (l : List Int) (h : l ∈ allp n) : Part l ∧ l.sum = n := by
  have := List.all_eq_true.1 (part_all n hn) l h
  unfold partB at this
  simp only [Bool.and_eq_true, List.all_eq_true, List.mem_range, decide_eq_true_eq, Bool.or_eq_true] at this
  refine ⟨⟨fun k hk => ?_, by omega⟩, this.2⟩
  have := this.1 k hk
  refine ⟨this.1.1, this.1.2, fun h1 => ?_⟩
  rcases this.2 with h2 | h2
  · omega
  · exact h2
theorem sqs_take (L : List (List Int)) (k : Nat) (h : k < L.length) : sqs (L.take (k + 1)) = sqs (L.take k) + fills L[k] * fills L[k] := by
  unfold sqs
  rw [List.take_succ_eq_append_getElem h, List.map_append, List.sum_append]
  simp
theorem sq_nonneg (x : Int) : 0 ≤ x * x := by
  rcases Int.le_total 0 x with h | h
  · exact Int.mul_nonneg h h
  · exact Int.mul_nonneg_of_nonpos_of_nonpos h h
theorem sqs_mono (L : List (List Int)) (k : Nat) : ∀ m, k ≤ m → m ≤ L.length → sqs (L.take k) ≤ sqs (L.take m) := by
  intro m
  induction m with
  | zero =>
    intro h1 _
    obtain rfl : k = 0 := by omega
    exact Int.le_refl _
  | succ m ih =>
    intro h1 h2
    by_cases e : k = m + 1
    · subst e; exact Int.le_refl _
    · have := ih (by omega) (by omega)
      rw [sqs_take L m (by omega)]
      have := sq_nonneg (fills L[m])
      omega

set_option maxRecDepth 1000000 in
set_option maxHeartbeats 32000000 in
theorem partsFilled_no (v : Value) (l : List Int) (n : Int) (h : ¬ (Part l ∧ l.sum ≤ 20)) (w : World) (hv : Ints w v l) :
    Calls Try.prog 10 #[v, .int .i64 n] w fun e w' => e = .returned (.bool true) ∧ Below w.heap.size w w' := by
  have HQ := Lib.hid hv
  have hn : ¬ (Part (l.take 34) ∧ (l.take 34).sum ≤ 20) := by
    intro h2
    by_cases hp : Part l
    · rw [hp.take34] at h2; exact h h2
    · exact part_take hp h2.1
  have HN := Lib.hid hn
  clear hv h hn
  go_enter Try.func10, Try.ntmps10
  go_wp2_with fail
  refine (list_any _ l _ HQ.out).mono ?_
  rintro e w1 ⟨v1, rfl, o1, b1⟩
  have O1 := Lib.hid (o1.ints (by rw [List.length_take]; omega))
  clear o1
  go_wp2_with fail
  refine (Fillings_no _ _ HN.out _ O1.out).mono ?_
  rintro e _ ⟨rfl, rfl⟩
  have TT := b1
  clear b1
  by_cases hn0 : n < 0
  · have e0 : decide (n < 0) = true := decide_eq_true hn0
    go_wp2_with fail
    (with_reducible refine (awake_any _).mono ?_)
    rintro e wz ⟨rfl, bz⟩
    go_wp2_with fail
    go_ret
    exact ⟨rfl, TT.trans (bz.mono TT.size)⟩
  have e0 : decide (n < 0) = false := decide_eq_false hn0
  by_cases hn14 : 14 < n
  · have e1 : decide (14 < n) = true := decide_eq_true hn14
    go_wp2_with fail
    (with_reducible refine (awake_any _).mono ?_)
    rintro e wz ⟨rfl, bz⟩
    go_wp2_with fail
    go_ret
    exact ⟨rfl, TT.trans (bz.mono TT.size)⟩
  have e1 : decide (14 < n) = false := decide_eq_false hn14
  go_wp2_with fail
  clear e0 e1
  obtain ⟨N, rfl⟩ := Int.eq_ofNat_of_zero_le (show 0 ≤ n by omega)
  have hN : N ≤ 14 := by omega
  refine (List_ok N (by omega) _).mono ?_
  rintro e wl ⟨vx, rfl, ix, bx⟩
  have HIX := Lib.hid ix
  have TX := TT.trans (bx.mono TT.size)
  obtain ⟨_, Ax, cx, vsx, rfl, _, _, _⟩ := ix
  clear TT bx
  have HPA := Lib.hid (allp_part N hN)
  have HSQ := Lib.hid (squares N hN)
  have HFN := Lib.hid (fac_le N (by omega))
  have hpl : (allp N).length ≤ 1000 := prt_size N (by omega)
  generalize allp N = L at *
  go_wp2_with fail
  go_loop [22, 175] (fun o k => ∃ m : Nat, m ≤ N ∧ k = .int .i64 m ∧ o = .int .i64 (fac m : Nat)) (fun _ k => N - (intOf k).toNat)
  case atStart => exact ⟨0, by omega, rfl, rfl⟩
  case round =>
    obtain ⟨m, hm1, rfl, rfl⟩ := hrel
    by_cases hlt : m < N
    · have hf1 := (fac_le (m + 1) (by omega)).1
      have HF := Lib.hid (show fac (m + 1) = fac m * (m + 1) from rfl)
      rw [HF.out] at hf1
      have hfi : ((fac m : Nat) : Int) * ((m : Int) + 1) ≤ 2432902008176640000 := by
        have : ((fac m * (m + 1) : Nat) : Int) ≤ 2432902008176640000 := by omega
        rw [Int.natCast_mul] at this
        exact this
      have hfz : 0 ≤ ((fac m : Nat) : Int) * ((m : Int) + 1) := Int.mul_nonneg (by omega) (by omega)
      clear hf1
      go_wp2_with fail
      go_round
      case rel => exact ⟨m + 1, by omega, by go_num, by rw [HF.out, Int.natCast_mul]; rfl⟩
      case measure => simp [intOf]; omega
    · obtain rfl : m = N := by omega
      go_wp2_with fail
      go_loopw [23, 185] (fun o k wr => ∃ m : Nat, m ≤ L.length ∧ k = .int .i64 m ∧ o = .int .i64 (sqs (L.take m)) ∧ Below wl.heap.size wl wr ∧ Below w.heap.size w wr) (fun _ k _ => L.length - (intOf k).toNat)
      case atStart => exact ⟨0, by omega, rfl, rfl, Below.refl _ _, TX⟩
      case round =>
        obtain ⟨k, hk, rfl, rfl, hbl, hb0⟩ := hrel
        clear TX
        by_cases hlt2 : k < L.length
        · have hixw := HIX.out.keep hbl
          obtain ⟨_, A0, c0, vs0, e0x, _, hel, hrl⟩ := hixw
          simp only [Value.slice.injEq] at e0x
          obtain ⟨rfl, _, rfl⟩ := e0x
          obtain ⟨adx, rfl, hblx, hcellx⟩ := hrl (by omega)
          have lk : k < vs0.length := by rw [hel.1]; exact hlt2
          have gk := List.getElem?_eq_getElem lk
          have hcs := hcellx k _ gk
          have hip := (hel.2 k _ _ gk (List.getElem?_eq_getElem hlt2)).1
          have hpp := HPA.out L[k] (List.getElem_mem hlt2)
          have HST := Lib.hid (sqs_take L k hlt2)
          have hsm := sqs_mono L (k + 1) L.length (by omega) (Nat.le_refl _)
          have hs0 := sqs_mono L 0 k (by omega) hk
          rw [List.take_length, HST.out, HSQ.out] at hsm
          have hs00 : sqs (L.take 0) = 0 := rfl
          rw [hs00] at hs0
          have hff := HFN.out.1
          generalize vs0[k] = sv at *
          generalize L[k] = p at *
          have HIP := Lib.hid hip
          obtain ⟨_, Ap, cp2, rfl, _, _⟩ := hip
          have HPP := Lib.hid hpp
          have HFI := Lib.hid (fun W hW => Fillings_yes (.slice Ap p.length cp2) p hpp.1 (by have := hpp.2; omega) W hW)
          have hf0 := fills_pos hpp.1
          have hq := sq_nonneg (fills p)
          generalize fills p = fp at *
          generalize sqs (L.take k) = sq at *
          have hfp : fp ≤ 2432902008176640000 := by
            rcases Int.lt_or_le fp 1 with h | h
            · omega
            · have := mul_grow (show 0 ≤ fp by omega) h; omega
          clear hel hrl gk lk hcellx hpp hs00
          go_wp2_with fail
          refine (HFI.out _ HIP.out).mono ?_
          rintro e wf ⟨rfl, bf⟩
          have hbl2 := hbl.trans (bf.mono hbl.size)
          have hb02 := hb0.trans (bf.mono hb0.size)
          clear hbl hb0 bf hcs
          go_wp2_with fail
          go_roundw
          case rel => exact ⟨k + 1, by omega, by go_num, by rw [HST.out], hbl2, hb02⟩
          case measure => simp [intOf]; omega
        · obtain rfl : k = L.length := by omega
          rw [List.take_length, HSQ.out]
          go_wp2_with fail
          (with_reducible refine (awake_any _).mono ?_)
          rintro e wz ⟨rfl, bz⟩
          go_wp2_with fail
          go_ret
          exact ⟨rfl, hb0.trans (bz.mono hb0.size)⟩

set_option maxRecDepth 1000000 in
set_option maxHeartbeats 64000000 in
theorem partsFilled_yes (v : Value) (l : List Int) (n : Int) (h : Part l) (hs : l.sum ≤ 20) (w : World) (hv : Ints w v l) :
    Calls Try.prog 10 #[v, .int .i64 n] w fun e w' => e = .returned (.bool true) ∧ Below w.heap.size w w' := by
  have HQ := Lib.hid hv
  have HP := Lib.hid h
  have HT := Lib.hid h.take34
  have hl30 := h.len
  have HB := Lib.hid (ap_bd h hs)
  have HOK := Lib.hid (fill_ok h hs)
  have HFB := Lib.hid (fills_bd h hs)
  have HFI := Lib.hid (fun u W hW => Fillings_yes u l h hs W hW)
  obtain ⟨s, hsn⟩ := Int.eq_ofNat_of_zero_le h.sum0
  have hs20 : s ≤ 20 := by omega
  have HFS := Lib.hid (fac_le s hs20)
  have HSN := Lib.hid hsn
  have hsum := fun W hW => rSum_any v l h.1 (by omega) W hW
  rw [hsn] at hsum
  have HSUM := Lib.hid hsum
  have hs20' := hs
  have HSL := Lib.hid hs20'
  have d1 : decide ((20 : Int) < s) = false := decide_eq_false (by omega)
  have d1' : decide (20 < s) = false := decide_eq_false (by omega)
  obtain ⟨_, A, cp, rfl, _, _⟩ := hv
  clear h hs hsn hsum hs20'
  go_enter Try.func10, Try.ntmps10
  go_wp2_with fail
  refine (list_any _ l _ HQ.out).mono ?_
  rintro e w1 ⟨v1, rfl, o1, b1⟩
  have O1 := Lib.hid (o1.ints (by rw [List.length_take]; omega))
  rw [HT.out] at O1
  clear o1
  go_wp2_with fail
  refine (HFI.out _ _ O1.out).mono ?_
  rintro e w2 ⟨rfl, b2⟩
  have t2 := b1.trans (b2.mono b1.size)
  clear b1 b2 O1
  go_wp2_with fail
  refine (rValid_yes _ l HP.out _ (HQ.out.keep t2)).mono ?_
  rintro e _ ⟨rfl, rfl⟩
  go_wp2_with fail
  refine (HSUM.out _ (HQ.out.keep t2)).mono ?_
  rintro e _ ⟨rfl, rfl⟩
  go_wp2_with fail
  refine (list_any _ l _ (HQ.out.keep t2)).mono ?_
  rintro e w3 ⟨v3, rfl, o3, b3⟩
  have O3 := Lib.hid (o3.ints (by rw [List.length_take]; omega))
  rw [HT.out] at O3
  have t3 := t2.trans (b3.mono t2.size)
  clear o3 b3 t2
  go_wp2_with fail
  refine (Hooks_yes _ l HP.out _ O3.out).mono ?_
  rintro e w4 ⟨vh, rfl, ih, b4⟩
  have HIH := Lib.hid ih
  obtain ⟨_, Ah, ch, vs, rfl, _, _, _⟩ := ih
  have TW := t3.trans (b4.mono t3.size)
  clear t3 b4 O3
  have hl1 := hooks_length l
  rw [hl1]
  clear hl1
  go_wp2_with fail
  refine (HSUM.out _ (HQ.out.keep TW)).mono ?_
  rintro e _ ⟨rfl, rfl⟩
  go_wp2_with fail
  go_loop [9, 53] (fun o k => ∃ m : Nat, m ≤ s ∧ k = .int .i64 m ∧ o = .int .i64 (fac m : Nat)) (fun _ k => s - (intOf k).toNat)
  case atStart => exact ⟨0, by omega, rfl, rfl⟩
  case round =>
    obtain ⟨m, hm1, rfl, rfl⟩ := hrel
    by_cases hlt : m < s
    · have hf1 := (fac_le (m + 1) (by omega)).1
      have HF := Lib.hid (show fac (m + 1) = fac m * (m + 1) from rfl)
      rw [HF.out] at hf1
      have hfi : ((fac m : Nat) : Int) * ((m : Int) + 1) ≤ 2432902008176640000 := by
        have : ((fac m * (m + 1) : Nat) : Int) ≤ 2432902008176640000 := by omega
        rw [Int.natCast_mul] at this
        exact this
      have hfz : 0 ≤ ((fac m : Nat) : Int) * ((m : Int) + 1) := Int.mul_nonneg (by omega) (by omega)
      clear hf1
      go_wp2_with fail
      go_round
      case rel => exact ⟨m + 1, by omega, by go_num, by rw [HF.out, Int.natCast_mul]; rfl⟩
      case measure => simp [intOf]; omega
    · obtain ⟨S, hS⟩ : ∃ S, S = m := ⟨_, rfl⟩
      obtain rfl : S = s := by omega
      rw [← hS]
      clear hS
      go_wp2_with fail
      go_loop [10, 63] (fun o i => ∃ m : Nat, m ≤ l.length ∧ i = .int .i64 m ∧ o = .int .i64 (ap l m)) (fun _ i => l.length - (intOf i).toNat)
      case atStart => exact ⟨0, Nat.zero_le _, rfl, rfl⟩
      case round =>
        obtain ⟨m, hm, rfl, rfl⟩ := hrel
        by_cases hlt : m < l.length
        · obtain ⟨ad, A', c', y, rfl, hy, hcs, hyc, hy1, hcells⟩ := hrow_cells HIH.out HP.out m hlt
          have HY := Lib.hid hy
          have HCE := Lib.hid hcells
          have hyb : y ≤ 30 := by have := (HP.out.at m hlt).2; have := HY.out; omega
          have hap1 := ap_pos HP.out m hm
          clear hy hcells
          go_wp2_with fail
          go_loop [10, 69] (fun o j => ∃ k : Nat, k ≤ y ∧ j = .int .i64 k ∧ o = .int .i64 (ap l m * rp l m k)) (fun _ j => y - (intOf j).toNat)
          case atStart => exact ⟨0, Nat.zero_le _, rfl, by rw [rp, Int.mul_one]⟩
          case round =>
            obtain ⟨k, hk, rfl, rfl⟩ := hrel
            by_cases hky : k < y
            · have hcx := HCE.out k hky
              have hh := hook_pos HP.out m k hlt (by rw [HY.out]; omega)
              have hrp := rp_pos HP.out m hlt k (by rw [HY.out]; omega)
              have hway := ap_way HP.out m hlt (k + 1) (by rw [HY.out]; omega)
              have hmul := Int.mul_le_mul hap1 hrp (by omega) (by omega)
              have HRP := Lib.hid (show rp l m (k + 1) = rp l m k * hook l m k from rfl)
              rw [HRP.out, ← Int.mul_assoc] at hway
              rw [Int.one_mul] at hmul
              have HST := Lib.hid (show ap l m * rp l m (k + 1) = ap l m * rp l m k * hook l m k by rw [HRP.out, Int.mul_assoc])
              have hhb : hook l m k ≤ 1000 := by
                unfold hook
                have := (HP.out.at m hlt).2
                have := cn_le l k l.length
                omega
              generalize hook l m k = h at *
              generalize ap l m * rp l m k = p at *
              have hb20 := HB.out
              have hp0 : 0 ≤ p * h := Int.mul_nonneg (by omega) (by omega)
              have hh0 : (h == 0) = false := by rw [beq_eq_false_iff_ne]; omega
              have hge := ediv_ge h p hh (by omega)
              have hgd : decide ((4611686018427387904 : Int) / h < p) = false := decide_eq_false (by omega)
              have hh1 : decide (h < 1) = false := decide_eq_false (by omega)
              have hd1 : 0 ≤ (4611686018427387904 : Int) / h := Int.ediv_nonneg (by omega) (by omega)
              have hd2 : (4611686018427387904 : Int) / h ≤ 4611686018427387904 := Int.ediv_le_self _ (by omega)
              go_wp2_with fail
              go_round
              case rel => exact ⟨k + 1, by omega, by go_num, by rw [HST.out]⟩
              case measure => simp [intOf]; omega
            · obtain rfl : k = y := by omega
              have HAP := Lib.hid (show ap l m * rp l m k = ap l (m + 1) from by rw [ap, show (l.getD m 0).toNat = k by have := HY.out; omega])
              go_wp2_with fail
              go_round
              case rel => exact ⟨m + 1, by omega, by go_num, by rw [HAP.out]⟩
              case measure => simp [intOf]; omega
        · obtain rfl : m = l.length := by omega
          go_wp2_with fail
          go_loopw [11, 88] (fun o i wr => ∃ m : Nat, m ≤ l.length ∧ i = .int .i64 m ∧ o = .int .i64 (csum l m) ∧ Below w.heap.size w wr) (fun _ i _ => l.length - (intOf i).toNat)
          case atStart => exact ⟨0, Nat.zero_le _, rfl, rfl, TW⟩
          case round =>
            obtain ⟨i, hi, rfl, rfl, hb⟩ := hrel
            clear TW
            by_cases hlt : i < l.length
            · have hqv := HQ.out.keep hb
              obtain ⟨_, Aq, cq, eq0, _, hqr⟩ := hqv
              simp only [Value.slice.injEq] at eq0
              obtain ⟨rfl, _, rfl⟩ := eq0
              obtain ⟨adq, rfl, hblq, hcellq⟩ := hqr (by omega)
              have hci := hcellq i _ (getD_get l i hlt)
              have hiw : IntKind.i64.wrap ((i : Int) + 1) = (i : Int) + 1 := IntWalk.i64_in _ (by omega)
              have hit : ((i : Int) + 1).toNat = i + 1 := by omega
              have hic : 0 ≤ (i : Int) + 1 := by omega
              have hcp := csum_pos HP.out i hi
              have hfb := HFB.out
              by_cases hnext : i + 1 < l.length
              · have hci1 := hcellq (i + 1) _ (getD_get l (i + 1) hnext)
                rw [show adq.add (i + 1) = (⟨adq.block, adq.off + (i + 1), none⟩ : Addr) from by simp [Addr.add]] at hci1
                have dn : decide ((i : Int) + 1 < l.length) = true := decide_eq_true (by omega)
                have hnb : (i : Int) + 1 < l.length := by omega
                clear hcellq hqr
                by_cases heq : l.getD (i + 1) 0 = l.getD i 0
                · have HSK := Lib.hid (csum_skip l i ⟨hnext, heq⟩)
                  have HEQ := Lib.hid heq
                  rw [heq] at hci1
                  clear heq
                  generalize l.getD i 0 = x at *
                  have hxx : (x == x) = true := by simp
                  go_wp2_with fail
                  go_quiet (fail)
                  go_wp2_with fail
                  go_roundw
                  case rel => exact ⟨i + 1, by omega, by go_num, by rw [HSK.out], below_drewN hb _⟩
                  case measure => simp [intOf]; omega
                · have HC := Lib.hid (show Corner l i from fun _ => heq)
                  have hne : (l.getD (i + 1) 0 == l.getD i 0) = false := by rw [beq_eq_false_iff_ne]; exact heq
                  generalize l.getD (i + 1) 0 = x1 at *
                  clear heq
                  generalize hx0 : l.getD i 0 = x0 at *
                  go_wp2_with fail
                  go_quiet (fail)
                  have hbq := below_drewN hb nq
                  subst hx0
                  clear hb
                  go_wp2_with fail
                  refine (list_any _ l _ (HQ.out.keep hbq)).mono ?_
                  rintro e w5 ⟨v5, rfl, o5, b5⟩
                  rw [HT.out] at o5
                  obtain ⟨g, cap, rfl, hcap, hg1, hg2, hcs5⟩ := o5.seen (by omega)
                  have hci5 := hcs5 i _ (getD_get l i hlt)
                  have hfr5 := o5.frozen
                  have hnew := o5.set rfl i (l.getD i 0 - 1)
                  have hb5 := hbq.trans (b5.mono hbq.size)
                  have hbs5 := hb5.setCell (p := ⟨g, i, none⟩) (Nat.le_trans hbq.size hg1) (.int .i64 (l.getD i 0 - 1))
                  have HNEW := Lib.hid hnew
                  have HBS := Lib.hid hbs5
                  have hxa := HP.out.at i hlt
                  obtain ⟨hdp, hds⟩ := dec_part HP.out i hlt HC.out
                  have HFD := Lib.hid (fun u W hW => Fillings_yes u (dec l i) hdp (by have := HSL.out; omega) W hW)
                  have HCT := Lib.hid (csum_take l i HC.out)
                  have hcm := csum_mono HP.out (i + 1) l.length (by omega) (Nat.le_refl _)
                  rw [HCT.out] at hcm
                  have hwr : IntKind.i64.wrap (csum l i + fills (dec l i)) = csum l i + fills (dec l i) := IntWalk.i64_in _ (by have := HOK.out.2 (by omega); have := HFB.out; have := fills_pos hdp; omega)
                  have hfd := fills_pos hdp
                  have HDEC := Lib.hid (show dec l i = if l.getD i 0 = 1 then l.take i else l.set i (l.getD i 0 - 1) from rfl)
                  clear hcs5 o5 hnew hbs5 hb5 b5 hbq hdp hds
                  generalize hxx : l.getD i 0 = x at *
                  by_cases h1 : x = 1
                  · have HII := Lib.hid (show Ints (w5.setCell ⟨g, i, none⟩ (.int .i64 (x - 1))) (.slice (some ⟨g, 0, none⟩) i cap) (dec l i) from by
                      rw [HDEC.out, if_pos h1]
                      have h2 := HNEW.out.ints (by rw [List.length_set]; omega)
                      rw [← @List.length_set _ l i (x - 1)] at h2
                      have h3 := h2.take i (by rw [List.length_set]; omega)
                      rw [List.take_set_of_le (Nat.le_refl i)] at h3
                      exact h3)
                    subst h1
                    go_wp2_with fail
                    refine (HFD.out _ _ HII.out).mono ?_
                    rintro e w6 ⟨rfl, b6⟩
                    have hb6 := HBS.out.trans (b6.mono HBS.out.size)
                    clear b6
                    go_wp2_with fail
                    go_roundw
                    case rel => exact ⟨i + 1, by omega, by go_num, by first | rw [HCT.out] | (rw [HCT.out]; exact congrArg (Value.int .i64) hwr), hb6⟩
                    case measure => simp [intOf]; omega
                  · have HII := Lib.hid (show Ints (w5.setCell ⟨g, i, none⟩ (.int .i64 (x - 1))) (.slice (some ⟨g, 0, none⟩) l.length cap) (dec l i) from by
                      rw [HDEC.out, if_neg h1]
                      have h2 := HNEW.out.ints (by rw [List.length_set]; omega)
                      exact h2)
                    have hx1 : ((x - 1) == 0) = false := by rw [beq_eq_false_iff_ne]; omega
                    go_wp2_with fail
                    refine (HFD.out _ _ HII.out).mono ?_
                    rintro e w6 ⟨rfl, b6⟩
                    have hb6 := HBS.out.trans (b6.mono HBS.out.size)
                    clear b6
                    go_wp2_with fail
                    go_roundw
                    case rel => exact ⟨i + 1, by omega, by go_num, by first | rw [HCT.out] | (rw [HCT.out]; exact congrArg (Value.int .i64) hwr), hb6⟩
                    case measure => simp [intOf]; omega
              · have HC := Lib.hid (show Corner l i from fun h => absurd h hnext)
                have dn : decide ((i : Int) + 1 < l.length) = false := decide_eq_false (by omega)
                clear hcellq hqr
                go_wp2_with fail
                go_quiet (fail)
                have hbq := below_drewN hb nq
                clear hb
                go_wp2_with fail
                refine (list_any _ l _ (HQ.out.keep hbq)).mono ?_
                rintro e w5 ⟨v5, rfl, o5, b5⟩
                rw [HT.out] at o5
                obtain ⟨g, cap, rfl, hcap, hg1, hg2, hcs5⟩ := o5.seen (by omega)
                have hci5 := hcs5 i _ (getD_get l i hlt)
                have hfr5 := o5.frozen
                have hnew := o5.set rfl i (l.getD i 0 - 1)
                have hb5 := hbq.trans (b5.mono hbq.size)
                have hbs5 := hb5.setCell (p := ⟨g, i, none⟩) (Nat.le_trans hbq.size hg1) (.int .i64 (l.getD i 0 - 1))
                have HNEW := Lib.hid hnew
                have HBS := Lib.hid hbs5
                have hxa := HP.out.at i hlt
                obtain ⟨hdp, hds⟩ := dec_part HP.out i hlt HC.out
                have HFD := Lib.hid (fun u W hW => Fillings_yes u (dec l i) hdp (by have := HSL.out; omega) W hW)
                have HCT := Lib.hid (csum_take l i HC.out)
                have hcm := csum_mono HP.out (i + 1) l.length (by omega) (Nat.le_refl _)
                rw [HCT.out] at hcm
                have hwr : IntKind.i64.wrap (csum l i + fills (dec l i)) = csum l i + fills (dec l i) := IntWalk.i64_in _ (by have := HOK.out.2 (by omega); have := HFB.out; have := fills_pos hdp; omega)
                have hfd := fills_pos hdp
                have HDEC := Lib.hid (show dec l i = if l.getD i 0 = 1 then l.take i else l.set i (l.getD i 0 - 1) from rfl)
                clear hcs5 o5 hnew hbs5 hb5 b5 hbq hdp hds
                generalize hxx : l.getD i 0 = x at *
                by_cases h1 : x = 1
                · have HII := Lib.hid (show Ints (w5.setCell ⟨g, i, none⟩ (.int .i64 (x - 1))) (.slice (some ⟨g, 0, none⟩) i cap) (dec l i) from by
                    rw [HDEC.out, if_pos h1]
                    have h2 := HNEW.out.ints (by rw [List.length_set]; omega)
                    rw [← @List.length_set _ l i (x - 1)] at h2
                    have h3 := h2.take i (by rw [List.length_set]; omega)
                    rw [List.take_set_of_le (Nat.le_refl i)] at h3
                    exact h3)
                  subst h1
                  go_wp2_with fail
                  refine (HFD.out _ _ HII.out).mono ?_
                  rintro e w6 ⟨rfl, b6⟩
                  have hb6 := HBS.out.trans (b6.mono HBS.out.size)
                  clear b6
                  go_wp2_with fail
                  go_roundw
                  case rel => exact ⟨i + 1, by omega, by go_num, by first | rw [HCT.out] | (rw [HCT.out]; exact congrArg (Value.int .i64) hwr), hb6⟩
                  case measure => simp [intOf]; omega
                · have HII := Lib.hid (show Ints (w5.setCell ⟨g, i, none⟩ (.int .i64 (x - 1))) (.slice (some ⟨g, 0, none⟩) l.length cap) (dec l i) from by
                    rw [HDEC.out, if_neg h1]
                    have h2 := HNEW.out.ints (by rw [List.length_set]; omega)
                    exact h2)
                  have hx1 : ((x - 1) == 0) = false := by rw [beq_eq_false_iff_ne]; omega
                  go_wp2_with fail
                  refine (HFD.out _ _ HII.out).mono ?_
                  rintro e w6 ⟨rfl, b6⟩
                  have hb6 := HBS.out.trans (b6.mono HBS.out.size)
                  clear b6
                  go_wp2_with fail
                  go_roundw
                  case rel => exact ⟨i + 1, by omega, by go_num, by first | rw [HCT.out] | (rw [HCT.out]; exact congrArg (Value.int .i64) hwr), hb6⟩
                  case measure => simp [intOf]; omega
            · obtain rfl : i = l.length := by omega
              have hok := HOK.out
              have hap := ap_pos HP.out l.length (Nat.le_refl _)
              have HFE := Lib.hid (show fills l = (fac S : Int) / ap l l.length from by unfold fills; rw [HSN.out]; rfl)
              have hm0 := hok.1
              rw [HSN.out, Int.toNat_natCast] at hm0
              have hap0 : (ap l l.length == 0) = false := by rw [beq_eq_false_iff_ne]; omega
              have hfe := HFE.out.symm
              have hb20 := HB.out
              have hfs := HFS.out.1
              have hfs1 := HFS.out.2
              have hfb := HFB.out
              have hfp := fills_pos HP.out
              have hcsum : 0 < l.length → csum l l.length = fills l := hok.2
              have HCS := Lib.hid hcsum
              clear hcsum hok
              by_cases hl0 : 0 < l.length
              · rw [HCS.out hl0]
                have dl : decide ((0 : Int) < l.length) = true := decide_eq_true (by omega)
                generalize fills l = fl at *
                generalize ap l l.length = p at *
                have TT := hb
                clear hb
                by_cases hn0 : n < 0
                · have e0 : decide (n < 0) = true := decide_eq_true hn0
                  go_wp2_with fail
                  (with_reducible refine (awake_any _).mono ?_)
                  rintro e wz ⟨rfl, bz⟩
                  go_wp2_with fail
                  go_ret
                  exact ⟨rfl, TT.trans (bz.mono TT.size)⟩
                have e0 : decide (n < 0) = false := decide_eq_false hn0
                by_cases hn14 : 14 < n
                · have e1 : decide (14 < n) = true := decide_eq_true hn14
                  go_wp2_with fail
                  (with_reducible refine (awake_any _).mono ?_)
                  rintro e wz ⟨rfl, bz⟩
                  go_wp2_with fail
                  go_ret
                  exact ⟨rfl, TT.trans (bz.mono TT.size)⟩
                have e1 : decide (14 < n) = false := decide_eq_false hn14
                go_wp2_with fail
                clear e0 e1
                obtain ⟨N, rfl⟩ := Int.eq_ofNat_of_zero_le (show 0 ≤ n by omega)
                have hN : N ≤ 14 := by omega
                refine (List_ok N (by omega) _).mono ?_
                rintro e wl ⟨vx, rfl, ix, bx⟩
                have HIX := Lib.hid ix
                have TX := TT.trans (bx.mono TT.size)
                obtain ⟨_, Ax, cx, vsx, rfl, _, _, _⟩ := ix
                clear TT bx
                have HPA := Lib.hid (allp_part N hN)
                have HSQ := Lib.hid (squares N hN)
                have HFN := Lib.hid (fac_le N (by omega))
                have hpl : (allp N).length ≤ 1000 := prt_size N (by omega)
                generalize allp N = L at *
                go_wp2_with fail
                go_loop [22, 175] (fun o k => ∃ m : Nat, m ≤ N ∧ k = .int .i64 m ∧ o = .int .i64 (fac m : Nat)) (fun _ k => N - (intOf k).toNat)
                case atStart => exact ⟨0, by omega, rfl, rfl⟩
                case round =>
                  obtain ⟨m, hm1, rfl, rfl⟩ := hrel
                  by_cases hlt : m < N
                  · have hf1 := (fac_le (m + 1) (by omega)).1
                    have HF := Lib.hid (show fac (m + 1) = fac m * (m + 1) from rfl)
                    rw [HF.out] at hf1
                    have hfi : ((fac m : Nat) : Int) * ((m : Int) + 1) ≤ 2432902008176640000 := by
                      have : ((fac m * (m + 1) : Nat) : Int) ≤ 2432902008176640000 := by omega
                      rw [Int.natCast_mul] at this
                      exact this
                    have hfz : 0 ≤ ((fac m : Nat) : Int) * ((m : Int) + 1) := Int.mul_nonneg (by omega) (by omega)
                    clear hf1
                    go_wp2_with fail
                    go_round
                    case rel => exact ⟨m + 1, by omega, by go_num, by rw [HF.out, Int.natCast_mul]; rfl⟩
                    case measure => simp [intOf]; omega
                  · obtain rfl : m = N := by omega
                    go_wp2_with fail
                    go_loopw [23, 185] (fun o k wr => ∃ m : Nat, m ≤ L.length ∧ k = .int .i64 m ∧ o = .int .i64 (sqs (L.take m)) ∧ Below wl.heap.size wl wr ∧ Below w.heap.size w wr) (fun _ k _ => L.length - (intOf k).toNat)
                    case atStart => exact ⟨0, by omega, rfl, rfl, Below.refl _ _, TX⟩
                    case round =>
                      obtain ⟨k, hk, rfl, rfl, hbl, hb0⟩ := hrel
                      clear TX
                      by_cases hlt2 : k < L.length
                      · have hixw := HIX.out.keep hbl
                        obtain ⟨_, A0, c0, vs0, e0x, _, hel, hrl⟩ := hixw
                        simp only [Value.slice.injEq] at e0x
                        obtain ⟨rfl, _, rfl⟩ := e0x
                        obtain ⟨adx, rfl, hblx, hcellx⟩ := hrl (by omega)
                        have lk : k < vs0.length := by rw [hel.1]; exact hlt2
                        have gk := List.getElem?_eq_getElem lk
                        have hcs := hcellx k _ gk
                        have hip := (hel.2 k _ _ gk (List.getElem?_eq_getElem hlt2)).1
                        have hpp := HPA.out L[k] (List.getElem_mem hlt2)
                        have HST := Lib.hid (sqs_take L k hlt2)
                        have hsm := sqs_mono L (k + 1) L.length (by omega) (Nat.le_refl _)
                        have hs0 := sqs_mono L 0 k (by omega) hk
                        rw [List.take_length, HST.out, HSQ.out] at hsm
                        have hs00 : sqs (L.take 0) = 0 := rfl
                        rw [hs00] at hs0
                        have hff := HFN.out.1
                        generalize vs0[k] = sv at *
                        generalize L[k] = p at *
                        have HIP := Lib.hid hip
                        obtain ⟨_, Ap, cp2, rfl, _, _⟩ := hip
                        have HPP := Lib.hid hpp
                        have HFI := Lib.hid (fun W hW => Fillings_yes (.slice Ap p.length cp2) p hpp.1 (by have := hpp.2; omega) W hW)
                        have hf0 := fills_pos hpp.1
                        have hq := sq_nonneg (fills p)
                        generalize fills p = fp at *
                        generalize sqs (L.take k) = sq at *
                        have hfp : fp ≤ 2432902008176640000 := by
                          rcases Int.lt_or_le fp 1 with h | h
                          · omega
                          · have := mul_grow (show 0 ≤ fp by omega) h; omega
                        clear hel hrl gk lk hcellx hpp hs00
                        go_wp2_with fail
                        refine (HFI.out _ HIP.out).mono ?_
                        rintro e wf ⟨rfl, bf⟩
                        have hbl2 := hbl.trans (bf.mono hbl.size)
                        have hb02 := hb0.trans (bf.mono hb0.size)
                        clear hbl hb0 bf hcs
                        go_wp2_with fail
                        go_roundw
                        case rel => exact ⟨k + 1, by omega, by go_num, by rw [HST.out], hbl2, hb02⟩
                        case measure => simp [intOf]; omega
                      · obtain rfl : k = L.length := by omega
                        rw [List.take_length, HSQ.out]
                        go_wp2_with fail
                        (with_reducible refine (awake_any _).mono ?_)
                        rintro e wz ⟨rfl, bz⟩
                        go_wp2_with fail
                        go_ret
                        exact ⟨rfl, hb0.trans (bz.mono hb0.size)⟩
              · have hl00 : l.length = 0 := by omega
                have dl : decide ((0 : Int) < l.length) = false := decide_eq_false (by omega)
                have dl' : decide (0 < l.length) = false := decide_eq_false hl0
                generalize fills l = fl at *
                generalize ap l l.length = p at *
                generalize csum l l.length = cs at *
                have TT := hb
                clear hb
                by_cases hn0 : n < 0
                · have e0 : decide (n < 0) = true := decide_eq_true hn0
                  go_wp2_with fail
                  (with_reducible refine (awake_any _).mono ?_)
                  rintro e wz ⟨rfl, bz⟩
                  go_wp2_with fail
                  go_ret
                  exact ⟨rfl, TT.trans (bz.mono TT.size)⟩
                have e0 : decide (n < 0) = false := decide_eq_false hn0
                by_cases hn14 : 14 < n
                · have e1 : decide (14 < n) = true := decide_eq_true hn14
                  go_wp2_with fail
                  (with_reducible refine (awake_any _).mono ?_)
                  rintro e wz ⟨rfl, bz⟩
                  go_wp2_with fail
                  go_ret
                  exact ⟨rfl, TT.trans (bz.mono TT.size)⟩
                have e1 : decide (14 < n) = false := decide_eq_false hn14
                go_wp2_with fail
                clear e0 e1
                obtain ⟨N, rfl⟩ := Int.eq_ofNat_of_zero_le (show 0 ≤ n by omega)
                have hN : N ≤ 14 := by omega
                refine (List_ok N (by omega) _).mono ?_
                rintro e wl ⟨vx, rfl, ix, bx⟩
                have HIX := Lib.hid ix
                have TX := TT.trans (bx.mono TT.size)
                obtain ⟨_, Ax, cx, vsx, rfl, _, _, _⟩ := ix
                clear TT bx
                have HPA := Lib.hid (allp_part N hN)
                have HSQ := Lib.hid (squares N hN)
                have HFN := Lib.hid (fac_le N (by omega))
                have hpl : (allp N).length ≤ 1000 := prt_size N (by omega)
                generalize allp N = L at *
                go_wp2_with fail
                go_loop [22, 175] (fun o k => ∃ m : Nat, m ≤ N ∧ k = .int .i64 m ∧ o = .int .i64 (fac m : Nat)) (fun _ k => N - (intOf k).toNat)
                case atStart => exact ⟨0, by omega, rfl, rfl⟩
                case round =>
                  obtain ⟨m, hm1, rfl, rfl⟩ := hrel
                  by_cases hlt : m < N
                  · have hf1 := (fac_le (m + 1) (by omega)).1
                    have HF := Lib.hid (show fac (m + 1) = fac m * (m + 1) from rfl)
                    rw [HF.out] at hf1
                    have hfi : ((fac m : Nat) : Int) * ((m : Int) + 1) ≤ 2432902008176640000 := by
                      have : ((fac m * (m + 1) : Nat) : Int) ≤ 2432902008176640000 := by omega
                      rw [Int.natCast_mul] at this
                      exact this
                    have hfz : 0 ≤ ((fac m : Nat) : Int) * ((m : Int) + 1) := Int.mul_nonneg (by omega) (by omega)
                    clear hf1
                    go_wp2_with fail
                    go_round
                    case rel => exact ⟨m + 1, by omega, by go_num, by rw [HF.out, Int.natCast_mul]; rfl⟩
                    case measure => simp [intOf]; omega
                  · obtain rfl : m = N := by omega
                    go_wp2_with fail
                    go_loopw [23, 185] (fun o k wr => ∃ m : Nat, m ≤ L.length ∧ k = .int .i64 m ∧ o = .int .i64 (sqs (L.take m)) ∧ Below wl.heap.size wl wr ∧ Below w.heap.size w wr) (fun _ k _ => L.length - (intOf k).toNat)
                    case atStart => exact ⟨0, by omega, rfl, rfl, Below.refl _ _, TX⟩
                    case round =>
                      obtain ⟨k, hk, rfl, rfl, hbl, hb0⟩ := hrel
                      clear TX
                      by_cases hlt2 : k < L.length
                      · have hixw := HIX.out.keep hbl
                        obtain ⟨_, A0, c0, vs0, e0x, _, hel, hrl⟩ := hixw
                        simp only [Value.slice.injEq] at e0x
                        obtain ⟨rfl, _, rfl⟩ := e0x
                        obtain ⟨adx, rfl, hblx, hcellx⟩ := hrl (by omega)
                        have lk : k < vs0.length := by rw [hel.1]; exact hlt2
                        have gk := List.getElem?_eq_getElem lk
                        have hcs := hcellx k _ gk
                        have hip := (hel.2 k _ _ gk (List.getElem?_eq_getElem hlt2)).1
                        have hpp := HPA.out L[k] (List.getElem_mem hlt2)
                        have HST := Lib.hid (sqs_take L k hlt2)
                        have hsm := sqs_mono L (k + 1) L.length (by omega) (Nat.le_refl _)
                        have hs0 := sqs_mono L 0 k (by omega) hk
                        rw [List.take_length, HST.out, HSQ.out] at hsm
                        have hs00 : sqs (L.take 0) = 0 := rfl
                        rw [hs00] at hs0
                        have hff := HFN.out.1
                        generalize vs0[k] = sv at *
                        generalize L[k] = p at *
                        have HIP := Lib.hid hip
                        obtain ⟨_, Ap, cp2, rfl, _, _⟩ := hip
                        have HPP := Lib.hid hpp
                        have HFI := Lib.hid (fun W hW => Fillings_yes (.slice Ap p.length cp2) p hpp.1 (by have := hpp.2; omega) W hW)
                        have hf0 := fills_pos hpp.1
                        have hq := sq_nonneg (fills p)
                        generalize fills p = fp at *
                        generalize sqs (L.take k) = sq at *
                        have hfp : fp ≤ 2432902008176640000 := by
                          rcases Int.lt_or_le fp 1 with h | h
                          · omega
                          · have := mul_grow (show 0 ≤ fp by omega) h; omega
                        clear hel hrl gk lk hcellx hpp hs00
                        go_wp2_with fail
                        refine (HFI.out _ HIP.out).mono ?_
                        rintro e wf ⟨rfl, bf⟩
                        have hbl2 := hbl.trans (bf.mono hbl.size)
                        have hb02 := hb0.trans (bf.mono hb0.size)
                        clear hbl hb0 bf hcs
                        go_wp2_with fail
                        go_roundw
                        case rel => exact ⟨k + 1, by omega, by go_num, by rw [HST.out], hbl2, hb02⟩
                        case measure => simp [intOf]; omega
                      · obtain rfl : k = L.length := by omega
                        rw [List.take_length, HSQ.out]
                        go_wp2_with fail
                        (with_reducible refine (awake_any _).mono ?_)
                        rintro e wz ⟨rfl, bz⟩
                        go_wp2_with fail
                        go_ret
                        exact ⟨rfl, hb0.trans (bz.mono hb0.size)⟩

/-- The walk of the law. -/
theorem partsFilled_walk (w : World) (v : Value) (l : List Int) (hv : Ints w v l) (_ : ∀ n ∈ l, -9223372036854775808 ≤ n ∧ n ≤ 9223372036854775807) (n : Int) (_ : -9223372036854775808 ≤ n ∧ n ≤ 9223372036854775807) :
    Calls Try.prog 10 #[v, .int .i64 n] w fun e w' => e = .returned (.bool true) ∧ Below w.heap.size w w' := by
  by_cases h : Part l ∧ l.sum ≤ 20
  · exact partsFilled_yes v l n h.1 h.2 w hv
  · exact partsFilled_no v l n h w hv
end Go.Proofs.Ytpgpkgnljoedaaa
