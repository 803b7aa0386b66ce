/- The walk of NumeralAlong. -/
import Derived.Test.YtiknocjdogbajaaDigits
namespace Go.Proofs.Ytiknocjdogbajaa
open Go.RowKit

/-! ### numerals along a fraction -/
theorem den_succ2 (q : List Int) (k : Nat) : den q (k + 2) = q.getD (k + 1) 0 * den q (k + 1) + den q k := rfl
theorem al_lt (q c : List Int) (h : Fr q) : ∀ k, k ≤ q.length → (∀ j, j < k → OkAt q c j) → alv q c k < den q k := by
  intro k
  induction k using Nat.strongRecOn with
  | _ k ih =>
    intro hk ho
    match k, ih, hk, ho with
    | 0, _, _, _ => simp [alv, den]
    | 1, _, hk, ho =>
      have := (okAt_zero (q := q) (c := c) rfl rfl).1 (ho 0 (by omega))
      simp only [alv, den]
      omega
    | k + 2, ih, hk, ho =>
      have i0 := ih k (by omega) (by omega) (fun j hj => ho j (by omega))
      have i1 := ih (k + 1) (by omega) (by omega) (fun j hj => ho j (by omega))
      have hd1 := (den_le q h (k + 1) (by omega)).1
      have hd0 := (den_le q h k (by omega)).1
      have o1 := (okAt_succ (q := q) (c := c) (k := k + 1) (by omega) rfl rfl rfl).1 (ho (k + 1) (by omega))
      have e : alv q c (k + 2) = alv q c (k + 1) + c.getD (k + 1) 0 * den q (k + 1) := rfl
      rw [e, den_succ2]
      by_cases hx : c.getD (k + 1) 0 = q.getD (k + 1) 0
      · have hp := o1.2.2 hx
        rw [Nat.add_sub_cancel] at hp
        have e1 : alv q c (k + 1) = alv q c k + c.getD k 0 * den q k := rfl
        rw [hp, Int.zero_mul, Int.add_zero] at e1
        rw [hx]
        omega
      · have hle : c.getD (k + 1) 0 ≤ q.getD (k + 1) 0 - 1 := by have := o1.2.1; omega
        have hm := Int.mul_le_mul_of_nonneg_right hle (show 0 ≤ den q (k + 1) by omega)
        rw [Int.sub_mul, Int.one_mul] at hm
        omega
theorem rem_alv (q c : List Int) (h : Fr q) (ha : IsAl q c) : ∀ s, s ≤ q.length → rem q (alv q c q.length) (q.length - s) = alv q c (q.length - s) := by
  intro s
  induction s with
  | zero => intro _; exact rem_top q _
  | succ s ih =>
    intro hs
    have i := ih (by omega)
    have e : q.length - s = (q.length - (s + 1)) + 1 := by omega
    rw [e] at i
    rw [rem_step q _ _ (by omega), i]
    have hlt := al_lt q c h (q.length - (s + 1)) (by omega) (fun j hj => ha.2 j (by omega))
    have h0 := (alv_bd q c h (q.length - (s + 1)) (by omega) (fun j hj => ha.2 j (by omega))).1
    show (alv q c (q.length - (s + 1)) + c.getD (q.length - (s + 1)) 0 * den q (q.length - (s + 1))) % _ = _
    rw [Int.add_mul_emod_self_right]
    exact Int.emod_eq_of_lt h0 hlt
theorem rem_alv' (q c : List Int) (h : Fr q) (ha : IsAl q c) (m : Nat) (hm : m ≤ q.length) : rem q (alv q c q.length) m = alv q c m := by
  have := rem_alv q c h ha (q.length - m) (by omega)
  rwa [show q.length - (q.length - m) = m by omega] at this
theorem dgs_alv (q c : List Int) (h : Fr q) (ha : IsAl q c) : dgs q (alv q c q.length) = c := by
  apply List.ext_getElem?
  intro k
  by_cases hk : k < q.length
  · rw [dgs_get q _ k hk, getD_get c k (by rw [ha.1]; exact hk)]
    congr 1
    unfold dg
    rw [rem_alv' q c h ha (k + 1) (by omega)]
    show (alv q c k + c.getD k 0 * den q k) / den q k = _
    have hd := (den_le q h k (by omega)).1
    have hlt := al_lt q c h k (by omega) (fun j hj => ha.2 j (by omega))
    have h0 := (alv_bd q c h k (by omega) (fun j hj => ha.2 j (by omega))).1
    rw [Int.add_mul_ediv_right _ _ (by omega), Int.ediv_eq_zero_of_lt h0 hlt, Int.zero_add]
  · rw [List.getElem?_eq_none (by rw [dgs_length]; omega), List.getElem?_eq_none (by rw [ha.1]; omega)]
theorem dgs_getD (q : List Int) (n : Int) (k : Nat) (hk : k < q.length) : (dgs q n).getD k 0 = dg q n k := by
  have := dgs_get q n k hk
  simp [List.getD, this]
theorem alv_dgs (q : List Int) (h : Fr q) (n : Int) : ∀ m, m ≤ q.length → alv q (dgs q n) m = rem q n m := by
  intro m
  induction m with
  | zero =>
    intro _
    have := h.1
    rw [rem_step q n 0 (by omega)]
    show 0 = rem q n 1 % 1
    omega
  | succ m ih =>
    intro hm
    have i := ih (by omega)
    show alv q (dgs q n) m + (dgs q n).getD m 0 * den q m = _
    rw [i, dgs_getD q n m (by omega), rem_step q n m (by omega)]
    unfold dg
    have := Int.emod_add_mul_ediv (rem q n (m + 1)) (den q m)
    rw [Int.mul_comm] at this
    exact this
theorem rem_den (q : List Int) (h : Fr q) (n : Int) (hn : n < den q q.length) (m : Nat) (hm : m ≤ q.length) : rem q n m < den q m := by
  by_cases e : m = q.length
  · subst e; rw [rem_top]; exact hn
  · exact rem_lt q h n m (by omega)
theorem dgs_al (q : List Int) (h : Fr q) (n : Int) (h0 : 0 ≤ n) (hn : n < den q q.length) : IsAl q (dgs q n) := by
  refine ⟨dgs_length q n, fun k hk => ?_⟩
  have hd := (den_le q h k (by omega))
  have hr := (rem_bd q h n h0 (k + 1) (by omega)).1
  have hlt := rem_den q h n hn (k + 1) (by omega)
  have hdg0 : 0 ≤ dg q n k := Int.ediv_nonneg hr (by omega)
  rw [den_succ] at hlt
  rcases Nat.eq_zero_or_pos k with rfl | hk1
  · rw [okAt_zero (dgs_getD q n 0 hk) rfl]
    refine ⟨hdg0, ?_⟩
    have e0 : den q 0 = 1 := rfl
    have e1 : dlast q 0 = 0 := rfl
    rw [e0, e1] at hlt
    unfold dg
    rw [e0]
    omega
  · rw [okAt_succ hk1 (dgs_getD q n k hk) rfl (dgs_getD q n (k - 1) (by omega))]
    refine ⟨hdg0, ?_, ?_⟩
    · have : dg q n k < q.getD k 0 + 1 := by
        refine Int.ediv_lt_of_lt_mul (by omega) ?_
        rw [Int.add_mul, Int.one_mul]
        omega
      omega
    · intro he
      have e := Int.emod_add_mul_ediv (rem q n (k + 1)) (den q k)
      rw [← rem_step q n k hk] at e
      have hdk : rem q n (k + 1) / den q k = q.getD k 0 := he
      rw [hdk, Int.mul_comm] at e
      have hl : dlast q k = den q (k - 1) := by
        match k, hk1 with
        | k + 1, _ => rfl
      have hr0 := (rem_bd q h n h0 k (by omega)).1
      unfold dg
      rw [show k - 1 + 1 = k by omega]
      exact Int.ediv_eq_zero_of_lt hr0 (by omega)

/-! ### along 2 1 1 .. -/
def ones : List Int := [2, 1, 1, 1, 1, 1, 1, 1, 1, 1]
theorem ones_fr : Fr ones := by unfold Fr ones; simp
def dsum (m : Int) : Nat → Int
  | 0 => 0
  | k + 1 => dsum m k + dg ones m k
def onesOk (m : Nat) : Bool := (zeck m).all (fun k => decide (2 ≤ k) && decide (k ≤ 11) && (dg ones m (k - 2) == 1)) && (dsum m 10 == (zeck m).length) && decide ((m : Int) < den ones 10)
theorem ones_all : ∀ m, m < 144 → onesOk m = true := by decide +kernel
theorem ones_mem (m : Nat) (hm : m < 144) : (∀ k ∈ zeck m, 2 ≤ k ∧ k ≤ 11 ∧ dg ones m (k - 2) = 1) ∧ dsum m 10 = (zeck m).length ∧ (m : Int) < den ones 10 := by
  have := ones_all m hm
  unfold onesOk at this
  simp only [Bool.and_eq_true, List.all_eq_true, decide_eq_true_eq, beq_iff_eq] at this
  exact ⟨fun k hk => ⟨(this.1.1 k hk).1.1, (this.1.1 k hk).1.2, (this.1.1 k hk).2⟩, this.1.2, this.2⟩
theorem dg_bd (m : Nat) (hm : m < 144) (k : Nat) (hk : k < 10) : 0 ≤ dg ones m k ∧ dg ones m k ≤ 9 := by
  have ha := dgs_al ones ones_fr m (by omega) (ones_mem m hm).2.2
  have := ha.2 k hk
  rw [OkAt, dgs_getD ones m k hk] at this
  have := (ones_fr.at k hk).2
  omega
theorem dsum_bd (m : Nat) (hm : m < 144) (k : Nat) (hk : k ≤ 10) : 0 ≤ dsum m k ∧ dsum m k ≤ 9 * k := by
  induction k with
  | zero => simp [dsum]
  | succ k ih =>
    have := ih (by omega)
    have := dg_bd m hm k (by omega)
    rw [dsum]
    omega
theorem along_n (n : Int) : ∃ m : Nat, m < 144 ∧ wrap64 ((IntKind.u64.wrap n).tmod 144) = m := by
  have h0 := wrap_u64_nonneg n
  generalize IntKind.u64.wrap n = u at *
  rw [Int.tmod_eq_emod_of_nonneg h0]
  refine ⟨(u % 144).toNat, by omega, ?_⟩
  rw [IntWalk.wrap64_in (u % 144) (by omega)]
  omega
theorem Digits_ones (m : Nat) (hm : m < 144) (v : Value) (w : World) (hv : Ints w v ones) :
    Calls Try.prog 37 #[v, .int .i64 m] w fun e w' => ∃ v', e = .returned (.tuple #[v', .int .i64 0]) ∧ Ints w' v' (dgs ones m) ∧ Below w.heap.size w w' := by
  have e : ones.length = 10 := rfl
  exact Digits_yes v ones ones_fr m (by omega) (by rw [e]; exact (ones_mem m hm).2.2) w hv
theorem Encode_z' (n : Nat) (hn : n ≤ 1000000000000) (w : World) :
    Calls Try.prog 19 #[.int .i64 n] w fun e w' => ∃ v, e = .returned (.tuple #[v, .int .i64 0]) ∧ Ints w' v (ix (zeck n)) ∧ Below w.heap.size w w' := Encode_yes n hn w
theorem zeck_len' (n : Nat) (hn : n ≤ 1000000000000) : (zeck n).length ≤ 60 := zk_length 60 n

set_option maxRecDepth 100000 in
set_option maxHeartbeats 16000000 in
theorem numeralAlong_bad (vq : Value) (q : List Int) (n : Int) (vc : Value) (c : List Int) (h : ¬ Fr q) (w : World) (hq : Ints w vq q) (hc : Ints w vc c) :
    Calls Try.prog 12 #[vq, .int .i64 n, vc] w fun e w' => e = .returned (.bool true) ∧ Below w.heap.size w w' := by
  have HF := Lib.hid h
  have HF4 := Lib.hid (fr_take h)
  have HQ := Lib.hid hq
  have HC := Lib.hid hc
  clear h hq hc
  go_enter Try.func12, Try.ntmps12
  go_wp2_with fail
  refine (list_any _ q _ HQ.out).mono ?_
  rintro e w1 ⟨v1, rfl, o1, b1⟩
  have t1 := b1
  have O1 := Lib.hid (o1.ints (by rw [List.length_take]; omega))
  clear o1 b1
  go_wp2_with fail
  refine (list_any _ c _ (HC.out.keep t1)).mono ?_
  rintro e w2 ⟨v2, rfl, o2, b2⟩
  have t2 := t1.trans (b2.mono t1.size)
  have O2 := Lib.hid (o2.ints (by rw [List.length_take]; omega))
  have O1' := Lib.hid (O1.out.keep b2)
  clear o2 b2 t1
  go_wp2_with fail
  refine (Along_badq _ _ _ _ HF4.out _ O1'.out O2.out).mono ?_
  rintro e _ ⟨rfl, rfl⟩
  clear O1 O1' O2
  go_wp2_with fail
  refine (list_any _ q _ (HQ.out.keep t2)).mono ?_
  rintro e w3 ⟨v3, rfl, o3, b3⟩
  have t3 := t2.trans (b3.mono t2.size)
  have O3 := Lib.hid (o3.ints (by rw [List.length_take]; omega))
  clear o3 b3 t2
  go_wp2_with fail
  refine (Digits_badq _ _ HF4.out n _ O3.out).mono ?_
  rintro e _ ⟨rfl, rfl⟩
  clear O3
  go_wp2_with fail
  obtain ⟨m, hm, hmn⟩ := along_n n
  rw [hmn]
  clear hmn
  have LIT := Ints.lit w3 #[.int .i64 2, .int .i64 1, .int .i64 1, .int .i64 1, .int .i64 1, .int .i64 1, .int .i64 1, .int .i64 1, .int .i64 1, .int .i64 1] ones 10 rfl rfl (by simp [ones])
  have HLIT := Lib.hid LIT
  have tt := t3.alloc t3.size (.cells #[.int .i64 2, .int .i64 1, .int .i64 1, .int .i64 1, .int .i64 1, .int .i64 1, .int .i64 1, .int .i64 1, .int .i64 1, .int .i64 1] 3)
  clear LIT t3
  have HONE := Lib.hid (ones_mem m hm)
  (with_reducible refine (Digits_ones m hm _ _ HLIT.out).mono ?_)
  rintro e z1 ⟨vd, rfl, id, c1⟩
  have u1 := tt.trans (c1.mono tt.size)
  clear c1 tt HLIT
  obtain ⟨hlend, Ad, cd, rfl, hcpd, hdr⟩ := id
  have hl10 : (dgs ones m).length = 10 := dgs_length ones m
  obtain ⟨add, rfl, hbld, hcelld⟩ := hdr (by rw [hl10]; omega)
  rw [hl10] at hcpd ⊢
  have HCD := Lib.hid (fun k hk => hcelld k _ (dgs_get ones m k hk))
  clear hdr hcelld hl10 hlend
  go_wp2_with fail
  (with_reducible refine (Encode_z' m (by omega) _).mono ?_)
  rintro e z2 ⟨vl, rfl, il, c2⟩
  have u2 := u1.trans (c2.mono u1.size)
  have HCD2 := Lib.hid (fun k hk => (c2.cell (p := add.add k) (by rw [addr_block]; exact hbld)).trans (HCD.out k hk))
  have hbl2 : add.block < z2.heap.size := Nat.lt_of_lt_of_le hbld c2.size
  obtain ⟨hlenl, Al, cl, rfl, hcpl, hlr⟩ := il
  rw [ix_length] at *
  have HLR := Lib.hid hlr
  have hl60 := zeck_len' m (by omega)
  clear hlr c2 u1 HCD hbld hlenl
  go_wp2_with fail
  go_loop [18, 103] (fun s i => ∃ k : Nat, k ≤ (zeck m).length ∧ i = .int .i64 k ∧ s = .int .i64 k) (fun _ i => (zeck m).length - (intOf i).toNat)
  case atStart => exact ⟨0, Nat.zero_le _, rfl, rfl⟩
  case round =>
    obtain ⟨k, hk, rfl, rfl⟩ := hrel
    by_cases hlt : k < (zeck m).length
    · obtain ⟨adl, rfl, hbll, hcelll⟩ := HLR.out (by omega)
      have hx : (ix (zeck m))[k]? = some ((zeck m)[k] : Int) := by simp [ix, List.getElem?_eq_getElem hlt]
      have hck := hcelll k _ hx
      obtain ⟨m1, m2, m3⟩ := HONE.out.1 _ (List.getElem_mem hlt)
      generalize (zeck m)[k] = z at *
      have hcd := HCD2.out (z - 2) (show z - 2 < 10 by omega)
      have hz2 : decide ((z : Int) < 2) = false := decide_eq_false (by omega)
      have hz3 : decide (11 < (z : Int)) = false := decide_eq_false (by omega)
      have hz2' : decide (z < 2) = false := decide_eq_false (by omega)
      have hz3' : decide (11 < z) = false := decide_eq_false (by omega)
      have hzt : ((z : Int) - 2).toNat = z - 2 := by omega
      have hzp : (0 : Int) ≤ (z : Int) - 2 := by omega
      rw [m3] at hcd
      clear hx hcelll m3
      go_wp2_with fail
      go_round
      case rel => exact ⟨k + 1, by omega, by go_num, by go_num⟩
      case measure => simp [intOf]; omega
    · obtain rfl : k = (zeck m).length := by omega
      go_wp2_with fail
      go_loop [18, 126] (fun s i => ∃ k : Nat, k ≤ 10 ∧ i = .int .i64 k ∧ s = .int .i64 ((zeck m).length - dsum m k)) (fun _ i => 10 - (intOf i).toNat)
      case atStart => exact ⟨0, by omega, rfl, by simp [dsum]⟩
      case round =>
        obtain ⟨k, hk, rfl, rfl⟩ := hrel
        by_cases hlt2 : k < 10
        · have hcd := HCD2.out k (show k < 10 from hlt2)
          have b1 := dsum_bd m hm k (by omega)
          have b2 := dg_bd m hm k hlt2
          have HS := Lib.hid (show dsum m (k + 1) = dsum m k + dg ones m k from rfl)
          generalize dsum m k = s at *
          generalize dg ones m k = x at *
          obtain ⟨b1, b1'⟩ := b1
          obtain ⟨b2, b2'⟩ := b2
          go_wp2_with fail
          go_round
          case rel => exact ⟨k + 1, by omega, by go_num, by rw [HS.out]; go_num⟩
          case measure => simp [intOf]; omega
        · obtain rfl : k = 10 := by omega
          rw [HONE.out.2.1, Int.sub_self]
          go_wp2_with fail
          (with_reducible refine (awake_any _).mono ?_)
          rintro e z9 ⟨rfl, c9⟩
          go_wp2_with fail
          go_ret
          exact ⟨rfl, u2.trans (c9.mono u2.size)⟩

set_option maxRecDepth 100000 in
set_option maxHeartbeats 16000000 in
theorem numeralAlong_alok (vq : Value) (q : List Int) (n : Int) (vc : Value) (c : List Int) (h : Fr q) (ha : IsAl q c) (h0 : 0 ≤ n) (hn : n < den q q.length) (w : World) (hq : Ints w vq q) (hc : Ints w vc c) :
    Calls Try.prog 12 #[vq, .int .i64 n, vc] w fun e w' => e = .returned (.bool true) ∧ Below w.heap.size w w' := by
  have HF := Lib.hid h
  have HQ := Lib.hid hq
  have HC := Lib.hid hc
  have HT := Lib.hid h.take
  have HA := Lib.hid ha
  have h1 := (alv_bd q c h q.length (Nat.le_refl _) ha.2).1
  have h2 := al_lt q c h q.length (Nat.le_refl _) ha.2
  have HD0 := Lib.hid (fun v W hv => Digits_yes v q h (alv q c q.length) h1 h2 W hv)
  rw [dgs_alv q c h ha] at HD0
  clear h1 h2
  have HD := Lib.hid (fun v W hv => Digits_yes v q h n h0 hn W hv)
  have HAL := Lib.hid (dgs_al q h n h0 hn)
  have hval := alv_dgs q h n q.length (Nat.le_refl _)
  rw [rem_top] at hval
  have HVAL := Lib.hid hval
  have ht40 : (dgs q n).take 40 = dgs q n := List.take_of_length_le (by rw [dgs_length]; have := h.2.1; omega)
  have HT40 := Lib.hid ht40
  clear hval h0 hn ht40
  clear h hq hc ha
  go_enter Try.func12, Try.ntmps12
  go_wp2_with fail
  refine (list_any _ q _ HQ.out).mono ?_
  rintro e w1 ⟨v1, rfl, o1, b1⟩
  have t1 := b1
  have O1 := Lib.hid (o1.ints (by rw [List.length_take]; omega))
  clear o1 b1
  rw [HT.out] at O1
  go_wp2_with fail
  refine (list_any _ c _ (HC.out.keep t1)).mono ?_
  rintro e w2 ⟨v2, rfl, o2, b2⟩
  have t2 := t1.trans (b2.mono t1.size)
  have O2 := Lib.hid (o2.ints (by rw [List.length_take]; omega))
  have O1' := Lib.hid (O1.out.keep b2)
  clear o2 b2 t1
  go_wp2_with fail
  refine (Along_t _ _ q c HF.out _ O1'.out O2.out).mono ?_
  rintro e w3 ⟨x, s, hans, rfl, b3⟩
  have t3 := t2.trans (b3.mono t2.size)
  clear O1 O1' O2 b3 t2
  have hans' : x = alv q c q.length ∧ s = 0 := by
    rcases hans with ⟨_, h1, h2⟩ | ⟨h1, _⟩
    · exact ⟨h1, h2⟩
    · exact absurd HA.out h1
  clear hans
  obtain ⟨rfl, rfl⟩ := hans'
  go_wp2_with fail
  refine (list_any _ q _ (HQ.out.keep t3)).mono ?_
  rintro e w4 ⟨v4, rfl, o4, b4⟩
  have t4 := t3.trans (b4.mono t3.size)
  have O4 := Lib.hid (o4.ints (by rw [List.length_take]; omega))
  clear o4 b4 t3
  rw [HT.out] at O4
  go_wp2_with fail
  refine (HD0.out _ _ O4.out).mono ?_
  rintro e w5 ⟨v5, rfl, i5, b5⟩
  have t5 := t4.trans (b5.mono t4.size)
  have I5 := Lib.hid i5
  clear O4 b5 t4 i5
  go_wp2_with fail
  refine (equal_yes _ _ c _ I5.out (HC.out.keep t5)).mono ?_
  rintro e w6 ⟨rfl, b6⟩
  have t6 := t5.trans (b6.mono t5.size)
  clear t5 b6 I5
  go_wp2_with fail
  refine (list_any _ q _ (HQ.out.keep t6)).mono ?_
  rintro e w7 ⟨v7, rfl, o7, b7⟩
  have t7 := t6.trans (b7.mono t6.size)
  have O7 := Lib.hid (o7.ints (by rw [List.length_take]; omega))
  clear o7 b7 t6
  rw [HT.out] at O7
  go_wp2_with fail
  refine (HD.out _ _ O7.out).mono ?_
  rintro e w8 ⟨v8, rfl, i8, b8⟩
  have t8 := t7.trans (b8.mono t7.size)
  have I8 := Lib.hid i8
  clear O7 b8 t7 i8
  go_wp2_with fail
  refine (list_any _ q _ (HQ.out.keep t8)).mono ?_
  rintro e w9 ⟨v9, rfl, o9, b9⟩
  have t9 := t8.trans (b9.mono t8.size)
  have O9 := Lib.hid (o9.ints (by rw [List.length_take]; omega))
  have I8' := Lib.hid (I8.out.keep b9)
  clear o9 b9 t8
  rw [HT.out] at O9
  go_wp2_with fail
  refine (clone_any _ (dgs q n) _ I8'.out).mono ?_
  rintro e w10 ⟨v10, rfl, o10, b10⟩
  have t10 := t9.trans (b10.mono t9.size)
  have O9' := Lib.hid (O9.out.keep b10)
  have O10 := Lib.hid (o10.ints (by rw [dgs_length]; have := HF.out.2.1; omega))
  clear t9 b10 o10
  rw [← HT40.out] at O10
  go_wp2_with fail
  refine (Along_t _ _ q (dgs q n) HF.out _ O9'.out O10.out).mono ?_
  rintro e w11 ⟨x, s, hans, rfl, b11⟩
  have t11 := t10.trans (b11.mono t10.size)
  have hans' : n = x ∧ s = 0 := by
    rcases hans with ⟨_, h1, h2⟩ | ⟨h1, _⟩
    · exact ⟨(h1.trans HVAL.out).symm, h2⟩
    · exact absurd HAL.out h1
  clear hans O9 O9' O10 b11 t10
  obtain ⟨rfl, rfl⟩ := hans'
  go_wp2_with fail
  obtain ⟨m, hm, hmn⟩ := along_n n
  rw [hmn]
  clear hmn
  have LIT := Ints.lit w11 #[.int .i64 2, .int .i64 1, .int .i64 1, .int .i64 1, .int .i64 1, .int .i64 1, .int .i64 1, .int .i64 1, .int .i64 1, .int .i64 1] ones 10 rfl rfl (by simp [ones])
  have HLIT := Lib.hid LIT
  have tt := t11.alloc t11.size (.cells #[.int .i64 2, .int .i64 1, .int .i64 1, .int .i64 1, .int .i64 1, .int .i64 1, .int .i64 1, .int .i64 1, .int .i64 1, .int .i64 1] 3)
  clear LIT t11
  have HONE := Lib.hid (ones_mem m hm)
  (with_reducible refine (Digits_ones m hm _ _ HLIT.out).mono ?_)
  rintro e z1 ⟨vd, rfl, id, c1⟩
  have u1 := tt.trans (c1.mono tt.size)
  clear c1 tt HLIT
  obtain ⟨hlend, Ad, cd, rfl, hcpd, hdr⟩ := id
  have hl10 : (dgs ones m).length = 10 := dgs_length ones m
  obtain ⟨add, rfl, hbld, hcelld⟩ := hdr (by rw [hl10]; omega)
  rw [hl10] at hcpd ⊢
  have HCD := Lib.hid (fun k hk => hcelld k _ (dgs_get ones m k hk))
  clear hdr hcelld hl10 hlend
  go_wp2_with fail
  (with_reducible refine (Encode_z' m (by omega) _).mono ?_)
  rintro e z2 ⟨vl, rfl, il, c2⟩
  have u2 := u1.trans (c2.mono u1.size)
  have HCD2 := Lib.hid (fun k hk => (c2.cell (p := add.add k) (by rw [addr_block]; exact hbld)).trans (HCD.out k hk))
  have hbl2 : add.block < z2.heap.size := Nat.lt_of_lt_of_le hbld c2.size
  obtain ⟨hlenl, Al, cl, rfl, hcpl, hlr⟩ := il
  rw [ix_length] at *
  have HLR := Lib.hid hlr
  have hl60 := zeck_len' m (by omega)
  clear hlr c2 u1 HCD hbld hlenl
  go_wp2_with fail
  go_loop [18, 103] (fun s i => ∃ k : Nat, k ≤ (zeck m).length ∧ i = .int .i64 k ∧ s = .int .i64 k) (fun _ i => (zeck m).length - (intOf i).toNat)
  case atStart => exact ⟨0, Nat.zero_le _, rfl, rfl⟩
  case round =>
    obtain ⟨k, hk, rfl, rfl⟩ := hrel
    by_cases hlt : k < (zeck m).length
    · obtain ⟨adl, rfl, hbll, hcelll⟩ := HLR.out (by omega)
      have hx : (ix (zeck m))[k]? = some ((zeck m)[k] : Int) := by simp [ix, List.getElem?_eq_getElem hlt]
      have hck := hcelll k _ hx
      obtain ⟨m1, m2, m3⟩ := HONE.out.1 _ (List.getElem_mem hlt)
      generalize (zeck m)[k] = z at *
      have hcd := HCD2.out (z - 2) (show z - 2 < 10 by omega)
      have hz2 : decide ((z : Int) < 2) = false := decide_eq_false (by omega)
      have hz3 : decide (11 < (z : Int)) = false := decide_eq_false (by omega)
      have hz2' : decide (z < 2) = false := decide_eq_false (by omega)
      have hz3' : decide (11 < z) = false := decide_eq_false (by omega)
      have hzt : ((z : Int) - 2).toNat = z - 2 := by omega
      have hzp : (0 : Int) ≤ (z : Int) - 2 := by omega
      rw [m3] at hcd
      clear hx hcelll m3
      go_wp2_with fail
      go_round
      case rel => exact ⟨k + 1, by omega, by go_num, by go_num⟩
      case measure => simp [intOf]; omega
    · obtain rfl : k = (zeck m).length := by omega
      go_wp2_with fail
      go_loop [18, 126] (fun s i => ∃ k : Nat, k ≤ 10 ∧ i = .int .i64 k ∧ s = .int .i64 ((zeck m).length - dsum m k)) (fun _ i => 10 - (intOf i).toNat)
      case atStart => exact ⟨0, by omega, rfl, by simp [dsum]⟩
      case round =>
        obtain ⟨k, hk, rfl, rfl⟩ := hrel
        by_cases hlt2 : k < 10
        · have hcd := HCD2.out k (show k < 10 from hlt2)
          have b1 := dsum_bd m hm k (by omega)
          have b2 := dg_bd m hm k hlt2
          have HS := Lib.hid (show dsum m (k + 1) = dsum m k + dg ones m k from rfl)
          generalize dsum m k = s at *
          generalize dg ones m k = x at *
          obtain ⟨b1, b1'⟩ := b1
          obtain ⟨b2, b2'⟩ := b2
          go_wp2_with fail
          go_round
          case rel => exact ⟨k + 1, by omega, by go_num, by rw [HS.out]; go_num⟩
          case measure => simp [intOf]; omega
        · obtain rfl : k = 10 := by omega
          rw [HONE.out.2.1, Int.sub_self]
          go_wp2_with fail
          (with_reducible refine (awake_any _).mono ?_)
          rintro e z9 ⟨rfl, c9⟩
          go_wp2_with fail
          go_ret
          exact ⟨rfl, u2.trans (c9.mono u2.size)⟩

set_option maxRecDepth 100000 in
set_option maxHeartbeats 16000000 in
theorem numeralAlong_albad (vq : Value) (q : List Int) (n : Int) (vc : Value) (c : List Int) (h : Fr q) (ha : IsAl q c) (hn : n < 0 ∨ den q q.length ≤ n) (w : World) (hq : Ints w vq q) (hc : Ints w vc c) :
    Calls Try.prog 12 #[vq, .int .i64 n, vc] w fun e w' => e = .returned (.bool true) ∧ Below w.heap.size w w' := by
  have HF := Lib.hid h
  have HQ := Lib.hid hq
  have HC := Lib.hid hc
  have HT := Lib.hid h.take
  have HA := Lib.hid ha
  have h1 := (alv_bd q c h q.length (Nat.le_refl _) ha.2).1
  have h2 := al_lt q c h q.length (Nat.le_refl _) ha.2
  have HD0 := Lib.hid (fun v W hv => Digits_yes v q h (alv q c q.length) h1 h2 W hv)
  rw [dgs_alv q c h ha] at HD0
  clear h1 h2
  have HD := Lib.hid (fun v W hv => Digits_badn v q h n hn W hv)
  clear hn
  clear h hq hc ha
  go_enter Try.func12, Try.ntmps12
  go_wp2_with fail
  refine (list_any _ q _ HQ.out).mono ?_
  rintro e w1 ⟨v1, rfl, o1, b1⟩
  have t1 := b1
  have O1 := Lib.hid (o1.ints (by rw [List.length_take]; omega))
  clear o1 b1
  rw [HT.out] at O1
  go_wp2_with fail
  refine (list_any _ c _ (HC.out.keep t1)).mono ?_
  rintro e w2 ⟨v2, rfl, o2, b2⟩
  have t2 := t1.trans (b2.mono t1.size)
  have O2 := Lib.hid (o2.ints (by rw [List.length_take]; omega))
  have O1' := Lib.hid (O1.out.keep b2)
  clear o2 b2 t1
  go_wp2_with fail
  refine (Along_t _ _ q c HF.out _ O1'.out O2.out).mono ?_
  rintro e w3 ⟨x, s, hans, rfl, b3⟩
  have t3 := t2.trans (b3.mono t2.size)
  clear O1 O1' O2 b3 t2
  have hans' : x = alv q c q.length ∧ s = 0 := by
    rcases hans with ⟨_, h1, h2⟩ | ⟨h1, _⟩
    · exact ⟨h1, h2⟩
    · exact absurd HA.out h1
  clear hans
  obtain ⟨rfl, rfl⟩ := hans'
  go_wp2_with fail
  refine (list_any _ q _ (HQ.out.keep t3)).mono ?_
  rintro e w4 ⟨v4, rfl, o4, b4⟩
  have t4 := t3.trans (b4.mono t3.size)
  have O4 := Lib.hid (o4.ints (by rw [List.length_take]; omega))
  clear o4 b4 t3
  rw [HT.out] at O4
  go_wp2_with fail
  refine (HD0.out _ _ O4.out).mono ?_
  rintro e w5 ⟨v5, rfl, i5, b5⟩
  have t5 := t4.trans (b5.mono t4.size)
  have I5 := Lib.hid i5
  clear O4 b5 t4 i5
  go_wp2_with fail
  refine (equal_yes _ _ c _ I5.out (HC.out.keep t5)).mono ?_
  rintro e w6 ⟨rfl, b6⟩
  have t6 := t5.trans (b6.mono t5.size)
  clear t5 b6 I5
  go_wp2_with fail
  refine (list_any _ q _ (HQ.out.keep t6)).mono ?_
  rintro e w7 ⟨v7, rfl, o7, b7⟩
  have t7 := t6.trans (b7.mono t6.size)
  have O7 := Lib.hid (o7.ints (by rw [List.length_take]; omega))
  clear o7 b7 t6
  rw [HT.out] at O7
  go_wp2_with fail
  refine (HD.out _ _ O7.out).mono ?_
  rintro e w8 ⟨rfl, b8⟩
  have t8 := t7.trans (b8.mono t7.size)
  clear O7 b8 t7
  go_wp2_with fail
  obtain ⟨m, hm, hmn⟩ := along_n n
  rw [hmn]
  clear hmn
  have LIT := Ints.lit w8 #[.int .i64 2, .int .i64 1, .int .i64 1, .int .i64 1, .int .i64 1, .int .i64 1, .int .i64 1, .int .i64 1, .int .i64 1, .int .i64 1] ones 10 rfl rfl (by simp [ones])
  have HLIT := Lib.hid LIT
  have tt := t8.alloc t8.size (.cells #[.int .i64 2, .int .i64 1, .int .i64 1, .int .i64 1, .int .i64 1, .int .i64 1, .int .i64 1, .int .i64 1, .int .i64 1, .int .i64 1] 3)
  clear LIT t8
  have HONE := Lib.hid (ones_mem m hm)
  (with_reducible refine (Digits_ones m hm _ _ HLIT.out).mono ?_)
  rintro e z1 ⟨vd, rfl, id, c1⟩
  have u1 := tt.trans (c1.mono tt.size)
  clear c1 tt HLIT
  obtain ⟨hlend, Ad, cd, rfl, hcpd, hdr⟩ := id
  have hl10 : (dgs ones m).length = 10 := dgs_length ones m
  obtain ⟨add, rfl, hbld, hcelld⟩ := hdr (by rw [hl10]; omega)
  rw [hl10] at hcpd ⊢
  have HCD := Lib.hid (fun k hk => hcelld k _ (dgs_get ones m k hk))
  clear hdr hcelld hl10 hlend
  go_wp2_with fail
  (with_reducible refine (Encode_z' m (by omega) _).mono ?_)
  rintro e z2 ⟨vl, rfl, il, c2⟩
  have u2 := u1.trans (c2.mono u1.size)
  have HCD2 := Lib.hid (fun k hk => (c2.cell (p := add.add k) (by rw [addr_block]; exact hbld)).trans (HCD.out k hk))
  have hbl2 : add.block < z2.heap.size := Nat.lt_of_lt_of_le hbld c2.size
  obtain ⟨hlenl, Al, cl, rfl, hcpl, hlr⟩ := il
  rw [ix_length] at *
  have HLR := Lib.hid hlr
  have hl60 := zeck_len' m (by omega)
  clear hlr c2 u1 HCD hbld hlenl
  go_wp2_with fail
  go_loop [18, 103] (fun s i => ∃ k : Nat, k ≤ (zeck m).length ∧ i = .int .i64 k ∧ s = .int .i64 k) (fun _ i => (zeck m).length - (intOf i).toNat)
  case atStart => exact ⟨0, Nat.zero_le _, rfl, rfl⟩
  case round =>
    obtain ⟨k, hk, rfl, rfl⟩ := hrel
    by_cases hlt : k < (zeck m).length
    · obtain ⟨adl, rfl, hbll, hcelll⟩ := HLR.out (by omega)
      have hx : (ix (zeck m))[k]? = some ((zeck m)[k] : Int) := by simp [ix, List.getElem?_eq_getElem hlt]
      have hck := hcelll k _ hx
      obtain ⟨m1, m2, m3⟩ := HONE.out.1 _ (List.getElem_mem hlt)
      generalize (zeck m)[k] = z at *
      have hcd := HCD2.out (z - 2) (show z - 2 < 10 by omega)
      have hz2 : decide ((z : Int) < 2) = false := decide_eq_false (by omega)
      have hz3 : decide (11 < (z : Int)) = false := decide_eq_false (by omega)
      have hz2' : decide (z < 2) = false := decide_eq_false (by omega)
      have hz3' : decide (11 < z) = false := decide_eq_false (by omega)
      have hzt : ((z : Int) - 2).toNat = z - 2 := by omega
      have hzp : (0 : Int) ≤ (z : Int) - 2 := by omega
      rw [m3] at hcd
      clear hx hcelll m3
      go_wp2_with fail
      go_round
      case rel => exact ⟨k + 1, by omega, by go_num, by go_num⟩
      case measure => simp [intOf]; omega
    · obtain rfl : k = (zeck m).length := by omega
      go_wp2_with fail
      go_loop [18, 126] (fun s i => ∃ k : Nat, k ≤ 10 ∧ i = .int .i64 k ∧ s = .int .i64 ((zeck m).length - dsum m k)) (fun _ i => 10 - (intOf i).toNat)
      case atStart => exact ⟨0, by omega, rfl, by simp [dsum]⟩
      case round =>
        obtain ⟨k, hk, rfl, rfl⟩ := hrel
        by_cases hlt2 : k < 10
        · have hcd := HCD2.out k (show k < 10 from hlt2)
          have b1 := dsum_bd m hm k (by omega)
          have b2 := dg_bd m hm k hlt2
          have HS := Lib.hid (show dsum m (k + 1) = dsum m k + dg ones m k from rfl)
          generalize dsum m k = s at *
          generalize dg ones m k = x at *
          obtain ⟨b1, b1'⟩ := b1
          obtain ⟨b2, b2'⟩ := b2
          go_wp2_with fail
          go_round
          case rel => exact ⟨k + 1, by omega, by go_num, by rw [HS.out]; go_num⟩
          case measure => simp [intOf]; omega
        · obtain rfl : k = 10 := by omega
          rw [HONE.out.2.1, Int.sub_self]
          go_wp2_with fail
          (with_reducible refine (awake_any _).mono ?_)
          rintro e z9 ⟨rfl, c9⟩
          go_wp2_with fail
          go_ret
          exact ⟨rfl, u2.trans (c9.mono u2.size)⟩

set_option maxRecDepth 100000 in
set_option maxHeartbeats 16000000 in
theorem numeralAlong_notok (vq : Value) (q : List Int) (n : Int) (vc : Value) (c : List Int) (h : Fr q) (ha : ¬ IsAl q c) (h0 : 0 ≤ n) (hn : n < den q q.length) (w : World) (hq : Ints w vq q) (hc : Ints w vc c) :
    Calls Try.prog 12 #[vq, .int .i64 n, vc] w fun e w' => e = .returned (.bool true) ∧ Below w.heap.size w w' := by
  have HF := Lib.hid h
  have HQ := Lib.hid hq
  have HC := Lib.hid hc
  have HT := Lib.hid h.take
  have HA := Lib.hid ha
  have HD := Lib.hid (fun v W hv => Digits_yes v q h n h0 hn W hv)
  have HAL := Lib.hid (dgs_al q h n h0 hn)
  have hval := alv_dgs q h n q.length (Nat.le_refl _)
  rw [rem_top] at hval
  have HVAL := Lib.hid hval
  have ht40 : (dgs q n).take 40 = dgs q n := List.take_of_length_le (by rw [dgs_length]; have := h.2.1; omega)
  have HT40 := Lib.hid ht40
  clear hval h0 hn ht40
  clear h hq hc ha
  go_enter Try.func12, Try.ntmps12
  go_wp2_with fail
  refine (list_any _ q _ HQ.out).mono ?_
  rintro e w1 ⟨v1, rfl, o1, b1⟩
  have t1 := b1
  have O1 := Lib.hid (o1.ints (by rw [List.length_take]; omega))
  clear o1 b1
  rw [HT.out] at O1
  go_wp2_with fail
  refine (list_any _ c _ (HC.out.keep t1)).mono ?_
  rintro e w2 ⟨v2, rfl, o2, b2⟩
  have t2 := t1.trans (b2.mono t1.size)
  have O2 := Lib.hid (o2.ints (by rw [List.length_take]; omega))
  have O1' := Lib.hid (O1.out.keep b2)
  clear o2 b2 t1
  go_wp2_with fail
  refine (Along_t _ _ q c HF.out _ O1'.out O2.out).mono ?_
  rintro e w3 ⟨x, s, hans, rfl, b3⟩
  have t3 := t2.trans (b3.mono t2.size)
  clear O1 O1' O2 b3 t2
  have hans' : x = 0 ∧ s = 2 := by
    rcases hans with ⟨h1, _⟩ | ⟨_, h1, h2⟩
    · exact absurd h1 HA.out
    · exact ⟨h1, h2⟩
  clear hans
  obtain ⟨rfl, rfl⟩ := hans'
  have t6 := t3
  clear t3
  go_wp2_with fail
  refine (list_any _ q _ (HQ.out.keep t6)).mono ?_
  rintro e w7 ⟨v7, rfl, o7, b7⟩
  have t7 := t6.trans (b7.mono t6.size)
  have O7 := Lib.hid (o7.ints (by rw [List.length_take]; omega))
  clear o7 b7 t6
  rw [HT.out] at O7
  go_wp2_with fail
  refine (HD.out _ _ O7.out).mono ?_
  rintro e w8 ⟨v8, rfl, i8, b8⟩
  have t8 := t7.trans (b8.mono t7.size)
  have I8 := Lib.hid i8
  clear O7 b8 t7 i8
  go_wp2_with fail
  refine (list_any _ q _ (HQ.out.keep t8)).mono ?_
  rintro e w9 ⟨v9, rfl, o9, b9⟩
  have t9 := t8.trans (b9.mono t8.size)
  have O9 := Lib.hid (o9.ints (by rw [List.length_take]; omega))
  have I8' := Lib.hid (I8.out.keep b9)
  clear o9 b9 t8
  rw [HT.out] at O9
  go_wp2_with fail
  refine (clone_any _ (dgs q n) _ I8'.out).mono ?_
  rintro e w10 ⟨v10, rfl, o10, b10⟩
  have t10 := t9.trans (b10.mono t9.size)
  have O9' := Lib.hid (O9.out.keep b10)
  have O10 := Lib.hid (o10.ints (by rw [dgs_length]; have := HF.out.2.1; omega))
  clear t9 b10 o10
  rw [← HT40.out] at O10
  go_wp2_with fail
  refine (Along_t _ _ q (dgs q n) HF.out _ O9'.out O10.out).mono ?_
  rintro e w11 ⟨x, s, hans, rfl, b11⟩
  have t11 := t10.trans (b11.mono t10.size)
  have hans' : n = x ∧ s = 0 := by
    rcases hans with ⟨_, h1, h2⟩ | ⟨h1, _⟩
    · exact ⟨(h1.trans HVAL.out).symm, h2⟩
    · exact absurd HAL.out h1
  clear hans O9 O9' O10 b11 t10
  obtain ⟨rfl, rfl⟩ := hans'
  go_wp2_with fail
  obtain ⟨m, hm, hmn⟩ := along_n n
  rw [hmn]
  clear hmn
  have LIT := Ints.lit w11 #[.int .i64 2, .int .i64 1, .int .i64 1, .int .i64 1, .int .i64 1, .int .i64 1, .int .i64 1, .int .i64 1, .int .i64 1, .int .i64 1] ones 10 rfl rfl (by simp [ones])
  have HLIT := Lib.hid LIT
  have tt := t11.alloc t11.size (.cells #[.int .i64 2, .int .i64 1, .int .i64 1, .int .i64 1, .int .i64 1, .int .i64 1, .int .i64 1, .int .i64 1, .int .i64 1, .int .i64 1] 3)
  clear LIT t11
  have HONE := Lib.hid (ones_mem m hm)
  (with_reducible refine (Digits_ones m hm _ _ HLIT.out).mono ?_)
  rintro e z1 ⟨vd, rfl, id, c1⟩
  have u1 := tt.trans (c1.mono tt.size)
  clear c1 tt HLIT
  obtain ⟨hlend, Ad, cd, rfl, hcpd, hdr⟩ := id
  have hl10 : (dgs ones m).length = 10 := dgs_length ones m
  obtain ⟨add, rfl, hbld, hcelld⟩ := hdr (by rw [hl10]; omega)
  rw [hl10] at hcpd ⊢
  have HCD := Lib.hid (fun k hk => hcelld k _ (dgs_get ones m k hk))
  clear hdr hcelld hl10 hlend
  go_wp2_with fail
  (with_reducible refine (Encode_z' m (by omega) _).mono ?_)
  rintro e z2 ⟨vl, rfl, il, c2⟩
  have u2 := u1.trans (c2.mono u1.size)
  have HCD2 := Lib.hid (fun k hk => (c2.cell (p := add.add k) (by rw [addr_block]; exact hbld)).trans (HCD.out k hk))
  have hbl2 : add.block < z2.heap.size := Nat.lt_of_lt_of_le hbld c2.size
  obtain ⟨hlenl, Al, cl, rfl, hcpl, hlr⟩ := il
  rw [ix_length] at *
  have HLR := Lib.hid hlr
  have hl60 := zeck_len' m (by omega)
  clear hlr c2 u1 HCD hbld hlenl
  go_wp2_with fail
  go_loop [18, 103] (fun s i => ∃ k : Nat, k ≤ (zeck m).length ∧ i = .int .i64 k ∧ s = .int .i64 k) (fun _ i => (zeck m).length - (intOf i).toNat)
  case atStart => exact ⟨0, Nat.zero_le _, rfl, rfl⟩
  case round =>
    obtain ⟨k, hk, rfl, rfl⟩ := hrel
    by_cases hlt : k < (zeck m).length
    · obtain ⟨adl, rfl, hbll, hcelll⟩ := HLR.out (by omega)
      have hx : (ix (zeck m))[k]? = some ((zeck m)[k] : Int) := by simp [ix, List.getElem?_eq_getElem hlt]
      have hck := hcelll k _ hx
      obtain ⟨m1, m2, m3⟩ := HONE.out.1 _ (List.getElem_mem hlt)
      generalize (zeck m)[k] = z at *
      have hcd := HCD2.out (z - 2) (show z - 2 < 10 by omega)
      have hz2 : decide ((z : Int) < 2) = false := decide_eq_false (by omega)
      have hz3 : decide (11 < (z : Int)) = false := decide_eq_false (by omega)
      have hz2' : decide (z < 2) = false := decide_eq_false (by omega)
      have hz3' : decide (11 < z) = false := decide_eq_false (by omega)
      have hzt : ((z : Int) - 2).toNat = z - 2 := by omega
      have hzp : (0 : Int) ≤ (z : Int) - 2 := by omega
      rw [m3] at hcd
      clear hx hcelll m3
      go_wp2_with fail
      go_round
      case rel => exact ⟨k + 1, by omega, by go_num, by go_num⟩
      case measure => simp [intOf]; omega
    · obtain rfl : k = (zeck m).length := by omega
      go_wp2_with fail
      go_loop [18, 126] (fun s i => ∃ k : Nat, k ≤ 10 ∧ i = .int .i64 k ∧ s = .int .i64 ((zeck m).length - dsum m k)) (fun _ i => 10 - (intOf i).toNat)
      case atStart => exact ⟨0, by omega, rfl, by simp [dsum]⟩
      case round =>
        obtain ⟨k, hk, rfl, rfl⟩ := hrel
        by_cases hlt2 : k < 10
        · have hcd := HCD2.out k (show k < 10 from hlt2)
          have b1 := dsum_bd m hm k (by omega)
          have b2 := dg_bd m hm k hlt2
          have HS := Lib.hid (show dsum m (k + 1) = dsum m k + dg ones m k from rfl)
          generalize dsum m k = s at *
          generalize dg ones m k = x at *
          obtain ⟨b1, b1'⟩ := b1
          obtain ⟨b2, b2'⟩ := b2
          go_wp2_with fail
          go_round
          case rel => exact ⟨k + 1, by omega, by go_num, by rw [HS.out]; go_num⟩
          case measure => simp [intOf]; omega
        · obtain rfl : k = 10 := by omega
          rw [HONE.out.2.1, Int.sub_self]
          go_wp2_with fail
          (with_reducible refine (awake_any _).mono ?_)
          rintro e z9 ⟨rfl, c9⟩
          go_wp2_with fail
          go_ret
          exact ⟨rfl, u2.trans (c9.mono u2.size)⟩

set_option maxRecDepth 100000 in
set_option maxHeartbeats 16000000 in
theorem numeralAlong_notbad (vq : Value) (q : List Int) (n : Int) (vc : Value) (c : List Int) (h : Fr q) (ha : ¬ IsAl q c) (hn : n < 0 ∨ den q q.length ≤ n) (w : World) (hq : Ints w vq q) (hc : Ints w vc c) :
    Calls Try.prog 12 #[vq, .int .i64 n, vc] w fun e w' => e = .returned (.bool true) ∧ Below w.heap.size w w' := by
  have HF := Lib.hid h
  have HQ := Lib.hid hq
  have HC := Lib.hid hc
  have HT := Lib.hid h.take
  have HA := Lib.hid ha
  have HD := Lib.hid (fun v W hv => Digits_badn v q h n hn W hv)
  clear hn
  clear h hq hc ha
  go_enter Try.func12, Try.ntmps12
  go_wp2_with fail
  refine (list_any _ q _ HQ.out).mono ?_
  rintro e w1 ⟨v1, rfl, o1, b1⟩
  have t1 := b1
  have O1 := Lib.hid (o1.ints (by rw [List.length_take]; omega))
  clear o1 b1
  rw [HT.out] at O1
  go_wp2_with fail
  refine (list_any _ c _ (HC.out.keep t1)).mono ?_
  rintro e w2 ⟨v2, rfl, o2, b2⟩
  have t2 := t1.trans (b2.mono t1.size)
  have O2 := Lib.hid (o2.ints (by rw [List.length_take]; omega))
  have O1' := Lib.hid (O1.out.keep b2)
  clear o2 b2 t1
  go_wp2_with fail
  refine (Along_t _ _ q c HF.out _ O1'.out O2.out).mono ?_
  rintro e w3 ⟨x, s, hans, rfl, b3⟩
  have t3 := t2.trans (b3.mono t2.size)
  clear O1 O1' O2 b3 t2
  have hans' : x = 0 ∧ s = 2 := by
    rcases hans with ⟨h1, _⟩ | ⟨_, h1, h2⟩
    · exact absurd h1 HA.out
    · exact ⟨h1, h2⟩
  clear hans
  obtain ⟨rfl, rfl⟩ := hans'
  have t6 := t3
  clear t3
  go_wp2_with fail
  refine (list_any _ q _ (HQ.out.keep t6)).mono ?_
  rintro e w7 ⟨v7, rfl, o7, b7⟩
  have t7 := t6.trans (b7.mono t6.size)
  have O7 := Lib.hid (o7.ints (by rw [List.length_take]; omega))
  clear o7 b7 t6
  rw [HT.out] at O7
  go_wp2_with fail
  refine (HD.out _ _ O7.out).mono ?_
  rintro e w8 ⟨rfl, b8⟩
  have t8 := t7.trans (b8.mono t7.size)
  clear O7 b8 t7
  go_wp2_with fail
  obtain ⟨m, hm, hmn⟩ := along_n n
  rw [hmn]
  clear hmn
  have LIT := Ints.lit w8 #[.int .i64 2, .int .i64 1, .int .i64 1, .int .i64 1, .int .i64 1, .int .i64 1, .int .i64 1, .int .i64 1, .int .i64 1, .int .i64 1] ones 10 rfl rfl (by simp [ones])
  have HLIT := Lib.hid LIT
  have tt := t8.alloc t8.size (.cells #[.int .i64 2, .int .i64 1, .int .i64 1, .int .i64 1, .int .i64 1, .int .i64 1, .int .i64 1, .int .i64 1, .int .i64 1, .int .i64 1] 3)
  clear LIT t8
  have HONE := Lib.hid (ones_mem m hm)
  (with_reducible refine (Digits_ones m hm _ _ HLIT.out).mono ?_)
  rintro e z1 ⟨vd, rfl, id, c1⟩
  have u1 := tt.trans (c1.mono tt.size)
  clear c1 tt HLIT
  obtain ⟨hlend, Ad, cd, rfl, hcpd, hdr⟩ := id
  have hl10 : (dgs ones m).length = 10 := dgs_length ones m
  obtain ⟨add, rfl, hbld, hcelld⟩ := hdr (by rw [hl10]; omega)
  rw [hl10] at hcpd ⊢
  have HCD := Lib.hid (fun k hk => hcelld k _ (dgs_get ones m k hk))
  clear hdr hcelld hl10 hlend
  go_wp2_with fail
  (with_reducible refine (Encode_z' m (by omega) _).mono ?_)
  rintro e z2 ⟨vl, rfl, il, c2⟩
  have u2 := u1.trans (c2.mono u1.size)
  have HCD2 := Lib.hid (fun k hk => (c2.cell (p := add.add k) (by rw [addr_block]; exact hbld)).trans (HCD.out k hk))
  have hbl2 : add.block < z2.heap.size := Nat.lt_of_lt_of_le hbld c2.size
  obtain ⟨hlenl, Al, cl, rfl, hcpl, hlr⟩ := il
  rw [ix_length] at *
  have HLR := Lib.hid hlr
  have hl60 := zeck_len' m (by omega)
  clear hlr c2 u1 HCD hbld hlenl
  go_wp2_with fail
  go_loop [18, 103] (fun s i => ∃ k : Nat, k ≤ (zeck m).length ∧ i = .int .i64 k ∧ s = .int .i64 k) (fun _ i => (zeck m).length - (intOf i).toNat)
  case atStart => exact ⟨0, Nat.zero_le _, rfl, rfl⟩
  case round =>
    obtain ⟨k, hk, rfl, rfl⟩ := hrel
    by_cases hlt : k < (zeck m).length
    · obtain ⟨adl, rfl, hbll, hcelll⟩ := HLR.out (by omega)
      have hx : (ix (zeck m))[k]? = some ((zeck m)[k] : Int) := by simp [ix, List.getElem?_eq_getElem hlt]
      have hck := hcelll k _ hx
      obtain ⟨m1, m2, m3⟩ := HONE.out.1 _ (List.getElem_mem hlt)
      generalize (zeck m)[k] = z at *
      have hcd := HCD2.out (z - 2) (show z - 2 < 10 by omega)
      have hz2 : decide ((z : Int) < 2) = false := decide_eq_false (by omega)
      have hz3 : decide (11 < (z : Int)) = false := decide_eq_false (by omega)
      have hz2' : decide (z < 2) = false := decide_eq_false (by omega)
      have hz3' : decide (11 < z) = false := decide_eq_false (by omega)
      have hzt : ((z : Int) - 2).toNat = z - 2 := by omega
      have hzp : (0 : Int) ≤ (z : Int) - 2 := by omega
      rw [m3] at hcd
      clear hx hcelll m3
      go_wp2_with fail
      go_round
      case rel => exact ⟨k + 1, by omega, by go_num, by go_num⟩
      case measure => simp [intOf]; omega
    · obtain rfl : k = (zeck m).length := by omega
      go_wp2_with fail
      go_loop [18, 126] (fun s i => ∃ k : Nat, k ≤ 10 ∧ i = .int .i64 k ∧ s = .int .i64 ((zeck m).length - dsum m k)) (fun _ i => 10 - (intOf i).toNat)
      case atStart => exact ⟨0, by omega, rfl, by simp [dsum]⟩
      case round =>
        obtain ⟨k, hk, rfl, rfl⟩ := hrel
        by_cases hlt2 : k < 10
        · have hcd := HCD2.out k (show k < 10 from hlt2)
          have b1 := dsum_bd m hm k (by omega)
          have b2 := dg_bd m hm k hlt2
          have HS := Lib.hid (show dsum m (k + 1) = dsum m k + dg ones m k from rfl)
          generalize dsum m k = s at *
          generalize dg ones m k = x at *
          obtain ⟨b1, b1'⟩ := b1
          obtain ⟨b2, b2'⟩ := b2
          go_wp2_with fail
          go_round
          case rel => exact ⟨k + 1, by omega, by go_num, by rw [HS.out]; go_num⟩
          case measure => simp [intOf]; omega
        · obtain rfl : k = 10 := by omega
          rw [HONE.out.2.1, Int.sub_self]
          go_wp2_with fail
          (with_reducible refine (awake_any _).mono ?_)
          rintro e z9 ⟨rfl, c9⟩
          go_wp2_with fail
          go_ret
          exact ⟨rfl, u2.trans (c9.mono u2.size)⟩

/-- The walk of the law. -/
theorem numeralAlong_walk (w : World) (vq : Value) (q : List Int) (hq : Ints w vq q) (_ : ∀ n ∈ q, -9223372036854775808 ≤ n ∧ n ≤ 9223372036854775807) (n : Int) (_ : -9223372036854775808 ≤ n ∧ n ≤ 9223372036854775807) (vc : Value) (c : List Int) (hc : Ints w vc c) (_ : ∀ n ∈ c, -9223372036854775808 ≤ n ∧ n ≤ 9223372036854775807) :
    Calls Try.prog 12 #[vq, .int .i64 n, vc] w fun e w' => e = .returned (.bool true) ∧ Below w.heap.size w w' := by
  by_cases h : Fr q
  · by_cases hn : n < 0 ∨ den q q.length ≤ n
    · by_cases ha : IsAl q c
      · exact numeralAlong_albad vq q n vc c h ha hn w hq hc
      · exact numeralAlong_notbad vq q n vc c h ha hn w hq hc
    · by_cases ha : IsAl q c
      · exact numeralAlong_alok vq q n vc c h ha (by omega) (by omega) w hq hc
      · exact numeralAlong_notok vq q n vc c h ha (by omega) (by omega) w hq hc
  · exact numeralAlong_bad vq q n vc c h w hq hc
end Go.Proofs.Ytiknocjdogbajaa
