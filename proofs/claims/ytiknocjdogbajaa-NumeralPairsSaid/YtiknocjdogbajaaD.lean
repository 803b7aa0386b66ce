/- Walks: Circle of numeral and of the reference; Shift of the reference. -/
import Derived.Test.YtiknocjdogbajaaC
import Derived.Test.YtiknocjdogbajaaO
namespace Go.Proofs.Ytiknocjdogbajaa
open Go.RowKit

/-- a number that is told, or the error that it is too large -/
def tv (c : Nat) : Int := if c ≤ 1000000000000 then c else 0
def te (c : Nat) : Int := if c ≤ 1000000000000 then 0 else 6
theorem tv_yes {c : Nat} (h : c ≤ 1000000000000) : tv c = c := if_pos h
theorem te_yes {c : Nat} (h : c ≤ 1000000000000) : te c = 0 := if_pos h
theorem tv_no {c : Nat} (h : ¬ c ≤ 1000000000000) : tv c = 0 := if_neg h
theorem te_no {c : Nat} (h : ¬ c ≤ 1000000000000) : te c = 6 := if_neg h

theorem circ_split (l m : List Nat) (k : Nat) (h : k < l.length) : circ (l.take (k + 1)) m = circ (l.take k) m + vs 0 (m.map (l[k] + ·)) := by
  have : ∀ (l : List Nat) (a : Nat), sums (l ++ [a]) m = sums l m ++ m.map (a + ·) := by
    intro l a
    induction l with
    | nil => simp [sums]
    | cons b l ih => simp [sums, ih]
  unfold circ
  rw [List.take_succ_eq_append_getElem h, this, vs_append]
theorem map_split (m : List Nat) (j k : Nat) (h : k < m.length) : vs 0 ((m.take (k + 1)).map (j + ·)) = vs 0 ((m.take k).map (j + ·)) + F (j + m[k]) := by
  rw [List.take_succ_eq_append_getElem h, List.map_append, vs_append]
  have e : (((j + m[k] : Nat) : Int) + 0).toNat = j + m[k] := by omega
  simp only [List.map_cons, List.map_nil, vs_cons, vs_nil]
  rw [e]; rfl
theorem map_le (m : List Nat) (j k : Nat) : vs 0 ((m.take k).map (j + ·)) ≤ vs 0 (m.map (j + ·)) := by
  have h : vs 0 (((m.take k) ++ (m.drop k)).map (j + ·)) = vs 0 ((m.take k).map (j + ·)) + vs 0 ((m.drop k).map (j + ·)) := by rw [List.map_append, vs_append]
  rw [List.take_append_drop] at h
  omega
theorem circ_take_le (l m : List Nat) (k : Nat) : circ (l.take k) m ≤ circ l m := by
  have : ∀ (l l' : List Nat), circ (l ++ l') m = circ l m + circ l' m := by
    intro l l'
    unfold circ
    rw [← vs_append]
    congr 1
    induction l with
    | nil => simp [sums]
    | cons b l ih => simp [sums, ih]
  have h := this (l.take k) (l.drop k)
  rw [List.take_append_drop] at h
  omega
theorem circ_bound (l m : List Nat) (h1 : l.length ≤ 60) (h2 : m.length ≤ 60) (h : ∀ j ∈ l, ∀ k ∈ m, j + k ≤ 70) : circ l m ≤ 685412966552886000 := by
  have hm2 : ∀ (m : List Nat) (j : Nat), (∀ k ∈ m, j + k ≤ 70) → vs 0 (m.map (j + ·)) ≤ m.length * 190392490709135 := by
    intro m j
    induction m with
    | nil => intro _; simp [vs_nil]
    | cons a m ih =>
      intro h
      have := ih (fun k hk => h k (List.mem_cons_of_mem _ hk))
      have h1 := h a (List.mem_cons_self ..)
      have h2 := F_mono h1
      have h70 : F 70 = 190392490709135 := F_of _ _ (by decide +kernel)
      rw [List.map_cons, vs_cons]
      have e : (((j + a : Nat) : Int) + 0).toNat = j + a := by omega
      rw [e]
      simp only [List.length_cons]
      omega
  have : ∀ (l : List Nat), (∀ j ∈ l, ∀ k ∈ m, j + k ≤ 70) → circ l m ≤ l.length * 11423549442548100 := by
    intro l
    induction l with
    | nil => intro _; simp [circ, sums, vs_nil]
    | cons j l ih =>
      intro h
      have h3 := ih (fun j hj => h j (List.mem_cons_of_mem _ hj))
      have h4 := hm2 m j (h j (List.mem_cons_self ..))
      have e : circ (j :: l) m = vs 0 (m.map (j + ·)) + circ l m := by unfold circ; rw [sums, vs_append]
      rw [e]
      simp only [List.length_cons]
      omega
  have h5 := this l h
  omega
theorem zeck_mem (n : Nat) (hn : n ≤ 1000000000000) : ∀ k ∈ zeck n, 2 ≤ k ∧ k ≤ 60 := falls_mem (zeck_falls n hn)
theorem zeck_len (n : Nat) (hn : n ≤ 1000000000000) : (zeck n).length ≤ 30 := by
  have := falls_length (zeck_falls n hn); omega
theorem big_of_index {l m : List Nat} {i q : Nat} (hi : i < l.length) (hq : q < m.length) (h : 60 < l[i] + m[q]) : 1000000000000 < circ l m := by
  have h1 := circ_split l m i hi
  have h2 := map_split m l[i] q hq
  have h3 := map_le m l[i] (q + 1)
  have h4 := circ_take_le l m (i + 1)
  have h5 := F_mono (show 61 ≤ l[i] + m[q] by omega)
  rw [F_61] at h5
  omega
theorem part_le {l m : List Nat} {i q : Nat} (hi : i < l.length) (hq : q < m.length) : circ (l.take i) m + (vs 0 ((m.take q).map (l[i] + ·)) + F (l[i] + m[q])) ≤ circ l m := by
  have h1 := circ_split l m i hi
  have h2 := map_split m l[i] q hq
  have h3 := map_le m l[i] (q + 1)
  have h4 := circ_take_le l m (i + 1)
  omega
def cpart (l m : List Nat) (k : Nat) : Nat := circ (l.take k) m
def rpart (m : List Nat) (j q : Nat) : Nat := vs 0 ((m.take q).map (j + ·))
theorem cpart_zero (l m : List Nat) : cpart l m 0 = 0 := by simp [cpart, circ, sums, vs_nil]
theorem rpart_zero (m : List Nat) (j : Nat) : rpart m j 0 = 0 := by simp [rpart, vs_nil]
theorem cpart_full (l m : List Nat) : cpart l m l.length = circ l m := by unfold cpart; rw [List.take_length]
theorem cpart_succ (l m : List Nat) (k : Nat) (h : k < l.length) : cpart l m (k + 1) = cpart l m k + rpart m l[k] m.length := by
  unfold cpart rpart; rw [circ_split l m k h, List.take_length]
theorem rpart_succ (m : List Nat) (j q : Nat) (h : q < m.length) : rpart m j (q + 1) = rpart m j q + F (j + m[q]) := map_split m j q h
theorem cpart_le {l m : List Nat} {i q : Nat} (hi : i < l.length) (hq : q < m.length) : cpart l m i + (rpart m l[i] q + F (l[i] + m[q])) ≤ circ l m := part_le hi hq
/-- reading a numeral's cells -/
theorem num_cells {w : World} {v : Value} {l : List Nat} (h : Ints w v (ix l)) : ∃ (A : Option Addr) (c : Nat), v = .slice A l.length c ∧ l.length ≤ c ∧
    Hid (0 < l.length → ∃ ad, A = some ad ∧ ad.block < w.heap.size ∧ ∀ j (hj : j < l.length), w.cell? (ad.add j) = some (.int .i64 l[j])) := by
  obtain ⟨hl, A, c, rfl, hc, hr⟩ := h
  rw [ix_length] at *
  refine ⟨A, c, rfl, hc, fun h0 => ?_⟩
  obtain ⟨ad, e, hb, hcell⟩ := hr h0
  exact ⟨ad, e, hb, fun j hj => hcell j _ (by simp [ix, hj])⟩
/-- a cell of an older block, read later -/
theorem cell_later' {w w' : World} {B : Nat} (hb : Below B w w') {ad : Addr} (hB : ad.block < B) {j : Nat} {u : Value} (h : w.cell? (ad.add j) = some u) : w'.cell? (ad.add j) = some u :=
  (hb.cell (p := ad.add j) (by rw [addr_block]; exact hB)).trans h

theorem encode_z (n : Nat) (hn : n ≤ 1000000000000) (w : World) :
    Calls Try.prog 52 #[.int .i64 n] w fun e w' => ∃ v, e = .returned v ∧ Ints w' v (ix (zeck n)) ∧ Below w.heap.size w w' := encode_nat n hn w
theorem fib_sum (x y : Nat) (h : x + y ≤ 90) (w : World) :
    Calls Try.prog 58 #[.int .i64 ((x : Int) + y)] w fun e w' => e = .returned (.int .i64 (F (y + x))) ∧ w = w' := by
  have := fibonacci_nat (y + x) (by omega) w
  rw [show ((y + x : Nat) : Int) = (x : Int) + y by omega] at this
  exact this
set_option maxHeartbeats 4000000 in
theorem Circle_any (a b : Nat) (ha : a ≤ 1000000000000) (hb : b ≤ 1000000000000) (w : World) :
    Calls Try.prog 27 #[.int .i64 a, .int .i64 b] w fun e w' => e = .returned (.tuple #[.int .i64 (tv (circ (zeck a) (zeck b))), .int .i64 (te (circ (zeck a) (zeck b)))]) ∧ Below w.heap.size w w' := by
  have hla := zeck_len a ha
  have hlb := zeck_len b hb
  have HMA := Lib.hid (zeck_mem a ha)
  have HMB := Lib.hid (zeck_mem b hb)
  go_enter Try.func27, Try.ntmps27
  go_wp2_with (first
    | (go_at_call 50; first | ((with_reducible refine (isNumber_yes a (by omega) (by omega) _).mono ?_); rintro e _ ⟨rfl, rfl⟩) | ((with_reducible refine (isNumber_yes b (by omega) (by omega) _).mono ?_); rintro e _ ⟨rfl, rfl⟩))
    | (go_at_call 52; refine (encode_z a ha _).mono ?_; rintro e w1 ⟨v1, rfl, hv1, hb1⟩; obtain ⟨A, c, rfl, hc, HA⟩ := num_cells hv1; clear hv1))
  go_loopw [6, 8, 10, 22, 29] (fun s _ _ i _ wr => ∃ k : Nat, k ≤ (zeck a).length ∧ i = .int .i64 k ∧ s = .int .i64 (cpart (zeck a) (zeck b) k) ∧ cpart (zeck a) (zeck b) k ≤ 1000000000000 ∧ Below w1.heap.size w1 wr) (fun _ _ _ i _ _ => (zeck a).length - (intOf i).toNat)
  case atStart => exact ⟨0, Nat.zero_le _, rfl, by rw [cpart_zero]; rfl, by rw [cpart_zero]; omega, Below.refl _ _⟩
  case round =>
    obtain ⟨k, hk, rfl, rfl, hcs, hbr⟩ := hrel
    by_cases hlt : k < (zeck a).length
    · obtain ⟨ad, rfl, hbl, hcell⟩ := HA.out (by omega)
      have hck := cell_later' hbr hbl (hcell k hlt)
      have hj := HMA.out _ (List.getElem_mem hlt)
      have HS := Lib.hid (cpart_succ (zeck a) (zeck b) k hlt)
      clear hcell
      go_wp2_with (first
        | (go_at_call 52; refine (encode_z b hb _).mono ?_; rintro e w2 ⟨v2, rfl, hv2, hb2⟩; obtain ⟨A2, c2, rfl, hc2, HA2⟩ := num_cells hv2; clear hv2))
      clear hck
      have hb3 : Below w1.heap.size w1 w2 := hbr.trans (hb2.mono hbr.size)
      go_loopw [6, 10, 29] (fun s _ i wq => ∃ q : Nat, q ≤ (zeck b).length ∧ i = .int .i64 q ∧ s = .int .i64 (cpart (zeck a) (zeck b) k + rpart (zeck b) (zeck a)[k] q : Nat) ∧
          cpart (zeck a) (zeck b) k + rpart (zeck b) (zeck a)[k] q ≤ 1000000000000 ∧ Below w2.heap.size w2 wq) (fun _ _ i _ => (zeck b).length - (intOf i).toNat)
      case atStart => exact ⟨0, Nat.zero_le _, rfl, by rw [rpart_zero]; rfl, by rw [rpart_zero]; exact hcs, Below.refl _ _⟩
      case round =>
        obtain ⟨q, hq, rfl, rfl, hqs, hbq⟩ := hrel
        by_cases hlq : q < (zeck b).length
        · obtain ⟨ad2, rfl, hbl2, hcell2⟩ := HA2.out (by omega)
          have hck2 := cell_later' hbq hbl2 (hcell2 q hlq)
          have hm := HMB.out _ (List.getElem_mem hlq)
          have hpart := cpart_le hlt hlq
          have HM := Lib.hid (rpart_succ (zeck b) (zeck a)[k] q hlq)
          clear hcell2 HA2
          by_cases hbig : 60 < (zeck a)[k] + (zeck b)[q]
          · have hc1 := big_of_index hlt hlq hbig
            have HV := Lib.hid (tv_no (Nat.not_le_of_lt hc1))
            have HE := Lib.hid (te_no (Nat.not_le_of_lt hc1))
            clear hc1 hpart
            go_wp2
            go_ret2
            exact ⟨by rw [HV.out, HE.out]; rfl, hb1.trans ((hb3.trans (hbq.mono hb3.size)).mono hb1.size)⟩
          · by_cases hover : 1000000000000 < cpart (zeck a) (zeck b) k + (rpart (zeck b) (zeck a)[k] q + F ((zeck a)[k] + (zeck b)[q]))
            · have hc1 : ¬ circ (zeck a) (zeck b) ≤ 1000000000000 := by omega
              have HV := Lib.hid (tv_no hc1)
              have HE := Lib.hid (te_no hc1)
              have hF := F_le ((zeck a)[k] + (zeck b)[q]) (by omega)
              have hF2 := F_mono (show (zeck a)[k] + (zeck b)[q] ≤ 60 by omega)
              rw [F_60] at hF2
              clear hc1 hpart HM
              go_wp2_with (go_at_call 58; refine (fib_sum _ _ (by omega) _).mono ?_; rintro e _ ⟨rfl, rfl⟩)
              go_ret2
              exact ⟨by rw [HV.out, HE.out]; rfl, hb1.trans ((hb3.trans (hbq.mono hb3.size)).mono hb1.size)⟩
            · clear hpart
              go_wp2_with (go_at_call 58; refine (fib_sum _ _ (by omega) _).mono ?_; rintro e _ ⟨rfl, rfl⟩)
              go_roundw
              case rel => exact ⟨q + 1, by omega, by go_num, by rw [HM.out]; go_num, by rw [HM.out]; omega, hbq⟩
              case measure => simp [intOf]; omega
        · have hql : q = (zeck b).length := by omega
          have hfull : cpart (zeck a) (zeck b) k + rpart (zeck b) (zeck a)[k] q = cpart (zeck a) (zeck b) (k + 1) := by
            rw [HS.out, hql]
          rw [hfull] at hqs ⊢
          clear hfull hql
          go_wp2
          go_roundw
          case rel => exact ⟨k + 1, by omega, by go_num, rfl, hqs, hb3.trans (hbq.mono hb3.size)⟩
          case measure => simp [intOf]; omega
    · have hkl : k = (zeck a).length := by omega
      have hfull : cpart (zeck a) (zeck b) k = circ (zeck a) (zeck b) := by rw [hkl, cpart_full]
      have hcs' : circ (zeck a) (zeck b) ≤ 1000000000000 := by rw [← hfull]; exact hcs
      have HV := Lib.hid (tv_yes hcs')
      have HE := Lib.hid (te_yes hcs')
      have HF := Lib.hid hfull
      clear hfull hcs' hcs hkl
      go_wp2
      go_ret2
      exact ⟨by rw [HV.out, HE.out]; exact ret_two (by show Value.int _ _ = _; rw [HF.out]) rfl, hb1.trans (hbr.mono hb1.size)⟩

theorem sized_any (c : Nat) (h : c ≤ 4000000000000000000) (w : World) :
    Calls Try.prog 57 #[.int .i64 c] w fun e w' => e = .returned (.tuple #[.int .i64 (tv c), .int .i64 (te c)]) ∧ w = w' := by
  by_cases hc : c ≤ 1000000000000
  · rw [tv_yes hc, te_yes hc]; exact rsized_yes c (by omega) w
  · rw [tv_no hc, te_no hc]; exact rsized_no c (by omega) w
theorem rF_sum (x y : Nat) (h : x + y ≤ 90) (w : World) :
    Calls Try.prog 56 #[.int .i64 ((x : Int) + y)] w fun e w' => e = .returned (.int .i64 (F (x + y))) ∧ w = w' := by
  have := rF_nat (x + y) (by omega) w
  rw [show ((x + y : Nat) : Int) = (x : Int) + y by omega] at this
  exact this
theorem F_70 : F 70 = 190392490709135 := F_of _ _ (by decide +kernel)
set_option maxHeartbeats 4000000 in
theorem rCircle_any (a b : Nat) (ha : a ≤ 1000000000000) (hb : b ≤ 1000000000000) (w : World) :
    Calls Try.prog 29 #[.int .i64 a, .int .i64 b] w fun e w' => e = .returned (.tuple #[.int .i64 (tv (circ (zeck a) (zeck b))), .int .i64 (te (circ (zeck a) (zeck b)))]) ∧ Below w.heap.size w w' := by
  have hla := zeck_len a ha
  have hlb := zeck_len b hb
  have HMA := Lib.hid (zeck_mem a ha)
  have HMB := Lib.hid (zeck_mem b hb)
  go_enter Try.func29, Try.ntmps29
  go_wp2_with (first
    | (go_at_call 24; refine (rEncode_nat a ha _).mono ?_; rintro e w1 ⟨v1, rfl, hv1, hb1⟩; obtain ⟨A, c, rfl, hc, HA⟩ := num_cells hv1; clear hv1))
  go_loopw [6, 8, 10, 14, 21] (fun s _ _ i _ wr => ∃ k : Nat, k ≤ (zeck a).length ∧ i = .int .i64 k ∧ s = .int .i64 (cpart (zeck a) (zeck b) k) ∧ cpart (zeck a) (zeck b) k ≤ k * 5711774721274050 ∧ Below w1.heap.size w1 wr) (fun _ _ _ i _ _ => (zeck a).length - (intOf i).toNat)
  case atStart => exact ⟨0, Nat.zero_le _, rfl, by rw [cpart_zero]; rfl, by rw [cpart_zero]; omega, Below.refl _ _⟩
  case round =>
    obtain ⟨k, hk, rfl, rfl, hcs, hbr⟩ := hrel
    by_cases hlt : k < (zeck a).length
    · obtain ⟨ad, rfl, hbl, hcell⟩ := HA.out (by omega)
      have hck := cell_later' hbr hbl (hcell k hlt)
      have hj := HMA.out _ (List.getElem_mem hlt)
      have HS := Lib.hid (cpart_succ (zeck a) (zeck b) k hlt)
      clear hcell
      go_wp2_with (first
        | (go_at_call 24; refine (rEncode_nat b hb _).mono ?_; rintro e w2 ⟨v2, rfl, hv2, hb2⟩; obtain ⟨A2, c2, rfl, hc2, HA2⟩ := num_cells hv2; clear hv2))
      clear hck
      have hb3 : Below w1.heap.size w1 w2 := hbr.trans (hb2.mono hbr.size)
      go_loopw [6, 10, 21] (fun s _ i wq => ∃ q : Nat, q ≤ (zeck b).length ∧ i = .int .i64 q ∧ s = .int .i64 (cpart (zeck a) (zeck b) k + rpart (zeck b) (zeck a)[k] q : Nat) ∧
          rpart (zeck b) (zeck a)[k] q ≤ q * 190392490709135 ∧ Below w2.heap.size w2 wq) (fun _ _ i _ => (zeck b).length - (intOf i).toNat)
      case atStart => exact ⟨0, Nat.zero_le _, rfl, by rw [rpart_zero]; rfl, by rw [rpart_zero]; omega, Below.refl _ _⟩
      case round =>
        obtain ⟨q, hq, rfl, rfl, hqs, hbq⟩ := hrel
        by_cases hlq : q < (zeck b).length
        · obtain ⟨ad2, rfl, hbl2, hcell2⟩ := HA2.out (by omega)
          have hck2 := cell_later' hbq hbl2 (hcell2 q hlq)
          have hm := HMB.out _ (List.getElem_mem hlq)
          have HM := Lib.hid (rpart_succ (zeck b) (zeck a)[k] q hlq)
          clear hcell2 HA2
          by_cases hbig : 70 < (zeck a)[k] + (zeck b)[q]
          · have hc1 := big_of_index hlt hlq (by omega)
            have HV := Lib.hid (tv_no (Nat.not_le_of_lt hc1))
            have HE := Lib.hid (te_no (Nat.not_le_of_lt hc1))
            clear hc1
            go_wp2
            go_ret2
            exact ⟨by rw [HV.out, HE.out]; rfl, hb1.trans ((hb3.trans (hbq.mono hb3.size)).mono hb1.size)⟩
          · have hF := F_mono (show (zeck a)[k] + (zeck b)[q] ≤ 70 by omega)
            rw [F_70] at hF
            go_wp2_with (go_at_call 56; refine (rF_sum _ _ (by omega) _).mono ?_; rintro e _ ⟨rfl, rfl⟩)
            go_roundw
            case rel => exact ⟨q + 1, by omega, by go_num, by rw [HM.out]; go_num, by rw [HM.out]; omega, hbq⟩
            case measure => simp [intOf]; omega
        · have hql : q = (zeck b).length := by omega
          have hfull : cpart (zeck a) (zeck b) k + rpart (zeck b) (zeck a)[k] q = cpart (zeck a) (zeck b) (k + 1) := by
            rw [HS.out, hql]
          have hb30 : cpart (zeck a) (zeck b) (k + 1) ≤ (k + 1) * 5711774721274050 := by rw [← hfull]; omega
          rw [hfull]
          clear hfull hql hqs
          go_wp2
          go_roundw
          case rel => exact ⟨k + 1, by omega, by go_num, rfl, hb30, hb3.trans (hbq.mono hb3.size)⟩
          case measure => simp [intOf]; omega
    · have hkl : k = (zeck a).length := by omega
      have hfull : cpart (zeck a) (zeck b) k = circ (zeck a) (zeck b) := by rw [hkl, cpart_full]
      have hb30 : circ (zeck a) (zeck b) ≤ 4000000000000000000 := by rw [← hfull]; omega
      rw [hfull]
      clear hfull hkl hcs
      go_wp2_with (go_at_call 57; refine (sized_any _ hb30 _).mono ?_; rintro e _ ⟨rfl, rfl⟩)
      go_ret2
      exact ⟨rfl, hb1.trans (hbr.mono hb1.size)⟩
def spart (l : List Nat) (k : Nat) : Nat := vs 1 (l.take k)
theorem spart_zero (l : List Nat) : spart l 0 = 0 := rfl
theorem spart_succ (l : List Nat) (k : Nat) (h : k < l.length) : spart l (k + 1) = spart l k + F (l[k] + 1) := by
  unfold spart; rw [vs_take 1 l k h, show ((l[k] : Int) + 1).toNat = l[k] + 1 by omega]
theorem spart_full (l : List Nat) : spart l l.length = vs 1 l := by unfold spart; rw [List.take_length]
theorem spart_le (l : List Nat) (k : Nat) : spart l k ≤ vs 1 l := vs_take_le 1 l k
theorem rF_one (x : Nat) (h : x ≤ 89) (w : World) :
    Calls Try.prog 56 #[.int .i64 ((x : Int) + 1)] w fun e w' => e = .returned (.int .i64 (F (x + 1))) ∧ w = w' := rF_sum x 1 (by omega) w
set_option maxHeartbeats 2000000 in
theorem rShift_any (n : Nat) (hn : n ≤ 1000000000000) (w : World) :
    Calls Try.prog 28 #[.int .i64 n] w fun e w' => e = .returned (.tuple #[.int .i64 (tv (sh n)), .int .i64 (te (sh n))]) ∧ Below w.heap.size w w' := by
  have hl := zeck_len n hn
  have hs2 := sh_le n hn
  have HM := Lib.hid (zeck_mem n hn)
  go_enter Try.func28, Try.ntmps28
  go_wp2_with (first
    | (go_at_call 24; refine (rEncode_nat n hn _).mono ?_; rintro e w1 ⟨v1, rfl, hv1, hb1⟩; obtain ⟨A, c, rfl, hc, HA⟩ := num_cells hv1; clear hv1))
  go_loop [4, 6, 10] (fun s _ i => ∃ k : Nat, k ≤ (zeck n).length ∧ i = .int .i64 k ∧ s = .int .i64 (spart (zeck n) k)) (fun _ _ i => (zeck n).length - (intOf i).toNat)
  case atStart => exact ⟨0, Nat.zero_le _, rfl, by rw [spart_zero]; rfl⟩
  case round =>
    obtain ⟨k, hk, rfl, rfl⟩ := hrel
    by_cases hlt : k < (zeck n).length
    · obtain ⟨ad, rfl, hbl, hcell⟩ := HA.out (by omega)
      have hck := hcell k hlt
      have hj := HM.out _ (List.getElem_mem hlt)
      have hS := spart_succ (zeck n) k hlt
      have hle := spart_le (zeck n) (k + 1)
      have hsh : vs 1 (zeck n) = sh n := rfl
      rw [hS, hsh] at hle
      have HS := Lib.hid hS
      clear hcell hS hsh HA
      go_wp2_with (go_at_call 56; refine (rF_one _ (by omega) _).mono ?_; rintro e _ ⟨rfl, rfl⟩)
      go_round
      case rel => exact ⟨k + 1, by omega, by go_num, by rw [HS.out]; go_num⟩
      case measure => simp [intOf]; omega
    · have hkl : k = (zeck n).length := by omega
      have hfull : spart (zeck n) k = sh n := by rw [hkl, spart_full]; rfl
      rw [hfull]
      clear hfull hkl
      go_wp2_with (go_at_call 57; refine (sized_any _ (by omega) _).mono ?_; rintro e _ ⟨rfl, rfl⟩)
      go_ret2
      exact ⟨rfl, hb1⟩
theorem Shift_any (n : Nat) (hn : n ≤ 1000000000000) (w : World) :
    Calls Try.prog 15 #[.int .i64 n] w fun e w' => e = .returned (.tuple #[.int .i64 (tv (sh n)), .int .i64 (te (sh n))]) ∧ Below w.heap.size w w' := by
  by_cases h : sh n ≤ 1000000000000
  · rw [tv_yes h, te_yes h]; exact Shift_yes n hn h w
  · rw [tv_no h, te_no h]; exact Shift_big n hn (by omega) w
set_option maxHeartbeats 1000000 in
theorem Circle_no1 (a b : Int) (h : a < 0 ∨ 1000000000000 < a) (w : World) :
    Calls Try.prog 27 #[.int .i64 a, .int .i64 b] w fun e w' => e = .returned (.tuple #[.int .i64 0, .int .i64 2]) ∧ Below w.heap.size w w' := by
  have H := Lib.hid h; clear h
  go_enter Try.func27, Try.ntmps27
  go_wp2_with (go_at_call 50; refine (isNumber_no a H.out _).mono ?_; rintro e _ ⟨rfl, rfl⟩)
  go_ret2
  exact ⟨rfl, Below.refl _ _⟩
set_option maxHeartbeats 1000000 in
theorem Circle_no2 (a : Nat) (ha : a ≤ 1000000000000) (b : Int) (h : b < 0 ∨ 1000000000000 < b) (w : World) :
    Calls Try.prog 27 #[.int .i64 a, .int .i64 b] w fun e w' => e = .returned (.tuple #[.int .i64 0, .int .i64 2]) ∧ Below w.heap.size w w' := by
  have H := Lib.hid h; clear h
  go_enter Try.func27, Try.ntmps27
  go_wp2_with fail
  refine (isNumber_yes a (by omega) (by omega) _).mono ?_
  rintro e _ ⟨rfl, rfl⟩
  go_wp2_with fail
  refine (isNumber_no b H.out _).mono ?_
  rintro e _ ⟨rfl, rfl⟩
  go_wp2
  go_ret2
  exact ⟨rfl, Below.refl _ _⟩
end Go.Proofs.Ytiknocjdogbajaa
