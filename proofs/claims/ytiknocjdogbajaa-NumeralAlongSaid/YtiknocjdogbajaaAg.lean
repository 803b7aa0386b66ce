/- Walks of Along, of the program and of the reference. -/
import Derived.Test.YtiknocjdogbajaaAl
namespace Go.Proofs.Ytiknocjdogbajaa
open Go.RowKit

set_option maxHeartbeats 2000000 in
theorem rAlong_any (vq vc : Value) (q c : List Int) (h : Fr q) (ha : IsAl q c) (w : World) (hq : Ints w vq q) (hc : Ints w vc c) :
    Calls Try.prog 43 #[vq, vc] w fun e w' => e = .returned (.int .i64 (alv q c q.length)) ∧ Below w.heap.size w w' := by
  have hlcq := ha.1
  have HQ := Lib.hid hq
  have HF := Lib.hid h
  obtain ⟨hlen, A, cp, rfl, hcp, hqr⟩ := hq
  obtain ⟨hlenc, Ac, cc, rfl, hcc, hcr⟩ := hc
  have hq1 := h.1
  have hqpos : 0 < q.length := by omega
  have hcpos : 0 < c.length := by omega
  have hq10 := h.2.1
  obtain ⟨adc, rfl, hblc, hcellc⟩ := hcr hcpos
  have HC := Lib.hid hcellc
  have HT := Lib.hid (fun k hk => alv_term q c h k hk (ha.2 k hk))
  have HB := Lib.hid (fun k hk => alv_bd q c h k hk (fun j hj => ha.2 j (by omega)))
  have HOK := Lib.hid ha.2
  have HAT := Lib.hid h.at
  have HD := Lib.hid (den_le q h)
  have hle1 : c.length ≤ q.length := by omega
  have hle2 : q.length ≤ c.length := by omega
  have HLC := Lib.hid hlcq
  clear hqr hcr h ha hcellc hlcq
  go_enter Try.func43, Try.ntmps43
  go_wp2_with fail
  refine (under_any _ q HF.out _ HQ.out).mono ?_
  rintro e w1 ⟨vd, rfl, hown, hb1⟩
  have hl := dens_length q (q.length + 1)
  obtain ⟨g, cap, rfl, hcap, hg1, hg2, hcs⟩ := hown.seen (by omega)
  rw [hl] at hcap ⊢
  have HCS := Lib.hid hcs
  clear hown hl hcs
  go_wp2_with fail
  go_loopw [5, 13] (fun n i wr => ∃ k : Nat, k ≤ c.length ∧ i = .int .i64 k ∧ n = .int .i64 (alv q c k) ∧ Below w1.heap.size w1 wr) (fun _ i _ => c.length - (intOf i).toNat)
  case atStart => exact ⟨0, Nat.zero_le _, rfl, rfl, Below.refl _ _⟩
  case round =>
    obtain ⟨k, hk, rfl, rfl, hb⟩ := hrel
    by_cases hlt : k < c.length
    · have hcx := ((hb.cell (p := adc.add k) (by rw [addr_block]; exact Nat.lt_of_lt_of_le hblc hb1.size)).trans (hb1.cell (p := adc.add k) (by rw [addr_block]; exact hblc))).trans (HC.out k _ (getD_get c k hlt))
      have hdx := (hb.cell (p := ⟨g, k, none⟩) hg2).trans (HCS.out k _ (dens_get q _ k (by omega)))
      obtain ⟨t1, t2⟩ := HT.out k (by omega)
      obtain ⟨b1, b2⟩ := HB.out k (by omega)
      have hk10 : (k : Int) ≤ 10 := by omega
      have HS := Lib.hid (show alv q c (k + 1) = alv q c k + c.getD k 0 * den q k from rfl)
      have hx0 := (HOK.out k (by omega)).1
      have hx9 := Int.le_trans (HOK.out k (by omega)).2.1 (HAT.out k (by omega)).2
      obtain ⟨d1, _, _, d2⟩ := HD.out k (by omega)
      generalize c.getD k 0 = x at *
      generalize den q k = d at *
      generalize alv q c k = s at *
      go_wp2_with fail
      go_roundw
      case rel => exact ⟨k + 1, by omega, by go_num, by rw [HS.out], hb⟩
      case measure => simp [intOf]; omega
    · obtain rfl : k = c.length := by omega
      go_wp2_with fail
      go_ret
      exact ⟨ret_int (by rw [HLC.out]), hb1.trans (hb.mono hb1.size)⟩

set_option maxHeartbeats 1000000 in
theorem Along_badq (vq vc : Value) (q c : List Int) (h : ¬ Fr q) (w : World) (hq : Ints w vq q) (hc : Ints w vc c) :
    Calls Try.prog 38 #[vq, vc] w fun e w' => e = .returned (.tuple #[.int .i64 0, .int .i64 2]) ∧ w = w' := by
  have HQ := Lib.hid hq
  have HF := Lib.hid h
  clear h
  obtain ⟨hlen, A, cp, rfl, hcp, hqr⟩ := hq
  obtain ⟨hlenc, Ac, cc, rfl, hcc, hcr⟩ := hc
  clear hqr hcr
  go_enter Try.func38, Try.ntmps38
  go_wp2_with fail
  refine (fvalid_no _ q HF.out _ HQ.out).mono ?_
  rintro e _ ⟨rfl, rfl⟩
  go_wp2_with fail
  go_ret2
  exact ⟨rfl, rfl⟩
set_option maxHeartbeats 1000000 in
theorem Along_badl (vq vc : Value) (q c : List Int) (h : Fr q) (hne : c.length ≠ q.length) (w : World) (hq : Ints w vq q) (hc : Ints w vc c) :
    Calls Try.prog 38 #[vq, vc] w fun e w' => e = .returned (.tuple #[.int .i64 0, .int .i64 2]) ∧ w = w' := by
  have HQ := Lib.hid hq
  have HF := Lib.hid h
  clear h
  obtain ⟨hlen, A, cp, rfl, hcp, hqr⟩ := hq
  obtain ⟨hlenc, Ac, cc, rfl, hcc, hcr⟩ := hc
  have hb0 : ((c.length : Int) != q.length) = true := by rw [bne_iff_ne]; exact fun h => hne (Int.ofNat_inj.1 h)
  clear hqr hcr hne
  go_enter Try.func38, Try.ntmps38
  go_wp2_with fail
  refine (fvalid_yes _ q HF.out _ HQ.out).mono ?_
  rintro e _ ⟨rfl, rfl⟩
  go_wp2_with fail
  go_ret2
  exact ⟨rfl, rfl⟩

theorem below_drewN {B : Nat} {a w : World} (h : Below B a w) (n : Nat) : Below B a (w.drewN n) := ⟨h.os, h.tape, h.output, h.size, h.block⟩
/-- what Along answers -/
def AlAns (q c : List Int) (n s : Int) : Prop := (IsAl q c ∧ n = alv q c q.length ∧ s = 0) ∨ (¬ IsAl q c ∧ n = 0 ∧ s = 2)
def RetAl (q c : List Int) (w : World) (e : Ending) (w' : World) : Prop := ∃ n s, AlAns q c n s ∧ e = .returned (.tuple #[.int .i64 n, .int .i64 s]) ∧ Below w.heap.size w w'
set_option maxRecDepth 100000 in
set_option maxHeartbeats 4000000 in
theorem Along_eql (vq vc : Value) (q c : List Int) (h : Fr q) (hne : c.length = q.length) (w : World) (hq : Ints w vq q) (hc : Ints w vc c) :
    Calls Try.prog 38 #[vq, vc] w (RetAl q c w) := by
  have HQ := Lib.hid hq
  have HF := Lib.hid h
  obtain ⟨hlen, A, cp, rfl, hcp, hqr⟩ := hq
  obtain ⟨hlenc, Ac, cc, rfl, hcc, hcr⟩ := hc
  have hq1 := h.1
  have hqpos : 0 < q.length := by omega
  have hcpos : 0 < c.length := by omega
  have hq10 := h.2.1
  obtain ⟨adc, rfl, hblc, hcellc⟩ := hcr hcpos
  obtain ⟨adq, rfl, hblq, hcellq⟩ := hqr hqpos
  have HC := Lib.hid hcellc
  have HCQ := Lib.hid hcellq
  have HT := Lib.hid (alv_term q c h)
  have HB := Lib.hid (alv_bd q c h)
  have HAT := Lib.hid h.at
  have HD := Lib.hid (den_le q h)
  have HNE := Lib.hid hne
  have hle1 : c.length ≤ q.length := by omega
  have hle2 : q.length ≤ c.length := by omega
  have hb0 : ((c.length : Int) != q.length) = false := by simp [hne]
  clear hqr hcr h hcellc hcellq hne
  go_enter Try.func38, Try.ntmps38
  go_wp2_with fail
  refine (fvalid_yes _ q HF.out _ HQ.out).mono ?_
  rintro e _ ⟨rfl, rfl⟩
  go_wp2_with fail
  refine (denominators_any _ q HF.out _ HQ.out).mono ?_
  rintro e w1 ⟨vd, rfl, hown, hb1⟩
  have hl := dens_length q (q.length + 1)
  obtain ⟨g, cap, rfl, hcap, hg1, hg2, hcs⟩ := hown.seen (by omega)
  rw [hl] at hcap ⊢
  have HCS := Lib.hid hcs
  clear hown hl hcs
  have k1 : q.length ≤ cap := by omega
  go_wp2_with fail
  have hcw := Lib.hid (fun k (hk : k < c.length) => (hb1.cell (p := adc.add k) (by rw [addr_block]; exact hblc)).trans (HC.out k _ (getD_get c k hk)))
  have hqw := Lib.hid (fun k (hk : k < q.length) => (hb1.cell (p := adq.add k) (by rw [addr_block]; exact hblq)).trans (HCQ.out k _ (getD_get q k hk)))
  have hbc1 : adc.block < w1.heap.size := Nat.lt_of_lt_of_le hblc hb1.size
  have hbq1 : adq.block < w1.heap.size := Nat.lt_of_lt_of_le hblq hb1.size
  go_loopw [7, 28] (fun n i wr => ∃ k : Nat, k ≤ q.length ∧ i = .int .i64 k ∧ n = .int .i64 (alv q c k) ∧ (∀ j, j < k → OkAt q c j) ∧ Below w1.heap.size w1 wr) (fun _ i _ => q.length - (intOf i).toNat)
  case atStart => exact ⟨0, Nat.zero_le _, rfl, rfl, fun j hj => by omega, Below.refl _ _⟩
  case round =>
    obtain ⟨k, hk, rfl, rfl, hall, hb⟩ := hrel
    have HALL := Lib.hid hall
    clear hall
    by_cases hlt : k < q.length
    · have hcx := (hb.cell (p := adc.add k) (by rw [addr_block]; exact hbc1)).trans (hcw.out k (by omega))
      have hqx := (hb.cell (p := adq.add k) (by rw [addr_block]; exact hbq1)).trans (hqw.out k (by omega))
      have hdx := (hb.cell (p := ⟨g, k, none⟩) hg2).trans (HCS.out k _ (dens_get q _ k (by omega)))
      have hpx : 1 ≤ k → wr.cell? (adc.add (k - 1)) = some (.int .i64 (c.getD (k - 1) 0)) := fun h1 => (hb.cell (p := adc.add (k - 1)) (by rw [addr_block]; exact hbc1)).trans (hcw.out (k - 1) (by omega))
      have HPX := Lib.hid hpx
      clear hpx
      obtain ⟨b1, b2⟩ := HB.out k hk HALL.out
      have hk10 : (k : Int) ≤ 10 := by omega
      have HS := Lib.hid (show alv q c (k + 1) = alv q c k + c.getD k 0 * den q k from rfl)
      obtain ⟨a1, a9⟩ := HAT.out k (by omega)
      obtain ⟨d1, _, _, d2⟩ := HD.out k (by omega)
      have HTK := Lib.hid (HT.out k (by omega))
      have tb := hb1.trans (hb.mono hb1.size)
      rcases Nat.eq_zero_or_pos k with rfl | hk1
      · have hz := okAt_zero (q := q) (c := c) rfl rfl
        have HZ := Lib.hid hz
        have hcx' : wr.cell? adc = some (.int .i64 (c.getD 0 0)) := hcx
        have hqx' : wr.cell? adq = some (.int .i64 (q.getD 0 0)) := hqx
        clear hz
        generalize c.getD 0 0 = x at *
        generalize q.getD 0 0 = a at *
        generalize den q 0 = d at *
        generalize alv q c 0 = s at *
        have eqa : IntKind.i64.wrap (a - 1) = a - 1 := IntWalk.i64_in _ (by omega)
        by_cases h1 : x < 0
        · have e1 : decide (x < 0) = true := decide_eq_true h1
          have HNO := Lib.hid (show ¬ OkAt q c 0 from fun o => by have := HZ.out.1 o; omega)
          go_wp2_with fail
          go_quiet (fail)
          go_wp2_with fail
          go_ret2
          exact ⟨_, _, .inr ⟨fun o => HNO.out (o.2 _ hlt), rfl, rfl⟩, rfl, below_drewN tb _⟩
        · have e1 : decide (x < 0) = false := decide_eq_false h1
          by_cases h3 : a - 1 < x
          · have e3 : decide (a - 1 < x) = true := decide_eq_true h3
            have HNO := Lib.hid (show ¬ OkAt q c 0 from fun o => by have := HZ.out.1 o; omega)
            go_wp2_with fail
            go_quiet (fail)
            go_wp2_with fail
            go_ret2
            exact ⟨_, _, .inr ⟨fun o => HNO.out (o.2 _ hlt), rfl, rfl⟩, rfl, below_drewN tb _⟩
          · have e3 : decide (a - 1 < x) = false := decide_eq_false h3
            have HG := Lib.hid (HZ.out.2 ⟨by omega, by omega⟩)
            obtain ⟨t1, t2⟩ := HTK.out HG.out
            go_wp2_with fail
            go_quiet (fail)
            go_wp2_with fail
            go_roundw
            case rel => exact ⟨1, by omega, by go_num, by rw [HS.out], okAll_next HALL.out HG.out, below_drewN hb _⟩
            case measure => simp [intOf]; omega
      · have hz := okAt_succ (q := q) (c := c) (k := k) hk1 rfl rfl rfl
        have HZ := Lib.hid hz
        have hpx := HPX.out hk1
        have hkt : ((k : Int) - 1).toNat = k - 1 := by omega
        have hkw : IntKind.i64.wrap ((k : Int) - 1) = (k : Int) - 1 := IntWalk.i64_in _ (by omega)
        have hkn : 0 ≤ (k : Int) - 1 := by omega
        have k0 : ((k : Int) == 0) = false := by rw [beq_eq_false_iff_ne]; omega
        have k1 : decide (0 < (k : Int)) = true := decide_eq_true (by omega)
        have k1' : decide (0 < k) = true := decide_eq_true (by omega)
        clear hz HPX
        generalize c.getD k 0 = x at *
        generalize q.getD k 0 = a at *
        generalize c.getD (k - 1) 0 = p at *
        generalize den q k = d at *
        generalize alv q c k = s at *
        by_cases h1 : x < 0
        · have e1 : decide (x < 0) = true := decide_eq_true h1
          have HNO := Lib.hid (show ¬ OkAt q c k from fun o => by have := HZ.out.1 o; omega)
          go_wp2_with fail
          go_quiet (fail)
          go_wp2_with fail
          go_ret2
          exact ⟨_, _, .inr ⟨fun o => HNO.out (o.2 _ hlt), rfl, rfl⟩, rfl, below_drewN tb _⟩
        · have e1 : decide (x < 0) = false := decide_eq_false h1
          by_cases h2 : a < x
          · have e2 : decide (a < x) = true := decide_eq_true h2
            have HNO := Lib.hid (show ¬ OkAt q c k from fun o => by have := HZ.out.1 o; omega)
            go_wp2_with fail
            go_quiet (fail)
            go_wp2_with fail
            go_ret2
            exact ⟨_, _, .inr ⟨fun o => HNO.out (o.2 _ hlt), rfl, rfl⟩, rfl, below_drewN tb _⟩
          · have e2 : decide (a < x) = false := decide_eq_false h2
            by_cases h3 : x = a
            · subst h3
              have e3 : (x == x) = true := by simp
              by_cases h4 : p = 0
              · subst h4
                have HG := Lib.hid (HZ.out.2 ⟨by omega, by omega, fun _ => rfl⟩)
                obtain ⟨t1, t2⟩ := HTK.out HG.out
                go_wp2_with fail
                go_quiet (fail)
                go_wp2_with fail
                go_roundw
                case rel => exact ⟨k + 1, by omega, by go_num, by rw [HS.out], okAll_next HALL.out HG.out, below_drewN hb _⟩
                case measure => simp [intOf]; omega
              · have e4 : (p != 0) = true := by simpa using h4
                have HNO := Lib.hid (show ¬ OkAt q c k from fun o => h4 ((HZ.out.1 o).2.2 rfl))
                clear h4
                go_wp2_with fail
                go_quiet (fail)
                go_wp2_with fail
                go_ret2
                exact ⟨_, _, .inr ⟨fun o => HNO.out (o.2 _ hlt), rfl, rfl⟩, rfl, below_drewN tb _⟩
            · have e3 : (x == a) = false := by simpa using h3
              have HG := Lib.hid (HZ.out.2 ⟨by omega, by omega, fun h => absurd h h3⟩)
              obtain ⟨t1, t2⟩ := HTK.out HG.out
              clear h3
              go_wp2_with fail
              go_quiet (fail)
              go_wp2_with fail
              go_roundw
              case rel => exact ⟨k + 1, by omega, by go_num, by rw [HS.out], okAll_next HALL.out HG.out, below_drewN hb _⟩
              case measure => simp [intOf]; omega
    · obtain rfl : k = q.length := by omega
      have tb := hb1.trans (hb.mono hb1.size)
      go_wp2_with fail
      go_ret2
      exact ⟨_, _, .inl ⟨⟨HNE.out, HALL.out⟩, rfl, rfl⟩, rfl, tb⟩
end Go.Proofs.Ytiknocjdogbajaa
