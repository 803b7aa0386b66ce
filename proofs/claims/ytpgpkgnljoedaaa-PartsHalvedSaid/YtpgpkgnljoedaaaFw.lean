/- Walks: different parts of the reference; Franklin's move of the program and of the reference. -/
import Derived.Test.YtpgpkgnljoedaaaCp
import Derived.Test.YtpgpkgnljoedaaaG
import Derived.Test.YtpgpkgnljoedaaaVa
namespace Go.Proofs.Ytpgpkgnljoedaaa
open Go.RowKit

/-- a slice of the call's own, cut -/
theorem Own.cut {w : World} {base g n cap : Nat} {xs : List Int} (h : Own w base (.slice (some ⟨g, 0, none⟩) n cap) xs) (k : Nat) (hk : k ≤ n) : Own w base (.slice (some ⟨g, 0, none⟩) k cap) (xs.take k) := by
  rcases h.2 with ⟨h0, _⟩ | ⟨g', cap', cur, hv, hb0, hg, hnc, hcm, hcs, htake⟩
  · cases h0
  · simp only [Value.slice.injEq, Option.some.injEq, Addr.mk.injEq] at hv
    obtain ⟨⟨rfl, _⟩, hn, rfl⟩ := hv
    refine ⟨by simp, .inr ⟨g, cap, cur, by rw [List.length_take]; congr 2; omega, hb0, hg, by rw [List.length_take]; omega, hcm, hcs, ?_⟩⟩
    have := congrArg (List.take (min k xs.length)) htake
    rw [List.take_take, ← List.map_take] at this
    rw [List.length_take]
    have e : min (min k xs.length) (xs.length * 1) = min k xs.length * 1 := by omega
    rw [e] at this
    rw [this]
    congr 1
    rw [List.take_eq_take_iff]
    omega
theorem dif_next {l : List Int} {k : Nat} (h : ∀ j, j + 1 < k → l.getD (j + 1) 0 ≠ l.getD j 0) (h2 : 1 ≤ k → l.getD k 0 ≠ l.getD (k - 1) 0) : ∀ j, j + 1 < k + 1 → l.getD (j + 1) 0 ≠ l.getD j 0 := by
  intro j hj
  by_cases e : j + 1 < k
  · exact h j e
  · have : j = k - 1 := by omega
    subst this
    have := h2 (by omega)
    rwa [show k - 1 + 1 = k by omega]
set_option maxHeartbeats 4000000 in
theorem rDifferent_any (v : Value) (l : List Int) (r : Bool) (hr : r = true ↔ Dif l) (w : World) (hv : Ints w v l) :
    Calls Try.prog 27 #[v] w fun e w' => e = .returned (.bool r) ∧ w = w' := by
  have HV := Lib.hid hv
  obtain ⟨hlen, A, c, rfl, hc, hcr⟩ := hv
  have HCR := Lib.hid hcr
  have HR := Lib.hid hr
  clear hcr hr
  go_enter Try.func27, Try.ntmps27
  go_wp2_with fail
  go_loop [7] (fun i => ∃ k : Nat, k ≤ l.length ∧ i = .int .i64 k ∧ (∀ j, j + 1 < k → l.getD (j + 1) 0 ≠ l.getD j 0)) (fun i => l.length - (intOf i).toNat)
  case atStart => exact ⟨0, Nat.zero_le _, rfl, fun j hj => by omega⟩
  case round =>
    obtain ⟨k, hk, rfl, hall⟩ := hrel
    have HALL := Lib.hid hall
    clear hall
    by_cases hlt : k < l.length
    · obtain ⟨ad, rfl, hbl, hcell⟩ := HCR.out (by omega)
      have HC := Lib.hid hcell
      clear hcell
      have hcx := HC.out k _ (getD_get l k hlt)
      rcases Nat.eq_zero_or_pos k with rfl | hk1
      · have hcx' : w.cell? ad = some (.int .i64 (l.getD 0 0)) := hcx
        generalize l.getD 0 0 = x at *
        go_wp2_with fail
        go_round
        case rel => exact ⟨1, by omega, by go_num, fun j hj => by omega⟩
        case measure => simp [intOf]; omega
      · have hpx := HC.out (k - 1) _ (getD_get l (k - 1) (by omega))
        have hkt : ((k : Int) - 1).toNat = k - 1 := by omega
        have HBAD := Lib.hid (show l.getD k 0 = l.getD (k - 1) 0 → false = r from fun e => by
          cases r
          · rfl
          · have := HR.out.1 rfl (k - 1) (by omega)
            rw [show k - 1 + 1 = k by omega] at this
            exact absurd e this)
        have HOK := Lib.hid (fun h2 => dif_next HALL.out (fun _ : 1 ≤ k => (h2 : l.getD k 0 ≠ l.getD (k - 1) 0)))
        generalize l.getD k 0 = x at *
        generalize l.getD (k - 1) 0 = y at *
        have k1 : decide (0 < k) = true := decide_eq_true (by omega)
        have k1' : decide (0 < (k : Int)) = true := decide_eq_true (by omega)
        by_cases h1 : y = x
        · have e1 : (y == x) = true := by rw [h1]; exact beq_self_eq_true _
          have HF := Lib.hid (HBAD.out h1.symm)
          clear h1
          go_wp2_with fail
          go_ret
          exact ⟨by rw [← HF.out]; rfl, rfl⟩
        · have e1 : (y == x) = false := by rw [beq_eq_false_iff_ne]; exact h1
          have HN := Lib.hid (HOK.out (fun e => h1 e.symm))
          go_wp2_with fail
          go_round
          case rel => exact ⟨k + 1, by omega, by go_num, HN.out⟩
          case measure => simp [intOf]; omega
    · obtain rfl : k = l.length := by omega
      have HF := Lib.hid (HR.out.2 (fun j hj => HALL.out j hj))
      go_wp2_with fail
      go_ret
      exact ⟨by rw [HF.out]; rfl, rfl⟩
theorem FR_run {l : List Int} {t : Nat} (h : IsRun l t) : FR l = if t = l.length ∧ (l.getD (l.length - 1) 0 = t ∨ l.getD (l.length - 1) 0 = t + 1) then none else if l.getD (l.length - 1) 0 ≤ t then some (bump (l.take (l.length - 1)) (l.getD (l.length - 1) 0).toNat 1) else some (bump l t (-1) ++ [(t : Int)]) := by
  unfold FR
  rw [h.eq]

/-- what Franklin leaves -/
def Franked (w : World) (l : List Int) (e : Ending) (w' : World) : Prop :=
  (FR l = none → e = .returned (.tuple #[.slice none 0 0, .int .i64 5])) ∧ (∀ r, FR l = some r → ∃ v, e = .returned (.tuple #[v, .int .i64 0]) ∧ Own w' w.heap.size v r) ∧ Below w.heap.size w w'
theorem Franked.yes {w w' : World} {l r : List Int} {v : Value} (h : FR l = some r) (h1 : Own w' w.heap.size v r) (h2 : Below w.heap.size w w') : Franked w l (.returned (.tuple #[v, .int .i64 0])) w' :=
  ⟨(fun e => by rw [h] at e; cases e), (fun r' e => by rw [h] at e; cases e; exact ⟨v, rfl, h1⟩), h2⟩
theorem Franked.no {w w' : World} {l : List Int} (h : FR l = none) (h2 : Below w.heap.size w w') : Franked w l (.returned (.tuple #[.slice none 0 0, .int .i64 5])) w' :=
  ⟨(fun _ => rfl), (fun r' e => by rw [h] at e; cases e), h2⟩

set_option maxRecDepth 100000 in
set_option maxHeartbeats 16000000 in
theorem franklin_any (v : Value) (l : List Int) (h : Part l) (hd : Dif l) (h0 : 0 < l.length) (w : World) (hv : Ints w v l) :
    Calls Try.prog 24 #[v] w (Franked w l) := by
  have HP := Lib.hid h
  have HD := Lib.hid hd
  have HV := Lib.hid hv
  have hl30 := h.len
  have HX := Lib.hid (h.at (l.length - 1) (by omega))
  have HL := Lib.hid (fun m (hm : m < l.length) => (show 0 ≤ l.getD m 0 ∧ l.getD m 0 ≤ 30 from ⟨by have := (h.at m hm).1; omega, (h.at m hm).2⟩))
  obtain ⟨_, A, c, rfl, _, hcr⟩ := hv
  obtain ⟨ad, rfl, hbl, hcell⟩ := hcr h0
  have HC := Lib.hid (show (∀ W, Below w.heap.size w W → ∀ j u, l[j]? = some u → W.cell? (ad.add j) = some (.int .i64 u)) ∧ True from ⟨fun W hb j u hj => by rw [hb.cell (by rw [addr_block]; exact hbl)]; exact hcell j u hj, trivial⟩)
  have hln : ((l.length : Int) == 0) = false := by rw [beq_eq_false_iff_ne]; omega
  have hlz : (l.length == 0) = false := by rw [beq_eq_false_iff_ne]; omega
  have hkt : ((l.length : Int) - 1).toNat = l.length - 1 := by omega
  clear hcell hcr h hd
  go_enter Try.func24, Try.ntmps24
  go_wp2_with fail
  refine (valid_yes _ l HP.out _ HV.out).mono ?_
  rintro e _ ⟨rfl, rfl⟩
  go_wp2_with fail
  refine (different_yes _ l HD.out _ HV.out).mono ?_
  rintro e w1 ⟨rfl, hb1⟩
  have hcl1 := HC.out.1 w1 hb1
  have hcx := hcl1 (l.length - 1) _ (getD_get l (l.length - 1) (by omega))
  have hs := HX.out
  obtain ⟨S, hS⟩ : ∃ S : Nat, l.getD (l.length - 1) 0 = S := ⟨(l.getD (l.length - 1) 0).toNat, by omega⟩
  rw [hS] at hs hcx
  have HS := Lib.hid hS
  clear hS hcl1
  go_wp2_with fail
  clear hcx
  have HX0 := Lib.hid (HP.out.at 0 h0)
  go_loopw [6] (fun t wr => ∃ k : Nat, 1 ≤ k ∧ k ≤ l.length ∧ t = .int .i64 k ∧ (∀ j, j < k → l.getD j 0 = l.getD 0 0 - j) ∧ Below w.heap.size w wr) (fun t _ => l.length - (intOf t).toNat)
  case atStart => exact ⟨1, by omega, by omega, rfl, (fun j hj => by have h0 : j = 0 := (by omega); subst h0; simp), hb1⟩
  case round =>
    obtain ⟨k, hk1, hk2, rfl, hrun, hb⟩ := hrel
    clear hb1
    have HRN := Lib.hid hrun
    clear hrun
    by_cases hlt : k < l.length
    · have dl : decide ((k : Int) < l.length) = true := decide_eq_true (by omega)
      have dl2 : decide (k < l.length) = true := decide_eq_true hlt
      have cy : wr.cell? ad = some (.int .i64 (l.getD 0 0)) := (HC.out.1 wr hb) 0 _ (getD_get l 0 h0)
      have ck := (HC.out.1 wr hb) k _ (getD_get l k hlt)
      have hx0 := HX0.out
      have hx01 := hx0.1
      have hx02 := hx0.2
      clear hx0
      by_cases hne : l.getD k 0 = l.getD 0 0 - (k : Int)
      · have HNX := Lib.hid (show ∀ j, j < k + 1 → l.getD j 0 = l.getD 0 0 - j from fun j hj => by
          by_cases e : j < k
          · exact HRN.out j e
          · obtain rfl : j = k := by omega
            exact hne)
        generalize l.getD k 0 = x at *
        generalize l.getD 0 0 = x0 at *
        have e1 : (x == x0 - (k : Int)) = true := by rw [beq_iff_eq]; omega
        have hw1 : IntKind.i64.wrap (x0 - (k : Int)) = x0 - (k : Int) := IntWalk.i64_in _ (by omega)
        skip
        clear hne
        go_wp2_with fail
        go_quiet (fail)
        go_wp2_with fail
        go_roundw
        case rel => exact ⟨k + 1, by omega, by omega, by go_num, HNX.out, below_drewN hb _⟩
        case measure => simp [intOf]; omega
      · have HRUN := Lib.hid (show IsRun l k from ⟨hk1, hk2, HRN.out, fun _ => hne⟩)
        generalize l.getD k 0 = x at *
        generalize l.getD 0 0 = x0 at *
        have e1 : (x == x0 - (k : Int)) = false := by rw [beq_eq_false_iff_ne]; exact hne
        have hw1 : IntKind.i64.wrap (x0 - (k : Int)) = x0 - (k : Int) := IntWalk.i64_in _ (by omega)
        skip
        clear hne
        go_wp2_with fail
        go_quiet (fail)
        have HBK := Lib.hid (below_drewN hb nq)
        clear hb cy ck e1 hw1  dl dl2
        go_wp2_with fail
        refine (clonep_any _ l _ (HV.out.keep HBK.out)).mono ?_
        rintro e w2 ⟨v2, rfl, o2, b2⟩
        have HB := Lib.hid (HBK.out.trans (b2.mono HBK.out.size))
        have O2 := Lib.hid (o2.base HBK.out.size)
        clear o2 b2
        obtain ⟨g, cap, rfl, hcap, hg1, hg2, _⟩ := O2.out.seen h0
        clear hg1 hg2
        by_cases hsk : S ≤ k
        · have kn : ((k : Int) == (l.length : Int)) = false := by rw [beq_eq_false_iff_ne]; omega
          have sl : decide ((S : Int) ≤ (k : Int)) = true := decide_eq_true (by omega)
          have sl2 : decide (S ≤ k) = true := decide_eq_true (by omega)
          obtain ⟨ls, hls⟩ : ∃ ls, ls = l.take (l.length - 1) := ⟨_, rfl⟩
          have HFR := Lib.hid (show FR l = some (bump ls S 1) by rw [FR_run HRUN.out, if_neg (by rw [HS.out]; omega), if_pos (by rw [HS.out]; omega), HS.out, hls]; rfl)
          have HLEN := Lib.hid (show ls.length = l.length - 1 by rw [hls, List.length_take]; omega)
          have OW := Lib.hid (show Own w2 w.heap.size (.slice (some ⟨g, 0, none⟩) (l.length - 1) cap) ls by rw [hls]; exact O2.out.cut (l.length - 1) (by omega))
          have HLX := Lib.hid (fun m (hm : m < ls.length) => (show 0 ≤ ls.getD m 0 ∧ ls.getD m 0 ≤ 30 by
            have e : ls.getD m 0 = l.getD m 0 := by
              rw [HLEN.out] at hm
              rw [hls, List.getD_eq_getElem?_getD, List.getElem?_take, if_pos hm, ← List.getD_eq_getElem?_getD]
            rw [e]
            exact HL.out m (by rw [HLEN.out] at hm; omega)))
          clear hls
          go_wp2_with fail
          go_loopw [76] (fun i wr => ∃ m : Nat, m ≤ S ∧ i = .int .i64 m ∧ Own wr w.heap.size (.slice (some ⟨g, 0, none⟩) (l.length - 1) cap) (bump ls m (1)) ∧ Below w.heap.size w wr) (fun i _ => S - (intOf i).toNat)
          case atStart => exact ⟨0, Nat.zero_le _, rfl, by rw [bump_zero]; exact OW.out, HB.out⟩
          case round =>
            obtain ⟨m, hm, rfl, how, hbm⟩ := hrel
            by_cases hlt : m < S
            · have hml : m < l.length - 1 := by omega
              have hml2 : m < ls.length := by rw [HLEN.out]; exact hml
              have hci := how.holds m (by simp [bump_length]; exact hml2)
              rw [Nat.zero_add] at hci
              have hcx := hci.1
              have hfr := hci.2
              rw [show (bump ls m (1)).toArray[m]! = ls.getD m 0 by
                have := bump_get ls m (1) m hml2
                rw [if_neg (by omega), Int.add_zero] at this
                simp [this]] at hcx
              have HN := Lib.hid (how.put (by rw [bump_length, HLEN.out]) m (ls.getD m 0 + (1)))
              rw [← bump_succ ls m (1) hml2] at HN
              have HB2 := Lib.hid (hbm.setCell (p := ⟨g, m, none⟩) (how.nums.2.2.2.1) (.int .i64 (ls.getD m 0 + (1))))
              have hx : 0 ≤ ls.getD m 0 ∧ ls.getD m 0 ≤ 30 := HLX.out m hml2
              have hx1 := hx.1
              have hx2 := hx.2
              clear hci how hbm hx hml2
              generalize ls.getD m 0 = x at *
              go_wp2_with fail
              go_roundw
              case rel => exact ⟨m + 1, by omega, by go_num, HN.out, HB2.out⟩
              case measure => simp [intOf]; omega
            · obtain rfl : m = S := by omega
              go_wp2_with fail
              exact bodyPost_ret (v := .tuple #[.slice (some ⟨g, 0, none⟩) (l.length - 1) cap, .int .i64 0]) (by simp [results, Try.results24, go_sem]) rfl (Franked.yes HFR.out how hbm)
        · have kn : ((k : Int) == (l.length : Int)) = false := by rw [beq_eq_false_iff_ne]; omega
          have sl : decide ((S : Int) ≤ (k : Int)) = false := decide_eq_false (by omega)
          have sl2 : decide (S ≤ k) = false := decide_eq_false (by omega)
          have HFR := Lib.hid (show FR l = some (bump l k (-1) ++ [(k : Int)]) by rw [FR_run HRUN.out, if_neg (by rw [HS.out]; omega), if_neg (by rw [HS.out]; omega)])
          have OW := Lib.hid O2.out
          have HLX := Lib.hid HL.out
          go_wp2_with fail
          go_loopw [88] (fun i wr => ∃ m : Nat, m ≤ k ∧ i = .int .i64 m ∧ Own wr w.heap.size (.slice (some ⟨g, 0, none⟩) (l.length) cap) (bump l m (-1)) ∧ Below w.heap.size w wr) (fun i _ => k - (intOf i).toNat)
          case atStart => exact ⟨0, Nat.zero_le _, rfl, by rw [bump_zero]; exact OW.out, HB.out⟩
          case round =>
            obtain ⟨m, hm, rfl, how, hbm⟩ := hrel
            by_cases hlt : m < k
            · have hml : m < l.length := by omega
              have hml2 : m < l.length := hml
              have hci := how.holds m (by simp [bump_length]; exact hml2)
              rw [Nat.zero_add] at hci
              have hcx := hci.1
              have hfr := hci.2
              rw [show (bump l m (-1)).toArray[m]! = l.getD m 0 by
                have := bump_get l m (-1) m hml2
                rw [if_neg (by omega), Int.add_zero] at this
                simp [this]] at hcx
              have HN := Lib.hid (how.put (by rw [bump_length]) m (l.getD m 0 + (-1)))
              rw [← bump_succ l m (-1) hml2] at HN
              have HB2 := Lib.hid (hbm.setCell (p := ⟨g, m, none⟩) (how.nums.2.2.2.1) (.int .i64 (l.getD m 0 + (-1))))
              have hx : 0 ≤ l.getD m 0 ∧ l.getD m 0 ≤ 30 := HLX.out m hml2
              have hx1 := hx.1
              have hx2 := hx.2
              clear hci how hbm hx hml2
              generalize l.getD m 0 = x at *
              go_wp2_with fail
              go_roundw
              case rel => exact ⟨m + 1, by omega, by go_num, HN.out, HB2.out⟩
              case measure => simp [intOf]; omega
            · obtain rfl : m = k := by omega
              have HO := Lib.hid (show Own wr w.heap.size (.slice (some ⟨g, 0, none⟩) l.length cap) (bump l m (-1)) from how)
              have HBM := Lib.hid hbm
              clear how hbm
              go_wp2_with (at_builtin; refine wpList_push _ rfl _ _ 53 rfl Try.underlying53 w.heap.size _ (bump l m (-1)) rfl HO.out (m : Int) rfl (by rw [bump_length]; omega) HBM.out.size ?_; intro g2 cap2 w2 hown2 hgrow2 _)
              have HO2 := Lib.hid hown2
              have HB9 := Lib.hid ((HBM.out.alloc HBM.out.size _).grown hgrow2 (by have := HBM.out.size; simp; omega) (fun k hk => (HO.out.lt k hk).1))
              clear hown2 hgrow2
              go_wp2_with fail
              exact bodyPost_ret (v := .tuple #[.slice (some ⟨g2, 0, none⟩) ((bump l m (-1)).length + 1) cap2, .int .i64 0]) (by simp [results, Try.results24, go_sem]) rfl (Franked.yes HFR.out HO2.out HB9.out)
    · have HRUN := Lib.hid (show IsRun l k from ⟨hk1, hk2, HRN.out, fun h => absurd h hlt⟩)
      have dl : decide ((k : Int) < l.length) = false := decide_eq_false (by omega)
      have dl2 : decide (k < l.length) = false := decide_eq_false hlt
      go_wp2_with fail
      go_quiet (fail)
      have HBK := Lib.hid (below_drewN hb nq)
      clear hb dl dl2
      go_wp2_with fail
      refine (clonep_any _ l _ (HV.out.keep HBK.out)).mono ?_
      rintro e w2 ⟨v2, rfl, o2, b2⟩
      have HB := Lib.hid (HBK.out.trans (b2.mono HBK.out.size))
      have O2 := Lib.hid (o2.base HBK.out.size)
      clear o2 b2
      obtain ⟨g, cap, rfl, hcap, hg1, hg2, _⟩ := O2.out.seen h0
      clear hg1 hg2
      by_cases hs1 : S = k
      · have kn : ((k : Int) == (l.length : Int)) = true := by rw [beq_iff_eq]; omega
        have sk : ((S : Int) == (k : Int)) = true := by rw [beq_iff_eq]; omega
        have sk1 : ((S : Int) == (k : Int) + 1) = false := by rw [beq_eq_false_iff_ne]; omega
        have sl : decide ((S : Int) ≤ (k : Int)) = true := decide_eq_true (by omega)
        have sl2 : decide (S ≤ k) = true := decide_eq_true (by omega)
        have HFR := Lib.hid (show FR l = none by rw [FR_run HRUN.out, if_pos (by rw [HS.out]; omega)])
        go_wp2_with fail
        exact bodyPost_ret (v := .tuple #[.slice none 0 0, .int .i64 5]) (by simp [results, Try.results24, go_sem]) rfl (Franked.no HFR.out HB.out)
      · by_cases hs2 : S = k + 1
        · have kn : ((k : Int) == (l.length : Int)) = true := by rw [beq_iff_eq]; omega
          have sk : ((S : Int) == (k : Int)) = false := by rw [beq_eq_false_iff_ne]; omega
          have sk1 : ((S : Int) == (k : Int) + 1) = true := by rw [beq_iff_eq]; omega
          have sl : decide ((S : Int) ≤ (k : Int)) = false := decide_eq_false (by omega)
          have sl2 : decide (S ≤ k) = false := decide_eq_false (by omega)
          have HFR := Lib.hid (show FR l = none by rw [FR_run HRUN.out, if_pos (by rw [HS.out]; omega)])
          go_wp2_with fail
          exact bodyPost_ret (v := .tuple #[.slice none 0 0, .int .i64 5]) (by simp [results, Try.results24, go_sem]) rfl (Franked.no HFR.out HB.out)
        · by_cases hsk : S ≤ k
          · have kn : ((k : Int) == (l.length : Int)) = true := by rw [beq_iff_eq]; omega
            have sk : ((S : Int) == (k : Int)) = false := by rw [beq_eq_false_iff_ne]; omega
            have sk1 : ((S : Int) == (k : Int) + 1) = false := by rw [beq_eq_false_iff_ne]; omega
            have sl : decide ((S : Int) ≤ (k : Int)) = true := decide_eq_true (by omega)
            have sl2 : decide (S ≤ k) = true := decide_eq_true (by omega)
            obtain ⟨ls, hls⟩ : ∃ ls, ls = l.take (l.length - 1) := ⟨_, rfl⟩
            have HFR := Lib.hid (show FR l = some (bump ls S 1) by rw [FR_run HRUN.out, if_neg (by rw [HS.out]; omega), if_pos (by rw [HS.out]; omega), HS.out, hls]; rfl)
            have HLEN := Lib.hid (show ls.length = l.length - 1 by rw [hls, List.length_take]; omega)
            have OW := Lib.hid (show Own w2 w.heap.size (.slice (some ⟨g, 0, none⟩) (l.length - 1) cap) ls by rw [hls]; exact O2.out.cut (l.length - 1) (by omega))
            have HLX := Lib.hid (fun m (hm : m < ls.length) => (show 0 ≤ ls.getD m 0 ∧ ls.getD m 0 ≤ 30 by
              have e : ls.getD m 0 = l.getD m 0 := by
                rw [HLEN.out] at hm
                rw [hls, List.getD_eq_getElem?_getD, List.getElem?_take, if_pos hm, ← List.getD_eq_getElem?_getD]
              rw [e]
              exact HL.out m (by rw [HLEN.out] at hm; omega)))
            clear hls
            go_wp2_with fail
            go_loopw [76] (fun i wr => ∃ m : Nat, m ≤ S ∧ i = .int .i64 m ∧ Own wr w.heap.size (.slice (some ⟨g, 0, none⟩) (l.length - 1) cap) (bump ls m (1)) ∧ Below w.heap.size w wr) (fun i _ => S - (intOf i).toNat)
            case atStart => exact ⟨0, Nat.zero_le _, rfl, by rw [bump_zero]; exact OW.out, HB.out⟩
            case round =>
              obtain ⟨m, hm, rfl, how, hbm⟩ := hrel
              by_cases hlt : m < S
              · have hml : m < l.length - 1 := by omega
                have hml2 : m < ls.length := by rw [HLEN.out]; exact hml
                have hci := how.holds m (by simp [bump_length]; exact hml2)
                rw [Nat.zero_add] at hci
                have hcx := hci.1
                have hfr := hci.2
                rw [show (bump ls m (1)).toArray[m]! = ls.getD m 0 by
                  have := bump_get ls m (1) m hml2
                  rw [if_neg (by omega), Int.add_zero] at this
                  simp [this]] at hcx
                have HN := Lib.hid (how.put (by rw [bump_length, HLEN.out]) m (ls.getD m 0 + (1)))
                rw [← bump_succ ls m (1) hml2] at HN
                have HB2 := Lib.hid (hbm.setCell (p := ⟨g, m, none⟩) (how.nums.2.2.2.1) (.int .i64 (ls.getD m 0 + (1))))
                have hx : 0 ≤ ls.getD m 0 ∧ ls.getD m 0 ≤ 30 := HLX.out m hml2
                have hx1 := hx.1
                have hx2 := hx.2
                clear hci how hbm hx hml2
                generalize ls.getD m 0 = x at *
                go_wp2_with fail
                go_roundw
                case rel => exact ⟨m + 1, by omega, by go_num, HN.out, HB2.out⟩
                case measure => simp [intOf]; omega
              · obtain rfl : m = S := by omega
                go_wp2_with fail
                exact bodyPost_ret (v := .tuple #[.slice (some ⟨g, 0, none⟩) (l.length - 1) cap, .int .i64 0]) (by simp [results, Try.results24, go_sem]) rfl (Franked.yes HFR.out how hbm)
          · have kn : ((k : Int) == (l.length : Int)) = true := by rw [beq_iff_eq]; omega
            have sk : ((S : Int) == (k : Int)) = false := by rw [beq_eq_false_iff_ne]; omega
            have sk1 : ((S : Int) == (k : Int) + 1) = false := by rw [beq_eq_false_iff_ne]; omega
            have sl : decide ((S : Int) ≤ (k : Int)) = false := decide_eq_false (by omega)
            have sl2 : decide (S ≤ k) = false := decide_eq_false (by omega)
            have HFR := Lib.hid (show FR l = some (bump l k (-1) ++ [(k : Int)]) by rw [FR_run HRUN.out, if_neg (by rw [HS.out]; omega), if_neg (by rw [HS.out]; omega)])
            have OW := Lib.hid O2.out
            have HLX := Lib.hid HL.out
            go_wp2_with fail
            go_loopw [88] (fun i wr => ∃ m : Nat, m ≤ k ∧ i = .int .i64 m ∧ Own wr w.heap.size (.slice (some ⟨g, 0, none⟩) (l.length) cap) (bump l m (-1)) ∧ Below w.heap.size w wr) (fun i _ => k - (intOf i).toNat)
            case atStart => exact ⟨0, Nat.zero_le _, rfl, by rw [bump_zero]; exact OW.out, HB.out⟩
            case round =>
              obtain ⟨m, hm, rfl, how, hbm⟩ := hrel
              by_cases hlt : m < k
              · have hml : m < l.length := by omega
                have hml2 : m < l.length := hml
                have hci := how.holds m (by simp [bump_length]; exact hml2)
                rw [Nat.zero_add] at hci
                have hcx := hci.1
                have hfr := hci.2
                rw [show (bump l m (-1)).toArray[m]! = l.getD m 0 by
                  have := bump_get l m (-1) m hml2
                  rw [if_neg (by omega), Int.add_zero] at this
                  simp [this]] at hcx
                have HN := Lib.hid (how.put (by rw [bump_length]) m (l.getD m 0 + (-1)))
                rw [← bump_succ l m (-1) hml2] at HN
                have HB2 := Lib.hid (hbm.setCell (p := ⟨g, m, none⟩) (how.nums.2.2.2.1) (.int .i64 (l.getD m 0 + (-1))))
                have hx : 0 ≤ l.getD m 0 ∧ l.getD m 0 ≤ 30 := HLX.out m hml2
                have hx1 := hx.1
                have hx2 := hx.2
                clear hci how hbm hx hml2
                generalize l.getD m 0 = x at *
                go_wp2_with fail
                go_roundw
                case rel => exact ⟨m + 1, by omega, by go_num, HN.out, HB2.out⟩
                case measure => simp [intOf]; omega
              · obtain rfl : m = k := by omega
                have HO := Lib.hid (show Own wr w.heap.size (.slice (some ⟨g, 0, none⟩) l.length cap) (bump l m (-1)) from how)
                have HBM := Lib.hid hbm
                clear how hbm
                go_wp2_with (at_builtin; refine wpList_push _ rfl _ _ 53 rfl Try.underlying53 w.heap.size _ (bump l m (-1)) rfl HO.out (m : Int) rfl (by rw [bump_length]; omega) HBM.out.size ?_; intro g2 cap2 w2 hown2 hgrow2 _)
                have HO2 := Lib.hid hown2
                have HB9 := Lib.hid ((HBM.out.alloc HBM.out.size _).grown hgrow2 (by have := HBM.out.size; simp; omega) (fun k hk => (HO.out.lt k hk).1))
                clear hown2 hgrow2
                go_wp2_with fail
                exact bodyPost_ret (v := .tuple #[.slice (some ⟨g2, 0, none⟩) ((bump l m (-1)).length + 1) cap2, .int .i64 0]) (by simp [results, Try.results24, go_sem]) rfl (Franked.yes HFR.out HO2.out HB9.out)

set_option maxRecDepth 100000 in
set_option maxHeartbeats 16000000 in
theorem rFranklin_any (v : Value) (l : List Int) (h : Part l) (hd : Dif l) (h0 : 0 < l.length) (w : World) (hv : Ints w v l) :
    Calls Try.prog 28 #[v] w (Franked w l) := by
  have HP := Lib.hid h
  have HD := Lib.hid hd
  have HV := Lib.hid hv
  have hl30 := h.len
  have HX := Lib.hid (h.at (l.length - 1) (by omega))
  have HL := Lib.hid (fun m (hm : m < l.length) => (show 0 ≤ l.getD m 0 ∧ l.getD m 0 ≤ 30 from ⟨by have := (h.at m hm).1; omega, (h.at m hm).2⟩))
  obtain ⟨_, A, c, rfl, _, hcr⟩ := hv
  obtain ⟨ad, rfl, hbl, hcell⟩ := hcr h0
  have HC := Lib.hid (show (∀ W, Below w.heap.size w W → ∀ j u, l[j]? = some u → W.cell? (ad.add j) = some (.int .i64 u)) ∧ True from ⟨fun W hb j u hj => by rw [hb.cell (by rw [addr_block]; exact hbl)]; exact hcell j u hj, trivial⟩)
  have hln : ((l.length : Int) == 0) = false := by rw [beq_eq_false_iff_ne]; omega
  have hlz : (l.length == 0) = false := by rw [beq_eq_false_iff_ne]; omega
  have hkt : ((l.length : Int) - 1).toNat = l.length - 1 := by omega
  clear hcell hcr h hd
  go_enter Try.func28, Try.ntmps28
  have hb1 := Below.refl w.heap.size w
  have hcl1 := HC.out.1 w hb1
  have hcx := hcl1 (l.length - 1) _ (getD_get l (l.length - 1) (by omega))
  have hs := HX.out
  obtain ⟨S, hS⟩ : ∃ S : Nat, l.getD (l.length - 1) 0 = S := ⟨(l.getD (l.length - 1) 0).toNat, by omega⟩
  rw [hS] at hs hcx
  have HS := Lib.hid hS
  clear hS hcl1
  go_wp2_with fail
  clear hcx
  have HX0 := Lib.hid (HP.out.at 0 h0)
  go_loopw [6] (fun t wr => ∃ k : Nat, 1 ≤ k ∧ k ≤ l.length ∧ t = .int .i64 k ∧ (∀ j, j < k → l.getD j 0 = l.getD 0 0 - j) ∧ Below w.heap.size w wr) (fun t _ => l.length - (intOf t).toNat)
  case atStart => exact ⟨1, by omega, by omega, rfl, (fun j hj => by have h0 : j = 0 := (by omega); subst h0; simp), hb1⟩
  case round =>
    obtain ⟨k, hk1, hk2, rfl, hrun, hb⟩ := hrel
    clear hb1
    have HRN := Lib.hid hrun
    clear hrun
    by_cases hlt : k < l.length
    · have dl : decide ((k : Int) < l.length) = true := decide_eq_true (by omega)
      have dl2 : decide (k < l.length) = true := decide_eq_true hlt
      have cy := (HC.out.1 wr hb) (k - 1) _ (getD_get l (k - 1) (by omega))
      have ck := (HC.out.1 wr hb) k _ (getD_get l k hlt)
      have hx0 := HX0.out
      have hx01 := hx0.1
      have hx02 := hx0.2
      clear hx0
      by_cases hne : l.getD k 0 = l.getD 0 0 - (k : Int)
      · have HNX := Lib.hid (show ∀ j, j < k + 1 → l.getD j 0 = l.getD 0 0 - j from fun j hj => by
          by_cases e : j < k
          · exact HRN.out j e
          · obtain rfl : j = k := by omega
            exact hne)
        have hy0 := HRN.out (k - 1) (by omega)
        have hyb := (HP.out.at (k - 1) (by omega))
        have hyb1 := hyb.1
        have hyb2 := hyb.2
        clear hyb
        generalize l.getD k 0 = x at *
        generalize l.getD (k - 1) 0 = y at *
        generalize l.getD 0 0 = x0 at *
        have e1 : (x == y - 1) = true := by rw [beq_iff_eq]; omega
        have hw1 : IntKind.i64.wrap (y - 1) = y - 1 := IntWalk.i64_in _ (by omega)
        have hw2 : IntKind.i64.wrap ((k : Int) - 1) = (k : Int) - 1 := IntWalk.i64_in _ (by omega)
        have hw3 : ((k : Int) - 1).toNat = k - 1 := by omega
        have hw4 : 0 ≤ (k : Int) - 1 := by omega
        have hw5 : (k : Int) - 1 < l.length := by omega
        clear hy0
        clear hne
        go_wp2_with fail
        go_quiet (fail)
        go_wp2_with fail
        go_roundw
        case rel => exact ⟨k + 1, by omega, by omega, by go_num, HNX.out, below_drewN hb _⟩
        case measure => simp [intOf]; omega
      · have HRUN := Lib.hid (show IsRun l k from ⟨hk1, hk2, HRN.out, fun _ => hne⟩)
        have hy0 := HRN.out (k - 1) (by omega)
        have hyb := (HP.out.at (k - 1) (by omega))
        have hyb1 := hyb.1
        have hyb2 := hyb.2
        clear hyb
        generalize l.getD k 0 = x at *
        generalize l.getD (k - 1) 0 = y at *
        generalize l.getD 0 0 = x0 at *
        have e1 : (x == y - 1) = false := by rw [beq_eq_false_iff_ne]; omega
        have hw1 : IntKind.i64.wrap (y - 1) = y - 1 := IntWalk.i64_in _ (by omega)
        have hw2 : IntKind.i64.wrap ((k : Int) - 1) = (k : Int) - 1 := IntWalk.i64_in _ (by omega)
        have hw3 : ((k : Int) - 1).toNat = k - 1 := by omega
        have hw4 : 0 ≤ (k : Int) - 1 := by omega
        have hw5 : (k : Int) - 1 < l.length := by omega
        clear hy0
        clear hne
        go_wp2_with fail
        go_quiet (fail)
        have HBK := Lib.hid (below_drewN hb nq)
        clear hb cy ck e1 hw1 hw2 hw3 hw4 hw5 dl dl2
        have hz1 : w.heap.size ≤ wr.heap.size := by simpa using HBK.out.size
        have HOW0 := Lib.hid (show Own ((wr.drewN nq).alloc (Obj.cells #[] 3)) w.heap.size (.slice (some ⟨wr.heap.size, 0, none⟩) 0 0) [] from by simpa using Own.lit (wr.drewN nq) w.heap.size HBK.out.size #[] [] 0 rfl rfl (by simp))
        have HCA := Lib.hid (show ∀ j u, l[j]? = some u → ((wr.drewN nq).alloc (Obj.cells #[] 3)).cell? (ad.add j) = some (.int .i64 u) from by
          intro j u hu
          refine (World.cell?_alloc_lt _ _ (ad.add j) ?_).trans ((HC.out.1 _ HBK.out) j u hu)
          rw [addr_block]
          exact Nat.lt_of_lt_of_le hbl HBK.out.size)
        go_wp2_with (at_builtin; refine wpList_append_ints _ rfl _ _ 33 rfl Try.underlying33 w.heap.size _ [] rfl HOW0.out ad l c rfl HCA.out (by simp; omega) (by simp; omega) ?_)
        intro v2 w2 hown hg
        have HB := Lib.hid ((HBK.out.alloc HBK.out.size _).grown hg (by simp; omega) (fun k hk => by simp [Value.ownBlock] at hk; omega))
        have O2 := Lib.hid (show Own w2 w.heap.size v2 l by simpa using hown)
        clear hown hg
        obtain ⟨g, cap, rfl, hcap, hg1, hg2, _⟩ := O2.out.seen h0
        clear hg1 hg2
        by_cases hsk : S ≤ k
        · have kn : ((k : Int) == (l.length : Int)) = false := by rw [beq_eq_false_iff_ne]; omega
          have sl : decide ((S : Int) ≤ (k : Int)) = true := decide_eq_true (by omega)
          have sl2 : decide (S ≤ k) = true := decide_eq_true (by omega)
          obtain ⟨ls, hls⟩ : ∃ ls, ls = l.take (l.length - 1) := ⟨_, rfl⟩
          have HFR := Lib.hid (show FR l = some (bump ls S 1) by rw [FR_run HRUN.out, if_neg (by rw [HS.out]; omega), if_pos (by rw [HS.out]; omega), HS.out, hls]; rfl)
          have HLEN := Lib.hid (show ls.length = l.length - 1 by rw [hls, List.length_take]; omega)
          have OW := Lib.hid (show Own w2 w.heap.size (.slice (some ⟨g, 0, none⟩) (l.length - 1) cap) ls by rw [hls]; exact O2.out.cut (l.length - 1) (by omega))
          have HLX := Lib.hid (fun m (hm : m < ls.length) => (show 0 ≤ ls.getD m 0 ∧ ls.getD m 0 ≤ 30 by
            have e : ls.getD m 0 = l.getD m 0 := by
              rw [HLEN.out] at hm
              rw [hls, List.getD_eq_getElem?_getD, List.getElem?_take, if_pos hm, ← List.getD_eq_getElem?_getD]
            rw [e]
            exact HL.out m (by rw [HLEN.out] at hm; omega)))
          clear hls
          go_wp2_with fail
          go_loopw [54] (fun i wr => ∃ m : Nat, m ≤ S ∧ i = .int .i64 m ∧ Own wr w.heap.size (.slice (some ⟨g, 0, none⟩) (l.length - 1) cap) (bump ls m (1)) ∧ Below w.heap.size w wr) (fun i _ => S - (intOf i).toNat)
          case atStart => exact ⟨0, Nat.zero_le _, rfl, by rw [bump_zero]; exact OW.out, HB.out⟩
          case round =>
            obtain ⟨m, hm, rfl, how, hbm⟩ := hrel
            by_cases hlt : m < S
            · have hml : m < l.length - 1 := by omega
              have hml2 : m < ls.length := by rw [HLEN.out]; exact hml
              have hci := how.holds m (by simp [bump_length]; exact hml2)
              rw [Nat.zero_add] at hci
              have hcx := hci.1
              have hfr := hci.2
              rw [show (bump ls m (1)).toArray[m]! = ls.getD m 0 by
                have := bump_get ls m (1) m hml2
                rw [if_neg (by omega), Int.add_zero] at this
                simp [this]] at hcx
              have HN := Lib.hid (how.put (by rw [bump_length, HLEN.out]) m (ls.getD m 0 + (1)))
              rw [← bump_succ ls m (1) hml2] at HN
              have HB2 := Lib.hid (hbm.setCell (p := ⟨g, m, none⟩) (how.nums.2.2.2.1) (.int .i64 (ls.getD m 0 + (1))))
              have hx : 0 ≤ ls.getD m 0 ∧ ls.getD m 0 ≤ 30 := HLX.out m hml2
              have hx1 := hx.1
              have hx2 := hx.2
              clear hci how hbm hx hml2
              generalize ls.getD m 0 = x at *
              go_wp2_with fail
              go_roundw
              case rel => exact ⟨m + 1, by omega, by go_num, HN.out, HB2.out⟩
              case measure => simp [intOf]; omega
            · obtain rfl : m = S := by omega
              go_wp2_with fail
              exact bodyPost_ret (v := .tuple #[.slice (some ⟨g, 0, none⟩) (l.length - 1) cap, .int .i64 0]) (by simp [results, Try.results28, go_sem]) rfl (Franked.yes HFR.out how hbm)
        · have kn : ((k : Int) == (l.length : Int)) = false := by rw [beq_eq_false_iff_ne]; omega
          have sl : decide ((S : Int) ≤ (k : Int)) = false := decide_eq_false (by omega)
          have sl2 : decide (S ≤ k) = false := decide_eq_false (by omega)
          have HFR := Lib.hid (show FR l = some (bump l k (-1) ++ [(k : Int)]) by rw [FR_run HRUN.out, if_neg (by rw [HS.out]; omega), if_neg (by rw [HS.out]; omega)])
          have OW := Lib.hid O2.out
          have HLX := Lib.hid HL.out
          go_wp2_with fail
          go_loopw [75] (fun i wr => ∃ m : Nat, m ≤ k ∧ i = .int .i64 m ∧ Own wr w.heap.size (.slice (some ⟨g, 0, none⟩) (l.length) cap) (bump l m (-1)) ∧ Below w.heap.size w wr) (fun i _ => k - (intOf i).toNat)
          case atStart => exact ⟨0, Nat.zero_le _, rfl, by rw [bump_zero]; exact OW.out, HB.out⟩
          case round =>
            obtain ⟨m, hm, rfl, how, hbm⟩ := hrel
            by_cases hlt : m < k
            · have hml : m < l.length := by omega
              have hml2 : m < l.length := hml
              have hci := how.holds m (by simp [bump_length]; exact hml2)
              rw [Nat.zero_add] at hci
              have hcx := hci.1
              have hfr := hci.2
              rw [show (bump l m (-1)).toArray[m]! = l.getD m 0 by
                have := bump_get l m (-1) m hml2
                rw [if_neg (by omega), Int.add_zero] at this
                simp [this]] at hcx
              have HN := Lib.hid (how.put (by rw [bump_length]) m (l.getD m 0 + (-1)))
              rw [← bump_succ l m (-1) hml2] at HN
              have HB2 := Lib.hid (hbm.setCell (p := ⟨g, m, none⟩) (how.nums.2.2.2.1) (.int .i64 (l.getD m 0 + (-1))))
              have hx : 0 ≤ l.getD m 0 ∧ l.getD m 0 ≤ 30 := HLX.out m hml2
              have hx1 := hx.1
              have hx2 := hx.2
              clear hci how hbm hx hml2
              generalize l.getD m 0 = x at *
              go_wp2_with fail
              go_roundw
              case rel => exact ⟨m + 1, by omega, by go_num, HN.out, HB2.out⟩
              case measure => simp [intOf]; omega
            · obtain rfl : m = k := by omega
              have HO := Lib.hid (show Own wr w.heap.size (.slice (some ⟨g, 0, none⟩) l.length cap) (bump l m (-1)) from how)
              have HBM := Lib.hid hbm
              clear how hbm
              go_wp2_with (at_builtin; refine wpList_push _ rfl _ _ 33 rfl Try.underlying33 w.heap.size _ (bump l m (-1)) rfl HO.out (m : Int) rfl (by rw [bump_length]; omega) HBM.out.size ?_; intro g2 cap2 w2 hown2 hgrow2 _)
              have HO2 := Lib.hid hown2
              have HB9 := Lib.hid ((HBM.out.alloc HBM.out.size _).grown hgrow2 (by have := HBM.out.size; simp; omega) (fun k hk => (HO.out.lt k hk).1))
              clear hown2 hgrow2
              go_wp2_with fail
              exact bodyPost_ret (v := .tuple #[.slice (some ⟨g2, 0, none⟩) ((bump l m (-1)).length + 1) cap2, .int .i64 0]) (by simp [results, Try.results28, go_sem]) rfl (Franked.yes HFR.out HO2.out HB9.out)
    · have HRUN := Lib.hid (show IsRun l k from ⟨hk1, hk2, HRN.out, fun h => absurd h hlt⟩)
      have dl : decide ((k : Int) < l.length) = false := decide_eq_false (by omega)
      have dl2 : decide (k < l.length) = false := decide_eq_false hlt
      go_wp2_with fail
      go_quiet (fail)
      have HBK := Lib.hid (below_drewN hb nq)
      clear hb dl dl2
      have hz1 : w.heap.size ≤ wr.heap.size := by simpa using HBK.out.size
      have HOW0 := Lib.hid (show Own ((wr.drewN nq).alloc (Obj.cells #[] 3)) w.heap.size (.slice (some ⟨wr.heap.size, 0, none⟩) 0 0) [] from by simpa using Own.lit (wr.drewN nq) w.heap.size HBK.out.size #[] [] 0 rfl rfl (by simp))
      have HCA := Lib.hid (show ∀ j u, l[j]? = some u → ((wr.drewN nq).alloc (Obj.cells #[] 3)).cell? (ad.add j) = some (.int .i64 u) from by
        intro j u hu
        refine (World.cell?_alloc_lt _ _ (ad.add j) ?_).trans ((HC.out.1 _ HBK.out) j u hu)
        rw [addr_block]
        exact Nat.lt_of_lt_of_le hbl HBK.out.size)
      go_wp2_with (at_builtin; refine wpList_append_ints _ rfl _ _ 33 rfl Try.underlying33 w.heap.size _ [] rfl HOW0.out ad l c rfl HCA.out (by simp; omega) (by simp; omega) ?_)
      intro v2 w2 hown hg
      have HB := Lib.hid ((HBK.out.alloc HBK.out.size _).grown hg (by simp; omega) (fun k hk => by simp [Value.ownBlock] at hk; omega))
      have O2 := Lib.hid (show Own w2 w.heap.size v2 l by simpa using hown)
      clear hown hg
      obtain ⟨g, cap, rfl, hcap, hg1, hg2, _⟩ := O2.out.seen h0
      clear hg1 hg2
      by_cases hs1 : S = k
      · have kn : ((k : Int) == (l.length : Int)) = true := by rw [beq_iff_eq]; omega
        have sk : ((S : Int) == (k : Int)) = true := by rw [beq_iff_eq]; omega
        have sk1 : ((S : Int) == (k : Int) + 1) = false := by rw [beq_eq_false_iff_ne]; omega
        have sl : decide ((S : Int) ≤ (k : Int)) = true := decide_eq_true (by omega)
        have sl2 : decide (S ≤ k) = true := decide_eq_true (by omega)
        have HFR := Lib.hid (show FR l = none by rw [FR_run HRUN.out, if_pos (by rw [HS.out]; omega)])
        go_wp2_with fail
        exact bodyPost_ret (v := .tuple #[.slice none 0 0, .int .i64 5]) (by simp [results, Try.results28, go_sem]) rfl (Franked.no HFR.out HB.out)
      · by_cases hs2 : S = k + 1
        · have kn : ((k : Int) == (l.length : Int)) = true := by rw [beq_iff_eq]; omega
          have sk : ((S : Int) == (k : Int)) = false := by rw [beq_eq_false_iff_ne]; omega
          have sk1 : ((S : Int) == (k : Int) + 1) = true := by rw [beq_iff_eq]; omega
          have sl : decide ((S : Int) ≤ (k : Int)) = false := decide_eq_false (by omega)
          have sl2 : decide (S ≤ k) = false := decide_eq_false (by omega)
          have HFR := Lib.hid (show FR l = none by rw [FR_run HRUN.out, if_pos (by rw [HS.out]; omega)])
          go_wp2_with fail
          exact bodyPost_ret (v := .tuple #[.slice none 0 0, .int .i64 5]) (by simp [results, Try.results28, go_sem]) rfl (Franked.no HFR.out HB.out)
        · by_cases hsk : S ≤ k
          · have kn : ((k : Int) == (l.length : Int)) = true := by rw [beq_iff_eq]; omega
            have sk : ((S : Int) == (k : Int)) = false := by rw [beq_eq_false_iff_ne]; omega
            have sk1 : ((S : Int) == (k : Int) + 1) = false := by rw [beq_eq_false_iff_ne]; omega
            have sl : decide ((S : Int) ≤ (k : Int)) = true := decide_eq_true (by omega)
            have sl2 : decide (S ≤ k) = true := decide_eq_true (by omega)
            obtain ⟨ls, hls⟩ : ∃ ls, ls = l.take (l.length - 1) := ⟨_, rfl⟩
            have HFR := Lib.hid (show FR l = some (bump ls S 1) by rw [FR_run HRUN.out, if_neg (by rw [HS.out]; omega), if_pos (by rw [HS.out]; omega), HS.out, hls]; rfl)
            have HLEN := Lib.hid (show ls.length = l.length - 1 by rw [hls, List.length_take]; omega)
            have OW := Lib.hid (show Own w2 w.heap.size (.slice (some ⟨g, 0, none⟩) (l.length - 1) cap) ls by rw [hls]; exact O2.out.cut (l.length - 1) (by omega))
            have HLX := Lib.hid (fun m (hm : m < ls.length) => (show 0 ≤ ls.getD m 0 ∧ ls.getD m 0 ≤ 30 by
              have e : ls.getD m 0 = l.getD m 0 := by
                rw [HLEN.out] at hm
                rw [hls, List.getD_eq_getElem?_getD, List.getElem?_take, if_pos hm, ← List.getD_eq_getElem?_getD]
              rw [e]
              exact HL.out m (by rw [HLEN.out] at hm; omega)))
            clear hls
            go_wp2_with fail
            go_loopw [54] (fun i wr => ∃ m : Nat, m ≤ S ∧ i = .int .i64 m ∧ Own wr w.heap.size (.slice (some ⟨g, 0, none⟩) (l.length - 1) cap) (bump ls m (1)) ∧ Below w.heap.size w wr) (fun i _ => S - (intOf i).toNat)
            case atStart => exact ⟨0, Nat.zero_le _, rfl, by rw [bump_zero]; exact OW.out, HB.out⟩
            case round =>
              obtain ⟨m, hm, rfl, how, hbm⟩ := hrel
              by_cases hlt : m < S
              · have hml : m < l.length - 1 := by omega
                have hml2 : m < ls.length := by rw [HLEN.out]; exact hml
                have hci := how.holds m (by simp [bump_length]; exact hml2)
                rw [Nat.zero_add] at hci
                have hcx := hci.1
                have hfr := hci.2
                rw [show (bump ls m (1)).toArray[m]! = ls.getD m 0 by
                  have := bump_get ls m (1) m hml2
                  rw [if_neg (by omega), Int.add_zero] at this
                  simp [this]] at hcx
                have HN := Lib.hid (how.put (by rw [bump_length, HLEN.out]) m (ls.getD m 0 + (1)))
                rw [← bump_succ ls m (1) hml2] at HN
                have HB2 := Lib.hid (hbm.setCell (p := ⟨g, m, none⟩) (how.nums.2.2.2.1) (.int .i64 (ls.getD m 0 + (1))))
                have hx : 0 ≤ ls.getD m 0 ∧ ls.getD m 0 ≤ 30 := HLX.out m hml2
                have hx1 := hx.1
                have hx2 := hx.2
                clear hci how hbm hx hml2
                generalize ls.getD m 0 = x at *
                go_wp2_with fail
                go_roundw
                case rel => exact ⟨m + 1, by omega, by go_num, HN.out, HB2.out⟩
                case measure => simp [intOf]; omega
              · obtain rfl : m = S := by omega
                go_wp2_with fail
                exact bodyPost_ret (v := .tuple #[.slice (some ⟨g, 0, none⟩) (l.length - 1) cap, .int .i64 0]) (by simp [results, Try.results28, go_sem]) rfl (Franked.yes HFR.out how hbm)
          · have kn : ((k : Int) == (l.length : Int)) = true := by rw [beq_iff_eq]; omega
            have sk : ((S : Int) == (k : Int)) = false := by rw [beq_eq_false_iff_ne]; omega
            have sk1 : ((S : Int) == (k : Int) + 1) = false := by rw [beq_eq_false_iff_ne]; omega
            have sl : decide ((S : Int) ≤ (k : Int)) = false := decide_eq_false (by omega)
            have sl2 : decide (S ≤ k) = false := decide_eq_false (by omega)
            have HFR := Lib.hid (show FR l = some (bump l k (-1) ++ [(k : Int)]) by rw [FR_run HRUN.out, if_neg (by rw [HS.out]; omega), if_neg (by rw [HS.out]; omega)])
            have OW := Lib.hid O2.out
            have HLX := Lib.hid HL.out
            go_wp2_with fail
            go_loopw [75] (fun i wr => ∃ m : Nat, m ≤ k ∧ i = .int .i64 m ∧ Own wr w.heap.size (.slice (some ⟨g, 0, none⟩) (l.length) cap) (bump l m (-1)) ∧ Below w.heap.size w wr) (fun i _ => k - (intOf i).toNat)
            case atStart => exact ⟨0, Nat.zero_le _, rfl, by rw [bump_zero]; exact OW.out, HB.out⟩
            case round =>
              obtain ⟨m, hm, rfl, how, hbm⟩ := hrel
              by_cases hlt : m < k
              · have hml : m < l.length := by omega
                have hml2 : m < l.length := hml
                have hci := how.holds m (by simp [bump_length]; exact hml2)
                rw [Nat.zero_add] at hci
                have hcx := hci.1
                have hfr := hci.2
                rw [show (bump l m (-1)).toArray[m]! = l.getD m 0 by
                  have := bump_get l m (-1) m hml2
                  rw [if_neg (by omega), Int.add_zero] at this
                  simp [this]] at hcx
                have HN := Lib.hid (how.put (by rw [bump_length]) m (l.getD m 0 + (-1)))
                rw [← bump_succ l m (-1) hml2] at HN
                have HB2 := Lib.hid (hbm.setCell (p := ⟨g, m, none⟩) (how.nums.2.2.2.1) (.int .i64 (l.getD m 0 + (-1))))
                have hx : 0 ≤ l.getD m 0 ∧ l.getD m 0 ≤ 30 := HLX.out m hml2
                have hx1 := hx.1
                have hx2 := hx.2
                clear hci how hbm hx hml2
                generalize l.getD m 0 = x at *
                go_wp2_with fail
                go_roundw
                case rel => exact ⟨m + 1, by omega, by go_num, HN.out, HB2.out⟩
                case measure => simp [intOf]; omega
              · obtain rfl : m = k := by omega
                have HO := Lib.hid (show Own wr w.heap.size (.slice (some ⟨g, 0, none⟩) l.length cap) (bump l m (-1)) from how)
                have HBM := Lib.hid hbm
                clear how hbm
                go_wp2_with (at_builtin; refine wpList_push _ rfl _ _ 33 rfl Try.underlying33 w.heap.size _ (bump l m (-1)) rfl HO.out (m : Int) rfl (by rw [bump_length]; omega) HBM.out.size ?_; intro g2 cap2 w2 hown2 hgrow2 _)
                have HO2 := Lib.hid hown2
                have HB9 := Lib.hid ((HBM.out.alloc HBM.out.size _).grown hgrow2 (by have := HBM.out.size; simp; omega) (fun k hk => (HO.out.lt k hk).1))
                clear hown2 hgrow2
                go_wp2_with fail
                exact bodyPost_ret (v := .tuple #[.slice (some ⟨g2, 0, none⟩) ((bump l m (-1)).length + 1) cap2, .int .i64 0]) (by simp [results, Try.results28, go_sem]) rfl (Franked.yes HFR.out HO2.out HB9.out)

end Go.Proofs.Ytpgpkgnljoedaaa
