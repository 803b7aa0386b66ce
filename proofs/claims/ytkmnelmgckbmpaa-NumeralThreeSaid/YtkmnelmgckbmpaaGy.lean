/- Walk: Gaps of the program inside its domain. -/
import Derived.Test.YtkmnelmgckbmpaaGz
namespace Go.Proofs.Ytkmnelmgckbmpaa
open Go.RowKit Go.Maps
theorem pR_take (p m n k : Nat) (h : k < n) : (pR p m n).take (k + 1) = (pR p m n).take k ++ [k * p % m] := by
  rw [List.take_succ_eq_append_getElem (by simpa [pR] using h)]
  simp [pR]
theorem pR_length (p m n : Nat) : (pR p m n).length = n := by simp [pR]
theorem sort_ix {p m n : Nat} (hm : 0 < m) (hc : Nat.gcd p m = 1) (hn : n ≤ m) : ((ix (pR p m n)).mergeSort fun x y => decide (x ≤ y)) = ix (pS p m n) := by
  refine List.Perm.eq_of_pairwise (le := (· ≤ ·)) (fun a b _ _ h1 h2 => by omega) (sorted_pairs _) ?_ ((List.mergeSort_perm _ _).trans ((pS_perm hm hc hn).map _))
  unfold ix
  rw [List.pairwise_map]
  exact (pS_lt p m n).imp (fun h => by omega)
theorem Own.cell {w : World} {base g n cap : Nat} {xs : List Int} (h : Own w base (.slice (some ⟨g, 0, none⟩) n cap) xs) {j : Nat} {u : Int} (hj : xs[j]? = some u) : w.cell? ⟨g, j, none⟩ = some (.int .i64 u) := by
  have := World.ownsRow.cells h (g := g) rfl j (.int .i64 u) (by rw [List.getElem?_map, hj]; rfl)
  rwa [addr_head] at this
theorem atc {D : DataW Unit} {kl : Lit} {z : DataW Unit} {x c : Int} (h1 : D.atKey kl z = .lit (.int .i64 x)) (h2 : D.atKey kl z = .lit (.int .i64 c)) : c = x := by
  rw [h1] at h2
  simp at h2
  exact h2.symm
theorem gapL_unique {m : Nat} {G : List Nat} {L : List (Nat × Nat)} (h : L.Perm (gapL m G)) (hs : L.Pairwise fun x y => x.1 ≤ y.1) : L = gapL m G := by
  refine List.Perm.eq_of_pairwise (le := fun x y => x.1 ≤ y.1) (fun a b ha hb h1 h2 => ?_) hs ((gapL_lt m G).imp (fun h => by omega)) h
  have ha := mem_gapL.1 (h.subset ha)
  have hb := mem_gapL.1 hb
  have e : a.1 = b.1 := by omega
  exact Prod.ext e (by rw [ha.2.2, hb.2.2, e])
theorem ix_get (L : List Nat) (k : Nat) (h : k < L.length) : (ix L)[k]? = some ((L.getD k 0 : Nat) : Int) := by
  unfold ix
  rw [List.getElem?_map, List.getElem?_eq_getElem h]
  simp [h]
set_option maxRecDepth 100000 in
set_option maxHeartbeats 8000000 in
theorem Gaps_yes (p m n : Nat) (h1 : 2 ≤ m) (h2 : m ≤ 1000) (h3 : 1 ≤ p) (h4 : p < m) (h5 : 1 ≤ n) (h6 : n ≤ m) (h7 : Nat.gcd p m = 1) (w : World) :
    Calls Try.prog 5 #[.int .i64 p, .int .i64 m, .int .i64 n] w fun e w' => ∃ v, e = .returned (.tuple #[v, .int .i64 0]) ∧ Rd EG w' v (gapL m (gaps m (pS p m n))) ∧ Below w.heap.size w w' := by
  have HG := Lib.hid (fun W => gcd_any p m (by omega) (by omega) W)
  rw [h7] at HG
  have HSI := Lib.hid (sort_ix (show 0 < m by omega) h7 h6)
  have HPL := Lib.hid (pS_length (show 0 < m by omega) h7 h6)
  have HPT := Lib.hid (pR_take p m n)
  have HPR := Lib.hid (pR_length p m n)
  have HGP := Lib.hid (fun k hk => gap_next (p := p) (m := m) (n := n) k hk)
  have HGM := Lib.hid (fun d hd => (gaps_le (p := p) (m := m) (n := n) d hd).2)
  have HT3 := Lib.hid (three_of (show 0 < m by omega) h7 h5 h6)
  have hmm := @run_makeMap Try.prog
  generalize pS p m n = S at *
  generalize pR p m n = R at *
  have e0 : decide ((m : Int) < 2) = false := decide_eq_false (by omega)
  have e1 : decide ((1000 : Int) < (m : Int)) = false := decide_eq_false (by omega)
  have e2 : decide ((p : Int) < 1) = false := decide_eq_false (by omega)
  have e3 : decide (m ≤ p) = false := decide_eq_false (by omega)
  have e4 : decide ((n : Int) < 1) = false := decide_eq_false (by omega)
  have e5 : decide (m < n) = false := decide_eq_false (by omega)
  clear h7
  go_enter Try.func5, Try.ntmps5
  go_wp2_with fail
  with_reducible refine (HG.out _).mono ?_
  rintro e w1 ⟨rfl, hb1⟩
  have hs1 := hb1.size
  have HB1 := Lib.hid hb1
  clear hb1
  go_wp2_with fail
  go_loopw [48, 8] (fun i v wr => ∃ k : Nat, k ≤ n ∧ i = .int .i64 k ∧ Own wr w1.heap.size v (ix (R.take k)) ∧ Below w1.heap.size w1 wr) (fun i _ _ => n - (intOf i).toNat)
  case atStart => exact ⟨0, Nat.zero_le _, rfl, Own.nil _ _, Below.refl _ _⟩
  case round =>
    obtain ⟨k, hk, rfl, hown, hb⟩ := hrel
    have hs := hb.size
    by_cases hkn : k < n
    · have c0 : decide ((k : Int) < (n : Int)) = true := decide_eq_true (by omega)
      have hkp : k * p ≤ 1000000 := Nat.le_trans (Nat.mul_le_mul (show k ≤ 1000 by omega) (show p ≤ 1000 by omega)) (by omega)
      have hkq : (k : Int) * (p : Int) ≤ 1000000 := by rw [← Int.natCast_mul]; omega
      have hkr : 0 ≤ (k : Int) * (p : Int) := by rw [← Int.natCast_mul]; omega
      have HE := Lib.hid (show (k : Int) * (p : Int) % (m : Int) = ((k * p % m : Nat) : Int) by rw [Int.natCast_emod, Int.natCast_mul])
      have HL := Lib.hid (show (ix (R.take k)).length < 17592186044416 by rw [ix_length, List.length_take]; omega)
      have HO := Lib.hid hown
      have HB := Lib.hid hb
      clear hown hb
      go_wp2_with (at_builtin; refine wpList_append_new _ rfl _ _ 32 rfl Try.underlying32 w1.heap.size _ _ rfl HO.out _ rfl HL.out hs ?_; intro v' w2 hown2 _ hb2; have HO2 := Lib.hid hown2; have HB2 := Lib.hid hb2; clear hown2 hb2)
      go_roundw
      case rel =>
        refine ⟨k + 1, by omega, by go_num, ?_, HB.out.trans HB2.out⟩
        rw [HPT.out k hkn, ix_append]
        have := HO2.out
        rw [HE.out] at this
        exact this
      case measure => simp [intOf]; omega
    · have hkn : k = n := by omega
      subst hkn
      have c0 : decide ((k : Int) < (k : Int)) = false := decide_eq_false (by omega)
      have hown' : Own wr w1.heap.size u8 (ix R) := by
        rw [List.take_of_length_le (by rw [HPR.out]; omega)] at hown
        exact hown
      have HO := Lib.hid hown'
      have HL := Lib.hid (show (ix R).length ≤ 1000000 by rw [ix_length, HPR.out]; omega)
      have HB := Lib.hid hb
      clear hown hb hown'
      go_wp2_with fail
      with_reducible refine (sort_own w1.heap.size _ _ _ HL.out HO.out).mono ?_
      rintro e w2 ⟨rfl, hown2, hb2⟩
      rw [HSI.out] at hown2
      have hs2 := hb2.size
      have hs2' : w1.heap.size ≤ w2.heap.size := (HB.out.trans hb2).size
      have HB2 := Lib.hid (HB.out.trans hb2)
      clear HB HO hb2
      have hSl : (ix S).length = k := by rw [ix_length]; exact HPL.out
      obtain ⟨g, cap, rfl, hnc, hwg, hgs, -⟩ := hown2.seen (by omega)
      rw [hSl] at hown2 hnc ⊢
      have HO := Lib.hid hown2
      clear hown2
      have HSL := Lib.hid hSl
      clear hSl
      go_frame
      go_wp2_with fail
      go_loopw [65] (fun i wr => ∃ (j : Nat) (D : DataW Unit), j ≤ k ∧ i = .int .i64 j ∧ wr.ownsMap Try.prog 3 (plainElem Try.prog 3) w2.heap.size j D ∧ MapIs D ((gaps m S).take j) ∧ Own wr w1.heap.size (.slice (some ⟨g, 0, none⟩) k cap) (ix S) ∧ Below w1.heap.size w1 wr) (fun i _ => k - (intOf i).toNat)
      case atStart => exact ⟨0, .map [], Nat.zero_le _, rfl, World.ownsMap_made _ _ _ _, by simpa using MapIs.nil, HO.out.alloc _, HB2.out.alloc hs2' _⟩
      case round =>
        obtain ⟨j, D, hj, rfl, hmap, hD, hown, hb⟩ := hrel
        have hs := hb.size
        by_cases hjk : j < k
        · have c1 : decide ((j : Int) < (k : Int)) = true := decide_eq_true (by omega)
          have hjS : j < S.length := by rw [HPL.out]; exact hjk
          obtain ⟨g1, g2, g3, -, g4, g5, -⟩ := HGP.out j hjS
          have hc1 := hown.cell (ix_get S j hjS)
          generalize hx : S.getD j 0 = x at *
          generalize hgp : gap m S j = gp at *
          have hgl : gp ≤ 1000 := by omega
          have HK := Lib.hid (gk_ok gp hgl)
          have HC := Lib.hid (hD.look gp)
          have HP := Lib.hid (hD.put gp hgl)
          have hcb : ((gaps m S).take j).count gp ≤ 1000 := Nat.le_trans List.count_le_length (by rw [List.length_take]; omega)
          have HTK := Lib.hid (gaps_take m S j hjS)
          rw [hgp] at HTK
          generalize (gaps m S).take j = G at *
          have HWF := Lib.hid (show (Lit.int .i64 ((G.count gp + 1 : Nat) : Int)).wf = true from WalkArith.wf_i64 (by omega))
          have HMP := Lib.hid hmap
          have HO := Lib.hid hown
          have HB := Lib.hid hb
          clear hmap hown hb hD
          by_cases hl : j + 1 < k
          · have c2 : decide ((j : Int) + 1 < (k : Int)) = true := decide_eq_true (by omega)
            have g6 := g4 (by rw [HPL.out]; exact hl)
            clear g4 g5
            have hc2 := HO.out.cell (ix_get S (j + 1) (by rw [HPL.out]; exact hl))
            generalize hy : S.getD (j + 1) 0 = y at *
            have HXY := Lib.hid (show (y : Int) - (x : Int) = (gp : Int) by omega)
            have hym : y ≤ m := by omega
            clear g6 hx hgp hy
            go_wp2_with (first
              | (at_lookup; refine wpList_lookup_own_int _ rfl _ _ 34 rfl 3 3 .i64 keyed3 Try.underlying34 Try.underlying3 (zero3 _) w2.heap.size j D rfl HMP.out _ (gk gp) rfl (by rw [HXY.out]; exact HK.out) ?_; intro c hat hwc; have hci := atc HC.out hat; subst hci; clear hat hwc)
              | (at_mapUpdate; refine wpList_mapUpdate_own _ rfl _ _ _ 34 rfl 3 3 keyed3 Try.underlying34 _ w2.heap.size j D rfl HMP.out (by unfold maxLen; omega) _ _ _ rfl rfl (by rw [HXY.out]; exact HK.out) _ [] (plainElem_int Try.underlying3 HWF.out) ?_; intro w3 hown3 hgrow3; have HM3 := Lib.hid hown3; have HG3 := Lib.hid hgrow3; clear hown3 hgrow3))
            go_roundw
            case rel =>
              refine ⟨j + 1, _, by omega, by go_num, HM3.out, ?_, HO.out.same (fun b e hlt => HG3.out.block b hlt ?_), HB.out.grown HG3.out HB.out.size (fun i e => by cases e; exact hs2')⟩
              · rw [HTK.out]; exact HP.out
              · intro h
                have h1 := ownBlock_some e
                have h2 := Option.some.inj h
                simp at h1
                omega
            case measure => simp [intOf]; omega
          · have c2 : decide ((j : Int) + 1 < (k : Int)) = false := decide_eq_false (by omega)
            have g6 := g5 (by rw [HPL.out]; exact hl)
            clear g4 g5
            have HXY := Lib.hid (show (m : Int) - (x : Int) = (gp : Int) by omega)
            clear g6 hx hgp
            go_wp2_with (first
              | (at_lookup; refine wpList_lookup_own_int _ rfl _ _ 34 rfl 3 3 .i64 keyed3 Try.underlying34 Try.underlying3 (zero3 _) w2.heap.size j D rfl HMP.out _ (gk gp) rfl (by rw [HXY.out]; exact HK.out) ?_; intro c hat hwc; have hci := atc HC.out hat; subst hci; clear hat hwc)
              | (at_mapUpdate; refine wpList_mapUpdate_own _ rfl _ _ _ 34 rfl 3 3 keyed3 Try.underlying34 _ w2.heap.size j D rfl HMP.out (by unfold maxLen; omega) _ _ _ rfl rfl (by rw [HXY.out]; exact HK.out) _ [] (plainElem_int Try.underlying3 HWF.out) ?_; intro w3 hown3 hgrow3; have HM3 := Lib.hid hown3; have HG3 := Lib.hid hgrow3; clear hown3 hgrow3))
            go_roundw
            case rel =>
              refine ⟨j + 1, _, by omega, by go_num, HM3.out, ?_, HO.out.same (fun b e hlt => HG3.out.block b hlt ?_), HB.out.grown HG3.out HB.out.size (fun i e => by cases e; exact hs2')⟩
              · rw [HTK.out]; exact HP.out
              · intro h
                have h1 := ownBlock_some e
                have h2 := Option.some.inj h
                simp at h1
                omega
            case measure => simp [intOf]; omega
        · have hjk : j = k := by omega
          subst hjk
          have c1 : decide ((j : Int) < (j : Int)) = false := decide_eq_false (by omega)
          rw [List.take_of_length_le (by rw [gaps_length, HPL.out]; omega)] at hD
          have HD := Lib.hid hD
          have HMP := Lib.hid hmap
          have HB := Lib.hid hb
          clear hD hmap hb hown
          have hD0 := HMP.out.size_le
          obtain ⟨wq, hwq⟩ : ∃ wq, wq = wr := ⟨_, rfl⟩
          subst hwq
          go_wp2_with (first
            | (at_range; refine wpList_range_own _ rfl _ 34 rfl 3 3 keyed3 Try.underlying34 _ w2.heap.size _ _ rfl HMP.out ?_; intro w3 hrg3 hg3 hs3)
            | go_in)
          have HB3 := Lib.hid (HB.out.grown hg3 HB.out.size (fun i e => by cases e))
          have HG3 := Lib.hid hrg3
          clear hrg3 hg3
          go_frame
          go_loopw [14] (fun v wz => ∃ (left : Lit → Bool) (cnt : Nat) (Lo : List (Nat × Nat)), wz.ranges Try.prog 3 (plainElem Try.prog 3) w2.heap.size wq.heap.size j D left cnt ∧ Got (gaps m S) left Lo ∧ Lo.length + cnt ≤ 1000 ∧
              Rw EG 29 wz w1.heap.size v Lo ∧ Below w1.heap.size w1 wz ∧ (∀ b, v.ownBlock = some b → b ≠ w2.heap.size ∧ b ≠ wq.heap.size) ∧ wq.heap.size < wz.heap.size)
            (fun _ wz => wz.rangeLeft w2.heap.size wq.heap.size)
          case atStart => exact ⟨_, _, [], HG3.out, Got.start HD.out, by simp; omega, Rw.nil _ _, HB3.out, by simp [Value.ownBlock], by omega⟩
          case round =>
            obtain ⟨left, cnt, Lo, hrg, hgot, hlen, hrw, hbz, hob, hsz⟩ := hrel
            have HRG := Lib.hid hrg
            have HGOT := Lib.hid hgot
            have HRW := Lib.hid hrw
            have HBZ := Lib.hid hbz
            have HOB := Lib.hid hob
            clear hrg hgot hrw hbz hob
            go_wp2_with (first
              | (at_next; refine wpList_next_ranges_ii _ rfl _ rfl 3 3 .i64 .i64 keyed3 Try.underlying3 Try.underlying3 w2.heap.size wq.heap.size j _ _ _ rfl HRG.out ?_ ?_)
              | go_in)
            · intro hc0 hl0
              have hperm := HGOT.out.perm (m := m) hl0 HGM.out
              have hl3 := hperm.length_eq
              have hlp : 0 < Lo.length := by
                obtain ⟨x, hx, _⟩ := HGOT.out.all (gap m S 0) (by unfold gaps; exact List.mem_map.2 ⟨0, List.mem_range.2 (by rw [HPL.out]; omega), rfl⟩) (hl0 _)
                exact List.length_pos_of_mem hx
              have hl12 : Lo.length ≤ 12 := by have := HT3.out.len; omega
              obtain ⟨g2, cap2, rfl, hg2a, hg2b⟩ := HRW.out.seen hlp
              have HPM := Lib.hid hperm
              clear hperm hl3 hl0
              go_wp2_with fail
              with_reducible refine (sortFunc_own w1.heap.size g2 cap2 Lo _ HRW.out hl12).mono ?_
              rintro e w5 ⟨rfl, L', hp, hsr, hrd, hb5⟩
              have HF := Lib.hid (show Rd EG w5 (.slice (some ⟨g2, 0, none⟩) Lo.length cap2) (gapL m (gaps m S)) from by
                have : L' = gapL m (gaps m S) := gapL_unique (hp.trans HPM.out) hsr
                rw [← this]; exact hrd)
              have HB5 := Lib.hid (HB1.out.trans ((HBZ.out.trans hb5).mono hs1))
              clear hp hsr hrd hb5
              go_wp2_with fail
              go_ret2
              exact ⟨_, rfl, HF.out, HB5.out⟩
            · intro x c w4 cnt4 hwx hwc hlx hat hrg4 hlt4 hg4 hs4 hen
              obtain ⟨gg, hgG, hkk⟩ := HGOT.out.key _ hlx
              have hxg : x = (gg : Int) := by unfold gk at hkk; simpa using hkk
              subst hxg
              have hcc := atc ((HD.out.2.1 gg hgG).2 (.lit (.int .i64 0))) (hat _)
              subst hcc
              have HGT := Lib.hid (HGOT.out.step gg hgG hlx)
              have HR4 := Lib.hid hrg4
              have HRW4 := Lib.hid (HRW.out.same (fun b e hlt => hg4.block b hlt (fun h => (HOB.out b e).2 (Option.some.inj h))))
              have HB4 := Lib.hid (HBZ.out.grown hg4 HBZ.out.size (fun i e => by have := Option.some.inj e; omega))
              have hs4' : w1.heap.size ≤ w4.heap.size := HB4.out.size
              have hlo : Lo.length ≤ 1000000 := by omega
              have HLT := Lib.hid hlt4
              have HWO := Lib.hid HRG.out.left_eq
              have hsq4 : wq.heap.size < w4.heap.size := by omega
              clear hat hrg4 hlt4 hg4 hlx hkk HRG hs4
              generalize (gaps m S).count gg = cc at *
              go_wp2_with (first
                | (at_builtin; refine wpList_rw2 elt29 _ rfl _ _ rfl w1.heap.size u14 Lo rfl HRW4.out (gg, cc) _ rfl rfl hlo hs4' ?_; intro g5 cap5 w5 hrw5 hb5 hblk5 hrow5 hs5; have HRW5 := Lib.hid hrw5; have HB5 := Lib.hid hb5; have HBK5 := Lib.hid hblk5; have HRO5 := Lib.hid hrow5; clear hrw5 hb5 hblk5 hrow5)
                | go_in)
              have HGR5 := Lib.hid (show w4.grownBy w5 u14.ownBlock from ⟨HB5.out.os, HB5.out.tape, HB5.out.output, hs5, fun k hk hne => HBK5.out k hk (fun e => hne e.symm)⟩)
              go_roundw
              case rel =>
                refine ⟨_, cnt4, _, HR4.out.kept HGR5.out (fun e => (HOB.out _ e.symm).1 rfl) (fun e => (HOB.out _ e.symm).2 rfl), HGT.out, by have := HLT.out; simp; omega, HRW5.out, HB4.out.trans HB5.out, fun b e => ?_, by omega⟩
                have e2 := ownBlock_some e
                have hml := HMP.out.lt
                rcases HRO5.out with h | h
                · have := HOB.out _ h
                  simp only at e2
                  rw [e2]
                  exact this
                · simp only at e2
                  omega
              case measure => rw [(HR4.out.kept HGR5.out (fun e => (HOB.out _ e.symm).1 rfl) (fun e => (HOB.out _ e.symm).2 rfl)).left_eq, HWO.out]; exact HLT.out
end Go.Proofs.Ytkmnelmgckbmpaa
