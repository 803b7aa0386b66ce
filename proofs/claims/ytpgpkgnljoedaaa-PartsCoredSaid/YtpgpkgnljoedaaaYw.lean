/- Walk of parts.rims. -/
import Derived.Test.YtpgpkgnljoedaaaYn
import Derived.Test.YtpgpkgnljoedaaaHk
import Derived.Test.YtpgpkgnljoedaaaCd
import Derived.Test.YtpgpkgnljoedaaaGx
namespace Go.Proofs.Ytpgpkgnljoedaaa
open Go.RowKit
theorem OL_yes {l : List Int} {p : Int} {k : Nat} (h : freeB l p k = true) : OL l p (k + 1) = OL l p k ++ [moved l k p] := by
  unfold OL; rw [List.range_succ, List.filter_append, List.map_append, List.filter_cons_of_pos h]; rfl
theorem OL_no {l : List Int} {p : Int} {k : Nat} (h : ¬ freeB l p k = true) : OL l p (k + 1) = OL l p k := by
  unfold OL; rw [List.range_succ, List.filter_append, List.map_append, List.filter_cons_of_neg h]; simp
theorem OL_len (l : List Int) (p : Int) (k : Nat) : (OL l p k).length ≤ k := by
  unfold OL
  rw [List.length_map]
  have := List.length_filter_le (freeB l p) (List.range k)
  rwa [List.length_range] at this
theorem bead_bd {l : List Int} (h : Part l) {k : Nat} (hk : k < l.length) : 1 ≤ bead l k ∧ bead l k ≤ 60 := by
  have := h.at k hk
  have := h.len
  unfold bead; omega
set_option maxRecDepth 100000 in
set_option maxHeartbeats 8000000 in
theorem rims_any (v : Value) (l : List Int) (h : Part l) (p : Nat) (hp : 1 ≤ p) (hp10 : p ≤ 10) (w : World) (hv : Ints w v l) :
    Calls Try.prog 82 #[v, .int .i64 p] w fun e w' => ∃ v', e = .returned v' ∧ IntsL w' v' (RmL l p) ∧ Below w.heap.size w w' := by
  have HBE := Lib.hid (beads_any v l h w hv)
  have HP := Lib.hid h
  have hl30 := h.len
  obtain ⟨A, c, hvv⟩ : ∃ A c, v = .slice A l.length c := by obtain ⟨_, A, c, h, _⟩ := hv; exact ⟨A, c, h⟩
  subst hvv
  clear h hv
  have hbl := bds_length l
  have HL := Lib.hid hbl
  go_enter Try.func82, Try.ntmps82
  go_wp2_with fail
  with_reducible refine HBE.out.mono ?_
  rintro e w1 ⟨vb, rfl, hob, hb1⟩
  have HBI := Lib.hid (hob.ints (by omega))
  have HBL := Lib.hid (fun b e => (hob.lt b e).2)
  have HB1 := Lib.hid hb1
  obtain ⟨_, Ab, cb, rfl, _, hbr⟩ := HBI.out
  have HBR := Lib.hid hbr
  clear hob hb1 hbr HBE
  rw [hbl] at HBI HBL HBR ⊢
  go_wp2_with fail
  go_loopw [6, 14] (fun o i wr => ∃ k : Nat, k ≤ l.length ∧ i = .int .i64 k ∧ (∃ vs, wr.ownsRow w1.heap.size 33 1 o (OL l p k).length vs ∧ Elts wr (fun b => w.heap.size ≤ b ∧ o.ownBlock ≠ some b) vs (OL l p k)) ∧ Below w1.heap.size w1 wr) (fun _ i _ => l.length - (intOf i).toNat)
  case atStart => exact ⟨0, Nat.zero_le _, rfl, ⟨[], World.ownsRow_nil _ _ _ _, Elts.nil _ _⟩, Below.refl _ _⟩
  case round =>
    obtain ⟨k, hk, rfl, ⟨vs, hrow, helt⟩, hb⟩ := hrel
    have HRW := Lib.hid hrow
    have HEL := Lib.hid helt
    have HB := Lib.hid hb
    have hbs := hb.size
    have hol := OL_len l p k
    clear hrow helt
    by_cases hlt : k < l.length
    · obtain ⟨ad, rfl, hbl2, hcell⟩ := HBR.out (by omega)
      have hck := (hb.cell (p := ad.add k) (by rw [addr_block]; exact hbl2)).trans (hcell k _ (bds_get l k hlt))
      obtain ⟨x1, x60⟩ := bead_bd HP.out hlt
      have HBD := Lib.hid (fun j (hj : j < l.length) => bead_bd HP.out hj)
      have HI := Lib.hid (HBI.out.keep hb)
      clear hcell hb
      by_cases hxp : bead l k < p
      · have d1 : decide (bead l k < (p : Int)) = true := decide_eq_true hxp
        have HN := Lib.hid (OL_no (l := l) (p := p) (k := k) (by unfold freeB; simp; intro; omega))
        generalize bead l k = x at *
        go_wp2_with fail
        go_roundw
        case rel => exact ⟨k + 1, by omega, by go_num, by rw [HN.out]; exact ⟨vs, HRW.out, HEL.out⟩, HB.out⟩
        case measure => simp [intOf]; omega
      · have d1 : decide (bead l k < (p : Int)) = false := decide_eq_false hxp
        have hw : IntKind.i64.wrap (bead l k - (p : Int)) = bead l k - p := IntWalk.i64_in _ (by omega)
        by_cases hc : (bead l k - p) ∈ bds l
        · have HN := Lib.hid (OL_no (l := l) (p := p) (k := k) (by unfold freeB; simp [hc]))
          have HC := Lib.hid (contains94 _ (bds l) (bead l k - p) (by omega) wr HI.out true (by simp [hc]))
          clear hc
          generalize bead l k = x at *
          go_wp2_with fail
          with_reducible refine HC.out.mono ?_
          rintro e _ ⟨rfl, rfl⟩
          go_wp2_with fail
          go_roundw
          case rel => exact ⟨k + 1, by omega, by go_num, by rw [HN.out]; exact ⟨vs, HRW.out, HEL.out⟩, HB.out⟩
          case measure => simp [intOf]; omega
        · have HN := Lib.hid (OL_yes (l := l) (p := p) (k := k) (by unfold freeB; simp [hc]; omega))
          have HC := Lib.hid (contains94 _ (bds l) (bead l k - p) (by omega) wr HI.out false (by simp [hc]))
          have HSB := Lib.hid (show ∀ y ∈ (bds l).set k (bead l k - p), 0 ≤ y ∧ y ≤ 1000 from fun y hy => by
            rcases List.mem_or_eq_of_mem_set hy with h | h
            · unfold bds at h
              obtain ⟨j, hj, rfl⟩ := List.mem_map.1 h
              have := HBD.out j (List.mem_range.1 hj)
              omega
            · omega)
          have HMV := Lib.hid (show pts (srt ((bds l).set k (bead l k - p))) = moved l k p from rfl)
          have hpl : (moved l k p).length ≤ 100 := by
            have := ptk_length (srt ((bds l).set k (bead l k - p))) (srt ((bds l).set k (bead l k - p))).length
            have e := (srt_perm ((bds l).set k (bead l k - p))).length_eq
            rw [List.length_set, hbl] at e
            have e2 : moved l k p = ptk (srt ((bds l).set k (bead l k - p))) (srt ((bds l).set k (bead l k - p))).length := rfl
            rw [e2]
            omega
          clear hc
          generalize bead l k = x at *
          generalize moved l k p = mv at *
          go_wp2_with fail
          with_reducible refine HC.out.mono ?_
          rintro e _ ⟨rfl, rfl⟩
          go_wp2_with fail
          with_reducible refine (clone_any _ (bds l) _ HI.out).mono ?_
          rintro e w2 ⟨v2, rfl, hown2, hb2⟩
          obtain ⟨g2, c2, rfl⟩ := hown2.pos (by omega)
          obtain ⟨_, _, _, hgb, hgl⟩ := hown2.nums
          have hcf : ∀ o, w2.frozen? ⟨g2, o, none⟩ = false := fun o => Own.free hown2 o
          have HO2 := Lib.hid hown2
          have HB2 := Lib.hid hb2
          have hcell2 := own_cell hown2 k (by omega)
          have hbs2 := hb2.size
          clear hown2 hb2 HC
          rw [HL.out] at HO2 ⊢
          go_wp2_with fail
          have HO3 := Lib.hid (show Own (w2.setCell ⟨g2, k, none⟩ (.int .i64 (x - p))) wr.heap.size (.slice (some ⟨g2, 0, none⟩) l.length c2) ((bds l).set k (x - p)) from Own.put HO2.out HL.out.symm k (x - p))
          have HB3 := Lib.hid (HB2.out.setCell (p := ⟨g2, k, none⟩) hgb (.int .i64 (x - p)))
          have HOF := Lib.hid (of_any _ ((bds l).set k (x - p)) (by rw [List.length_set, HL.out]; omega) HSB.out _ (HO3.out.ints (by rw [List.length_set, HL.out]; omega)) (fun b e => (HO3.out.lt b e).2))
          rw [HMV.out] at HOF
          with_reducible refine HOF.out.mono ?_
          rintro e w4 ⟨v4, rfl, hown4, hb4⟩
          have hbs3 := HB3.out.size
          have HO4 := Lib.hid (hown4.base hbs3)
          have HB4 := Lib.hid (HB3.out.trans (hb4.mono hbs3))
          obtain ⟨A4, c4, rfl⟩ := hown4.form (by omega)
          have hbs4 := HB4.out.size
          have hrow4 := ownsRow_same HRW.out (fun b _ hlt => HB4.out.block b hlt)
          have HR4 := Lib.hid hrow4
          clear hown4 hb4 HOF hrow4
          go_wp2_with (at_builtin; refine wpList_row _ rfl _ _ rfl w1.heap.size _ (OL l p k).length vs rfl HR4.out (.slice A4 mv.length c4) rfl rfl (by omega) (by omega) ?_; intro g cap w5 hown5 hgrow5 hat5)
          have helt5 := rows_one (n := (OL l p k).length + 1) (cap := cap) HEL.out (fun b e => (HRW.out.lt b e).2) (Nat.le_trans HB1.out.size hbs) HB4.out HO4.out (by omega) hgrow5 hat5
          have HO5 := Lib.hid hown5
          have HE5 := Lib.hid helt5
          have HBW := Lib.hid (((HB.out.trans (HB4.out.mono hbs)).alloc (by omega) (.cells #[.slice A4 mv.length c4] 33)).grown hgrow5 (by simp; omega) (fun b e => (HRW.out.lt b e).1))
          clear hown5 helt5 hgrow5 hat5
          go_roundw
          case rel => exact ⟨k + 1, by omega, by go_num, ⟨vs ++ [.slice A4 mv.length c4], by rw [HN.out, List.length_append]; exact HO5.out, by rw [HN.out]; exact HE5.out⟩, HBW.out⟩
          case measure => simp [intOf]; omega
    · obtain rfl : k = l.length := by omega
      have HML := Lib.hid (fun m (hm : m ∈ OL l p l.length) => ((OL_perm HP.out (show (1 : Int) ≤ p by omega)).mem_iff.1 hm))
      have HLN := Lib.hid (fun m (hm : m ∈ OL l p l.length) => show m.length ≤ 1000 by have := (RmL_part HP.out (show (1 : Int) ≤ p by omega) (HML.out m hm)).1.len; omega)
      have HOR := Lib.hid (fun S hs hr => OL_RmL (S := S) HP.out (show (1 : Int) ≤ p by omega) hs hr)
      rcases HRW.out.2 with ⟨hov, h0⟩ | ⟨g, cap, cur, hov, hb0, hg, hnc, hcm, hcs, htake⟩
      · subst hov
        have hz : OL l p l.length = [] := List.eq_nil_of_length_eq_zero h0
        have HE := Lib.hid (HOR.out [] (by rw [hz]) List.Pairwise.nil)
        clear hz h0
        go_wp2_with fail
        with_reducible refine (sort96_nil _ _).mono ?_
        rintro e _ ⟨rfl, rfl⟩
        go_wp2_with fail
        go_ret
        exact ⟨_, rfl, by rw [← HE.out]; exact IntsL.nil _, HB1.out.trans (HB.out.mono HB1.out.size)⟩
      · subst hov
        have hgl := (Array.getElem?_eq_some_iff.1 hg).1
        have HSO := Lib.hid (sort96_some HRW.out (HEL.out.keep (Nat.le_refl _) (fun _ _ _ => rfl) (fun b _ hB e => hB.2 (by rw [e]; rfl))) hb0 hgl HLN.out (by omega))
        clear hg hnc hcm hcs htake hb
        go_wp2_with fail
        with_reducible refine HSO.out.mono ?_
        rintro e w5 ⟨rfl, S, vs', hrow5, helt5, hperm, hpw, hb5⟩
        have HE := Lib.hid (HOR.out S hperm hpw)
        have HI5 := Lib.hid (show IntsL w5 (.slice (some ⟨g, 0, none⟩) (OL l p l.length).length cap) (RmL l p) by rw [← HE.out]; exact intsL_of_own hrow5 helt5 (by rw [hperm.length_eq]; omega))
        clear hrow5 helt5 hperm hpw
        go_wp2_with fail
        go_ret
        exact ⟨_, rfl, HI5.out, HB1.out.trans ((HB.out.trans hb5).mono HB1.out.size)⟩
end Go.Proofs.Ytpgpkgnljoedaaa
