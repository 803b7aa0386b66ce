/- Walk of the program's Glaisher. -/
import Derived.Test.YtpgpkgnljoedaaaSt
import Derived.Test.YtpgpkgnljoedaaaGx
import Derived.ScopeJumps
import Derived.WalkMore
namespace Go.Proofs.Ytpgpkgnljoedaaa
open Go.RowKit
theorem mg_set (L : List Int) (j : Nat) (h : j + 1 < L.length) : (L.set j (L.getD j 0 * 2)).take (j + 1) ++ (L.set j (L.getD j 0 * 2)).drop (j + 1 + 1) = mg L j := by
  unfold mg
  generalize L.getD j 0 = y
  rw [List.drop_set_of_lt (by omega), List.take_set, List.take_add_one, List.set_append_right _ _ (by simp; omega)]
  rw [List.getElem?_eq_getElem (by omega)]
  simp
  have e : j - min j L.length = 0 := by omega
  rw [e]
  simp [Int.mul_comm]
theorem own_free {w : World} {base g n cap : Nat} {S : List Int} (h : Own w base (.slice (some ⟨g, 0, none⟩) n cap) S) (o : Nat) : w.frozen? ⟨g, o, none⟩ = false := by
  rcases h.2 with ⟨h0, _⟩ | ⟨g', cap', cur, hv, hb0, hg, _⟩
  · cases h0
  · injection hv with e1 _ _
    injection e1 with e1
    injection e1 with e1
    subst e1
    simp [World.frozen?, hg]
set_option maxRecDepth 100000 in
set_option maxHeartbeats 8000000 in
theorem Glaisher_ok (v : Value) (l : List Int) (hp : Part l) (hod : OddTo l l.length) (w : World) (hv : Ints w v l) :
    Calls Try.prog 47 #[v] w fun e w' => ∃ v' m, e = .returned (.tuple #[v', .int .i64 0]) ∧ Own w' w.heap.size v' m ∧ Gla l m ∧ Small m ∧ Below w.heap.size w w' := by
  have HVY := Lib.hid (valid_yes v l hp w hv)
  have HCF := Lib.hid (show Calls Try.prog 76 #[v, .func (.func 77) #[] #[]] w (fun e w' => e = .returned (.bool false) ∧ w = w') from containsFunc_any v l hp true (by simp; exact hod) w hv)
  have HCL := Lib.hid (clonep_any v l w hv)
  have HS := Lib.hid hp.small
  have hlen := hp.len
  obtain ⟨_, A, c, rfl, hc, hr⟩ := hv
  clear hr hp hod
  go_enter Try.func47, Try.ntmps47
  go_wp2
  refine wp_scope_jumps 0 (fun a' w' => ∃ (L : List Int) (A5 : Option Addr) (c5 : Nat) (u6 u7 u8 u9 u10 u11 u12 u13 u14 u15 u16 u17 u18 u19 u20 u21 u22 u23 u24 u25 u26 u27 u28 u29 u30 u31 u32 u33 u34 u35 u36 u37 u38 u39 u40 u41 u42 u43 u44 u45 u46 : Value), a' = { tmps := #[.slice A l.length c, undef, .slice none 0 0, .int .i64 0, .slice A l.length c, .slice A5 L.length c5, u6, u7, u8, u9, u10, u11, u12, u13, u14, u15, u16, u17, u18, u19, u20, u21, u22, u23, u24, u25, u26, u27, u28, u29, u30, u31, u32, u33, u34, u35, u36, u37, u38, u39, u40, u41, u42, u43, u44, u45, u46], defers := [] } ∧ Own w' w.heap.size (.slice A5 L.length c5) L ∧ Small L ∧ Chain l L ∧ Below w.heap.size w w') (fun a' _ => lenS (a'.tmps.getD 5 undef)) rfl ?_ ?_
  · go_wp2_with fail
    with_reducible refine HVY.out.mono ?_
    rintro e _ ⟨rfl, rfl⟩
    go_wp2_with fail
    with_reducible refine HCF.out.mono ?_
    rintro e _ ⟨rfl, rfl⟩
    go_wp2_with fail
    with_reducible refine HCL.out.mono ?_
    rintro e w1 ⟨v1, rfl, hown, hb⟩
    obtain ⟨A5, c5, rfl⟩ := hown.form (by omega)
    have HO := Lib.hid hown
    have HB := Lib.hid hb
    clear hown hb HVY HCF HCL
    have HC0 := Lib.hid (show Chain l l from fun m hm => hm)
    have HSL := Lib.hid HS.out
    obtain ⟨W, hW⟩ : ∃ W, W = w1 := ⟨_, rfl⟩
    subst hW
    go_wp2_with fail
    have hbs := HB.out.size
    have hlenL := HSL.out.len
    go_step3
    go_wp2_with fail
    go_loopw [5, 6] (fun o i wr => ∃ j : Nat, o = .slice A5 l.length c5 ∧ i = .int .i64 ((j : Int) + 1) ∧ j ≤ 30 ∧ NoDup l (j + 1) ∧ Own wr w.heap.size (.slice A5 l.length c5) l ∧ Below w.heap.size w wr) (fun _ i _ => 500 - (intOf i).toNat)
    case atStart => exact ⟨0, rfl, rfl, by omega, nodup_one _, HO.out, HB.out⟩
    case round =>
      obtain ⟨j, rfl, rfl, hj30, hnd, hown, hb⟩ := hrel
      have hbs := hb.size
      have HBW := Lib.hid hb
      have HOW := Lib.hid hown
      have HND := Lib.hid hnd
      clear hnd hb
      by_cases hlt : j + 1 < l.length
      · obtain ⟨g, cap, hgv⟩ := hown.pos (by omega)
        injection hgv with hga _ hgc
        subst hga hgc
        obtain ⟨_, hcap, hcm, hgb, hgl⟩ := hown.nums
        clear hown
        have c0 := own_cell HOW.out j (by omega)
        have c1 := own_cell HOW.out (j + 1) hlt
        have b0 := (HSL.out.at j (by omega)).2
        have b0' := (HSL.out.at j (by omega)).1
        have d1 : decide ((j : Int) + 1 < l.length) = true := decide_eq_true (by omega)
        by_cases he : l.getD (j + 1) 0 = l.getD j 0
        · have HC2 := Lib.hid (HC0.out.step j hlt he HND.out)
          have HS2 := Lib.hid ((mg_small HSL.out j hlt he).perm (srt_perm _))
          have hmsl : (srt (mg l j)).length + 1 = l.length := by rw [(srt_perm _).length_eq]; exact mg_length l j hlt
          have HMS := Lib.hid hmsl
          have HMG := Lib.hid (show (l.set j (l.getD j 0 * 2)).take (j + 1) ++ (l.set j (l.getD j 0 * 2)).drop (j + 1 + 1) = mg l j from mg_set l j hlt)
          have hcf : ∀ o, wr.frozen? ⟨g, o, none⟩ = false := own_free HOW.out
          rw [he] at c1
          clear hmsl he
          generalize hy : l.getD j 0 = y at *
          have HY := Lib.hid hy
          clear hy
          go_wp2_with fail
          go_quiet (fail)
          have hm2 : y * 2 ≤ 1000 := by omega
          go_wp2_with fail
          have HO1 := Lib.hid (show Own ((wr.drewN nq).setCell ⟨g, j, none⟩ (.int .i64 (y * 2))) w.heap.size (.slice (some ⟨g, 0, none⟩) l.length c5) (l.set j (y * 2)) from Own.put (w := wr.drewN nq) HOW.out rfl j (y * 2))
          have HB1 := Lib.hid ((below_drewN HBW.out nq).setCell (p := ⟨g, j, none⟩) hgb (.int .i64 (y * 2)))
          have HDE := Lib.hid (delete_any w.heap.size g l.length c5 (j + 1) (l.set j (y * 2)) _ HO1.out (by omega))
          rw [show ((j + 1 : Nat) : Int) = (j : Int) + 1 by omega, show ((j + 1 + 1 : Nat) : Int) = (j : Int) + 1 + 1 by omega] at HDE
          with_reducible refine HDE.out.mono ?_
          rintro e w2 ⟨rfl, hown2, hb2⟩
          rw [HMG.out] at hown2
          have HB2 := Lib.hid (HB1.out.trans hb2)
          have HSO := Lib.hid (sorted78 _ (mg l j) w2 (by have := mg_length l j hlt; omega) (hown2.ints (by have := mg_length l j hlt; omega)) (fun b e => (hown2.lt b e).2))
          clear hown2 hb2 HDE c0 c1 hcf
          go_wp2_with fail
          with_reducible refine HSO.out.mono ?_
          rintro e w3 ⟨v3, rfl, hown3, hb3⟩
          obtain ⟨A6, c6, rfl⟩ := hown3.form (by have := HMS.out; omega)
          have HO3 := Lib.hid (hown3.base (b2 := w.heap.size) HB2.out.size)
          have HB3 := Lib.hid (HB2.out.trans (hb3.mono HB2.out.size))
          clear hown3 hb3 HSO
          go_wp2_with fail
          go_step3
          exact ⟨rfl, srt (mg l j), A6, c6, _, _, _, _, _, _, _, _, _, _, _, _, _, _, _, _, _, _, _, _, _, _, _, _, _, _, _, _, _, _, _, _, _, _, _, _, _, _, _, _, _, rfl, HO3.out, HS2.out, HC2.out, HB3.out⟩
        · have HN2 := Lib.hid (nodup_next HND.out (fun _ _ => he))
          have hne : (l.getD (j + 1) 0 == l.getD j 0) = false := beq_eq_false_iff_ne.2 he
          clear he
          generalize l.getD j 0 = y at *
          generalize l.getD (j + 1) 0 = z at *
          go_wp2_with fail
          go_quiet (fail)
          go_wp2_with fail
          go_roundw
          case rel => exact ⟨j + 1, rfl, by go_num, by omega, HN2.out, HOW.out, below_drewN HBW.out nq⟩
          case measure => simp [intOf]; omega
      · have HG := Lib.hid (HC0.out l (.done (fun i hi hl => HND.out i (by omega) hl)))
        have d1 : decide ((j : Int) + 1 < l.length) = false := decide_eq_false (by omega)
        clear hown
        go_wp2_with fail
        simp only [Exit.jump]
        go_ret2
        exact ⟨_, l, rfl, HOW.out, HG.out, HSL.out, HBW.out⟩
  · rintro a' w' ⟨L, A5, c5, u6, u7, u8, u9, u10, u11, u12, u13, u14, u15, u16, u17, u18, u19, u20, u21, u22, u23, u24, u25, u26, u27, u28, u29, u30, u31, u32, u33, u34, u35, u36, u37, u38, u39, u40, u41, u42, u43, u44, u45, u46, rfl, hown, hsm, hch, hb⟩
    have HO := Lib.hid hown
    have HB := Lib.hid hb
    have HC0 := Lib.hid hch
    have HSL := Lib.hid hsm
    clear hown hb hch hsm HVY HCF HCL
    obtain ⟨W, hW⟩ : ∃ W, W = w' := ⟨_, rfl⟩
    subst hW
    have hbs := HB.out.size
    have hlenL := HSL.out.len
    go_wp2_with fail
    go_loopw [5, 6] (fun o i wr => ∃ j : Nat, o = .slice A5 L.length c5 ∧ i = .int .i64 ((j : Int) + 1) ∧ j ≤ 30 ∧ NoDup L (j + 1) ∧ Own wr w.heap.size (.slice A5 L.length c5) L ∧ Below w.heap.size w wr) (fun _ i _ => 500 - (intOf i).toNat)
    case atStart => exact ⟨0, rfl, rfl, by omega, nodup_one _, HO.out, HB.out⟩
    case round =>
      obtain ⟨j, rfl, rfl, hj30, hnd, hown, hb⟩ := hrel
      have hbs := hb.size
      have HBW := Lib.hid hb
      have HOW := Lib.hid hown
      have HND := Lib.hid hnd
      clear hnd hb
      by_cases hlt : j + 1 < L.length
      · obtain ⟨g, cap, hgv⟩ := hown.pos (by omega)
        injection hgv with hga _ hgc
        subst hga hgc
        obtain ⟨_, hcap, hcm, hgb, hgl⟩ := hown.nums
        clear hown
        have c0 := own_cell HOW.out j (by omega)
        have c1 := own_cell HOW.out (j + 1) hlt
        have b0 := (HSL.out.at j (by omega)).2
        have b0' := (HSL.out.at j (by omega)).1
        have d1 : decide ((j : Int) + 1 < L.length) = true := decide_eq_true (by omega)
        by_cases he : L.getD (j + 1) 0 = L.getD j 0
        · have HC2 := Lib.hid (HC0.out.step j hlt he HND.out)
          have HS2 := Lib.hid ((mg_small HSL.out j hlt he).perm (srt_perm _))
          have hmsl : (srt (mg L j)).length + 1 = L.length := by rw [(srt_perm _).length_eq]; exact mg_length L j hlt
          have HMS := Lib.hid hmsl
          have HMG := Lib.hid (show (L.set j (L.getD j 0 * 2)).take (j + 1) ++ (L.set j (L.getD j 0 * 2)).drop (j + 1 + 1) = mg L j from mg_set L j hlt)
          have hcf : ∀ o, wr.frozen? ⟨g, o, none⟩ = false := own_free HOW.out
          rw [he] at c1
          clear hmsl he
          generalize hy : L.getD j 0 = y at *
          have HY := Lib.hid hy
          clear hy
          go_wp2_with fail
          go_quiet (fail)
          have hm2 : y * 2 ≤ 1000 := by omega
          go_wp2_with fail
          have HO1 := Lib.hid (show Own ((wr.drewN nq).setCell ⟨g, j, none⟩ (.int .i64 (y * 2))) w.heap.size (.slice (some ⟨g, 0, none⟩) L.length c5) (L.set j (y * 2)) from Own.put (w := wr.drewN nq) HOW.out rfl j (y * 2))
          have HB1 := Lib.hid ((below_drewN HBW.out nq).setCell (p := ⟨g, j, none⟩) hgb (.int .i64 (y * 2)))
          have HDE := Lib.hid (delete_any w.heap.size g L.length c5 (j + 1) (L.set j (y * 2)) _ HO1.out (by omega))
          rw [show ((j + 1 : Nat) : Int) = (j : Int) + 1 by omega, show ((j + 1 + 1 : Nat) : Int) = (j : Int) + 1 + 1 by omega] at HDE
          with_reducible refine HDE.out.mono ?_
          rintro e w2 ⟨rfl, hown2, hb2⟩
          rw [HMG.out] at hown2
          have HB2 := Lib.hid (HB1.out.trans hb2)
          have HSO := Lib.hid (sorted78 _ (mg L j) w2 (by have := mg_length L j hlt; omega) (hown2.ints (by have := mg_length L j hlt; omega)) (fun b e => (hown2.lt b e).2))
          clear hown2 hb2 HDE c0 c1 hcf
          go_wp2_with fail
          with_reducible refine HSO.out.mono ?_
          rintro e w3 ⟨v3, rfl, hown3, hb3⟩
          obtain ⟨A6, c6, rfl⟩ := hown3.form (by have := HMS.out; omega)
          have HO3 := Lib.hid (hown3.base (b2 := w.heap.size) HB2.out.size)
          have HB3 := Lib.hid (HB2.out.trans (hb3.mono HB2.out.size))
          clear hown3 hb3 HSO
          go_wp2_with fail
          go_step3
          refine ⟨rfl, ⟨srt (mg L j), A6, c6, _, _, _, _, _, _, _, _, _, _, _, _, _, _, _, _, _, _, _, _, _, _, _, _, _, _, _, _, _, _, _, _, _, _, _, _, _, _, _, _, _, rfl, HO3.out, HS2.out, HC2.out, HB3.out⟩, ?_⟩
          have := HMS.out
          simp [lenS]
          omega
        · have HN2 := Lib.hid (nodup_next HND.out (fun _ _ => he))
          have hne : (L.getD (j + 1) 0 == L.getD j 0) = false := beq_eq_false_iff_ne.2 he
          clear he
          generalize L.getD j 0 = y at *
          generalize L.getD (j + 1) 0 = z at *
          go_wp2_with fail
          go_quiet (fail)
          go_wp2_with fail
          go_roundw
          case rel => exact ⟨j + 1, rfl, by go_num, by omega, HN2.out, HOW.out, below_drewN HBW.out nq⟩
          case measure => simp [intOf]; omega
      · have HG := Lib.hid (HC0.out L (.done (fun i hi hl => HND.out i (by omega) hl)))
        have d1 : decide ((j : Int) + 1 < L.length) = false := decide_eq_false (by omega)
        clear hown
        go_wp2_with fail
        simp only [Exit.jump]
        go_ret2
        exact ⟨_, L, rfl, HOW.out, HG.out, HSL.out, HBW.out⟩
end Go.Proofs.Ytpgpkgnljoedaaa
