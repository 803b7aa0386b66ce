/- Walk of the reference's Odds. -/
import Derived.Test.YtpgpkgnljoedaaaGx
namespace Go.Proofs.Ytpgpkgnljoedaaa
open Go.RowKit
theorem cell_two {W : World} {b : Nat} {x y : Int} (h : W.heap[b]? = some (.cells #[.int .i64 x, .int .i64 y] 3 (0, 0))) : W.cell? ⟨b, 0, none⟩ = some (.int .i64 x) ∧ W.cell? ⟨b, 1, none⟩ = some (.int .i64 y) := ⟨by simp [World.cell?, h], by simp [World.cell?, h]⟩
theorem two_cells {W : World} {b : Nat} {x y : Int} (h : W.cell? ⟨b, 0, none⟩ = some (.int .i64 x) ∧ W.cell? ⟨b, 1, none⟩ = some (.int .i64 y)) : ∀ (j : Nat) (u : Int), [x, y][j]? = some u → W.cell? ((⟨b, 0, none⟩ : Addr).add j) = some (.int .i64 u) := by
  intro j u hu
  match j, hu with
  | 0, hu => simp at hu; subst hu; rw [addr_head]; exact h.1
  | 1, hu => simp at hu; subst hu; rw [addr_head]; exact h.2
  | j + 2, hu => simp at hu
theorem hv_small {L : List Int} (h : Small L) (j : Nat) (hj : j < L.length) (he : L.getD j 0 % 2 = 0) : Small (hv L j) :=
  ⟨hv_pos L j hj he h.1, by rw [hv_sum L j hj he]; exact h.2⟩
theorem oddTo_all {L : List Int} (h : OddTo L L.length) : ∀ x ∈ L, x % 2 ≠ 0 := by
  intro x hx
  obtain ⟨k, hk, rfl⟩ := List.getElem_of_mem hx
  have := h k hk
  rwa [List.getD_eq_getElem?_getD, List.getElem?_eq_getElem hk] at this
set_option maxRecDepth 100000 in
set_option maxHeartbeats 8000000 in
theorem rOdds_any (v : Value) (l : List Int) (h : Small l) (w : World) (hvv : Ints w v l) :
    Calls Try.prog 51 #[v] w fun e w' => ∃ v', e = .returned v' ∧ Own w' w.heap.size v' (odds l) ∧ (odds l).length ≤ 30 ∧ Below w.heap.size w w' := by
  have HF := Lib.hid (fall_any v l (by have := h.len; omega) w hvv)
  have HSM := Lib.hid (h.perm (srt_perm l))
  have HFL := Lib.hid (srt_fal l)
  have HPE := Lib.hid (flat_perm (srt_perm l))
  obtain ⟨_, A, c, rfl, _, _⟩ := hvv
  clear h
  go_enter Try.func51, Try.ntmps51
  go_wp2_with fail
  with_reducible refine HF.out.mono ?_
  rintro e w1 ⟨v1, rfl, hown, hb⟩
  clear HF
  obtain ⟨A1, n1, c1, rfl⟩ := hown.isSlice
  have HO1 := Lib.hid hown
  have HB1 := Lib.hid hb
  clear hown hb
  go_wp2_with fail
  go_loopw [3, 4] (fun o i wr => ∃ (L : List Int) (j : Nat), i = .int .i64 j ∧ j ≤ 30 ∧ Own wr w.heap.size o L ∧ Small L ∧ Fal L ∧ (L.flatMap odp).Perm (l.flatMap odp) ∧ OddTo L j ∧ Below w.heap.size w wr) (fun o i _ => (31 - lenS o) * 1000 + (500 - (intOf i).toNat))
  case atStart => exact ⟨srt l, 0, rfl, by omega, HO1.out, HSM.out, HFL.out, HPE.out, fun j hj => by omega, HB1.out⟩
  case round =>
    obtain ⟨L, j, rfl, hj30, hown, hsm, hfal, hpe, hod, hb⟩ := hrel
    clear HO1 HB1
    have hbs := hb.size
    have HB := Lib.hid hb
    have HO := Lib.hid hown
    have HS := Lib.hid hsm
    have HFA := Lib.hid hfal
    have HP := Lib.hid hpe
    have HOD := Lib.hid hod
    have hlen := hsm.len
    clear hb hsm hfal hpe hod
    by_cases hlt : j < L.length
    · obtain ⟨g, cap, rfl⟩ := hown.pos (by omega)
      obtain ⟨_, hcap, hcm, hgb, hgl⟩ := hown.nums
      clear hown
      have c0 := own_cell HO.out j (by omega)
      have b0 := (HS.out.at j (by omega)).2
      have b0' := (HS.out.at j (by omega)).1
      have d1 : decide ((j : Int) < L.length) = true := decide_eq_true (by omega)
      by_cases he : L.getD j 0 % 2 = 0
      · have HHV := Lib.hid (hv_small HS.out j hlt he)
        have HS2 := Lib.hid (HHV.out.perm (srt_perm (hv L j)))
        have HP2 := Lib.hid (show ((srt (hv L j)).flatMap odp).Perm (l.flatMap odp) from (flat_perm (srt_perm (hv L j))).trans (by rw [hv_flat L j hlt b0' (by omega) he]; exact HP.out))
        have HF2 := Lib.hid (srt_fal (hv L j))
        have hmsl : (srt (hv L j)).length = L.length + 1 := by rw [(srt_perm _).length_eq]; exact hv_length L j hlt
        have hlen2 := HS2.out.len
        have HTL := Lib.hid (show (L.take j).length = j by rw [List.length_take]; omega)
        have HDL := Lib.hid (show (L.drop (j + 1)).length = L.length - (j + 1) by rw [List.length_drop])
        have HL1 := Lib.hid (show ([] : List Int).length + (L.take j).length ≤ 1000000 by rw [HTL.out]; simp; omega)
        have HL2 := Lib.hid (show (L.take j).length + [L.getD j 0 / 2, L.getD j 0 / 2].length ≤ 1000000 by rw [HTL.out]; simp; omega)
        have HL3 := Lib.hid (show (L.take j ++ [L.getD j 0 / 2, L.getD j 0 / 2]).length + (L.drop (j + 1)).length ≤ 1000000 by rw [List.length_append, HTL.out, HDL.out]; simp; omega)
        have HMG := Lib.hid (show L.take j ++ [L.getD j 0 / 2, L.getD j 0 / 2] ++ L.drop (j + 1) = hv L j by unfold hv; simp)
        rw [hmsl] at hlen2
        have HMS := Lib.hid hmsl
        have e0 : (L.getD j 0 % 2 == 0) = true := beq_iff_eq.2 he
        clear hmsl he
        generalize L.getD j 0 = y at *
        have hqc : j ≤ cap := by omega
        obtain ⟨hT, _⟩ := sub_cells HO.out j (by omega)
        obtain ⟨_, A2, hA2, hD⟩ := sub_cells HO.out (j + 1) (by omega)
        have HT := Lib.hid hT
        have HD := Lib.hid hD
        clear hT hD
        go_wp2_with fail
        have hw1 : IntKind.i64.wrap (j : Int) = j := IntWalk.i64_in _ (by omega)
        have hw2 : IntKind.i64.wrap ((j : Int) + 1) = (j : Int) + 1 := IntWalk.i64_in _ (by omega)
        have hw3 : IntKind.i64.wrap (y.tdiv 2) = y / 2 := by rw [Int.tdiv_eq_ediv_of_nonneg (by omega)]; exact IntWalk.i64_in _ (by omega)
        have hw4 : ((j : Int) + 1).toNat = j + 1 := by omega
        have hw5 : (j : Int) ≤ cap := by omega
        have hw6 : (j : Int) + 1 ≤ L.length := by omega
        have hw7 : 0 ≤ (j : Int) + 1 := by omega
        have hw8 : (L.length : Int) ≤ cap := by omega
        have hw9 : j + 1 ≤ L.length := by omega
        go_region_law (first
          | (refine step_app rfl (.tmp 21) (.tmp 24) 33 rfl Try.underlying33 wr.heap.size _ [] rfl (by first | exact own_empty (W := World.drew (World.alloc wr _)) (heap_alloc_new wr _) (Nat.le_refl _) | exact World.ownsRow.alloc (own_empty (W := World.alloc wr _) (heap_alloc_new wr _) (Nat.le_refl _)) _ | exact own_empty (W := World.alloc (World.alloc wr _) _) (by rw [← World.size_alloc wr (.cells #[.int .i64 (y / 2), .int .i64 (y / 2)] 3)]; exact heap_alloc_new _ _) (by omega)) ⟨g, 0, none⟩ (L.take j) j cap HTL.out.symm rfl (HT.out _ (by first | exact below_drew ((Below.refl _ _).alloc (Nat.le_refl _) _) | exact below_drew (((Below.refl _ _).alloc (Nat.le_refl _) _).alloc (by simp) _))) HL1.out (by first | omega | (simp; omega) | simp) ?_; intro v1 w1 hown1 hgrow1; have hb1 : Below wr.heap.size wr w1 := below_grown (by first | exact below_drew ((Below.refl _ _).alloc (Nat.le_refl _) _) | exact below_drew (((Below.refl _ _).alloc (Nat.le_refl _) _).alloc (by simp) _)) (by first | exact own_empty (W := World.drew (World.alloc wr _)) (heap_alloc_new wr _) (Nat.le_refl _) | exact World.ownsRow.alloc (own_empty (W := World.alloc wr _) (heap_alloc_new wr _) (Nat.le_refl _)) _ | exact own_empty (W := World.alloc (World.alloc wr _) _) (by rw [← World.size_alloc wr (.cells #[.int .i64 (y / 2), .int .i64 (y / 2)] 3)]; exact heap_alloc_new _ _) (by omega)) hgrow1 (by first | omega | (simp; omega) | simp) (Nat.le_refl _); have hsz1 := hb1.size)
          | (refine step_app rfl (.tmp 25) (.tmp 30) 33 rfl Try.underlying33 wr.heap.size _ (L.take j) rfl (by first | exact hown1 | exact World.ownsRow.alloc hown1 _) ⟨_, 0, none⟩ [y / 2, y / 2] 2 2 rfl rfl (two_cells (by first | exact cell_two (heap_alloc_new w1 _) | exact cell_two ((hgrow1.block (wr.heap.size + 1) (by rw [size_two]; omega) (some_ne (a := wr.heap.size + 1) (b := wr.heap.size) (by omega))).trans (heap_second wr _ _)) | exact cell_two ((hgrow1.block wr.heap.size (by rw [size_two]; omega) (some_ne (a := wr.heap.size) (b := wr.heap.size + 1) (by omega))).trans (heap_first wr _ _)))) HL2.out (by first | omega | (simp; omega) | simp) ?_; intro v2 w2 hown2 hgrow2; have hb2 : Below wr.heap.size wr w2 := below_grown (by first | exact hb1 | exact hb1.alloc hsz1 _) (by first | exact hown1 | exact World.ownsRow.alloc hown1 _) hgrow2 (by first | omega | (simp; omega) | simp) (Nat.le_refl _); have hsz2 := hb2.size)
          | (refine step_app rfl (.tmp 31) (.tmp 35) 33 rfl Try.underlying33 wr.heap.size _ (L.take j ++ [y / 2, y / 2]) rfl hown2 A2 (L.drop (j + 1)) (L.length - (j + 1)) (cap - (j + 1)) HDL.out.symm rfl (HD.out _ hb2) HL3.out (by omega) ?_; intro v3 w3 hown3 hgrow3; have hb3 : Below wr.heap.size wr w3 := below_grown hb2 hown2 hgrow3 (by omega) (Nat.le_refl _))
          | (refine step_call rfl 81 (.tmp 36) 33 rfl enter81 v3 (by simp [Act.eval, Act.put]) _ (fall_any v3 _ (by have := HL3.out; rw [List.length_append, List.length_append, HTL.out, HDL.out]; simp; omega) w3 (hown3.ints (by have := HL3.out; rw [List.length_append, List.length_append, HTL.out, HDL.out]; simp; omega))) ?_; rintro e w4 ⟨v4, rfl, hown4, hb4⟩; rw [HMG.out] at hown4; obtain ⟨A4, c4, rfl⟩ := hown4.form (by have := HMS.out; omega); refine ⟨_, rfl, ?_⟩))
        all_goals
          go_wp2_with fail
          go_roundw
          case rel => exact ⟨srt (hv L j), 0, by go_num, by omega, hown4.base (b2 := w.heap.size) (by have := hb3.size; omega), HS2.out, HF2.out, HP2.out, fun i hi => by omega, HB.out.trans ((hb3.trans (hb4.mono hb3.size)).mono hbs)⟩
          case measure => have := HMS.out; simp [lenS, intOf]; omega
      · have HN2 := Lib.hid (oddTo_next HOD.out rfl he)
        have e0 : (L.getD j 0 % 2 == 0) = false := beq_eq_false_iff_ne.2 he
        clear he
        generalize L.getD j 0 = y at *
        go_wp2_with fail
        go_roundw
        case rel => exact ⟨L, j + 1, by go_num, by omega, HO.out, HS.out, HFA.out, HP.out, HN2.out, HB.out⟩
        case measure => simp [lenS, intOf]; omega
    · have HG := Lib.hid (odds_end HFA.out (oddTo_all (fun i hi => HOD.out i (by omega))) HP.out)
      have d1 : decide ((j : Int) < L.length) = false := decide_eq_false (by omega)
      obtain ⟨A3, c3, rfl⟩ := hown.form (by omega)
      clear hown
      go_wp2_with fail
      go_ret
      exact ⟨_, rfl, by rw [← HG.out]; exact HO.out, by rw [← HG.out]; exact hlen, HB.out⟩
end Go.Proofs.Ytpgpkgnljoedaaa
