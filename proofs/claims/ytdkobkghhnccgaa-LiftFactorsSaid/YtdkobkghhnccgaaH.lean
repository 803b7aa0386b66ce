/- Walks: the sort of a slice of the call's own; all roots modulo a power, of the program and of the reference. -/
import Derived.Test.YtdkobkghhnccgaaE
import Derived.Sort.Grow
namespace Go.Proofs.Ytdkobkghhnccgaa
open Go.RowKit
theorem sort_own (base : Nat) (v : Value) (xs : List Int) (w : World) (hl : xs.length ≤ 1000000) (h : Own w base v xs) :
    Calls Try.prog 69 #[v] w fun e w' => e = .returned (.tuple #[]) ∧ Own w' base v (xs.mergeSort fun x y => decide (x ≤ y)) ∧ Below base w w' := by
  rcases h.parts with ⟨rfl, rfl⟩ | ⟨g, n, cap, rfl⟩
  · have hcon := Any.slices_Sort_int_none l69 none 0 w
    change Calls Try.prog 69 _ _ _ at hcon
    refine hcon.mono ?_
    rintro e w' ⟨rfl, rfl⟩
    exact ⟨rfl, by simpa using h, Below.refl _ _⟩
  · obtain ⟨hn, hc, hm, hb, hlt⟩ := h.nums
    subst hn
    have hcon := Any.slices_Sort_int l69 g 0 cap xs w h.holds hlt (by omega)
    change Calls Try.prog 69 _ _ _ at hcon
    refine hcon.mono ?_
    rintro e w' ⟨rfl, q, os, rfl⟩
    obtain ⟨h1, h2⟩ := h.putRow q (xs.mergeSort fun x y => decide (x ≤ y)) (List.length_mergeSort _) xs.length (Nat.le_refl _)
    rw [List.take_of_length_le (by rw [List.length_mergeSort]; exact Nat.le_refl _)] at h1
    refine ⟨rfl, h1.same (fun b _ hlt => «Sort».heap_grow_old _ os hlt), h2.trans ⟨rfl, rfl, rfl, by simp, fun k hk => ?_⟩⟩
    have hs := h2.size
    exact «Sort».heap_grow_old _ os (by omega)
theorem sorted_pairs (xs : List Int) : (xs.mergeSort fun x y => decide (x ≤ y)).Pairwise (· ≤ ·) := by
  have := List.pairwise_mergeSort (le := fun x y : Int => decide (x ≤ y)) (fun a b c h1 h2 => by simp at *; omega) (fun a b => by simp; omega) xs
  exact this.imp (fun h => by simpa using h)
theorem sort_stage (f : List Int) (p : Nat) (hp : 0 < p) (j : Nat) : ((stage f p j).mergeSort fun x y => decide (x ≤ y)) = rootsL f (pn p j) :=
  stage_sorted f p hp j _ (List.mergeSort_perm _ _) (sorted_pairs _)
theorem aboveL_yes (f : List Int) (p m : Nat) (r : Int) (d : Nat) (h : ev f (r + d * m) % ((m * p : Nat) : Int) = 0) : aboveL f p m r (d + 1) = aboveL f p m r d ++ [r + d * m] := by
  unfold aboveL
  rw [List.range_succ, List.map_append, List.filter_append]
  simp at h
  simp [h]
theorem aboveL_no (f : List Int) (p m : Nat) (r : Int) (d : Nat) (h : ¬ ev f (r + d * m) % ((m * p : Nat) : Int) = 0) : aboveL f p m r (d + 1) = aboveL f p m r d := by
  unfold aboveL
  rw [List.range_succ, List.map_append, List.filter_append]
  simp at h
  simp [h]
theorem aboveL_le (f : List Int) (p m : Nat) (r : Int) (d : Nat) : (aboveL f p m r d).length ≤ d := by
  unfold aboveL
  refine Nat.le_trans (List.length_filter_le _ _) (by simp)
def nextL (f : List Int) (p m : Nat) (S : List Int) (a : Nat) : List Int := (S.take a).flatMap fun r => aboveL f p m r p
theorem nextL_succ (f : List Int) (p m : Nat) (S : List Int) (a : Nat) (h : a < S.length) : nextL f p m S (a + 1) = nextL f p m S a ++ aboveL f p m (S.getD a 0) p := by
  unfold nextL
  rw [List.take_succ_eq_append_getElem h, List.flatMap_append]
  simp [h]
theorem nextL_len (f : List Int) (p m : Nat) (S : List Int) : ∀ a, a ≤ S.length → (nextL f p m S a).length ≤ a * p := by
  intro a
  induction a with
  | zero => intro _; simp [nextL]
  | succ a ih =>
    intro h
    rw [nextL_succ f p m S a (by omega), List.length_append, Nat.succ_mul]
    have := aboveL_le f p m (S.getD a 0) p
    have := ih (by omega)
    omega
theorem nextL_all (f : List Int) (p j : Nat) : nextL f p (pn p j) (stage f p j) (stage f p j).length = stage f p (j + 1) := by
  unfold nextL
  rw [List.take_length, stage]
theorem stage_le (f : List Int) (p : Nat) (hp : 0 < p) (j : Nat) : (stage f p j).length ≤ pn p j := by
  rw [(stage_perm f p hp j).length_eq]
  unfold rootsL
  refine Nat.le_trans (List.length_filter_le _ _) (by simp)
theorem stage_get (f : List Int) (p : Nat) (hp : 0 < p) (j a : Nat) (h : a < (stage f p j).length) : 0 ≤ (stage f p j).getD a 0 ∧ (stage f p j).getD a 0 < pn p j := by
  have hm : (stage f p j).getD a 0 ∈ stage f p j := by
    rw [show (stage f p j).getD a 0 = (stage f p j)[a] by simp [h]]
    exact List.getElem_mem h
  have := (mem_stage f p hp j _).1 hm
  exact ⟨this.1, this.2.1⟩
def Coefs (f : List Int) : Prop := ∀ k, k < f.length → -10000000 ≤ f.getD k 0 ∧ f.getD k 0 ≤ 10000000
set_option maxRecDepth 100000 in
set_option maxHeartbeats 16000000 in
theorem roots_any (base : Nat) (v : Value) (f : List Int) (P K : Nat) (hP : isP P) (hq : pn P K ≤ 20000) (hf : Coefs f) (hl : f.length ≤ 1000) (w : World) (hv : Own w base v f) :
    Calls Try.prog 51 #[v, .int .i64 P, .int .i64 K] w fun e w' => ∃ v', e = .returned v' ∧ Own w' w.heap.size v' (rootsL f (pn P K)) ∧ Below w.heap.size w w' := by
  have h2 := hP.pos
  have h13 := hP.le
  have hK14 := pn_k h2 hq
  have HM := Lib.hid (fun i (hi : i ≤ K) => (Nat.le_trans (pn_mono (p := P) (by omega) i K hi) hq : pn P i ≤ 20000))
  have HV := Lib.hid hv
  have HF := Lib.hid (show ∀ k, k < f.length → -10000000 ≤ f.getD k 0 ∧ f.getD k 0 ≤ 10000000 from hf)
  have HP := Lib.hid hP
  obtain ⟨A0, n0, c0, rfl⟩ := hv.isSlice
  have HO := Lib.hid (Own.lit w w.heap.size (Nat.le_refl _) #[.int .i64 0] [0] 1 rfl rfl (by decide))
  have HB0 := Lib.hid ((Below.refl w.heap.size w).alloc (Nat.le_refl _) (.cells #[.int .i64 0] 3))
  clear hv hf hP hq
  go_enter Try.func51, Try.ntmps51
  go_wp2_with fail
  generalize w.alloc (.cells #[.int .i64 0] 3) = wa at *
  go_loopw [7, 8, 16] (fun o m i wr => ∃ j : Nat, j ≤ K ∧ i = .int .i64 j ∧ m = .int .i64 (pn P j : Nat) ∧ Own wr w.heap.size o (stage f P j) ∧ Below w.heap.size w wr) (fun _ _ i _ => K - (intOf i).toNat)
  case atStart => exact ⟨0, by omega, rfl, rfl, HO.out, HB0.out⟩
  case round =>
    obtain ⟨j, hj, rfl, rfl, hown, hb⟩ := hrel
    have HOUT := Lib.hid hown
    have HB := Lib.hid hb
    by_cases hlt : j < K
    · have HLT := Lib.hid hlt
      have hm1 := HM.out (j + 1) hlt
      have hm0 := HM.out j (by omega)
      have hmp := pn_pos (show 0 < P by omega) j
      have HE := Lib.hid (show ((pn P j : Nat) : Int) * (P : Int) = ((pn P j * P : Nat) : Int) by simp)
      have HPN := Lib.hid (show pn P (j + 1) = pn P j * P from rfl)
      have HNA := Lib.hid (nextL_all f P j)
      have HSL := Lib.hid (stage_le f P (by omega) j)
      have HSG := Lib.hid (stage_get f P (by omega) j)
      have hpb := prod_bd hm0 h13
      have hpb1 := hpb.1
      have hpb2 := hpb.2
      rw [HPN.out] at hm1
      clear hpb hown hb
      generalize hS : stage f P j = S at *
      have HS := Lib.hid hS
      clear hS
      generalize hMM : pn P j = M at *
      have HMM := Lib.hid hMM
      clear hMM
      have hsl : S.length ≤ 20000 := by have := HSL.out; omega
      obtain ⟨A7, n7, c7, rfl⟩ := HOUT.out.isSlice
      have hn7 : n7 = S.length := by
        rcases HOUT.out.parts with ⟨h1, h2⟩ | ⟨g, n', cap, h1⟩
        · subst h2; simp only [Value.slice.injEq] at h1; simpa using h1.2.1
        · have h3 := HOUT.out
          rw [h1] at h3
          have := h3.nums.1
          simp only [Value.slice.injEq] at h1
          omega
      subst hn7
      go_wp2_with fail
      obtain ⟨wo, rfl⟩ : ∃ wo : World, wo = wr := ⟨_, rfl⟩
      go_loopw [9, 20] (fun o i wi => ∃ a : Nat, a ≤ S.length ∧ i = .int .i64 a ∧ Own wi wo.heap.size o (nextL f P M S a) ∧ Below wo.heap.size wo wi) (fun _ i _ => S.length - (intOf i).toNat)
      case atStart => exact ⟨0, by omega, rfl, Own.nil _ _, Below.refl _ _⟩
      case round =>
        obtain ⟨a, ha, rfl, hown, hb⟩ := hrel
        have HN := Lib.hid hown
        have HBI := Lib.hid hb
        clear hown hb
        by_cases hlta : a < S.length
        · have HOW := Lib.hid (HOUT.out.same (fun b _ hlt => HBI.out.block b hlt))
          obtain ⟨g7, cap7, hA7, _, _, _, hcells⟩ := HOW.out.seen (by omega)
          simp only [Value.slice.injEq, true_and] at hA7
          obtain ⟨rfl, rfl⟩ := hA7
          have hcr := hcells a _ (getD_get S a hlta)
          have hrb := HSG.out a hlta
          have hrb1 := hrb.1
          have hrb2 := hrb.2
          have HNS := Lib.hid (nextL_succ f P M S a hlta)
          have HNL := Lib.hid (nextL_len f P M S a (by omega))
          have hnl : (nextL f P M S a).length ≤ 300000 := by
            have h1 := HNL.out
            have : a * P ≤ 20000 * 13 := Nat.mul_le_mul (by omega) h13
            omega
          generalize S.getD a 0 = r at *
          clear hcells hrb
          go_wp2_with fail
          obtain ⟨wp, rfl⟩ : ∃ wp : World, wp = wr := ⟨_, rfl⟩
          go_loopw [9, 25] (fun o i wi => ∃ d : Nat, d ≤ P ∧ i = .int .i64 d ∧ Own wi wo.heap.size o (nextL f P M S a ++ aboveL f P M r d) ∧ Below wo.heap.size wo wi) (fun _ i _ => P - (intOf i).toNat)
          case atStart => exact ⟨0, by omega, rfl, by simpa [aboveL] using HN.out, HBI.out⟩
          case round =>
            obtain ⟨d, hd, rfl, hown, hb⟩ := hrel
            have HN2 := Lib.hid hown
            have HB2 := Lib.hid hb
            clear hown hb
            by_cases hltd : d < P
            · have e1 : ((d * M : Nat) : Int) = (d : Int) * M := by simp
              have h4 : (d + 1) * M ≤ M * P := by rw [Nat.mul_comm M P]; exact Nat.mul_le_mul_right M hltd
              rw [Nat.add_mul, Nat.one_mul] at h4
              have hx1 : 0 ≤ (d : Int) * M := by omega
              have hx2 : r + (d : Int) * M < 20000 := by omega
              have hx3 : (d : Int) * M ≤ 20000 := by omega
              have HBW := Lib.hid (HB.out.trans (HB2.out.mono HB.out.size))
              have HVI := Lib.hid ((HV.out.same (fun b _ hlt => HBW.out.block b hlt)).ints (by omega))
              have hmp1 : 1 ≤ (M : Int) * (P : Int) := by rw [HE.out]; have := Nat.mul_pos hmp (show 0 < P by omega); omega
              have hmp2 : (M : Int) * (P : Int) ≤ 1000000 := by rw [HE.out]; omega
              have HAY := Lib.hid (aboveL_yes f P M r d)
              have HAN := Lib.hid (aboveL_no f P M r d)
              have HEV := Lib.hid (HE.out)
              have hal := aboveL_le f P M r d
              clear e1 h4
              go_wp2_with fail
              with_reducible refine (at_any _ f (r + (d : Int) * M) ((M : Int) * P) (by omega) (by omega) hmp1 hmp2 HF.out _ HVI.out).mono ?_
              rintro e _ ⟨rfl, rfl⟩
              by_cases hz : ev f (r + (d : Int) * M) % ((M : Int) * P) = 0
              · have hz1 : (ev f (r + (d : Int) * M) % ((M : Int) * P) == 0) = true := by rw [hz]; rfl
                have HA := Lib.hid (HAY.out (by rw [← HEV.out]; exact hz))
                clear hz
                have hown := HN2.out
                go_wp2_with (at_builtin; refine wpList_append_new _ rfl _ _ 22 rfl Try.underlying22 wo.heap.size u9 _ rfl hown (r + (d : Int) * M) rfl (by rw [List.length_append]; omega) HB2.out.size ?_; intro v' w1 hown1 _ hb1)
                go_roundw
                case rel => exact ⟨d + 1, by omega, by go_num, by rw [HA.out, ← List.append_assoc]; exact hown1, HB2.out.trans hb1⟩
                case measure => simp [intOf]; omega
              · have hz1 : (ev f (r + (d : Int) * M) % ((M : Int) * P) == 0) = false := by rw [beq_eq_false_iff_ne]; exact hz
                have HA := Lib.hid (HAN.out (by rw [← HEV.out]; exact hz))
                clear hz
                go_wp2_with fail
                go_roundw
                case rel => exact ⟨d + 1, by omega, by go_num, by rw [HA.out]; exact HN2.out, HB2.out⟩
                case measure => simp [intOf]; omega
            · obtain rfl : d = P := by omega
              go_wp2_with fail
              go_roundw
              case rel => exact ⟨a + 1, by omega, by go_num, by rw [HNS.out]; exact HN2.out, HB2.out⟩
              case measure => simp [intOf]; omega
        · obtain rfl : a = S.length := by omega
          go_wp2_with fail
          go_roundw
          case rel => exact ⟨j + 1, HLT.out, by go_num, by rw [HPN.out, ← HE.out], by rw [← HNA.out]; exact HN.out.base HB.out.size, HB.out.trans (HBI.out.mono HB.out.size)⟩
          case measure => have := HLT.out; simp [intOf]; omega
    · obtain rfl : j = K := by omega
      have HSL := Lib.hid (stage_le f P (by omega) j)
      have hm0 := HM.out j (by omega)
      clear hown hb
      go_wp2_with fail
      refine (sort_own _ _ (stage f P j) _ (by have := HSL.out; omega) HOUT.out).mono ?_
      rintro e w2 ⟨rfl, o2, b2⟩
      rw [sort_stage f P (show 0 < P by omega) j] at o2
      have HO2 := Lib.hid o2
      have HB2 := Lib.hid (HB.out.trans b2)
      clear o2 b2
      go_wp2_with fail
      go_ret
      exact ⟨_, rfl, HO2.out, HB2.out⟩
end Go.Proofs.Ytdkobkghhnccgaa
