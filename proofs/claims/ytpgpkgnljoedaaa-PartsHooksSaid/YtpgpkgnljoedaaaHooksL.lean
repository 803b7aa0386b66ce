/- The walk of PartsHooks. -/
import Derived.Test.YtpgpkgnljoedaaaFi
namespace Go.Proofs.Ytpgpkgnljoedaaa
open Go.RowKit

set_option maxRecDepth 100000 in
set_option maxHeartbeats 8000000 in
theorem partsHooks_no (v : Value) (l : List Int) (h : ¬ Part l) (w : World) (hv : Ints w v l) :
    Calls Try.prog 9 #[v] w fun e w' => e = .returned (.bool true) ∧ Below w.heap.size w w' := by
  have HQ := Lib.hid hv
  have HP := Lib.hid h
  have HP4 := Lib.hid (part_take h)
  clear hv h
  go_enter Try.func9, Try.ntmps9
  go_wp2_with fail
  refine (list_any _ l _ HQ.out).mono ?_
  rintro e w1 ⟨v1, rfl, o1, b1⟩
  have O0 := Lib.hid (o1.ints (by rw [List.length_take]; omega))
  have t1 := b1
  go_wp2_with fail
  (with_reducible refine (Hooks_no _ _ HP4.out _ O0.out).mono ?_)
  rintro e _ ⟨rfl, rfl⟩
  go_wp2_with fail
  refine (list_any _ l _ (HQ.out.keep t1)).mono ?_
  rintro e w2 ⟨v2, rfl, o2, b2⟩
  have O1 := Lib.hid (o2.ints (by rw [List.length_take]; omega))
  have t2 := t1.trans (b2.mono t1.size)
  go_wp2_with fail
  (with_reducible refine (Fillings_no _ _ (fun o => absurd o.1 HP4.out) _ O1.out).mono ?_)
  rintro e _ ⟨rfl, rfl⟩
  go_wp2_with fail
  (with_reducible refine (rValid_no _ l HP.out _ (HQ.out.keep t2)).mono ?_)
  rintro e _ ⟨rfl, rfl⟩
  go_wp2_with fail
  (with_reducible refine (awake_any _).mono ?_)
  rintro e we ⟨rfl, be⟩
  have t3 := t2.trans (be.mono t2.size)
  go_wp2_with fail
  go_ret
  exact ⟨rfl, t3⟩
set_option maxRecDepth 100000 in
set_option maxHeartbeats 8000000 in
theorem partsHooks_yes (v : Value) (l : List Int) (h : Part l) (hs : l.sum ≤ 20) (w : World) (hv : Ints w v l) :
    Calls Try.prog 9 #[v] w fun e w' => e = .returned (.bool true) ∧ Below w.heap.size w w' := by
  have hl30 := h.len
  have h30 := h.2
  have h00 := h.sum0
  have HSUM := Lib.hid (fun u W hW => rSum_any u l h.1 (by omega) W hW)
  have HFI := Lib.hid (fun u W hW => Fillings_yes u l h hs W hW)
  have HRFI := Lib.hid (fun u W hW => rFillings_any u l h hs W hW)
  have d1 : decide (20 < l.sum) = false := decide_eq_false (by omega)
  generalize fills l = fl at *
  generalize l.sum = s at *
  have HQ := Lib.hid hv
  have HP := Lib.hid h
  have HT := Lib.hid h.take34
  clear hv h
  go_enter Try.func9, Try.ntmps9
  go_wp2_with fail
  refine (list_any _ l _ HQ.out).mono ?_
  rintro e w1 ⟨v1, rfl, o1, b1⟩
  have O0 := Lib.hid (o1.ints (by rw [List.length_take]; omega))
  have t1 := b1
  rw [HT.out] at O0
  go_wp2_with fail
  (with_reducible refine (Hooks_yes _ l HP.out _ O0.out).mono ?_)
  rintro e wh ⟨vh, rfl, ih, bh⟩
  have HIH := Lib.hid ih
  obtain ⟨_, Ah, ch, vsh, rfl, _, _, _⟩ := ih
  have t2 := t1.trans (bh.mono t1.size)
  go_wp2_with fail
  refine (list_any _ l _ (HQ.out.keep t2)).mono ?_
  rintro e w3 ⟨v3, rfl, o3, b3⟩
  have O1 := Lib.hid (o3.ints (by rw [List.length_take]; omega))
  have t3 := t2.trans (b3.mono t2.size)
  rw [HT.out] at O1
  have HIH := Lib.hid (HIH.out.keep b3)
  go_wp2_with fail
  (with_reducible refine (HFI.out _ _ O1.out).mono ?_)
  rintro e wf ⟨rfl, bf⟩
  have t4 := t3.trans (bf.mono t3.size)
  have HIH := Lib.hid (HIH.out.keep bf)
  go_wp2_with fail
  (with_reducible refine (rValid_yes _ l HP.out _ (HQ.out.keep t4)).mono ?_)
  rintro e _ ⟨rfl, rfl⟩
  go_wp2_with fail
  (with_reducible refine (rHooks_any _ l HP.out _ (HQ.out.keep t4)).mono ?_)
  rintro e wr ⟨vr, rfl, ir, br⟩
  have HIR := Lib.hid ir
  have t5 := t4.trans (br.mono t4.size)
  have HIH := Lib.hid (HIH.out.keep br)
  go_wp2_with fail
  (with_reducible refine (same_yes _ _ (hooks l) _ HIH.out HIR.out).mono ?_)
  rintro e ws ⟨rfl, bs⟩
  have t6 := t5.trans (bs.mono t5.size)
  go_wp2_with fail
  (with_reducible refine (awake_any _).mono ?_)
  rintro e wa ⟨rfl, ba⟩
  have t7 := t6.trans (ba.mono t6.size)
  go_wp2_with fail
  (with_reducible refine (HSUM.out _ _ (HQ.out.keep t7)).mono ?_)
  rintro e _ ⟨rfl, rfl⟩
  go_wp2_with fail
  (with_reducible refine (HRFI.out _ _ (HQ.out.keep t7)).mono ?_)
  rintro e wz ⟨rfl, bz⟩
  have t8 := t7.trans (bz.mono t7.size)
  go_wp2_with fail
  go_ret
  exact ⟨rfl, t8⟩
set_option maxRecDepth 100000 in
set_option maxHeartbeats 8000000 in
theorem partsHooks_big (v : Value) (l : List Int) (h : Part l) (hs : 20 < l.sum) (w : World) (hv : Ints w v l) :
    Calls Try.prog 9 #[v] w fun e w' => e = .returned (.bool true) ∧ Below w.heap.size w w' := by
  have hl30 := h.len
  have h30 := h.2
  have h00 := h.sum0
  have HSUM := Lib.hid (fun u W hW => rSum_any u l h.1 (by omega) W hW)
  have HFI := Lib.hid (fun u W hW => Fillings_no u l (fun o => by have := o.2; omega) W hW)
  have d1 : decide (20 < l.sum) = true := decide_eq_true hs
  generalize l.sum = s at *
  have HQ := Lib.hid hv
  have HP := Lib.hid h
  have HT := Lib.hid h.take34
  clear hv h
  go_enter Try.func9, Try.ntmps9
  go_wp2_with fail
  refine (list_any _ l _ HQ.out).mono ?_
  rintro e w1 ⟨v1, rfl, o1, b1⟩
  have O0 := Lib.hid (o1.ints (by rw [List.length_take]; omega))
  have t1 := b1
  rw [HT.out] at O0
  go_wp2_with fail
  (with_reducible refine (Hooks_yes _ l HP.out _ O0.out).mono ?_)
  rintro e wh ⟨vh, rfl, ih, bh⟩
  have HIH := Lib.hid ih
  obtain ⟨_, Ah, ch, vsh, rfl, _, _, _⟩ := ih
  have t2 := t1.trans (bh.mono t1.size)
  go_wp2_with fail
  refine (list_any _ l _ (HQ.out.keep t2)).mono ?_
  rintro e w3 ⟨v3, rfl, o3, b3⟩
  have O1 := Lib.hid (o3.ints (by rw [List.length_take]; omega))
  have t3 := t2.trans (b3.mono t2.size)
  rw [HT.out] at O1
  have HIH := Lib.hid (HIH.out.keep b3)
  go_wp2_with fail
  (with_reducible refine (HFI.out _ _ O1.out).mono ?_)
  rintro e _ ⟨rfl, rfl⟩
  go_wp2_with fail
  (with_reducible refine (rValid_yes _ l HP.out _ (HQ.out.keep t3)).mono ?_)
  rintro e _ ⟨rfl, rfl⟩
  go_wp2_with fail
  (with_reducible refine (rHooks_any _ l HP.out _ (HQ.out.keep t3)).mono ?_)
  rintro e wr ⟨vr, rfl, ir, br⟩
  have HIR := Lib.hid ir
  have t4 := t3.trans (br.mono t3.size)
  have HIH := Lib.hid (HIH.out.keep br)
  go_wp2_with fail
  (with_reducible refine (same_yes _ _ (hooks l) _ HIH.out HIR.out).mono ?_)
  rintro e ws ⟨rfl, bs⟩
  have t5 := t4.trans (bs.mono t4.size)
  go_wp2_with fail
  (with_reducible refine (awake_any _).mono ?_)
  rintro e wa ⟨rfl, ba⟩
  have t6 := t5.trans (ba.mono t5.size)
  go_wp2_with fail
  (with_reducible refine (HSUM.out _ _ (HQ.out.keep t6)).mono ?_)
  rintro e _ ⟨rfl, rfl⟩
  go_wp2_with fail
  go_ret
  exact ⟨rfl, t6⟩
/-- The walk of the law. -/
theorem partsHooks_walk (w : World) (v : Value) (l : List Int) (hv : Ints w v l) (_ : ∀ n ∈ l, -9223372036854775808 ≤ n ∧ n ≤ 9223372036854775807) :
    Calls Try.prog 9 #[v] w fun e w' => e = .returned (.bool true) ∧ Below w.heap.size w w' := by
  by_cases h : Part l
  · by_cases hs : l.sum ≤ 20
    · exact partsHooks_yes v l h hs w hv
    · exact partsHooks_big v l h (by omega) w hv
  · exact partsHooks_no v l h w hv
end Go.Proofs.Ytpgpkgnljoedaaa
