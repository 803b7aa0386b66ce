/- The walk of LiftTimes. -/
import Derived.Test.YtdkobkghhnccgaaTi
namespace Go.Proofs.Ytdkobkghhnccgaa
open Go.RowKit
theorem times_length (f g : List Int) : (times f g).length = f.length + g.length - 1 := tms_length f g _
set_option maxRecDepth 100000 in
set_option maxHeartbeats 16000000 in
theorem liftTimes_all (v v' : Value) (f g : List Int) (w : World) (hf : Ints w v f) (hg : Ints w v' g) :
    Calls Try.prog 6 #[v, v'] w fun e w' => e = .returned (.bool true) ∧ Below w.heap.size w w' := by
  have HF := Lib.hid hf
  have HG := Lib.hid hg
  obtain ⟨_, Af, cf, rfl, _, _⟩ := hf
  obtain ⟨_, Ag, cg, rfl, _, _⟩ := hg
  by_cases hpf : Poly f
  · have HPF := Lib.hid hpf
    have hf7 := hpf.2.2.1
    by_cases hpg : Poly g
    · have HPG := Lib.hid hpg
      have hg7 := hpg.2.2.1
      have HTF := Lib.hid (show f.take 9 = f from List.take_of_length_le (by omega))
      have HTG := Lib.hid (show g.take 9 = g from List.take_of_length_le (by omega))
      clear hpf hpg
      by_cases ht : Poly (times f g)
      · have HT := Lib.hid ht
        clear ht
        go_enter Try.func6, Try.ntmps6
        go_wp2_with fail
        refine (list_any _ f _ HF.out).mono ?_
        rintro e w1 ⟨v1, rfl, o1, b1⟩
        have O1 := Lib.hid o1
        clear o1
        go_wp2_with fail
        refine (list_any _ g _ (HG.out.keep b1)).mono ?_
        rintro e w2 ⟨v2, rfl, o2, b2⟩
        have O2 := Lib.hid o2
        have O1b := Lib.hid (O1.out.same (fun b _ hlt => b2.block b hlt))
        have hb2 := b1.trans (b2.mono b1.size)
        clear o2 b1 b2
        go_wp2_with fail
        refine (Times_yes _ _ _ _ (f.take 9) (g.take 9) (by rw [HTF.out]; exact HPF.out) (by rw [HTG.out]; exact HPG.out) (by rw [HTF.out, HTG.out]; exact HT.out) _ O1b.out O2.out).mono ?_
        rintro e w3 ⟨v3, rfl, o3, b3⟩
        rw [HTF.out, HTG.out] at o3
        have I3 := Lib.hid (o3.ints (by rw [times_length]; omega))
        have hb3 := hb2.trans (b3.mono hb2.size)
        clear b3 hb2 o3
        go_wp2_with fail
        refine (rPoly_any _ f true (by simp; exact HPF.out) _ (HF.out.keep hb3)).mono ?_
        rintro e _ ⟨rfl, rfl⟩
        go_wp2_with fail
        refine (rPoly_any _ g true (by simp; exact HPG.out) _ (HG.out.keep hb3)).mono ?_
        rintro e _ ⟨rfl, rfl⟩
        go_wp2_with fail
        refine (rTimes_any _ _ f g HPF.out HPG.out _ (HF.out.keep hb3) (HG.out.keep hb3)).mono ?_
        rintro e w4 ⟨v4, rfl, o4, b4⟩
        have O4 := Lib.hid (o4.ints (by rw [times_length]; omega))
        have hb4 := hb3.trans (b4.mono hb3.size)
        have I3b := Lib.hid (I3.out.keep b4)
        clear b4 o4
        go_wp2_with fail
        refine (rPoly_any _ (times f g) true (by simp; exact HT.out) _ O4.out).mono ?_
        rintro e _ ⟨rfl, rfl⟩
        go_wp2_with fail
        refine (rTimes_any _ _ f g HPF.out HPG.out _ (HF.out.keep hb4) (HG.out.keep hb4)).mono ?_
        rintro e w5 ⟨v5, rfl, o5, b5⟩
        have O5 := Lib.hid (o5.ints (by rw [times_length]; omega))
        have hb5 := hb4.trans (b5.mono hb4.size)
        have I3c := Lib.hid (I3b.out.keep b5)
        clear b5 o5
        go_wp2_with fail
        refine (equal_yes _ _ _ _ I3c.out O5.out).mono ?_
        rintro e w6 ⟨rfl, b6⟩
        have hb6 := hb5.trans (b6.mono hb5.size)
        clear b6
        go_wp2_with fail
        (with_reducible refine (awake_any _).mono ?_)
        rintro e wz ⟨rfl, bz⟩
        have hb9 := hb6.trans (bz.mono hb6.size)
        go_wp2_with fail
        go_ret
        exact ⟨rfl, hb9⟩
      · have HT := Lib.hid ht
        clear ht
        go_enter Try.func6, Try.ntmps6
        go_wp2_with fail
        refine (list_any _ f _ HF.out).mono ?_
        rintro e w1 ⟨v1, rfl, o1, b1⟩
        have O1 := Lib.hid o1
        clear o1
        go_wp2_with fail
        refine (list_any _ g _ (HG.out.keep b1)).mono ?_
        rintro e w2 ⟨v2, rfl, o2, b2⟩
        have O2 := Lib.hid o2
        have O1b := Lib.hid (O1.out.same (fun b _ hlt => b2.block b hlt))
        have hb2 := b1.trans (b2.mono b1.size)
        clear o2 b1 b2
        go_wp2_with fail
        refine (Times_no _ _ _ _ (f.take 9) (g.take 9) (by rw [HTF.out]; exact HPF.out) (by rw [HTG.out]; exact HPG.out) (by rw [HTF.out, HTG.out]; exact HT.out) _ O1b.out O2.out).mono ?_
        rintro e w3 ⟨rfl, b3⟩
        have hb3 := hb2.trans (b3.mono hb2.size)
        clear b3 hb2
        go_wp2_with fail
        refine (rPoly_any _ f true (by simp; exact HPF.out) _ (HF.out.keep hb3)).mono ?_
        rintro e _ ⟨rfl, rfl⟩
        go_wp2_with fail
        refine (rPoly_any _ g true (by simp; exact HPG.out) _ (HG.out.keep hb3)).mono ?_
        rintro e _ ⟨rfl, rfl⟩
        go_wp2_with fail
        refine (rTimes_any _ _ f g HPF.out HPG.out _ (HF.out.keep hb3) (HG.out.keep hb3)).mono ?_
        rintro e w4 ⟨v4, rfl, o4, b4⟩
        have O4 := Lib.hid (o4.ints (by rw [times_length]; omega))
        have hb4 := hb3.trans (b4.mono hb3.size)
        clear b4 o4
        go_wp2_with fail
        refine (rPoly_any _ (times f g) false (by simp; exact HT.out) _ O4.out).mono ?_
        rintro e _ ⟨rfl, rfl⟩
        go_wp2_with fail
        (with_reducible refine (awake_any _).mono ?_)
        rintro e wz ⟨rfl, bz⟩
        have hb9 := hb4.trans (bz.mono hb4.size)
        go_wp2_with fail
        go_ret
        exact ⟨rfl, hb9⟩
    · have HPG := Lib.hid hpg
      have HN := Lib.hid (show ¬ (Poly f ∧ Poly g) from fun hh => hpg hh.2)
      clear hpf hpg
      go_enter Try.func6, Try.ntmps6
      go_wp2_with fail
      refine (list_any _ f _ HF.out).mono ?_
      rintro e w1 ⟨v1, rfl, o1, b1⟩
      have O1 := Lib.hid o1
      clear o1
      go_wp2_with fail
      refine (list_any _ g _ (HG.out.keep b1)).mono ?_
      rintro e w2 ⟨v2, rfl, o2, b2⟩
      have O2 := Lib.hid o2
      have O1b := Lib.hid (O1.out.same (fun b _ hlt => b2.block b hlt))
      have hb2 := b1.trans (b2.mono b1.size)
      clear o2 b1 b2
      go_wp2_with fail
      refine (Times_bad _ _ _ _ _ _ (fun hh => HN.out ⟨Poly.take.1 hh.1, Poly.take.1 hh.2⟩) _ O1b.out O2.out).mono ?_
      rintro e w3 ⟨rfl, b3⟩
      have hb3 := hb2.trans (b3.mono hb2.size)
      clear b3 hb2
      go_wp2_with fail
      refine (rPoly_any _ f true (by simp; exact HPF.out) _ (HF.out.keep hb3)).mono ?_
      rintro e _ ⟨rfl, rfl⟩
      go_wp2_with fail
      refine (rPoly_any _ g false (by simp; exact HPG.out) _ (HG.out.keep hb3)).mono ?_
      rintro e _ ⟨rfl, rfl⟩
      go_wp2_with fail
      go_wp2_with fail
      (with_reducible refine (awake_any _).mono ?_)
      rintro e wz ⟨rfl, bz⟩
      have hb9 := hb3.trans (bz.mono hb3.size)
      go_wp2_with fail
      go_ret
      exact ⟨rfl, hb9⟩
  · have HPF := Lib.hid hpf
    have HN := Lib.hid (show ¬ (Poly f ∧ Poly g) from fun hh => hpf hh.1)
    clear hpf
    go_enter Try.func6, Try.ntmps6
    go_wp2_with fail
    refine (list_any _ f _ HF.out).mono ?_
    rintro e w1 ⟨v1, rfl, o1, b1⟩
    have O1 := Lib.hid o1
    clear o1
    go_wp2_with fail
    refine (list_any _ g _ (HG.out.keep b1)).mono ?_
    rintro e w2 ⟨v2, rfl, o2, b2⟩
    have O2 := Lib.hid o2
    have O1b := Lib.hid (O1.out.same (fun b _ hlt => b2.block b hlt))
    have hb2 := b1.trans (b2.mono b1.size)
    clear o2 b1 b2
    go_wp2_with fail
    refine (Times_bad _ _ _ _ _ _ (fun hh => HN.out ⟨Poly.take.1 hh.1, Poly.take.1 hh.2⟩) _ O1b.out O2.out).mono ?_
    rintro e w3 ⟨rfl, b3⟩
    have hb3 := hb2.trans (b3.mono hb2.size)
    clear b3 hb2
    go_wp2_with fail
    refine (rPoly_any _ f false (by simp; exact HPF.out) _ (HF.out.keep hb3)).mono ?_
    rintro e _ ⟨rfl, rfl⟩
    go_wp2_with fail
    go_wp2_with fail
    (with_reducible refine (awake_any _).mono ?_)
    rintro e wz ⟨rfl, bz⟩
    have hb9 := hb3.trans (bz.mono hb3.size)
    go_wp2_with fail
    go_ret
    exact ⟨rfl, hb9⟩
/-- The walk of LiftTimes. -/
theorem liftTimes_walk (w : World) (v : Value) (f : List Int) (hf : Ints w v f) (_ : ∀ n ∈ f, -9223372036854775808 ≤ n ∧ n ≤ 9223372036854775807) (v' : Value) (g : List Int) (hg : Ints w v' g) (_ : ∀ n ∈ g, -9223372036854775808 ≤ n ∧ n ≤ 9223372036854775807) :
    Calls Try.prog 6 #[v, v'] w fun e w' => e = .returned (.bool true) ∧ Below w.heap.size w w' := liftTimes_all v v' f g w hf hg
end Go.Proofs.Ytdkobkghhnccgaa
