/- Walk of LiftFactors. -/
import Derived.Test.YtdkobkghhnccgaaNl
namespace Go.Proofs.Ytdkobkghhnccgaa
open Go.RowKit
open Np (frc Red ord Prm fle flt cf nz od Sides Sd Pg slopes)
theorem sides_chain {S : Nat → Prop} {o : Nat → Int} {N k : Nat} {L : List Sd} (h : Sides S o N k L) : (∀ s, L[0]? = some s → s.1 = k) ∧ ∀ i s t, L[i]? = some s → L[i + 1]? = some t → s.2.1 = t.1 := by
  induction h with
  | done _ => simp
  | @step k b L n t ih =>
    refine ⟨fun s hs => by simp at hs; rw [← hs], fun i s t hs ht => ?_⟩
    match i with
    | 0 =>
      simp at hs
      rw [← hs]
      rw [List.getElem?_cons_succ] at ht
      exact (ih.1 t ht).symm
    | i + 1 =>
      rw [List.getElem?_cons_succ] at hs ht
      exact ih.2 i s t hs ht
theorem pg_chain {P : Nat} {f : List Int} {L : List Sd} (h : Pg P f L) (k : Nat) (hk : k + 1 < L.length) : L[k].2.1 = L[k + 1].1 ∧ flt L[k].2.2 L[k + 1].2.2 := by
  obtain ⟨k0, _, _, h3⟩ := h
  exact ⟨(sides_chain h3).2 k _ _ (List.getElem?_eq_getElem _) (List.getElem?_eq_getElem _), List.pairwise_iff_getElem.1 h3.rise k (k + 1) (by omega) hk (by omega)⟩
set_option maxRecDepth 100000 in
set_option maxHeartbeats 32000000 in
theorem factors_out (v1 v2 : Value) (f g : List Int) (P : Int) (by' : Int) (w : World) (hvf : Ints w v1 f) (hvg : Ints w v2 g) (h : ¬ (Poly f ∧ PrimeI P)) :
    Calls Try.prog 13 #[v1, v2, .int .i64 P, .int .i64 by'] w fun e w' => e = .returned (.bool true) ∧ Below w.heap.size w w' := by
  have HVf := Lib.hid hvf
  have HVg := Lib.hid hvg
  obtain ⟨Af, cf', hvv⟩ : ∃ A c, v1 = .slice A f.length c := by obtain ⟨_, A, c, h, _⟩ := hvf; exact ⟨A, c, h⟩
  obtain ⟨Ag, cg', hvv2⟩ : ∃ A c, v2 = .slice A g.length c := by obtain ⟨_, A, c, h, _⟩ := hvg; exact ⟨A, c, h⟩
  subst hvv hvv2
  clear hvf hvg
  have HB := Lib.hid (Below.refl w.heap.size w)
  have HN := Lib.hid (badFP.take h)
  have HSG := Lib.hid (fun (b : Nat) (u : Value) (W : World) (hu : Own W b u (g.take 9)) => show Calls Try.prog 38 #[u, .int .i64 P] W fun e w' => (∃ (er : Int) (v' : Value), e = .returned (.tuple #[v', .int .i64 er]) ∧ (er = 0 ∨ er = 2)) ∧ Below W.heap.size W w' from by
    by_cases hg : Poly (g.take 9) ∧ PrimeI P
    · obtain ⟨p, rfl, hp⟩ := hg.2.nat
      refine (Slopes_yes b u _ hg.1 p hp W hu).mono ?_
      rintro e w' ⟨v', L, rfl, _, _, hb⟩
      exact ⟨⟨0, v', rfl, .inl rfl⟩, hb⟩
    · refine (Slopes_no b u _ P hg W hu).mono ?_
      rintro e w' ⟨rfl, hb⟩
      exact ⟨⟨2, _, rfl, .inr rfl⟩, hb⟩)
  clear h
  go_enter Try.func13, Try.ntmps13
  go_wp2_with fail
  with_reducible refine (list_any _ f _ HVf.out).mono ?_
  rintro e w1 ⟨va, rfl, ho, hb⟩
  have HS := Lib.hid hb
  have HB := Lib.hid (HB.out.trans (hb.mono HB.out.size))
  have HVf := Lib.hid (HVf.out.keep HS.out)
  have HVg := Lib.hid (HVg.out.keep HS.out)
  have HO := Lib.hid ho
  obtain ⟨A1, n1, c1, rfl⟩ := ho.isSlice
  clear hb ho
  go_wp2_with fail
  with_reducible refine (Polygon_no _ _ _ P HN.out _ HO.out).mono ?_
  rintro e w2 ⟨rfl, hb⟩
  have HS := Lib.hid hb
  have HB := Lib.hid (HB.out.trans (hb.mono HB.out.size))
  have HVf := Lib.hid (HVf.out.keep HS.out)
  have HVg := Lib.hid (HVg.out.keep HS.out)
  clear hb
  go_wp2_with fail
  with_reducible refine (list_any _ f _ HVf.out).mono ?_
  rintro e w3 ⟨va, rfl, ho, hb⟩
  have HS := Lib.hid hb
  have HB := Lib.hid (HB.out.trans (hb.mono HB.out.size))
  have HVf := Lib.hid (HVf.out.keep HS.out)
  have HVg := Lib.hid (HVg.out.keep HS.out)
  have HO := Lib.hid ho
  obtain ⟨A3, n3, c3, rfl⟩ := ho.isSlice
  clear hb ho
  go_wp2_with fail
  with_reducible refine (Slopes_no _ _ _ P HN.out _ HO.out).mono ?_
  rintro e w4 ⟨rfl, hb⟩
  have HS := Lib.hid hb
  have HB := Lib.hid (HB.out.trans (hb.mono HB.out.size))
  have HVf := Lib.hid (HVf.out.keep HS.out)
  have HVg := Lib.hid (HVg.out.keep HS.out)
  clear hb
  go_wp2_with fail
  with_reducible refine (list_any _ g _ HVg.out).mono ?_
  rintro e w5 ⟨va, rfl, ho, hb⟩
  have HS := Lib.hid hb
  have HB := Lib.hid (HB.out.trans (hb.mono HB.out.size))
  have HVf := Lib.hid (HVf.out.keep HS.out)
  have HVg := Lib.hid (HVg.out.keep HS.out)
  have HO := Lib.hid ho
  obtain ⟨A5, n5, c5, rfl⟩ := ho.isSlice
  clear hb ho
  go_wp2_with fail
  with_reducible refine (HSG.out _ _ _ HO.out).mono ?_
  rintro e w6 ⟨⟨er, v9, rfl, her⟩, hb⟩
  have HS := Lib.hid hb
  have HB := Lib.hid (HB.out.trans (hb.mono HB.out.size))
  have HVf := Lib.hid (HVf.out.keep HS.out)
  have HVg := Lib.hid (HVg.out.keep HS.out)
  clear hb
  rcases her with rfl | rfl
  · skip
    go_wp2_with fail
    with_reducible refine (awake_any _).mono ?_
    rintro e wz ⟨rfl, hbz⟩
    go_wp2_with fail
    go_ret
    exact ⟨rfl, HB.out.trans (hbz.mono HB.out.size)⟩
  · skip
    go_wp2_with fail
    with_reducible refine (awake_any _).mono ?_
    rintro e wz ⟨rfl, hbz⟩
    go_wp2_with fail
    go_ret
    exact ⟨rfl, HB.out.trans (hbz.mono HB.out.size)⟩
set_option maxRecDepth 100000 in
set_option maxHeartbeats 32000000 in
theorem factors_half (v1 v2 : Value) (f g : List Int) (P : Nat) (by' : Int) (w : World) (hvf : Ints w v1 f) (hvg : Ints w v2 g) (hf : Poly f) (hP : isP P) (hg : ¬ Poly g) :
    Calls Try.prog 13 #[v1, v2, .int .i64 P, .int .i64 by'] w fun e w' => e = .returned (.bool true) ∧ Below w.heap.size w w' := by
  have HVf := Lib.hid hvf
  have HVg := Lib.hid hvg
  obtain ⟨Af, cf', hvv⟩ : ∃ A c, v1 = .slice A f.length c := by obtain ⟨_, A, c, h, _⟩ := hvf; exact ⟨A, c, h⟩
  obtain ⟨Ag, cg', hvv2⟩ : ∃ A c, v2 = .slice A g.length c := by obtain ⟨_, A, c, h, _⟩ := hvg; exact ⟨A, c, h⟩
  subst hvv hvv2
  clear hvf hvg
  have HB := Lib.hid (Below.refl w.heap.size w)
  have HTf := Lib.hid (show f.take 9 = f from List.take_of_length_le (by have := hf.2.2.1; omega))
  have HF := Lib.hid hf
  have HSG := Lib.hid (fun (b : Nat) (u : Value) (W : World) (hu : Own W b u (g.take 9)) => Slopes_no b u (g.take 9) (P : Int) (fun e => hg (Poly.take.1 e.1)) W hu)
  clear hf hg
  go_enter Try.func13, Try.ntmps13
  go_wp2_with fail
  with_reducible refine (list_any _ f _ HVf.out).mono ?_
  rintro e w1 ⟨va, rfl, ho, hb⟩
  have HS := Lib.hid hb
  have HB := Lib.hid (HB.out.trans (hb.mono HB.out.size))
  have HVf := Lib.hid (HVf.out.keep HS.out)
  have HVg := Lib.hid (HVg.out.keep HS.out)
  have HO := Lib.hid (show Own w1 _ _ f by have := ho; rwa [HTf.out] at this)
  obtain ⟨A1, n1, c1, rfl⟩ := ho.isSlice
  clear hb ho
  go_wp2_with fail
  with_reducible refine (Polygon_yes _ _ f HF.out P hP _ HO.out).mono ?_
  rintro e w2 ⟨v2, L, rfl, hr, hpg, hb⟩
  have HS := Lib.hid hb
  have HB := Lib.hid (HB.out.trans (hb.mono HB.out.size))
  have HVf := Lib.hid (HVf.out.keep HS.out)
  have HVg := Lib.hid (HVg.out.keep HS.out)
  obtain ⟨A2, c2, rfl⟩ := hr.form
  clear hb hr hpg
  go_wp2_with fail
  with_reducible refine (list_any _ f _ HVf.out).mono ?_
  rintro e w3 ⟨va, rfl, ho, hb⟩
  have HS := Lib.hid hb
  have HB := Lib.hid (HB.out.trans (hb.mono HB.out.size))
  have HVf := Lib.hid (HVf.out.keep HS.out)
  have HVg := Lib.hid (HVg.out.keep HS.out)
  have HO := Lib.hid (show Own w3 _ _ f by have := ho; rwa [HTf.out] at this)
  obtain ⟨A3, n3, c3, rfl⟩ := ho.isSlice
  clear hb ho
  go_wp2_with fail
  with_reducible refine (Slopes_yes _ _ f HF.out P hP _ HO.out).mono ?_
  rintro e w4 ⟨v4, L', rfl, hr, hpg, hb⟩
  have HS := Lib.hid hb
  have HB := Lib.hid (HB.out.trans (hb.mono HB.out.size))
  have HVf := Lib.hid (HVf.out.keep HS.out)
  have HVg := Lib.hid (HVg.out.keep HS.out)
  obtain ⟨A4, c4, rfl⟩ := hr.form
  clear hb hr hpg
  go_wp2_with fail
  with_reducible refine (list_any _ g _ HVg.out).mono ?_
  rintro e w5 ⟨va, rfl, ho, hb⟩
  have HS := Lib.hid hb
  have HB := Lib.hid (HB.out.trans (hb.mono HB.out.size))
  have HVf := Lib.hid (HVf.out.keep HS.out)
  have HVg := Lib.hid (HVg.out.keep HS.out)
  have HO := Lib.hid ho
  obtain ⟨A5, n5, c5, rfl⟩ := ho.isSlice
  clear hb ho
  go_wp2_with fail
  with_reducible refine (HSG.out _ _ _ HO.out).mono ?_
  rintro e w6 ⟨rfl, hb⟩
  have HS := Lib.hid hb
  have HB := Lib.hid (HB.out.trans (hb.mono HB.out.size))
  have HVf := Lib.hid (HVf.out.keep HS.out)
  have HVg := Lib.hid (HVg.out.keep HS.out)
  clear hb
  go_wp2_with fail
  with_reducible refine (awake_any _).mono ?_
  rintro e wz ⟨rfl, hbz⟩
  go_wp2_with fail
  go_ret
  exact ⟨rfl, HB.out.trans (hbz.mono HB.out.size)⟩
end Go.Proofs.Ytdkobkghhnccgaa
