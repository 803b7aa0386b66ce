/- Walks of LiftSides and LiftPure. -/
import Derived.Test.YtdkobkghhnccgaaNi
import Derived.Test.YtdkobkghhnccgaaTi
namespace Go.Proofs.Ytdkobkghhnccgaa
open Go.RowKit
open Np (frc Red ord Prm fle flt cf nz od Sides Sd Pg slopes)
theorem badFP.take {f : List Int} {p : Int} (h : ¬ (Poly f ∧ PrimeI p)) : ¬ (Poly (f.take 9) ∧ PrimeI p) := fun e => h ⟨Poly.take.1 e.1, e.2⟩
set_option maxRecDepth 100000 in
set_option maxHeartbeats 8000000 in
theorem liftSides_no (v : Value) (f : List Int) (p : Int) (h : ¬ (Poly f ∧ PrimeI p)) (w : World) (hv : Ints w v f) :
    Calls Try.prog 12 #[v, .int .i64 p] w fun e w' => e = .returned (.bool true) ∧ Below w.heap.size w w' := by
  have HV := Lib.hid hv
  have HB0 := Lib.hid (Below.refl w.heap.size w)
  have HN := Lib.hid (badFP.take h)
  have HPO := Lib.hid (fun r hr W hW => rPoly_any v f r hr W hW)
  obtain ⟨A, c, hvv⟩ : ∃ A c, v = .slice A f.length c := by obtain ⟨_, A, c, h, _⟩ := hv; exact ⟨A, c, h⟩
  subst hvv
  clear hv
  go_enter Try.func12, Try.ntmps12
  go_wp2_with fail
  with_reducible refine (list_any _ f _ (HV.out.keep HB0.out)).mono ?_
  rintro e w1 ⟨va, rfl, ho, hb⟩
  have HB1 := Lib.hid (HB0.out.trans (hb.mono HB0.out.size))
  have HO := Lib.hid ho
  obtain ⟨A1, n1, c1, rfl⟩ := ho.isSlice
  clear hb ho
  go_wp2_with fail
  with_reducible refine (Polygon_no _ _ _ p HN.out _ HO.out).mono ?_
  rintro e w2 ⟨rfl, hb⟩
  have HB2 := Lib.hid (HB1.out.trans (hb.mono HB1.out.size))
  clear hb
  go_wp2_with fail
  with_reducible refine (list_any _ f _ (HV.out.keep HB2.out)).mono ?_
  rintro e w3 ⟨va, rfl, ho, hb⟩
  have HB3 := Lib.hid (HB2.out.trans (hb.mono HB2.out.size))
  have HO := Lib.hid ho
  obtain ⟨A3, n3, c3, rfl⟩ := ho.isSlice
  clear hb ho
  go_wp2_with fail
  with_reducible refine (Slopes_no _ _ _ p HN.out _ HO.out).mono ?_
  rintro e w4 ⟨rfl, hb⟩
  have HB4 := Lib.hid (HB3.out.trans (hb.mono HB3.out.size))
  clear hb
  go_wp2_with fail
  with_reducible refine (list_any _ f _ (HV.out.keep HB4.out)).mono ?_
  rintro e w5 ⟨va, rfl, ho, hb⟩
  have HB5 := Lib.hid (HB4.out.trans (hb.mono HB4.out.size))
  have HO := Lib.hid ho
  obtain ⟨A5, n5, c5, rfl⟩ := ho.isSlice
  clear hb ho
  go_wp2_with fail
  with_reducible refine (Pure_no _ _ _ p HN.out _ HO.out).mono ?_
  rintro e w6 ⟨rfl, hb⟩
  have HB6 := Lib.hid (HB5.out.trans (hb.mono HB5.out.size))
  clear hb
  by_cases hf : Poly f
  · have hp : ¬ PrimeI p := fun hp => h ⟨hf, hp⟩
    have HR1 := Lib.hid (HPO.out true (by simp [hf]) _ (HV.out.keep HB6.out))
    have HR2 := Lib.hid (fun W => rPrime_any p false (by simp [hp]) W)
    clear h hf hp
    go_wp2_with fail
    with_reducible refine (HR1.out).mono ?_
    rintro e _ ⟨rfl, rfl⟩
    go_wp2_with fail
    with_reducible refine (HR2.out _).mono ?_
    rintro e _ ⟨rfl, rfl⟩
    go_wp2_with fail
    with_reducible refine (awake_any _).mono ?_
    rintro e wz ⟨rfl, hbz⟩
    go_wp2_with fail
    go_ret
    exact ⟨rfl, HB6.out.trans (hbz.mono HB6.out.size)⟩
  · have HR1 := Lib.hid (HPO.out false (by simp [hf]) _ (HV.out.keep HB6.out))
    clear h hf
    go_wp2_with fail
    with_reducible refine (HR1.out).mono ?_
    rintro e _ ⟨rfl, rfl⟩
    go_wp2_with fail
    with_reducible refine (awake_any _).mono ?_
    rintro e wz ⟨rfl, hbz⟩
    go_wp2_with fail
    go_ret
    exact ⟨rfl, HB6.out.trans (hbz.mono HB6.out.size)⟩
set_option maxRecDepth 100000 in
set_option maxHeartbeats 16000000 in
theorem liftSides_yes (v : Value) (f : List Int) (P : Nat) (hf : Poly f) (hP : isP P) (w : World) (hv : Ints w v f) :
    Calls Try.prog 12 #[v, .int .i64 P] w fun e w' => e = .returned (.bool true) ∧ Below w.heap.size w w' := by
  have HV := Lib.hid hv
  have HB := Lib.hid (Below.refl w.heap.size w)
  have hl7 := hf.2.2.1
  have HTf := Lib.hid (show f.take 9 = f from List.take_of_length_le (by omega))
  have HPO := Lib.hid (fun W hW => rPoly_any v f true (by simp [hf]) W hW)
  have HPR := Lib.hid (fun W => rPrime_any (P : Int) true (by simp [isP_int, hP]) W)
  have HF := Lib.hid hf
  obtain ⟨A, c, hvv⟩ : ∃ A c, v = .slice A f.length c := by obtain ⟨_, A, c, h, _⟩ := hv; exact ⟨A, c, h⟩
  subst hvv
  clear hv
  go_enter Try.func12, Try.ntmps12
  go_wp2_with fail
  with_reducible refine (list_any _ f _ HV.out).mono ?_
  rintro e w1 ⟨va, rfl, ho, hb⟩
  have HS := Lib.hid hb
  have HB := Lib.hid (HB.out.trans (hb.mono HB.out.size))
  have HV := Lib.hid (HV.out.keep HS.out)
  have HO := Lib.hid (show Own w1 _ _ f by have := ho; rwa [HTf.out] at this)
  obtain ⟨A1, n1, c1, rfl⟩ := ho.isSlice
  clear hb ho
  go_wp2_with fail
  with_reducible refine (Polygon_yes _ _ f HF.out P hP _ HO.out).mono ?_
  rintro e w2 ⟨v2, L, rfl, hr, hpg, hb⟩
  have HS := Lib.hid hb
  have HB := Lib.hid (HB.out.trans (hb.mono HB.out.size))
  have HV := Lib.hid (HV.out.keep HS.out)
  have HPG := Lib.hid hpg
  have hll := pg_len hpg
  have hll7 : L.length ≤ 1000 := by omega
  have hsl7 : (slopes L).length ≤ 1000 := by have := slopes_le (fun s hs => (pg_bd hP HF.out hpg s hs).2.1) L.length (Nat.le_refl _); rw [List.take_length] at this; omega
  have HR := Lib.hid hr
  obtain ⟨A2, c2, rfl⟩ := hr.form
  clear hb hr hpg
  go_wp2_with fail
  with_reducible refine (list_any _ f _ HV.out).mono ?_
  rintro e w3 ⟨va, rfl, ho, hb⟩
  have HS := Lib.hid hb
  have HB := Lib.hid (HB.out.trans (hb.mono HB.out.size))
  have HV := Lib.hid (HV.out.keep HS.out)
  have HR := Lib.hid (HR.out.keep HS.out)
  have HO := Lib.hid (show Own w3 _ _ f by have := ho; rwa [HTf.out] at this)
  obtain ⟨A3, n3, c3, rfl⟩ := ho.isSlice
  clear hb ho
  go_wp2_with fail
  with_reducible refine (Slopes_yes _ _ f HF.out P hP _ HO.out).mono ?_
  rintro e w4 ⟨v4, L', rfl, hr, hpg, hb⟩
  have HS := Lib.hid hb
  have HB := Lib.hid (HB.out.trans (hb.mono HB.out.size))
  have HV := Lib.hid (HV.out.keep HS.out)
  have HR := Lib.hid (HR.out.keep HS.out)
  obtain rfl : L' = L := hpg.eq HPG.out
  have HSL := Lib.hid hr
  obtain ⟨A4, c4, rfl⟩ := hr.form
  clear hb hr hpg
  go_wp2_with fail
  with_reducible refine (list_any _ f _ HV.out).mono ?_
  rintro e w5 ⟨va, rfl, ho, hb⟩
  have HS := Lib.hid hb
  have HB := Lib.hid (HB.out.trans (hb.mono HB.out.size))
  have HV := Lib.hid (HV.out.keep HS.out)
  have HR := Lib.hid (HR.out.keep HS.out)
  have HSL := Lib.hid (HSL.out.keep HS.out)
  have HO := Lib.hid (show Own w5 _ _ f by have := ho; rwa [HTf.out] at this)
  obtain ⟨A5, n5, c5, rfl⟩ := ho.isSlice
  clear hb ho
  go_wp2_with fail
  with_reducible refine (Pure_yes _ _ f HF.out P hP _ HO.out).mono ?_
  rintro e w6 ⟨⟨L2, rfl, hpg⟩, hb⟩
  have HS := Lib.hid hb
  have HB := Lib.hid (HB.out.trans (hb.mono HB.out.size))
  have HV := Lib.hid (HV.out.keep HS.out)
  have HR := Lib.hid (HR.out.keep HS.out)
  have HSL := Lib.hid (HSL.out.keep HS.out)
  obtain rfl : L2 = L' := hpg.eq HPG.out
  clear hb hpg
  go_wp2_with fail
  with_reducible refine (HPO.out _ HV.out).mono ?_
  rintro e _ ⟨rfl, rfl⟩
  go_wp2_with fail
  with_reducible refine (HPR.out _).mono ?_
  rintro e _ ⟨rfl, rfl⟩
  go_wp2_with fail
  with_reducible refine (own_any _ _ _ hll7 _ HR.out).mono ?_
  rintro e w7 ⟨v7, rfl, hr, hb⟩
  have HS := Lib.hid hb
  have HB := Lib.hid (HB.out.trans (hb.mono HB.out.size))
  have HV := Lib.hid (HV.out.keep HS.out)
  have HR := Lib.hid (HR.out.keep HS.out)
  have HSL := Lib.hid (HSL.out.keep HS.out)
  have HW7 := Lib.hid hr
  obtain ⟨A7, c7, rfl⟩ := hr.form
  clear hb hr
  go_wp2_with fail
  with_reducible refine (rPolygon_any _ f HF.out P hP _ HV.out).mono ?_
  rintro e w8 ⟨v8, L3, rfl, hr, hpg, hb⟩
  have HS := Lib.hid hb
  have HB := Lib.hid (HB.out.trans (hb.mono HB.out.size))
  have HV := Lib.hid (HV.out.keep HS.out)
  have HR := Lib.hid (HR.out.keep HS.out)
  have HSL := Lib.hid (HSL.out.keep HS.out)
  have HW7 := Lib.hid (HW7.out.keep HS.out)
  obtain rfl : L3 = L2 := hpg.eq HPG.out
  have HW8 := Lib.hid hr
  obtain ⟨A8, c8, rfl⟩ := hr.form
  clear hb hr hpg
  go_wp2_with fail
  with_reducible refine (equal40_yes _ _ _ _ L3 hll7 _ HW7.out HW8.out).mono ?_
  rintro e w9 ⟨rfl, hb⟩
  have HS := Lib.hid hb
  have HB := Lib.hid (HB.out.trans (hb.mono HB.out.size))
  have HV := Lib.hid (HV.out.keep HS.out)
  have HR := Lib.hid (HR.out.keep HS.out)
  have HSL := Lib.hid (HSL.out.keep HS.out)
  have HW7 := Lib.hid (HW7.out.keep HS.out)
  have HW8 := Lib.hid (HW8.out.keep HS.out)
  clear hb
  go_wp2_with fail
  with_reducible refine (rSlopes_any _ f HF.out P hP _ HV.out).mono ?_
  rintro e w10 ⟨v9, L4, rfl, hr, hpg, hb⟩
  have HS := Lib.hid hb
  have HB := Lib.hid (HB.out.trans (hb.mono HB.out.size))
  have HV := Lib.hid (HV.out.keep HS.out)
  have HR := Lib.hid (HR.out.keep HS.out)
  have HSL := Lib.hid (HSL.out.keep HS.out)
  have HW7 := Lib.hid (HW7.out.keep HS.out)
  have HW8 := Lib.hid (HW8.out.keep HS.out)
  obtain rfl : L4 = L3 := hpg.eq HPG.out
  have HW9 := Lib.hid hr
  obtain ⟨A10, c10, rfl⟩ := hr.form
  clear hb hr hpg
  go_wp2_with fail
  with_reducible refine (equal43_yes _ _ _ _ (slopes L4) hsl7 _ HSL.out HW9.out).mono ?_
  rintro e w11 ⟨rfl, hb⟩
  have HS := Lib.hid hb
  have HB := Lib.hid (HB.out.trans (hb.mono HB.out.size))
  have HV := Lib.hid (HV.out.keep HS.out)
  have HR := Lib.hid (HR.out.keep HS.out)
  have HSL := Lib.hid (HSL.out.keep HS.out)
  have HW7 := Lib.hid (HW7.out.keep HS.out)
  have HW8 := Lib.hid (HW8.out.keep HS.out)
  have HW9 := Lib.hid (HW9.out.keep HS.out)
  clear hb
  go_wp2_with fail
  with_reducible refine (rPure_any _ f HF.out P hP _ HV.out).mono ?_
  rintro e w12 ⟨⟨L5, rfl, hpg⟩, hb⟩
  have HS := Lib.hid hb
  have HB := Lib.hid (HB.out.trans (hb.mono HB.out.size))
  have HV := Lib.hid (HV.out.keep HS.out)
  have HR := Lib.hid (HR.out.keep HS.out)
  have HSL := Lib.hid (HSL.out.keep HS.out)
  have HW7 := Lib.hid (HW7.out.keep HS.out)
  have HW8 := Lib.hid (HW8.out.keep HS.out)
  have HW9 := Lib.hid (HW9.out.keep HS.out)
  obtain rfl : L5 = L4 := hpg.eq HPG.out
  have hbb : (pureB f L5 == pureB f L5) = true := by simp
  generalize pureB f L5 = bb at *
  clear hb hpg
  go_wp2_with fail
  with_reducible refine (awake_any _).mono ?_
  rintro e wz ⟨rfl, hbz⟩
  go_wp2_with fail
  go_ret
  exact ⟨rfl, HB.out.trans (hbz.mono HB.out.size)⟩
theorem liftSides_walk (w : World) (v : Value) (f : List Int) (hv : Ints w v f) (_ : ∀ n ∈ f, -9223372036854775808 ≤ n ∧ n ≤ 9223372036854775807) (p : Int) (_ : -9223372036854775808 ≤ p ∧ p ≤ 9223372036854775807) :
    Calls Try.prog 12 #[v, .int .i64 p] w fun e w' => e = .returned (.bool true) ∧ Below w.heap.size w w' := by
  by_cases h : Poly f ∧ PrimeI p
  · obtain ⟨P, rfl, hP⟩ := h.2.nat
    exact liftSides_yes v f P h.1 hP w hv
  · exact liftSides_no v f p h w hv
theorem cs_zero (f g : Nat → Int) (n : Nat) : Np.cs f g n 0 = 0 := rfl
theorem addAt_get (l : List Int) (k : Nat) (x : Int) (n : Nat) (hn : n < l.length) : (addAt l k x).getD n 0 = l.getD n 0 + if n = k then x else 0 := by
  unfold addAt
  rw [List.getD_eq_getElem?_getD, List.getD_eq_getElem?_getD, List.getElem?_set]
  by_cases e : k = n
  · subst e
    rw [if_pos rfl, if_pos hn, if_pos rfl]
    simp
  · rw [if_neg e, if_neg (fun h => e h.symm)]
    simp
theorem rowk_get (f g : List Int) (i : Nat) (l : List Int) (n : Nat) (hn : n < l.length) : ∀ j, (rowk f g i l j).getD n 0 = l.getD n 0 + if i ≤ n ∧ n - i < j then f.getD i 0 * g.getD (n - i) 0 else 0 := by
  intro j
  induction j with
  | zero => simp [rowk]
  | succ j ih =>
    rw [rowk, addAt_get _ _ _ _ (by rw [rowk_length]; exact hn), ih]
    by_cases e : n = i + j
    · subst e
      rw [if_neg (by omega), if_pos rfl, if_pos (by omega), show i + j - i = j by omega]
      omega
    · rw [if_neg e]
      by_cases h : i ≤ n ∧ n - i < j
      · rw [if_pos h, if_pos (by omega)]; omega
      · rw [if_neg h, if_neg (by omega)]; omega
theorem tms_get (f g : List Int) (n : Nat) (hn : n < f.length + g.length - 1) : ∀ i, (tms f g i).getD n 0 = Np.cs (cf f) (cf g) n i := by
  intro i
  induction i with
  | zero => rw [tms, Np.cs, List.getD_eq_getElem?_getD, List.getElem?_replicate]; split <;> rfl
  | succ i ih =>
    rw [tms, rowk_get _ _ _ _ _ (by rw [tms_length]; exact hn), ih, Np.cs]
    congr 1
    by_cases h : i ≤ n
    · rw [if_pos h]
      by_cases h2 : n - i < g.length
      · rw [if_pos ⟨h, h2⟩]; rfl
      · rw [if_neg (by omega), show cf g (n - i) = 0 from Np.cf_out (by omega)]; simp
    · rw [if_neg h, if_neg (by omega)]
theorem cs_out (f g : List Int) (n : Nat) (hn : f.length + g.length - 1 ≤ n) (h1 : 1 ≤ g.length) : ∀ i, Np.cs (cf f) (cf g) n i = 0 := by
  intro i
  induction i with
  | zero => rfl
  | succ i ih =>
    rw [Np.cs, ih]
    split
    · by_cases h : i < f.length
      · rw [show cf g (n - i) = 0 from Np.cf_out (by omega)]; simp
      · rw [show cf f i = 0 from Np.cf_out (by omega)]; simp
    · rfl
theorem times_prod (f g : List Int) (hf : 1 ≤ f.length) (hg : 1 ≤ g.length) : Np.IsProd f g (times f g) := by
  refine ⟨hf, hg, tms_length f g _, fun n => ?_⟩
  by_cases h : n < f.length + g.length - 1
  · exact tms_get f g n h f.length
  · rw [show cf (times f g) n = 0 from Np.cf_out (by unfold times; rw [tms_length]; omega), cs_out f g n (by omega) hg]
theorem Poly.last {f : List Int} (h : Poly f) : nz (cf f) (f.length - 1) := h.2.2.2
/-- a product is not pure -/
theorem pure_prod {P : Nat} (hP : isP P) {f g : List Int} (hf : Poly f) (hg : Poly g) {L : List Sd} (hL : Pg P (times f g) L) : pureB (times f g) L = false := by
  rw [Bool.eq_false_iff]
  intro h
  unfold pureB at h
  split at h
  · rename_i s
    simp only [Bool.and_eq_true, decide_eq_true_eq] at h
    exact Np.pure_none hP.prm hf.2.1 hg.2.1 hf.last hg.last (times_prod f g (by have := hf.2.1; omega) (by have := hg.2.1; omega)) hL h.1 h.2
  · cases h
theorem Own.keep {w w' : World} {base : Nat} {v : Value} {xs : List Int} (h : Own w base v xs) (hb : Below w.heap.size w w') : Own w' base v xs := Own.keepB h hb
set_option maxRecDepth 100000 in
set_option maxHeartbeats 8000000 in
theorem liftPure_err (v1 v2 : Value) (f g : List Int) (p : Int) (w : World) (hvf : Ints w v1 f) (hvg : Ints w v2 g)
    (h : ¬ (Poly f ∧ Poly g) ∨ (Poly f ∧ Poly g ∧ ¬ Poly (times f g))) :
    Calls Try.prog 11 #[v1, v2, .int .i64 p] w fun e w' => e = .returned (.bool true) ∧ Below w.heap.size w w' := by
  have HVf := Lib.hid hvf
  have HVg := Lib.hid hvg
  obtain ⟨Af, cf', hvv⟩ : ∃ A c, v1 = .slice A f.length c := by obtain ⟨_, A, c, h, _⟩ := hvf; exact ⟨A, c, h⟩
  obtain ⟨Ag, cg', hvv2⟩ : ∃ A c, v2 = .slice A g.length c := by obtain ⟨_, A, c, h, _⟩ := hvg; exact ⟨A, c, h⟩
  subst hvv hvv2
  clear hvf hvg
  have HT := Lib.hid (fun (b1 b2 : Nat) (u1 u2 : Value) (W : World) (hu1 : Own W b1 u1 (f.take 9)) (hu2 : Own W b2 u2 (g.take 9)) => show Calls Try.prog 25 #[u1, u2] W fun e w' => e = .returned (.tuple #[.slice none 0 0, .int .i64 2]) ∧ Below W.heap.size W w' from by
    rcases h with h | ⟨h1, h2, h3⟩
    · exact Times_bad b1 b2 u1 u2 _ _ (fun e => h ⟨Poly.take.1 e.1, Poly.take.1 e.2⟩) W hu1 hu2
    · have e1 : f.take 9 = f := List.take_of_length_le (by have := h1.2.2.1; omega)
      have e2 : g.take 9 = g := List.take_of_length_le (by have := h2.2.2.1; omega)
      rw [e1] at hu1
      rw [e2] at hu2
      exact Times_no b1 b2 u1 u2 f g h1 h2 h3 W hu1 hu2)
  clear h
  go_enter Try.func11, Try.ntmps11
  have HB := Lib.hid (Below.refl w.heap.size w)
  go_wp2_with fail
  with_reducible refine (list_any _ f _ HVf.out).mono ?_
  rintro e w1 ⟨va, rfl, ho, hb⟩
  have HS := Lib.hid hb
  have HB := Lib.hid (HB.out.trans (hb.mono HB.out.size))
  have HVf := Lib.hid (HVf.out.keep HS.out)
  have HVg := Lib.hid (HVg.out.keep HS.out)
  have HOf := Lib.hid ho
  obtain ⟨A1, n1, c1, rfl⟩ := ho.isSlice
  clear hb ho
  go_wp2_with fail
  with_reducible refine (list_any _ g _ HVg.out).mono ?_
  rintro e w2 ⟨va, rfl, ho, hb⟩
  have HS := Lib.hid hb
  have HB := Lib.hid (HB.out.trans (hb.mono HB.out.size))
  have HVf := Lib.hid (HVf.out.keep HS.out)
  have HVg := Lib.hid (HVg.out.keep HS.out)
  have HOf := Lib.hid (HOf.out.keep HS.out)
  have HOg := Lib.hid ho
  obtain ⟨A2, n2, c2, rfl⟩ := ho.isSlice
  clear hb ho
  go_wp2_with fail
  with_reducible refine (HT.out _ _ _ _ _ HOf.out HOg.out).mono ?_
  rintro e w3 ⟨rfl, hb⟩
  have HS := Lib.hid hb
  have HB := Lib.hid (HB.out.trans (hb.mono HB.out.size))
  have HVf := Lib.hid (HVf.out.keep HS.out)
  have HVg := Lib.hid (HVg.out.keep HS.out)
  have HOf := Lib.hid (HOf.out.keep HS.out)
  have HOg := Lib.hid (HOg.out.keep HS.out)
  clear hb
  go_wp2_with fail
  with_reducible refine (awake_any _).mono ?_
  rintro e wz ⟨rfl, hbz⟩
  go_wp2_with fail
  go_ret
  exact ⟨rfl, HB.out.trans (hbz.mono HB.out.size)⟩
set_option maxRecDepth 100000 in
set_option maxHeartbeats 8000000 in
theorem liftPure_ok (v1 v2 : Value) (f g : List Int) (p : Int) (w : World) (hvf : Ints w v1 f) (hvg : Ints w v2 g) (hf : Poly f) (hg : Poly g) (ht : Poly (times f g)) :
    Calls Try.prog 11 #[v1, v2, .int .i64 p] w fun e w' => e = .returned (.bool true) ∧ Below w.heap.size w w' := by
  have HVf := Lib.hid hvf
  have HVg := Lib.hid hvg
  obtain ⟨Af, cf', hvv⟩ : ∃ A c, v1 = .slice A f.length c := by obtain ⟨_, A, c, h, _⟩ := hvf; exact ⟨A, c, h⟩
  obtain ⟨Ag, cg', hvv2⟩ : ∃ A c, v2 = .slice A g.length c := by obtain ⟨_, A, c, h, _⟩ := hvg; exact ⟨A, c, h⟩
  subst hvv hvv2
  clear hvf hvg
  have HT := Lib.hid (fun (b1 b2 : Nat) (u1 u2 : Value) (W : World) (hu1 : Own W b1 u1 (f.take 9)) (hu2 : Own W b2 u2 (g.take 9)) => show Calls Try.prog 25 #[u1, u2] W fun e w' => ∃ v', e = .returned (.tuple #[v', .int .i64 0]) ∧ Own w' W.heap.size v' (times f g) ∧ Below W.heap.size W w' from by
    have e1 : f.take 9 = f := List.take_of_length_le (by have := hf.2.2.1; omega)
    have e2 : g.take 9 = g := List.take_of_length_le (by have := hg.2.2.1; omega)
    rw [e1] at hu1
    rw [e2] at hu2
    exact Times_yes b1 b2 u1 u2 f g hf hg ht W hu1 hu2)
  have HPU := Lib.hid (fun (b : Nat) (u : Value) (W : World) (hu : Own W b u (times f g)) => show Calls Try.prog 36 #[u, .int .i64 p] W fun e w' => (∃ er : Int, e = .returned (.tuple #[.bool false, .int .i64 er]) ∧ (er = 0 ∨ er = 2)) ∧ Below W.heap.size W w' from by
    by_cases hp : PrimeI p
    · obtain ⟨P, rfl, hP⟩ := hp.nat
      refine (Pure_yes b u _ ht P hP W hu).mono ?_
      rintro e w' ⟨⟨L, rfl, hL⟩, hb⟩
      exact ⟨⟨0, by rw [pure_prod hP hf hg hL], .inl rfl⟩, hb⟩
    · refine (Pure_no b u _ p (fun h => hp h.2) W hu).mono ?_
      rintro e w' ⟨rfl, hb⟩
      exact ⟨⟨2, rfl, .inr rfl⟩, hb⟩)
  clear hf hg ht
  go_enter Try.func11, Try.ntmps11
  have HB := Lib.hid (Below.refl w.heap.size w)
  go_wp2_with fail
  with_reducible refine (list_any _ f _ HVf.out).mono ?_
  rintro e w1 ⟨va, rfl, ho, hb⟩
  have HS := Lib.hid hb
  have HB := Lib.hid (HB.out.trans (hb.mono HB.out.size))
  have HVf := Lib.hid (HVf.out.keep HS.out)
  have HVg := Lib.hid (HVg.out.keep HS.out)
  have HOf := Lib.hid ho
  obtain ⟨A1, n1, c1, rfl⟩ := ho.isSlice
  clear hb ho
  go_wp2_with fail
  with_reducible refine (list_any _ g _ HVg.out).mono ?_
  rintro e w2 ⟨va, rfl, ho, hb⟩
  have HS := Lib.hid hb
  have HB := Lib.hid (HB.out.trans (hb.mono HB.out.size))
  have HVf := Lib.hid (HVf.out.keep HS.out)
  have HVg := Lib.hid (HVg.out.keep HS.out)
  have HOf := Lib.hid (HOf.out.keep HS.out)
  have HOg := Lib.hid ho
  obtain ⟨A2, n2, c2, rfl⟩ := ho.isSlice
  clear hb ho
  go_wp2_with fail
  with_reducible refine (HT.out _ _ _ _ _ HOf.out HOg.out).mono ?_
  rintro e w3 ⟨v7, rfl, ho, hb⟩
  have HS := Lib.hid hb
  have HB := Lib.hid (HB.out.trans (hb.mono HB.out.size))
  have HVf := Lib.hid (HVf.out.keep HS.out)
  have HVg := Lib.hid (HVg.out.keep HS.out)
  have HOf := Lib.hid (HOf.out.keep HS.out)
  have HOg := Lib.hid (HOg.out.keep HS.out)
  have HOT := Lib.hid ho
  obtain ⟨A3, n3, c3, rfl⟩ := ho.isSlice
  clear hb ho
  go_wp2_with fail
  with_reducible refine (HPU.out _ _ _ HOT.out).mono ?_
  rintro e w4 ⟨⟨er, rfl, her⟩, hb⟩
  have HS := Lib.hid hb
  have HB := Lib.hid (HB.out.trans (hb.mono HB.out.size))
  have HVf := Lib.hid (HVf.out.keep HS.out)
  have HVg := Lib.hid (HVg.out.keep HS.out)
  have HOf := Lib.hid (HOf.out.keep HS.out)
  have HOg := Lib.hid (HOg.out.keep HS.out)
  clear hb
  rcases her with rfl | rfl
  · skip
    go_wp2_with fail
    with_reducible refine (awake_any _).mono ?_
    rintro e wz ⟨rfl, hbz⟩
    go_wp2_with fail
    go_ret
    exact ⟨rfl, HB.out.trans (hbz.mono HB.out.size)⟩
  · skip
    go_wp2_with fail
    with_reducible refine (awake_any _).mono ?_
    rintro e wz ⟨rfl, hbz⟩
    go_wp2_with fail
    go_ret
    exact ⟨rfl, HB.out.trans (hbz.mono HB.out.size)⟩
theorem liftPure_walk (w : World) (v1 : Value) (f : List Int) (h1 : Ints w v1 f) (_ : ∀ n ∈ f, -9223372036854775808 ≤ n ∧ n ≤ 9223372036854775807) (v2 : Value) (g : List Int) (h2 : Ints w v2 g) (_ : ∀ n ∈ g, -9223372036854775808 ≤ n ∧ n ≤ 9223372036854775807) (p : Int) (_ : -9223372036854775808 ≤ p ∧ p ≤ 9223372036854775807) :
    Calls Try.prog 11 #[v1, v2, .int .i64 p] w fun e w' => e = .returned (.bool true) ∧ Below w.heap.size w w' := by
  by_cases h : Poly f ∧ Poly g
  · by_cases ht : Poly (times f g)
    · exact liftPure_ok v1 v2 f g p w h1 h2 h.1 h.2 ht
    · exact liftPure_err v1 v2 f g p w h1 h2 (.inr ⟨h.1, h.2, ht⟩)
  · exact liftPure_err v1 v2 f g p w h1 h2 (.inl h)
end Go.Proofs.Ytdkobkghhnccgaa
