/- Walks of parts.Rims, parts.Core and the reference's Core. -/
import Derived.Test.YtpgpkgnljoedaaaYw
import Derived.Test.YtpgpkgnljoedaaaCi
import Derived.Test.YtpgpkgnljoedaaaVa
namespace Go.Proofs.Ytpgpkgnljoedaaa
open Go.RowKit
theorem Ints.uniq {w : World} {v : Value} {a b : List Int} (h : Ints w v a) (g : Ints w v b) : a = b := by
  obtain ⟨_, A, c, rfl, _, hr⟩ := h
  obtain ⟨_, A', c', e, _, hr'⟩ := g
  injection e with e1 e2 e3
  refine list_ext e2 (fun k hk => ?_)
  obtain ⟨ad, rfl, _, hc⟩ := hr (by omega)
  obtain ⟨ad', e', _, hc'⟩ := hr' (by omega)
  rw [← e1] at e'
  injection e' with e'
  subst e'
  have h1 := hc k _ (getD_get a k hk)
  have h2 := hc' k _ (getD_get b k (by omega))
  rw [h1] at h2
  simpa using h2
open Classical in
/-- the sum of the list in memory -/
noncomputable def szOf (w : World) (v : Value) : Nat := if h : ∃ m, Ints w v m then (Classical.choose h).sum.toNat else 0
theorem szOf_eq {w : World} {v : Value} {m : List Int} (h : Ints w v m) : szOf w v = m.sum.toNat := by
  have hx : ∃ m, Ints w v m := ⟨m, h⟩
  unfold szOf
  rw [dif_pos hx, (Classical.choose_spec hx).uniq h]
def badP (l : List Int) (p : Int) : Prop := ¬ Part l ∨ p < 1 ∨ 10 < p
set_option maxHeartbeats 2000000 in
theorem Rims_yes (v : Value) (l : List Int) (h : Part l) (p : Nat) (hp : 1 ≤ p) (hp10 : p ≤ 10) (w : World) (hv : Ints w v l) :
    Calls Try.prog 52 #[v, .int .i64 p] w fun e w' => ∃ v', e = .returned (.tuple #[v', .int .i64 0]) ∧ IntsL w' v' (RmL l p) ∧ Below w.heap.size w w' := by
  have HVA := Lib.hid (valid_yes v l h w hv)
  have HRI := Lib.hid (rims_any v l h p hp hp10 w hv)
  have d1 : decide ((p : Int) < 1) = false := decide_eq_false (by omega)
  have d2 : decide ((10 : Int) < p) = false := decide_eq_false (by omega)
  obtain ⟨A, c, hvv⟩ : ∃ A c, v = .slice A l.length c := by obtain ⟨_, A, c, h, _⟩ := hv; exact ⟨A, c, h⟩
  subst hvv
  clear h hv hp hp10
  go_enter Try.func52, Try.ntmps52
  go_wp2_with fail
  with_reducible refine HVA.out.mono ?_
  rintro e _ ⟨rfl, rfl⟩
  go_wp2_with fail
  with_reducible refine HRI.out.mono ?_
  rintro e w1 ⟨v1, rfl, hil, hb⟩
  have HI := Lib.hid hil
  obtain ⟨A1, c1, rfl⟩ := hil.form
  clear hil
  go_wp2_with fail
  go_ret2
  exact ⟨_, rfl, HI.out, hb⟩
set_option maxHeartbeats 2000000 in
theorem Rims_no (v : Value) (l : List Int) (p : Int) (h : badP l p) (w : World) (hv : Ints w v l) :
    Calls Try.prog 52 #[v, .int .i64 p] w fun e w' => e = .returned (.tuple #[.slice none 0 0, .int .i64 2]) ∧ w = w' := by
  by_cases hp : Part l
  · have HVA := Lib.hid (valid_yes v l hp w hv)
    obtain ⟨A, c, hvv⟩ : ∃ A c, v = .slice A l.length c := by obtain ⟨_, A, c, h, _⟩ := hv; exact ⟨A, c, h⟩
    subst hvv
    by_cases h1 : p < 1
    · have d1 : decide (p < 1) = true := decide_eq_true h1
      clear h hv hp
      go_enter Try.func52, Try.ntmps52
      go_wp2_with fail
      with_reducible refine HVA.out.mono ?_
      rintro e _ ⟨rfl, rfl⟩
      go_wp2_with fail
      go_ret2
      exact ⟨rfl, rfl⟩
    · have d1 : decide (p < 1) = false := decide_eq_false h1
      have d2 : decide (10 < p) = true := decide_eq_true (by rcases h with h | h | h; · exact absurd hp h
                                                             · exact absurd h h1
                                                             · exact h)
      clear h hv hp
      go_enter Try.func52, Try.ntmps52
      go_wp2_with fail
      with_reducible refine HVA.out.mono ?_
      rintro e _ ⟨rfl, rfl⟩
      go_wp2_with fail
      go_ret2
      exact ⟨rfl, rfl⟩
  · have HVA := Lib.hid (valid_no v l hp w hv)
    obtain ⟨A, c, hvv⟩ : ∃ A c, v = .slice A l.length c := by obtain ⟨_, A, c, h, _⟩ := hv; exact ⟨A, c, h⟩
    subst hvv
    clear h hv hp
    go_enter Try.func52, Try.ntmps52
    go_wp2_with fail
    with_reducible refine HVA.out.mono ?_
    rintro e _ ⟨rfl, rfl⟩
    go_wp2_with fail
    go_ret2
    exact ⟨rfl, rfl⟩
set_option maxHeartbeats 2000000 in
theorem Core_no (v : Value) (l : List Int) (p : Int) (h : badP l p) (w : World) (hv : Ints w v l) :
    Calls Try.prog 53 #[v, .int .i64 p] w fun e w' => e = .returned (.tuple #[.slice none 0 0, .int .i64 2]) ∧ w = w' := by
  by_cases hp : Part l
  · have HVA := Lib.hid (valid_yes v l hp w hv)
    obtain ⟨A, c, hvv⟩ : ∃ A c, v = .slice A l.length c := by obtain ⟨_, A, c, h, _⟩ := hv; exact ⟨A, c, h⟩
    subst hvv
    by_cases h1 : p < 1
    · have d1 : decide (p < 1) = true := decide_eq_true h1
      clear h hv hp
      go_enter Try.func53, Try.ntmps53
      go_wp2_with fail
      with_reducible refine HVA.out.mono ?_
      rintro e _ ⟨rfl, rfl⟩
      go_wp2_with fail
      go_ret2
      exact ⟨rfl, rfl⟩
    · have d1 : decide (p < 1) = false := decide_eq_false h1
      have d2 : decide (10 < p) = true := decide_eq_true (by rcases h with h | h | h; · exact absurd hp h
                                                             · exact absurd h h1
                                                             · exact h)
      clear h hv hp
      go_enter Try.func53, Try.ntmps53
      go_wp2_with fail
      with_reducible refine HVA.out.mono ?_
      rintro e _ ⟨rfl, rfl⟩
      go_wp2_with fail
      go_ret2
      exact ⟨rfl, rfl⟩
  · have HVA := Lib.hid (valid_no v l hp w hv)
    obtain ⟨A, c, hvv⟩ : ∃ A c, v = .slice A l.length c := by obtain ⟨_, A, c, h, _⟩ := hv; exact ⟨A, c, h⟩
    subst hvv
    clear h hv hp
    go_enter Try.func53, Try.ntmps53
    go_wp2_with fail
    with_reducible refine HVA.out.mono ?_
    rintro e _ ⟨rfl, rfl⟩
    go_wp2_with fail
    go_ret2
    exact ⟨rfl, rfl⟩
theorem head_cons {R : List (List Int)} (h : R ≠ []) : R = R.getD 0 [] :: R.drop 1 := by
  cases R with
  | nil => exact absurd rfl h
  | cons a r => rfl
set_option maxRecDepth 100000 in
set_option maxHeartbeats 4000000 in
theorem rCore_any (v : Value) (l : List Int) (h : Part l) (p : Nat) (hp : 1 ≤ p) (hp10 : p ≤ 10) (w : World) (hv : Ints w v l) :
    Calls Try.prog 55 #[v, .int .i64 p] w fun e w' => ∃ c v', e = .returned v' ∧ CoreR p l c ∧ Ints w' v' c ∧ Below w.heap.size w w' := by
  have HP := Lib.hid h
  have HV := Lib.hid hv
  clear h hv
  obtain ⟨A, c, hvv⟩ : ∃ A c, v = .slice A l.length c := by obtain ⟨_, A, c, h, _⟩ := HV.out; exact ⟨A, c, h⟩
  subst hvv
  go_enter Try.func55, Try.ntmps55
  go_wp2_with fail
  go_loopw [0] (fun x wr => ∃ m : List Int, Part m ∧ Ints wr x m ∧ (∀ c, CoreR p m c → CoreR p l c) ∧ Below w.heap.size w wr) (fun x wr => szOf wr x)
  case atStart => exact ⟨l, HP.out, HV.out, fun _ h => h, Below.refl _ _⟩
  case round =>
    obtain ⟨m, hpm, hints, hcor, hb⟩ := hrel
    have HPM := Lib.hid hpm
    have HI := Lib.hid hints
    have HC := Lib.hid hcor
    have HB := Lib.hid hb
    have HZ := Lib.hid (szOf_eq hints)
    obtain ⟨Am, cm, hvv⟩ : ∃ A c, u0 = .slice A m.length c := by obtain ⟨_, A, c, h, _⟩ := hints; exact ⟨A, c, h⟩
    subst hvv
    have HRI := Lib.hid (rRims_any _ m hpm p hp hp10 wr hints)
    clear hpm hints hcor hb
    go_wp2_with fail
    with_reducible refine HRI.out.mono ?_
    rintro e w2 ⟨vr, rfl, hil, hl6, hb2⟩
    have HB2 := Lib.hid (HB.out.trans (hb2.mono HB.out.size))
    have HIM := Lib.hid (HI.out.keep hb2)
    by_cases hR : RmL m p = []
    · have HCR := Lib.hid (HC.out m (CoreR.done hR))
      obtain ⟨Ar, cr, rfl⟩ := hil.form
      rw [hR]
      clear hil hR hl6 hb2
      go_wp2_with fail
      go_ret
      exact ⟨m, _, rfl, HCR.out, HIM.out, HB2.out⟩
    · have hlen : 0 < (RmL m p).length := List.length_pos_iff.2 hR
      obtain ⟨ad, cr, s, rfl, hbl, hcell, hs, hlow⟩ := hil.get hlen
      have HX := Lib.hid (RmL_part HPM.out (show (1 : Int) ≤ p by omega) (show (RmL m p).getD 0 [] ∈ RmL m p by
        have := List.getElem_mem hlen
        rw [List.getD_eq_getElem?_getD, List.getElem?_eq_getElem hlen]; exact this))
      have HCS := Lib.hid (fun c hc => HC.out c (CoreR.step (head_cons hR) hc))
      have HS := Lib.hid hs
      have h30 := HX.out.2
      have h31 := HX.out.1.sum0
      obtain ⟨n, hn⟩ : ∃ n, (RmL m p).length = n := ⟨_, rfl⟩
      have d1 : ((n : Int) == 0) = false := beq_eq_false_iff_ne.2 (by omega)
      have hn0 : 0 < n := by omega
      rw [hn]
      have hck : w2.cell? ad = some s := by have e : ad.add 0 = ad := by cases ad; rfl
                                            rw [← e]; exact hcell
      obtain ⟨As, cs, hsv⟩ : ∃ A c, s = .slice A ((RmL m p).getD 0 []).length c := by obtain ⟨_, A, c, h, _⟩ := hs; exact ⟨A, c, h⟩
      generalize (RmL m p).getD 0 [] = m2 at *
      have HZ2 := Lib.hid (szOf_eq HS.out)
      subst hsv
      clear hil hR hl6 hb2 hs hn hcell
      go_wp2_with fail
      go_roundw
      case rel => exact ⟨m2, HX.out.1, HS.out, HCS.out, HB2.out⟩
      case measure => rw [HZ.out, HZ2.out]; omega
set_option maxRecDepth 100000 in
set_option maxHeartbeats 4000000 in
theorem Core_yes (v : Value) (l : List Int) (h : Part l) (p : Nat) (hp : 1 ≤ p) (hp10 : p ≤ 10) (w : World) (hv : Ints w v l) :
    Calls Try.prog 53 #[v, .int .i64 p] w fun e w' => ∃ c v', e = .returned (.tuple #[v', .int .i64 0]) ∧ CoreR p l c ∧ Ints w' v' c ∧ Below w.heap.size w w' := by
  have HP := Lib.hid h
  have HV := Lib.hid hv
  clear h hv
  obtain ⟨A, c, hvv⟩ : ∃ A c, v = .slice A l.length c := by obtain ⟨_, A, c, h, _⟩ := HV.out; exact ⟨A, c, h⟩
  subst hvv
  have HVA := Lib.hid (valid_yes _ l HP.out w HV.out)
  have HCL := Lib.hid (clone_any _ l w HV.out)
  have d1 : decide ((p : Int) < 1) = false := decide_eq_false (by omega)
  have d2 : decide ((10 : Int) < p) = false := decide_eq_false (by omega)
  have hl30 := HP.out.len
  go_enter Try.func53, Try.ntmps53
  go_wp2_with fail
  with_reducible refine HVA.out.mono ?_
  rintro e _ ⟨rfl, rfl⟩
  go_wp2_with fail
  with_reducible refine HCL.out.mono ?_
  rintro e w0 ⟨v0, rfl, hown0, hb0⟩
  have HI0 := Lib.hid (hown0.ints (by omega))
  have HB0 := Lib.hid hb0
  obtain ⟨A0, c0, rfl⟩ := hown0.form (by omega)
  clear hown0 hb0
  go_wp2_with fail
  go_loopw [6] (fun x wr => ∃ m : List Int, Part m ∧ Ints wr x m ∧ (∀ c, CoreR p m c → CoreR p l c) ∧ Below w.heap.size w wr) (fun x wr => szOf wr x)
  case atStart => exact ⟨l, HP.out, HI0.out, fun _ h => h, HB0.out⟩
  case round =>
    obtain ⟨m, hpm, hints, hcor, hb⟩ := hrel
    have HPM := Lib.hid hpm
    have HI := Lib.hid hints
    have HC := Lib.hid hcor
    have HB := Lib.hid hb
    have HZ := Lib.hid (szOf_eq hints)
    obtain ⟨Am, cm, hvv⟩ : ∃ A c, u6 = .slice A m.length c := by obtain ⟨_, A, c, h, _⟩ := hints; exact ⟨A, c, h⟩
    subst hvv
    have HRI := Lib.hid (rims_any _ m hpm p hp hp10 wr hints)
    clear hpm hints hcor hb
    go_wp2_with fail
    with_reducible refine HRI.out.mono ?_
    rintro e w2 ⟨vr, rfl, hil, hb2⟩
    have HB2 := Lib.hid (HB.out.trans (hb2.mono HB.out.size))
    have HIM := Lib.hid (HI.out.keep hb2)
    by_cases hR : RmL m p = []
    · have HCR := Lib.hid (HC.out m (CoreR.done hR))
      obtain ⟨Ar, cr, rfl⟩ := hil.form
      rw [hR]
      clear hil hR hb2
      go_wp2_with fail
      go_ret2
      exact ⟨m, _, rfl, HCR.out, HIM.out, HB2.out⟩
    · have hlen : 0 < (RmL m p).length := List.length_pos_iff.2 hR
      obtain ⟨ad, cr, s, rfl, hbl, hcell, hs, hlow⟩ := hil.get hlen
      have HX := Lib.hid (RmL_part HPM.out (show (1 : Int) ≤ p by omega) (show (RmL m p).getD 0 [] ∈ RmL m p by
        have := List.getElem_mem hlen
        rw [List.getD_eq_getElem?_getD, List.getElem?_eq_getElem hlen]; exact this))
      have HCS := Lib.hid (fun c hc => HC.out c (CoreR.step (head_cons hR) hc))
      have HS := Lib.hid hs
      have h30 := HX.out.2
      have h31 := HX.out.1.sum0
      obtain ⟨n, hn⟩ : ∃ n, (RmL m p).length = n := ⟨_, rfl⟩
      have d1 : ((n : Int) == 0) = false := beq_eq_false_iff_ne.2 (by omega)
      have hn0 : 0 < n := by omega
      rw [hn]
      have hck : w2.cell? ad = some s := by have e : ad.add 0 = ad := by cases ad; rfl
                                            rw [← e]; exact hcell
      obtain ⟨As, cs, hsv⟩ : ∃ A c, s = .slice A ((RmL m p).getD 0 []).length c := by obtain ⟨_, A, c, h, _⟩ := hs; exact ⟨A, c, h⟩
      generalize (RmL m p).getD 0 [] = m2 at *
      have HZ2 := Lib.hid (szOf_eq HS.out)
      subst hsv
      clear hil hR hb2 hs hn hcell
      go_wp2_with fail
      go_roundw
      case rel => exact ⟨m2, HX.out.1, HS.out, HCS.out, HB2.out⟩
      case measure => rw [HZ.out, HZ2.out]; omega
end Go.Proofs.Ytpgpkgnljoedaaa
