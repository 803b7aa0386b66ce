/- Walks of Again, of the reference and of the program. -/
import Derived.Test.YtdkobkghhnccgaaDm
import Derived.Maps.Views
namespace Go.Proofs.Ytdkobkghhnccgaa
open Go.RowKit
theorem rep_ex {a b : Int} {P : Nat} (h : Frc a b P) : ∃ s N, IsRep (rs a b P) s N := by
  have hno : ¬ AllNew (rs a b P) 2002 := fun hn => by
    have := rep_n h.hP a b h.hb h.b0 h.b1 h.a0 h.a1 2002 hn
    omega
  have key : ∀ n, ¬ AllNew (rs a b P) n → ∃ s N, IsRep (rs a b P) s N := by
    intro n
    induction n with
    | zero => intro hn; exact absurd (fun i j _ hj => by omega) hn
    | succ n ih =>
      intro hn
      by_cases hc : AllNew (rs a b P) n
      · apply Classical.byContradiction
        intro hx
        exact hn (allNew_succ hc (fun i hi e => hx ⟨i, n, hi, e, hc⟩))
      · exact ih hc
  exact key 2002 hno
def rl (a b : Int) (P n : Nat) : List Int := (List.range n).map (rs a b P)
theorem rl_succ (a b : Int) (P n : Nat) : rl a b P (n + 1) = rl a b P n ++ [rs a b P n] := by simp [rl, List.range_succ]
theorem rl_length (a b : Int) (P n : Nat) : (rl a b P n).length = n := by simp [rl]
theorem rl_get (a b : Int) (P n i : Nat) (h : i < n) : (rl a b P n).getD i 0 = rs a b P i := by simp [rl, h]
def lenS : Value → Nat
  | .slice _ n _ => n
  | _ => 0
set_option maxRecDepth 100000 in
set_option maxHeartbeats 8000000 in
theorem rAgain_any (a b : Int) (P s N : Nat) (h : Frc a b P) (hr : IsRep (rs a b P) s N) (w : World) :
    Calls Try.prog 34 #[.int .i64 a, .int .i64 b, .int .i64 P] w fun e w' => e = .returned (.tuple #[.int .i64 s, .int .i64 ((N : Int) - s)]) ∧ Below w.heap.size w w' := by
  have H := Lib.hid h
  have HR := Lib.hid hr
  have HL := Lib.hid (fun n hn => rep_n h.hP a b h.hb h.b0 h.b1 h.a0 h.a1 n hn)
  clear h hr
  go_enter Try.func34, Try.ntmps34
  go_wp2_with fail
  go_loopw [0, 8] (fun x o wr => ∃ n : Nat, x = .int .i64 (rs a b P n) ∧ Own wr w.heap.size o (rl a b P n) ∧ AllNew (rs a b P) n ∧ Below w.heap.size w wr) (fun _ o _ => 2002 - lenS o)
  case atStart => exact ⟨0, rfl, Own.nil _ _, fun i j _ hj => by omega, Below.refl _ _⟩
  case round =>
    obtain ⟨n, rfl, hown, hnew, hb⟩ := hrel
    have hn := HL.out n hnew
    have HNEW := Lib.hid hnew
    have HB := Lib.hid hb
    have HF := Lib.hid (H.out.rs n)
    have HO := Lib.hid hown
    have HI := Lib.hid (hown.ints (by rw [rl_length]; omega))
    have HS := Lib.hid (rl_succ a b P n)
    have HRN := Lib.hid (show rs a b P (n + 1) = nx (rs a b P n) b P from rfl)
    obtain ⟨_, A, c, rfl, _, hcr⟩ := HI.out
    have HCR := Lib.hid hcr
    have hrl := rl_length a b P n
    clear hnew hb hown hcr
    have HRL := Lib.hid hrl
    rw [hrl] at HI HO HCR ⊢
    clear hrl
    go_wp2_with fail
    go_loop [13] (fun i => ∃ k : Nat, k ≤ n ∧ i = .int .i64 k ∧ ∀ j, j < k → rs a b P j ≠ rs a b P n) (fun i => n - (intOf i).toNat)
    case atStart => exact ⟨0, by omega, rfl, fun j hj => by omega⟩
    case round =>
      obtain ⟨k, hk, rfl, hall⟩ := hrel
      have HALL := Lib.hid hall
      clear hall
      by_cases hlt : k < n
      · obtain ⟨ad, rfl, _, hcell⟩ := HCR.out (by omega)
        have hcx := hcell k _ (getD_get _ k (by rw [HRL.out]; exact hlt))
        rw [rl_get a b P n k hlt] at hcx
        clear hcell
        by_cases he : rs a b P k = rs a b P n
        · have HX := Lib.hid (IsRep.eq ⟨hlt, he, HNEW.out⟩ HR.out)
          have hee : (rs a b P k == rs a b P n) = true := by rw [beq_iff_eq]; exact he
          clear he
          go_wp2_with fail
          go_ret2
          exact ⟨by rw [← HX.out.1, ← HX.out.2]; rfl, HB.out⟩
        · have hee : (rs a b P k == rs a b P n) = false := by rw [beq_eq_false_iff_ne]; exact he
          have HA2 := Lib.hid (show ∀ j, j < k + 1 → rs a b P j ≠ rs a b P n from fun j hj => by
            by_cases e : j < k
            · exact HALL.out j e
            · obtain rfl : j = k := by omega
              exact he)
          clear he
          go_wp2_with fail
          go_round
          case rel => exact ⟨k + 1, by omega, by go_num, HA2.out⟩
          case measure => simp [intOf]; omega
      · obtain rfl : k = n := by omega
        have HN2 := Lib.hid (allNew_succ HNEW.out HALL.out)
        have hown := HO.out
        go_wp2_with (at_builtin; refine wpList_append_new _ rfl _ _ 22 rfl Try.underlying22 w.heap.size _ _ rfl hown (rs a b P k) rfl (by rw [HRL.out]; omega) HB.out.size ?_; intro v' w1 hown1 _ hb1)
        refine (rnext_any _ b P HF.out _).mono ?_
        rintro e _ ⟨rfl, rfl⟩
        have HO1 := Lib.hid hown1
        have HI1 := Lib.hid (hown1.ints (by rw [List.length_append, HRL.out]; simp; omega))
        obtain ⟨_, A', c', rfl, _, _⟩ := HI1.out
        go_wp2_with fail
        go_roundw
        case rel => exact ⟨k + 1, by rw [HRN.out], (by rw [HS.out]; have e := HO1.out; rw [List.length_append] at e; exact e), HN2.out, HB.out.trans hb1⟩
        case measure => simp [lenS, HRL.out]; omega
theorem wf_of {a : Int} (h0 : -1000 ≤ a) (h1 : a ≤ 1000) : (Lit.int .i64 a).wf = true := WalkArith.wf_i64 (by omega)
theorem Frc.wfs {a b : Int} {P : Nat} (h : Frc a b P) : (Lit.int .i64 a).wf = true ∧ (Lit.int .i64 b).wf = true ∧ (Lit.int .i64 (P : Int)).wf = true := by
  have := h.hP.le
  have := h.b0
  exact ⟨wf_of h.a0 h.a1, wf_of (by omega) h.b1, wf_of (by omega) (by omega)⟩
/-- the map holds the first n rests with their numbers -/
def MapOk (a b : Int) (P : Nat) (D : DataW Unit) (n : Nat) : Prop :=
  Maps.IsMap D ∧ (∀ i, i < n → Maps.has D (kl (rs a b P i) b P) = true ∧ D.atKey (kl (rs a b P i) b P) (.lit (.int .i64 0)) = .lit (.int .i64 i)) ∧
  (∀ x : Int, (Lit.int .i64 x).wf = true → (∀ i, i < n → rs a b P i ≠ x) → Maps.has D (kl x b P) = false)
theorem MapOk.zero (a b : Int) (P : Nat) : MapOk a b P (.map []) 0 :=
  ⟨Maps.isMap_empty, fun i hi => by omega, fun x _ _ => rfl⟩
theorem MapOk.put {a b : Int} {P : Nat} {D : DataW Unit} {n : Nat} (hf : Frc a b P) (h : MapOk a b P D n) (hn : ∀ i, i < n → rs a b P i ≠ rs a b P n) :
    MapOk a b P (D.put (kl (rs a b P n) b P) (.lit (.int .i64 n))) (n + 1) := by
  obtain ⟨h1, h2, h3⟩ := h
  have hw := fun i => (hf.rs i).wfs
  refine ⟨h1.put _ _, fun i hi => ?_, fun x hx hne => ?_⟩
  · by_cases e : i = n
    · subst e
      have hkl := keyed86.key (key86 (rs a b P i) b P (hw i).1 (hw i).2.1 (hw i).2.2)
      exact ⟨Maps.has_put_same h1 hkl _, Maps.atKey_put_same h1 hkl _ _⟩
    · have hk : kl (rs a b P i) b P ≠ kl (rs a b P n) b P := fun hk => hn i (by omega) (kl_inj (hw i).1 (hw n).1 (hw n).2.1 (hw n).2.2 hk)
      rw [Maps.has_put_other hk, Maps.atKey_put_other hk]
      exact h2 i (by omega)
  · have hk : kl x b P ≠ kl (rs a b P n) b P := fun hk => hne n (by omega) (kl_inj hx (hw n).1 (hw n).2.1 (hw n).2.2 hk).symm
    rw [Maps.has_put_other hk]
    exact h3 x hx (fun i hi => hne i (by omega))
theorem AtB.grown {w w' : World} {B M : Nat} {a b : Int} {P : Nat} (h : AtB w B a b P) (hg : w.grownBy w' (some M)) (hne : B ≠ M) : AtB w' B a b P := by
  unfold AtB at h ⊢
  rw [hg.block B (Array.getElem?_eq_some_iff.1 h).1 (by simpa using hne)]; exact h
theorem grown_below {w w' : World} (h : Below w.heap.size w w') : w.grownBy w' none := ⟨h.os, h.tape, h.output, h.size, fun k hk _ => h.block k hk⟩
theorem grown_store (w : World) (B : Nat) (x y z : Value) : w.grownBy (((w.setCell ⟨B, 0, none⟩ x).setCell ⟨B, 1, none⟩ y).setCell ⟨B, 2, none⟩ z) (some B) :=
  ⟨rfl, rfl, rfl, by simp, fun k hk hne => heap_store (by simpa using hne) _ _ _⟩
theorem atc {D : DataW Unit} {k : Lit} {z : DataW Unit} {i c : Int} (h : D.atKey k z = .lit (.int .i64 i)) (h2 : D.atKey k z = .lit (.int .i64 c)) : c = i := by
  rw [h] at h2
  injection h2 with h3
  injection h3 with _ h4
  exact h4.symm
set_option maxRecDepth 100000 in
set_option maxHeartbeats 8000000 in
theorem Again_yes (a b : Int) (P s N : Nat) (h : Frc a b P) (hfi : FracI a b P) (hr : IsRep (rs a b P) s N) (w : World) :
    Calls Try.prog 32 #[.int .i64 a, .int .i64 b, .int .i64 P] w fun e w' => e = .returned (.tuple #[.int .i64 s, .int .i64 ((N : Int) - s), .int .i64 0]) ∧ Below w.heap.size w w' := by
  have H := Lib.hid h
  have HFI := Lib.hid hfi
  have HR := Lib.hid hr
  have HL := Lib.hid (fun n hn => rep_n h.hP a b h.hb h.b0 h.b1 h.a0 h.a1 n hn)
  have hmm := @run_makeMap Try.prog
  clear h hr hfi
  go_enter Try.func32, Try.ntmps32
  go_wp2_with fail
  have HN := Lib.hid (AtB.new w a b P)
  have HB1 := Lib.hid ((Below.refl w.heap.size w).alloc (Nat.le_refl _) (.cells #[.int .i64 a, .int .i64 b, .int .i64 P] 86))
  refine (fvalid_any a b P true (by simp; exact HFI.out) _).mono ?_
  rintro e w1 ⟨rfl, b1⟩
  have HA1 := Lib.hid (HN.out.keep (fun k hk => b1.block k hk))
  have HB := Lib.hid (HB1.out.trans (b1.mono HB1.out.size))
  clear b1
  go_wp2_with fail
  clear hmm
  have hG1 : w.heap.size < w1.heap.size := HA1.out.cells.2.2.2.2
  have HM0 := Lib.hid (World.ownsMap_made w1 Try.prog 86 (plainElem (H := Unit) Try.prog 3))
  have HA2 := Lib.hid (HA1.out.keep (w' := w1.alloc (.map #[] 0)) (fun k hk => Below.heap_alloc w1 _ k hk))
  have HB2 := Lib.hid (HB.out.alloc HB.out.size (.map #[] 0))
  have HMZ := Lib.hid (MapOk.zero a b P)
  go_loopw [11] (fun i wr => ∃ (n : Nat) (D : DataW Unit), i = .int .i64 n ∧ AtB wr w.heap.size (rs a b P n) b P ∧ wr.ownsMap Try.prog 86 (plainElem Try.prog 3) w1.heap.size n D ∧ MapOk a b P D n ∧ AllNew (rs a b P) n ∧ Below w.heap.size w wr) (fun i _ => 2002 - (intOf i).toNat)
  case atStart => exact ⟨0, .map [], rfl, HA2.out, HM0.out, HMZ.out, fun i j _ hj => by omega, HB2.out⟩
  case round =>
    obtain ⟨n, D, rfl, hat, hmap, hok, hnew, hb⟩ := hrel
    have hn := HL.out n hnew
    have HAT := Lib.hid hat
    have HMAP := Lib.hid hmap
    have HOK := Lib.hid hok
    have HNEW := Lib.hid hnew
    have HBB := Lib.hid hb
    have HF := Lib.hid (H.out.rs n)
    have HRN := Lib.hid (show rs a b P (n + 1) = nx (rs a b P n) b P from rfl)
    have HKEY := Lib.hid (show keyOf Try.prog 86 (.agg #[.int .i64 (rs a b P n), .int .i64 b, .int .i64 P]) = some (kl (rs a b P n) b P) from key86 _ b P HF.out.wfs.1 HF.out.wfs.2.1 HF.out.wfs.2.2)
    obtain ⟨hc0, hc1, hc2, hfz, hlG⟩ := hat.cells
    clear hat hmap hok hnew hb
    by_cases hex : ∃ i, i < n ∧ rs a b P i = rs a b P n
    · obtain ⟨i, hi, he⟩ := hex
      have HX := Lib.hid (IsRep.eq ⟨hi, he, HNEW.out⟩ HR.out)
      have HHAS := Lib.hid (show Maps.has D (kl (rs a b P n) b P) = true by rw [← he]; exact (HOK.out.2.1 i hi).1)
      have HATK := Lib.hid (show D.atKey (kl (rs a b P n) b P) (.lit (.int .i64 0)) = .lit (.int .i64 i) by rw [← he]; exact (HOK.out.2.1 i hi).2)
      clear he
      go_wp2_with (at_lookup; refine wpList_lookup_own_ok_int _ rfl _ _ 89 rfl 86 3 .i64 keyed86 Try.underlying89 Try.underlying3 (Try.zeroValue3 _) w1.heap.size n D rfl HMAP.out _ _ rfl HKEY.out ?_; intro c hat hwc; have hci := atc HATK.out hat; subst hci; rw [HHAS.out]; clear hat hwc)
      exact bodyPost_ret (v := .tuple #[.int .i64 i, .int .i64 ((n : Int) - i), .int .i64 0]) (by simp [results, Try.results32, go_sem]) rfl ⟨by rw [← HX.out.1, ← HX.out.2], HBB.out⟩
    · have HNE := Lib.hid (show ∀ i, i < n → rs a b P i ≠ rs a b P n from fun i hi he => hex ⟨i, hi, he⟩)
      have HHAS := Lib.hid (HOK.out.2.2 (rs a b P n) HF.out.wfs.1 HNE.out)
      have HOK2 := Lib.hid (MapOk.put H.out HOK.out HNE.out)
      have HN2 := Lib.hid (allNew_succ HNEW.out HNE.out)
      have hwfn : (Lit.int .i64 (n : Int)).wf = true := WalkArith.wf_i64 (by omega)
      have HWF := Lib.hid hwfn
      clear hex hwfn
      go_wp2_with (first | (at_lookup; refine wpList_lookup_own_ok_int _ rfl _ _ 89 rfl 86 3 .i64 keyed86 Try.underlying89 Try.underlying3 (Try.zeroValue3 _) w1.heap.size n D rfl HMAP.out _ _ rfl HKEY.out ?_; intro c hat hwc; rw [HHAS.out]; clear hat hwc) | (at_mapUpdate; refine wpList_mapUpdate_own _ rfl _ _ _ 89 rfl 86 3 keyed86 Try.underlying89 _ w1.heap.size n D rfl HMAP.out (by unfold maxLen; omega) _ _ _ rfl rfl HKEY.out _ [] (plainElem_int Try.underlying3 HWF.out) ?_; intro w3 hown3 hgrow3; have HAT3 := Lib.hid (HAT.out.grown hgrow3 (by omega)); have HMP3 := Lib.hid hown3; have HB3 := Lib.hid (HBB.out.grown hgrow3 HBB.out.size (fun k e => by cases e; omega)); clear hown3 hgrow3 hc0 hc1 hc2 hfz hlG; obtain ⟨hc0, hc1, hc2, hfz, hlG⟩ := HAT3.out.cells))
      refine (step_any (rs a b P n) b P HF.out _).mono ?_
      rintro e w4 ⟨rfl, b4⟩
      clear hc0 hc1 hc2 hfz hlG
      have HAT4 := Lib.hid (HAT3.out.keep (fun k hk => b4.block k hk))
      have HMP4 := Lib.hid (HMP3.out.kept (grown_below b4) (by simp))
      have HB4 := Lib.hid (HB3.out.trans (b4.mono HB3.out.size))
      obtain ⟨hc0, hc1, hc2, hfz, hlG⟩ := HAT4.out.cells
      clear b4
      have HAT5 := Lib.hid (HAT4.out.store (nx (rs a b P n) b P) b P)
      have HB5 := Lib.hid (below_store HB4.out (Nat.le_refl _) (.int .i64 (nx (rs a b P n) b P)) (.int .i64 b) (.int .i64 P))
      have HMP5 := Lib.hid (HMP4.out.kept (grown_store w4 w.heap.size (.int .i64 (nx (rs a b P n) b P)) (.int .i64 b) (.int .i64 P)) (by simp; omega))
      go_wp2_with fail
      go_roundw
      case rel => exact ⟨n + 1, _, by go_num, by rw [HRN.out]; exact HAT5.out, HMP5.out, HOK2.out, HN2.out, HB5.out⟩
      case measure => simp [intOf]; omega
theorem Again_no (a b p : Int) (h : ¬ FracI a b p) (w : World) :
    Calls Try.prog 32 #[.int .i64 a, .int .i64 b, .int .i64 p] w fun e w' => e = .returned (.tuple #[.int .i64 0, .int .i64 0, .int .i64 2]) ∧ Below w.heap.size w w' := by
  have HB1 := Lib.hid ((Below.refl w.heap.size w).alloc (Nat.le_refl _) (.cells #[.int .i64 a, .int .i64 b, .int .i64 p] 86))
  have HF := Lib.hid h
  clear h
  go_enter Try.func32, Try.ntmps32
  go_wp2_with fail
  refine (fvalid_any a b p false (by simp; exact HF.out) _).mono ?_
  rintro e w1 ⟨rfl, b1⟩
  have HB := Lib.hid (HB1.out.trans (b1.mono HB1.out.size))
  clear b1
  go_wp2_with fail
  exact bodyPost_ret (v := .tuple #[.int .i64 0, .int .i64 0, .int .i64 2]) (by simp [results, Try.results32, go_sem]) rfl ⟨rfl, HB.out⟩
end Go.Proofs.Ytdkobkghhnccgaa
