/- Walk of gaps: the map of known counts. -/
import Derived.Test.YtpgpkgnljoedaaaKm
import Derived.Test.YtpgpkgnljoedaaaC
import Derived.Test.YtpgpkgnljoedaaaZ
import Derived.Maps.OwnSet
import Derived.Maps.OwnOps
import Derived.Maps.Views
import Derived.DeepKeys4
import Derived.RegionTactic
namespace Go.Proofs.Ytpgpkgnljoedaaa
open Go.RowKit
theorem keyed77 : Maps.Keyed Try.prog 77 := Maps.Keyed.of_law (deep_law_laid laidOut (m := 3) (by omega) (of_decide_eq_true (by kernel_rfl)) (by kernel_rfl) (by kernel_rfl))
theorem keyType77 : Try.prog.keyType 77 = true := by kernel_rfl
theorem cells77 : Try.prog.cellsOf 77 = 2 := by kernel_rfl
theorem wf_small {a : Int} (h0 : -1000000 ≤ a) (h1 : a ≤ 1000000) : (Lit.int .i64 a).wf = true := WalkArith.wf_i64 (by omega)
theorem lits77 (a b : Int) (ha : (Lit.int .i64 a).wf = true) (hb : (Lit.int .i64 b).wf = true) (n : Nat) :
    Try.prog.keyLits (n + 2) 77 [.int .i64 a, .int .i64 b] = some [.int .i64 a, .int .i64 b] := by
  simp [Program.keyLits, Try.underlying77, Try.underlying3, cells77, cells3, ha, hb, List.range_succ]
def prv (a b : Int) : Value := .agg #[.int .i64 a, .int .i64 b]
def kl (a b : Int) : Lit := .string (keyBytes [.int .i64 a, .int .i64 b])
theorem types77 : Try.prog.types.size + 1 = (Try.prog.types.size - 1) + 2 := by
  have : 1 ≤ Try.prog.types.size := of_decide_eq_true (by kernel_rfl)
  omega
theorem key77 (a b : Int) (ha : (Lit.int .i64 a).wf = true) (hb : (Lit.int .i64 b).wf = true) : keyOf Try.prog 77 (prv a b) = some (kl a b) := by
  unfold keyOf prv kl
  rw [Try.underlying77]
  simp only [keyType77, Bool.true_and]
  rw [if_pos (by simp [Value.formed, Try.underlying77, cells77]), types77]
  rw [show (Value.agg #[.int .i64 a, .int .i64 b]).cells.toList = [.int .i64 a, .int .i64 b] from rfl, lits77 a b ha hb]
  rfl
theorem kl_inj {a a' b b' : Int} (ha : (Lit.int .i64 a).wf = true) (ha' : (Lit.int .i64 a').wf = true) (hb : (Lit.int .i64 b).wf = true) (hb' : (Lit.int .i64 b').wf = true) (h : kl a b = kl a' b') : a = a' ∧ b = b' := by
  have h1 := key77 a b ha hb
  have h2 := key77 a' b' ha' hb'
  rw [h] at h1
  have := keyed77.inj h1 h2
  simpa [prv] using this
/-! ### what the map holds -/
theorem nodup_length : ∀ (N : Nat) (S : List Nat), S.Nodup → (∀ x ∈ S, x < N) → S.length ≤ N := by
  intro N
  induction N with
  | zero =>
    intro S _ h
    match S, h with
    | [], _ => exact Nat.le_refl _
    | x :: S, h => exact absurd (h x List.mem_cons_self) (by omega)
  | succ N ih =>
    intro S hn h
    have h1 : (S.erase N).length ≤ N := ih _ (hn.erase N) (fun x hx => by
      have h2 := (List.Nodup.mem_erase_iff hn).1 hx
      have h3 := h x h2.2
      have h4 := h2.1
      omega)
    have h2 := List.length_erase (a := N) (l := S)
    split at h2 <;> omega
def GapOk (g : Nat) (D : DataW Unit) (S : List Nat) : Prop :=
  Maps.IsMap D ∧ S.Nodup ∧ (∀ x ∈ S, x < 20000) ∧
  ∀ n p : Nat, n ≤ 100 → p ≤ 102 → (n * 128 + p ∈ S ∧ Maps.has D (kl n p) = true ∧ D.atKey (kl n p) (.lit (.int .i64 0)) = .lit (.int .i64 (gap g n p : Nat))) ∨ (n * 128 + p ∉ S ∧ Maps.has D (kl n p) = false)
theorem GapOk.zero (g : Nat) : GapOk g (.map []) [] :=
  ⟨Maps.isMap_empty, List.nodup_nil, fun x hx => by simp at hx, fun n p _ _ => .inr ⟨by simp, rfl⟩⟩
theorem GapOk.put {g : Nat} {D : DataW Unit} {S : List Nat} (h : GapOk g D S) (n p : Nat) (hn : n ≤ 100) (hp : p ≤ 102) (hs : n * 128 + p ∉ S) :
    GapOk g (D.put (kl n p) (.lit (.int .i64 (gap g n p : Nat)))) ((n * 128 + p) :: S) := by
  obtain ⟨h1, h2, h3, h4⟩ := h
  have hkl := keyed77.key (key77 n p (wf_small (by omega) (by omega)) (wf_small (by omega) (by omega)))
  refine ⟨h1.put _ _, List.nodup_cons.2 ⟨hs, h2⟩, fun x hx => ?_, fun n' p' hn' hp' => ?_⟩
  · rcases List.mem_cons.1 hx with rfl | hx
    · omega
    · exact h3 x hx
  · by_cases e : n' = n ∧ p' = p
    · obtain ⟨rfl, rfl⟩ := e
      exact .inl ⟨List.mem_cons_self, Maps.has_put_same h1 hkl _, Maps.atKey_put_same h1 hkl _ _⟩
    · have hk : kl n' p' ≠ kl n p := fun hk => by
        have := kl_inj (wf_small (by omega) (by omega)) (wf_small (by omega) (by omega)) (wf_small (by omega) (by omega)) (wf_small (by omega) (by omega)) hk
        exact e ⟨by omega, by omega⟩
      have hc : n' * 128 + p' ≠ n * 128 + p := fun hc => e ⟨by omega, by omega⟩
      rcases h4 n' p' hn' hp' with ⟨a1, a2, a3⟩ | ⟨a1, a2⟩
      · exact .inl ⟨List.mem_cons_of_mem _ a1, by rw [Maps.has_put_other hk]; exact a2, by rw [Maps.atKey_put_other hk]; exact a3⟩
      · exact .inr ⟨by simp only [List.mem_cons, not_or]; exact ⟨hc, a1⟩, by rw [Maps.has_put_other hk]; exact a2⟩
/-- the map of known counts in block b -/
def GM (g : Nat) (w : World) (b : Nat) (S : List Nat) : Prop := ∃ (D : DataW Unit), w.ownsMap Try.prog 77 (plainElem Try.prog 3) b S.length D ∧ GapOk g D S
theorem GM.lt {g : Nat} {w : World} {b : Nat} {S : List Nat} (h : GM g w b S) : b < w.heap.size := by obtain ⟨D, h, _⟩ := h; exact h.lt
theorem GM.kept {g : Nat} {w w' : World} {b : Nat} {S : List Nat} (h : GM g w b S) (hb : w'.heap[b]? = w.heap[b]?) : GM g w' b S := by
  obtain ⟨D, h, h2⟩ := h
  refine ⟨D, ?_, h2⟩
  obtain ⟨es, clock, h3, h4⟩ := h
  exact ⟨es, clock, hb.trans h3, h4⟩
/-- a block with two numbers -/
def AtK (w : World) (B : Nat) (a b : Int) : Prop := w.heap[B]? = some (.cells #[.int .i64 a, .int .i64 b] 77 (0, 0))
theorem AtK.cells {w : World} {B : Nat} {a b : Int} (h : AtK w B a b) : w.cell? ⟨B, 0, none⟩ = some (.int .i64 a) ∧ w.cell? ⟨B, 1, none⟩ = some (.int .i64 b) ∧ (∀ o, w.frozen? ⟨B, o, none⟩ = false) ∧ B < w.heap.size := by
  unfold AtK at h
  refine ⟨by simp [World.cell?, h], by simp [World.cell?, h], fun o => by simp [World.frozen?, h], (Array.getElem?_eq_some_iff.1 h).1⟩
theorem AtK.new (w : World) (a b : Int) : AtK (w.alloc (.cells #[.int .i64 a, .int .i64 b] 77)) w.heap.size a b := heap_alloc_new w _
theorem AtK.grown {w w' : World} {B M : Nat} {a b : Int} (h : AtK w B a b) (hg : w.grownBy w' (some M)) (hne : B ≠ M) : AtK w' B a b := by
  unfold AtK at h ⊢
  rw [hg.block B (Array.getElem?_eq_some_iff.1 h).1 (by simpa using hne)]; exact h
theorem grown_trans {w w1 w2 : World} {j : Option Nat} (h1 : w.grownBy w1 j) (h2 : w1.grownBy w2 j) : w.grownBy w2 j :=
  ⟨h2.os.trans h1.os, h2.tape.trans h1.tape, h2.output.trans h1.output, Nat.le_trans h1.size h2.size, fun k hk hne => (h2.block k (Nat.lt_of_lt_of_le hk h1.size) hne).trans (h1.block k hk hne)⟩
/-- the keys that came are of numbers below m -/
def Fresh (S S' : List Nat) (m : Nat) : Prop := ∀ x ∈ S', x ∈ S ∨ x < m * 128
theorem Fresh.refl (S : List Nat) (m : Nat) : Fresh S S m := fun _ h => .inl h
theorem Fresh.trans {S S' S'' : List Nat} {m k : Nat} (h : Fresh S S' m) (h' : Fresh S' S'' k) (hk : k ≤ m) : Fresh S S'' m := fun x hx => by
  rcases h' x hx with h1 | h1
  · exact h x h1
  · exact .inr (by omega)
theorem grown_refl (w : World) (j : Option Nat) : w.grownBy w j := ⟨rfl, rfl, rfl, Nat.le_refl _, fun _ _ _ => rfl⟩
theorem grown_alloc (w : World) (j : Option Nat) (o : Obj) : w.grownBy (w.alloc o) j := ⟨rfl, rfl, rfl, by simp, fun k hk _ => Below.heap_alloc w o k hk⟩
theorem atc {D : DataW Unit} {k : Lit} {z : DataW Unit} {i c : Int} (h : D.atKey k z = .lit (.int .i64 i)) (h2 : D.atKey k z = .lit (.int .i64 c)) : c = i := by
  rw [h] at h2
  injection h2 with h3
  injection h3 with _ h4
  exact h4.symm
set_option maxRecDepth 100000 in
set_option maxHeartbeats 8000000 in
theorem gaps_any (g : Nat) (hg : g = 1 ∨ g = 2) (b : Nat) : ∀ N n : Nat, n ≤ N → n ≤ 100 → ∀ p : Nat, 1 ≤ p → p ≤ 102 → ∀ w S, GM g w b S →
    Calls Try.prog 65 #[.int .i64 n, .int .i64 p, .int .i64 g, .map (some b)] w fun e w' => e = .returned (.int .i64 (gap g n p : Nat)) ∧ (∃ S', GM g w' b S' ∧ Fresh S S' (n + 1)) ∧ w.grownBy w' (some b) := by
  intro N
  induction N with
  | zero =>
    intro n hn _ p hp _ w S hm
    obtain rfl : n = 0 := by omega
    have HM := Lib.hid hm
    clear hm
    have HZ := Lib.hid (gap_zero g p)
    go_enter Try.func65, Try.ntmps65
    go_wp2_with fail
    go_ret
    exact ⟨by rw [HZ.out]; rfl, ⟨S, HM.out, Fresh.refl _ _⟩, grown_refl _ _⟩
  | succ N ih =>
    intro n hn hn1 p hp hp1 w S hm
    by_cases h0 : n = 0
    · subst h0
      have HM := Lib.hid hm
      clear hm
      have HZ := Lib.hid (gap_zero g p)
      go_enter Try.func65, Try.ntmps65
      go_wp2_with fail
      go_ret
      exact ⟨by rw [HZ.out]; rfl, ⟨S, HM.out, Fresh.refl _ _⟩, grown_refl _ _⟩
    · have HIH := Lib.hid ih
      have HG := Lib.hid hg
      have hg2 : g ≤ 2 := by omega
      have hg1 : 1 ≤ g := by omega
      have hbl := hm.lt
      have hn0 : ((n : Int) == 0) = false := by rw [beq_eq_false_iff_ne]; omega
      have HPOS := Lib.hid (gap_pos g n p (by omega) hp)
      have HSUC := Lib.hid (fun k => show gsum (gap g) g n p (k + 1) = gsum (gap g) g n p k + gap g (n - (p + k)) (p + k + g) from rfl)
      have HSZ := Lib.hid (show gsum (gap g) g n p 0 = 0 from rfl)
      have HBD := Lib.hid (fun k hk => gsum_bd g n p k hg (by omega) hn1 hp hk)
      have HGB := Lib.hid (gap_bd g n p hg hn1 hp)
      have HKEY := Lib.hid (show keyOf Try.prog 77 (.agg #[.int .i64 n, .int .i64 p]) = some (kl n p) from key77 n p (wf_small (by omega) (by omega)) (wf_small (by omega) (by omega)))
      obtain ⟨D, hown, hok⟩ := hm
      have HM1 := Lib.hid (hown.kept (grown_alloc w none (.cells #[.int .i64 n, .int .i64 p] 77)) (by simp))
      have HOK := Lib.hid hok
      have HOWN := Lib.hid hown
      clear ih hg hown
      rcases hok.2.2.2 n p hn1 (by omega) with ⟨hs, hhas, hat0⟩ | ⟨hs, hhas⟩
      · have HHAS := Lib.hid hhas
        have HATK := Lib.hid hat0
        clear hok hs hhas hat0
        go_enter Try.func65, Try.ntmps65
        go_wp2_with (at_lookup; refine wpList_lookup_own_ok_int _ rfl _ _ 60 rfl 77 3 .i64 keyed77 Try.underlying60 Try.underlying3 (Try.zeroValue3 _) b S.length D rfl HM1.out _ _ rfl HKEY.out ?_; intro c hat hwc; have hci := atc HATK.out hat; subst hci; rw [HHAS.out]; clear hat hwc)
        go_ret
        exact ⟨rfl, ⟨S, ⟨D, HM1.out, HOK.out⟩, Fresh.refl _ _⟩, grown_alloc _ _ _⟩
      · have HHAS := Lib.hid hhas
        have HS := Lib.hid hs
        clear hok hs hhas
        have HA1 := Lib.hid (AtK.new w n p)
        have HGM1 := Lib.hid (show GM g (w.alloc (.cells #[.int .i64 n, .int .i64 p] 77)) b S from ⟨D, HM1.out, HOK.out⟩)
        have HGR1 := Lib.hid (grown_alloc w (some b) (.cells #[.int .i64 n, .int .i64 p] 77))
        go_enter Try.func65, Try.ntmps65
        go_wp2_with (at_lookup; refine wpList_lookup_own_ok_int _ rfl _ _ 60 rfl 77 3 .i64 keyed77 Try.underlying60 Try.underlying3 (Try.zeroValue3 _) b S.length D rfl HM1.out _ _ rfl HKEY.out ?_; intro c hat hwc; rw [HHAS.out]; clear hat hwc)
        go_loopw [12, 13] (fun o x wr => ∃ k : Nat, k ≤ n + 1 - p ∧ x = .int .i64 ((p : Int) + k) ∧ o = .int .i64 (gsum (gap g) g n p k : Nat) ∧ (∃ S', GM g wr b S' ∧ Fresh S S' n) ∧ AtK wr w.heap.size n p ∧ w.grownBy wr (some b))
          (fun _ x _ => n + 200 - (intOf x).toNat)
        case atStart => exact ⟨0, by omega, by simp, by rw [HSZ.out]; rfl, ⟨S, HGM1.out, Fresh.refl _ _⟩, HA1.out, HGR1.out⟩
        case round =>
          obtain ⟨k, hk, rfl, rfl, ⟨S1, hgm, hfr⟩, hak, hgr⟩ := hrel
          have HFR := Lib.hid hfr
          have HGM := Lib.hid hgm
          have HAK := Lib.hid hak
          have HGR := Lib.hid hgr
          have hbd := HBD.out k (by omega)
          clear hgm hak hgr hfr
          by_cases hlt : p + k ≤ n
          · have d1 : decide ((p : Int) + k ≤ n) = true := decide_eq_true (by omega)
            have hs := HSUC.out k
            have hbd2 := HBD.out (k + 1) (by omega)
            have hrec := HIH.out (n - (p + k)) (by omega) (by omega) (p + k + g) (by omega) (by omega) _ _ HGM.out
            rw [show ((n - (p + k) : Nat) : Int) = (n : Int) - ((p : Int) + k) by omega, show ((p + k + g : Nat) : Int) = (p : Int) + k + g by omega] at hrec
            have HREC := Lib.hid hrec
            have HSS := Lib.hid hs
            rw [hs] at hbd2
            clear hrec hs
            generalize gap g (n - (p + k)) (p + k + g) = y at *
            generalize gsum (gap g) g n p k = x at *
            go_wp2_with fail
            refine HREC.out.mono ?_
            rintro e w2 ⟨rfl, ⟨S2, hgm2, hfr2⟩, hgr2⟩
            have HFR2 := Lib.hid (HFR.out.trans hfr2 (by omega))
            have HGM2 := Lib.hid hgm2
            have HGR2 := Lib.hid hgr2
            clear hgm2 hgr2 HREC hfr2
            go_wp2_with fail
            go_roundw
            case rel => exact ⟨k + 1, by omega, by go_num, by rw [HSS.out]; go_num, ⟨S2, HGM2.out, HFR2.out⟩, HAK.out.grown HGR2.out (by omega), grown_trans HGR.out HGR2.out⟩
            case measure => simp [intOf]; omega
          · have d1 : decide ((p : Int) + k ≤ n) = false := decide_eq_false (by omega)
            obtain rfl : k = n + 1 - p := by omega
            have HPX := Lib.hid HPOS.out
            rw [← HPX.out]
            have hgb := HGB.out
            obtain ⟨c0, c1, cf, cl⟩ := HAK.out.cells
            obtain ⟨D2, hown2, hok2⟩ := HGM.out
            have hlen := nodup_length 20000 S1 hok2.2.1 hok2.2.2.1
            have hbl2 := hown2.lt
            have HOWN2 := Lib.hid hown2
            have HOK2 := Lib.hid hok2
            have hwf : (Lit.int .i64 ((gap g n p : Nat) : Int)).wf = true := wf_small (by omega) (by omega)
            have HWF := Lib.hid hwf
            clear hown2 hok2 hwf
            have HPUT := Lib.hid (HOK2.out.put n p hn1 (by omega) (fun hin => by
              rcases HFR.out _ hin with h | h
              · exact HS.out h
              · omega))
            have HF3 := Lib.hid (show Fresh S ((n * 128 + p) :: S1) (n + 1) from fun x hx => by
              rcases List.mem_cons.1 hx with rfl | hx
              · exact .inr (by omega)
              · rcases HFR.out x hx with h | h
                · exact .inl h
                · exact .inr (by omega))
            generalize hy : gap g n p = y at *
            have HY := Lib.hid hy
            clear hy
            go_wp2_with (at_mapUpdate; refine wpList_mapUpdate_own _ rfl _ _ _ 60 rfl 77 3 keyed77 Try.underlying60 _ b S1.length D2 rfl HOWN2.out (by unfold maxLen; omega) _ _ _ rfl rfl HKEY.out _ [] (plainElem_int Try.underlying3 HWF.out) ?_; intro w3 hown3 hgrow3; have HMP3 := Lib.hid hown3; have HGR3 := Lib.hid (grown_trans HGR.out hgrow3); clear hown3 hgrow3)
            go_ret
            exact ⟨by rw [HY.out]; rfl, ⟨(n * 128 + p) :: S1, ⟨_, HMP3.out, HPUT.out⟩, HF3.out⟩, HGR3.out⟩
end Go.Proofs.Ytpgpkgnljoedaaa
