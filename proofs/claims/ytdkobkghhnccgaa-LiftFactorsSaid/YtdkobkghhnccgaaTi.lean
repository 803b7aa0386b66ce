/- Walks of Times, of the program and of the reference, and of LiftTimes. -/
import Derived.Test.YtdkobkghhnccgaaI
import Derived.Deep.OwnRows
namespace Go.Proofs.Ytdkobkghhnccgaa
open Go.RowKit
def addAt (l : List Int) (k : Nat) (x : Int) : List Int := l.set k (l.getD k 0 + x)
def rowk (f g : List Int) (i : Nat) (l : List Int) : Nat → List Int
  | 0 => l
  | j + 1 => addAt (rowk f g i l j) (i + j) (f.getD i 0 * g.getD j 0)
def tms (f g : List Int) : Nat → List Int
  | 0 => List.replicate (f.length + g.length - 1) 0
  | i + 1 => rowk f g i (tms f g i) g.length
/-- the product of two polynomials -/
def times (f g : List Int) : List Int := tms f g f.length
theorem rowk_length (f g : List Int) (i : Nat) (l : List Int) : ∀ j, (rowk f g i l j).length = l.length := by
  intro j
  induction j with
  | zero => rfl
  | succ j ih => rw [rowk, addAt, List.length_set, ih]
theorem tms_length (f g : List Int) : ∀ i, (tms f g i).length = f.length + g.length - 1 := by
  intro i
  induction i with
  | zero => simp [tms]
  | succ i ih => rw [tms, rowk_length, ih]
def Bd (l : List Int) (n : Nat) : Prop := ∀ k, -((n : Int) * 1000000) ≤ l.getD k 0 ∧ l.getD k 0 ≤ (n : Int) * 1000000
theorem mul_bd {a b : Int} (h1 : -1000 ≤ a) (h2 : a ≤ 1000) (h3 : -1000 ≤ b) (h4 : b ≤ 1000) : -1000000 ≤ a * b ∧ a * b ≤ 1000000 := by
  have p1 := Int.mul_nonneg (show 0 ≤ 1000 - a by omega) (show 0 ≤ 1000 + b by omega)
  have p2 := Int.mul_nonneg (show 0 ≤ 1000 + a by omega) (show 0 ≤ 1000 - b by omega)
  have p3 := Int.mul_nonneg (show 0 ≤ 1000 - a by omega) (show 0 ≤ 1000 - b by omega)
  have p4 := Int.mul_nonneg (show 0 ≤ 1000 + a by omega) (show 0 ≤ 1000 + b by omega)
  simp only [Int.sub_mul, Int.add_mul, Int.mul_sub, Int.mul_add] at p1 p2 p3 p4
  omega
theorem addAt_bd {l : List Int} {n : Nat} (h : Bd l n) (k : Nat) (x : Int) (h1 : -1000000 ≤ x) (h2 : x ≤ 1000000) : Bd (addAt l k x) (n + 1) := by
  intro i
  have a := h i
  have b := h k
  unfold addAt
  rw [List.getD_eq_getElem?_getD, List.getElem?_set]
  by_cases e : k = i
  · subst e
    by_cases hk : k < l.length
    · rw [if_pos rfl, if_pos hk]
      simp only [Option.getD_some]
      omega
    · rw [if_pos rfl, if_neg hk]
      simp
      omega
  · rw [if_neg e, ← List.getD_eq_getElem?_getD]
    omega
theorem coef_bd {f : List Int} (h : Poly f) (k : Nat) : -1000 ≤ f.getD k 0 ∧ f.getD k 0 ≤ 1000 := by
  by_cases e : k < f.length
  · exact h.1 k e
  · rw [show f.getD k 0 = 0 by simp [List.getD, List.getElem?_eq_none (show f.length ≤ k by omega)]]; omega
theorem rowk_bd {f g : List Int} (hf : Poly f) (hg : Poly g) (i : Nat) {l : List Int} {n : Nat} (h : Bd l n) : ∀ j, Bd (rowk f g i l j) (n + j) := by
  intro j
  induction j with
  | zero => exact h
  | succ j ih =>
    have a := coef_bd hf i
    have b := coef_bd hg j
    have c := mul_bd a.1 a.2 b.1 b.2
    exact addAt_bd ih (i + j) _ c.1 c.2
theorem tms_bd {f g : List Int} (hf : Poly f) (hg : Poly g) : ∀ i, Bd (tms f g i) (i * g.length) := by
  intro i
  induction i with
  | zero =>
    intro k
    have : (tms f g 0).getD k 0 = 0 := by
      by_cases h : k < f.length + g.length - 1
      · simp [tms, List.getD, h]
      · simp [tms, List.getD, List.getElem?_eq_none (show (List.replicate (f.length + g.length - 1) (0 : Int)).length ≤ k by simp; omega)]
    rw [this]; simp
  | succ i ih =>
    have := rowk_bd hf hg i ih g.length
    rw [tms, Nat.succ_mul]
    exact this

set_option maxRecDepth 100000 in
set_option maxHeartbeats 16000000 in
theorem rTimes_any (v1 v2 : Value) (f g : List Int) (hf : Poly f) (hg : Poly g) (w : World) (h1 : Ints w v1 f) (h2 : Ints w v2 g) :
    Calls Try.prog 27 #[v1, v2] w fun e w' => ∃ v', e = .returned v' ∧ Own w' w.heap.size v' (times f g) ∧ Below w.heap.size w w' := by
  have HF := Lib.hid hf
  have HG := Lib.hid hg
  have hf2 := hf.2.1
  have hf7 := hf.2.2.1
  have hg2 := hg.2.1
  have hg7 := hg.2.2.1
  obtain ⟨N, hN⟩ : ∃ N : Nat, N = f.length + g.length - 1 := ⟨_, rfl⟩
  have hmk : ∀ W : World, (Instr.makeSlice 22 (.int .i64 ((f.length : Int) + g.length - 1)) (.int .i64 ((f.length : Int) + g.length - 1))).run Try.prog W = .ok (.slice (some ⟨W.heap.size, 0, none⟩) N N) (W.alloc (.cells (madeCells #[.int .i64 0] N) 3)) := fun W => by
    have := run_make_row' 22 3 (.int .i64 0) 8 Try.underlying22 info3 rfl .i64 .i64 N (by omega) (by omega) W
    rw [show ((N : Nat) : Int) = (f.length : Int) + g.length - 1 by omega] at this
    exact this
  have HO := Lib.hid (show Own (w.alloc (.cells (madeCells #[.int .i64 0] N) 3)) w.heap.size (.slice (some ⟨w.heap.size, 0, none⟩) N N) (tms f g 0) from by
    have := Own.lit w w.heap.size (Nat.le_refl _) (madeCells #[.int .i64 0] N) (List.replicate N 0) N (by simp) (made_lit _) (by simp; omega)
    rw [tms, ← hN]; exact this)
  have HB0 := Lib.hid ((Below.refl w.heap.size w).alloc (Nat.le_refl _) (.cells (madeCells #[.int .i64 0] N) 3))
  have HNN := Lib.hid hN
  have hN1 : N + 1 ≤ f.length + g.length := by omega
  have hN2 : f.length + g.length ≤ N + 1 := by omega
  clear hN
  obtain ⟨_, A1, c1, rfl, _, hcr1⟩ := h1
  obtain ⟨_, A2, c2, rfl, _, hcr2⟩ := h2
  have HCF := Lib.hid hcr1
  have HCG := Lib.hid hcr2
  clear hcr1 hcr2 hf hg
  go_enter Try.func27, Try.ntmps27
  go_wp2_with fail
  clear hmk
  go_loopw [19] (fun i wr => ∃ m : Nat, m ≤ f.length ∧ i = .int .i64 m ∧ Own wr w.heap.size (.slice (some ⟨w.heap.size, 0, none⟩) N N) (tms f g m) ∧ Below w.heap.size w wr) (fun i _ => f.length - (intOf i).toNat)
  case atStart => exact ⟨0, by omega, rfl, HO.out, HB0.out⟩
  case round =>
    obtain ⟨m, hm, rfl, how, hb⟩ := hrel
    have HOW := Lib.hid how
    have HB := Lib.hid hb
    clear how hb
    by_cases hlt : m < f.length
    · obtain ⟨ad, rfl, hbl, hcell⟩ := HCF.out (by omega)
      have hcx := (HB.out.cell (p := ad.add m) (by rw [addr_block]; exact hbl)).trans (hcell m _ (getD_get f m hlt))
      have hfb := coef_bd HF.out m
      have HBD0 := Lib.hid (tms_bd HF.out HG.out m)
      have HTL := Lib.hid (tms_length f g m)
      have HTS := Lib.hid (show tms f g (m + 1) = rowk f g m (tms f g m) g.length from rfl)
      have HRX := Lib.hid (fun j => show rowk f g m (tms f g m) (j + 1) = addAt (rowk f g m (tms f g m) j) (m + j) (f.getD m 0 * g.getD j 0) from rfl)
      have HRL := Lib.hid (fun j => (rowk_length f g m (tms f g m) j).trans HTL.out)
      have HRB := Lib.hid (fun j => rowk_bd HF.out HG.out m HBD0.out j)
      have hmg : m * g.length ≤ 49 := Nat.mul_le_mul (show m ≤ 7 by omega) hg7
      have HR0 := Lib.hid (show rowk f g m (tms f g m) 0 = tms f g m from rfl)
      clear hcell
      generalize f.getD m 0 = x at *
      generalize rowk f g m (tms f g m) = ro at *
      go_wp2_with fail
      go_loopw [26] (fun j wi => ∃ k : Nat, k ≤ g.length ∧ j = .int .i64 k ∧ Own wi w.heap.size (.slice (some ⟨w.heap.size, 0, none⟩) N N) (ro k) ∧ Below w.heap.size w wi) (fun j _ => g.length - (intOf j).toNat)
      case atStart => exact ⟨0, by omega, rfl, by rw [HR0.out]; exact HOW.out, HB.out⟩
      case round =>
        obtain ⟨k, hk, rfl, how, hb⟩ := hrel
        have HOW2 := Lib.hid how
        have HB2 := Lib.hid hb
        clear how hb
        by_cases hltk : k < g.length
        · obtain ⟨ad2, rfl, hbl2, hcell2⟩ := HCG.out (by omega)
          have hcy := (HB2.out.cell (p := ad2.add k) (by rw [addr_block]; exact hbl2)).trans (hcell2 k _ (getD_get g k hltk))
          have hgb := coef_bd HG.out k
          have hxy := mul_bd hfb.1 hfb.2 hgb.1 hgb.2
          have hxy1 := hxy.1
          have hxy2 := hxy.2
          have hcz := HOW2.out.cells (m + k) (by rw [HRL.out k]; omega)
          have hzb := HRB.out k (m + k)
          have hzb1 : -100000000 ≤ (ro k).getD (m + k) 0 := by have := hzb.1; omega
          have hzb2 : (ro k).getD (m + k) 0 ≤ 100000000 := by have := hzb.2; omega
          have hfr := HOW2.out.free
          have HP := Lib.hid (HOW2.out.put (by rw [HRL.out k]; omega) (m + k) ((ro k).getD (m + k) 0 + x * g.getD k 0))
          have HRK := Lib.hid (HRX.out k)
          have HBS := Lib.hid (HB2.out.setCell (p := ⟨w.heap.size, m + k, none⟩) (Nat.le_refl _) (.int .i64 ((ro k).getD (m + k) 0 + x * g.getD k 0)))
          have hit : ((m : Int) + k).toNat = m + k := by omega
          have hmk2 : m + k < N := by omega
          clear hcell2 hgb hxy hzb
          rw [show (ro k).set (m + k) ((ro k).getD (m + k) 0 + x * g.getD k 0) = addAt (ro k) (m + k) (x * g.getD k 0) from rfl] at HP
          generalize (ro k).getD (m + k) 0 = z at *
          generalize g.getD k 0 = y at *
          go_wp2_with fail
          go_roundw
          case rel => exact ⟨k + 1, by omega, by go_num, by rw [HRK.out]; exact HP.out, HBS.out⟩
          case measure => simp [intOf]; omega
        · obtain rfl : k = g.length := by omega
          go_wp2_with fail
          go_roundw
          case rel => exact ⟨m + 1, by omega, by go_num, by rw [HTS.out]; exact HOW2.out, HB2.out⟩
          case measure => simp [intOf]; omega
    · obtain rfl : m = f.length := by omega
      have HOT := Lib.hid (show Own wr w.heap.size (.slice (some ⟨w.heap.size, 0, none⟩) N N) (times f g) from HOW.out)
      go_wp2_with fail
      go_ret
      exact ⟨_, rfl, HOT.out, HB.out⟩
set_option maxHeartbeats 4000000 in
theorem Times_bad (b1 b2 : Nat) (v1 v2 : Value) (f g : List Int) (h : ¬ (Poly f ∧ Poly g)) (w : World) (h1 : Own w b1 v1 f) (h2 : Own w b2 v2 g) :
    Calls Try.prog 25 #[v1, v2] w fun e w' => e = .returned (.tuple #[.slice none 0 0, .int .i64 2]) ∧ Below w.heap.size w w' := by
  have H1 := Lib.hid h1
  have H2 := Lib.hid h2
  by_cases hf : Poly f
  · have HF := Lib.hid hf
    have HG := Lib.hid (show ¬ Poly g from fun hg => h ⟨hf, hg⟩)
    clear h hf h1 h2
    go_enter Try.func25, Try.ntmps25
    go_wp2_with fail
    refine (valid_any b1 _ f true (by simp; exact HF.out) _ H1.out).mono ?_
    rintro e _ ⟨rfl, rfl⟩
    go_wp2_with fail
    refine (valid_any b2 _ g false (by simp; exact HG.out) _ H2.out).mono ?_
    rintro e _ ⟨rfl, rfl⟩
    go_wp2_with fail
    exact bodyPost_ret (v := .tuple #[.slice none 0 0, .int .i64 2]) (by simp [results, Try.results25, go_sem]) rfl ⟨rfl, Below.refl _ _⟩
  · have HF := Lib.hid hf
    clear h hf h1 h2
    go_enter Try.func25, Try.ntmps25
    go_wp2_with fail
    refine (valid_any b1 _ f false (by simp; exact HF.out) _ H1.out).mono ?_
    rintro e _ ⟨rfl, rfl⟩
    go_wp2_with fail
    exact bodyPost_ret (v := .tuple #[.slice none 0 0, .int .i64 2]) (by simp [results, Try.results25, go_sem]) rfl ⟨rfl, Below.refl _ _⟩

set_option maxRecDepth 100000 in
set_option maxHeartbeats 16000000 in
theorem Times_yes (b1 b2 : Nat) (v1 v2 : Value) (f g : List Int) (hf : Poly f) (hg : Poly g) (ht : Poly (times f g)) (w : World) (h1 : Own w b1 v1 f) (h2 : Own w b2 v2 g) :
    Calls Try.prog 25 #[v1, v2] w fun e w' => ∃ v', e = .returned (.tuple #[v', .int .i64 0]) ∧ Own w' w.heap.size v' (times f g) ∧ Below w.heap.size w w' := by
  have HF := Lib.hid hf
  have HG := Lib.hid hg
  have hf2 := hf.2.1
  have hf7 := hf.2.2.1
  have hg2 := hg.2.1
  have hg7 := hg.2.2.1
  obtain ⟨N, hN⟩ : ∃ N : Nat, N = f.length + g.length - 1 := ⟨_, rfl⟩
  have hmk : ∀ W : World, (Instr.makeSlice 81 (.int .i64 ((f.length : Int) + g.length - 1)) (.int .i64 ((f.length : Int) + g.length - 1))).run Try.prog W = .ok (.slice (some ⟨W.heap.size, 0, none⟩) N N) (W.alloc (.cells (madeCells #[.int .i64 0] N) 3)) := fun W => by
    have := run_make_row' 81 3 (.int .i64 0) 8 Try.underlying81 info3 rfl .i64 .i64 N (by omega) (by omega) W
    rw [show ((N : Nat) : Int) = (f.length : Int) + g.length - 1 by omega] at this
    exact this
  have HO := Lib.hid (show Own (w.alloc (.cells (madeCells #[.int .i64 0] N) 3)) w.heap.size (.slice (some ⟨w.heap.size, 0, none⟩) N N) (tms f g 0) from by
    have := Own.lit w w.heap.size (Nat.le_refl _) (madeCells #[.int .i64 0] N) (List.replicate N 0) N (by simp) (made_lit _) (by simp; omega)
    rw [tms, ← hN]; exact this)
  have HB0 := Lib.hid ((Below.refl w.heap.size w).alloc (Nat.le_refl _) (.cells (madeCells #[.int .i64 0] N) 3))
  have HNN := Lib.hid hN
  have hN1 : N + 1 ≤ f.length + g.length := by omega
  have hN2 : f.length + g.length ≤ N + 1 := by omega
  clear hN
  have H1 := Lib.hid h1
  have H2 := Lib.hid h2
  have HT := Lib.hid ht
  obtain ⟨_, A1, c1, rfl, _, hcr1⟩ := h1.ints (by omega)
  obtain ⟨_, A2, c2, rfl, _, hcr2⟩ := h2.ints (by omega)
  have HCF := Lib.hid hcr1
  have HCG := Lib.hid hcr2
  clear hcr1 hcr2 hf hg h1 h2 ht
  go_enter Try.func25, Try.ntmps25
  go_wp2_with fail
  refine (valid_any b1 _ f true (by simp; exact HF.out) _ H1.out).mono ?_
  rintro e _ ⟨rfl, rfl⟩
  go_wp2_with fail
  refine (valid_any b2 _ g true (by simp; exact HG.out) _ H2.out).mono ?_
  rintro e _ ⟨rfl, rfl⟩
  go_wp2_with fail
  clear hmk
  go_loopw [28] (fun i wr => ∃ m : Nat, m ≤ f.length ∧ i = .int .i64 m ∧ Own wr w.heap.size (.slice (some ⟨w.heap.size, 0, none⟩) N N) (tms f g m) ∧ Below w.heap.size w wr) (fun i _ => f.length - (intOf i).toNat)
  case atStart => exact ⟨0, by omega, rfl, HO.out, HB0.out⟩
  case round =>
    obtain ⟨m, hm, rfl, how, hb⟩ := hrel
    have HOW := Lib.hid how
    have HB := Lib.hid hb
    clear how hb
    by_cases hlt : m < f.length
    · obtain ⟨ad, rfl, hbl, hcell⟩ := HCF.out (by omega)
      have hcx := (HB.out.cell (p := ad.add m) (by rw [addr_block]; exact hbl)).trans (hcell m _ (getD_get f m hlt))
      have hfb := coef_bd HF.out m
      have HBD0 := Lib.hid (tms_bd HF.out HG.out m)
      have HTL := Lib.hid (tms_length f g m)
      have HTS := Lib.hid (show tms f g (m + 1) = rowk f g m (tms f g m) g.length from rfl)
      have HRX := Lib.hid (fun j => show rowk f g m (tms f g m) (j + 1) = addAt (rowk f g m (tms f g m) j) (m + j) (f.getD m 0 * g.getD j 0) from rfl)
      have HRL := Lib.hid (fun j => (rowk_length f g m (tms f g m) j).trans HTL.out)
      have HRB := Lib.hid (fun j => rowk_bd HF.out HG.out m HBD0.out j)
      have hmg : m * g.length ≤ 49 := Nat.mul_le_mul (show m ≤ 7 by omega) hg7
      have HR0 := Lib.hid (show rowk f g m (tms f g m) 0 = tms f g m from rfl)
      clear hcell
      generalize f.getD m 0 = x at *
      generalize rowk f g m (tms f g m) = ro at *
      go_wp2_with fail
      go_loopw [35] (fun j wi => ∃ k : Nat, k ≤ g.length ∧ j = .int .i64 k ∧ Own wi w.heap.size (.slice (some ⟨w.heap.size, 0, none⟩) N N) (ro k) ∧ Below w.heap.size w wi) (fun j _ => g.length - (intOf j).toNat)
      case atStart => exact ⟨0, by omega, rfl, by rw [HR0.out]; exact HOW.out, HB.out⟩
      case round =>
        obtain ⟨k, hk, rfl, how, hb⟩ := hrel
        have HOW2 := Lib.hid how
        have HB2 := Lib.hid hb
        clear how hb
        by_cases hltk : k < g.length
        · obtain ⟨ad2, rfl, hbl2, hcell2⟩ := HCG.out (by omega)
          have hcy := (HB2.out.cell (p := ad2.add k) (by rw [addr_block]; exact hbl2)).trans (hcell2 k _ (getD_get g k hltk))
          have hgb := coef_bd HG.out k
          have hxy := mul_bd hfb.1 hfb.2 hgb.1 hgb.2
          have hxy1 := hxy.1
          have hxy2 := hxy.2
          have hcz := HOW2.out.cells (m + k) (by rw [HRL.out k]; omega)
          have hzb := HRB.out k (m + k)
          have hzb1 : -100000000 ≤ (ro k).getD (m + k) 0 := by have := hzb.1; omega
          have hzb2 : (ro k).getD (m + k) 0 ≤ 100000000 := by have := hzb.2; omega
          have hfr := HOW2.out.free
          have HP := Lib.hid (HOW2.out.put (by rw [HRL.out k]; omega) (m + k) ((ro k).getD (m + k) 0 + x * g.getD k 0))
          have HRK := Lib.hid (HRX.out k)
          have HBS := Lib.hid (HB2.out.setCell (p := ⟨w.heap.size, m + k, none⟩) (Nat.le_refl _) (.int .i64 ((ro k).getD (m + k) 0 + x * g.getD k 0)))
          have hit : ((m : Int) + k).toNat = m + k := by omega
          have hmk2 : m + k < N := by omega
          clear hcell2 hgb hxy hzb
          rw [show (ro k).set (m + k) ((ro k).getD (m + k) 0 + x * g.getD k 0) = addAt (ro k) (m + k) (x * g.getD k 0) from rfl] at HP
          generalize (ro k).getD (m + k) 0 = z at *
          generalize g.getD k 0 = y at *
          go_wp2_with fail
          go_roundw
          case rel => exact ⟨k + 1, by omega, by go_num, by rw [HRK.out]; exact HP.out, HBS.out⟩
          case measure => simp [intOf]; omega
        · obtain rfl : k = g.length := by omega
          go_wp2_with fail
          go_roundw
          case rel => exact ⟨m + 1, by omega, by go_num, by rw [HTS.out]; exact HOW2.out, HB2.out⟩
          case measure => simp [intOf]; omega
    · obtain rfl : m = f.length := by omega
      have HOT := Lib.hid (show Own wr w.heap.size (.slice (some ⟨w.heap.size, 0, none⟩) N N) (times f g) from HOW.out)
      go_wp2_with fail
      refine (valid_any w.heap.size _ (times f g) true (by simp; exact HT.out) _ HOT.out).mono ?_
      rintro e _ ⟨rfl, rfl⟩
      go_wp2_with fail
      exact bodyPost_ret (v := .tuple #[.slice (some ⟨w.heap.size, 0, none⟩) N N, .int .i64 0]) (by simp [results, Try.results25, go_sem]) rfl ⟨_, rfl, HOT.out, HB.out⟩

set_option maxRecDepth 100000 in
set_option maxHeartbeats 16000000 in
theorem Times_no (b1 b2 : Nat) (v1 v2 : Value) (f g : List Int) (hf : Poly f) (hg : Poly g) (ht : ¬ Poly (times f g)) (w : World) (h1 : Own w b1 v1 f) (h2 : Own w b2 v2 g) :
    Calls Try.prog 25 #[v1, v2] w fun e w' => e = .returned (.tuple #[.slice none 0 0, .int .i64 2]) ∧ Below w.heap.size w w' := by
  have HF := Lib.hid hf
  have HG := Lib.hid hg
  have hf2 := hf.2.1
  have hf7 := hf.2.2.1
  have hg2 := hg.2.1
  have hg7 := hg.2.2.1
  obtain ⟨N, hN⟩ : ∃ N : Nat, N = f.length + g.length - 1 := ⟨_, rfl⟩
  have hmk : ∀ W : World, (Instr.makeSlice 81 (.int .i64 ((f.length : Int) + g.length - 1)) (.int .i64 ((f.length : Int) + g.length - 1))).run Try.prog W = .ok (.slice (some ⟨W.heap.size, 0, none⟩) N N) (W.alloc (.cells (madeCells #[.int .i64 0] N) 3)) := fun W => by
    have := run_make_row' 81 3 (.int .i64 0) 8 Try.underlying81 info3 rfl .i64 .i64 N (by omega) (by omega) W
    rw [show ((N : Nat) : Int) = (f.length : Int) + g.length - 1 by omega] at this
    exact this
  have HO := Lib.hid (show Own (w.alloc (.cells (madeCells #[.int .i64 0] N) 3)) w.heap.size (.slice (some ⟨w.heap.size, 0, none⟩) N N) (tms f g 0) from by
    have := Own.lit w w.heap.size (Nat.le_refl _) (madeCells #[.int .i64 0] N) (List.replicate N 0) N (by simp) (made_lit _) (by simp; omega)
    rw [tms, ← hN]; exact this)
  have HB0 := Lib.hid ((Below.refl w.heap.size w).alloc (Nat.le_refl _) (.cells (madeCells #[.int .i64 0] N) 3))
  have HNN := Lib.hid hN
  have hN1 : N + 1 ≤ f.length + g.length := by omega
  have hN2 : f.length + g.length ≤ N + 1 := by omega
  clear hN
  have H1 := Lib.hid h1
  have H2 := Lib.hid h2
  have HT := Lib.hid ht
  obtain ⟨_, A1, c1, rfl, _, hcr1⟩ := h1.ints (by omega)
  obtain ⟨_, A2, c2, rfl, _, hcr2⟩ := h2.ints (by omega)
  have HCF := Lib.hid hcr1
  have HCG := Lib.hid hcr2
  clear hcr1 hcr2 hf hg h1 h2 ht
  go_enter Try.func25, Try.ntmps25
  go_wp2_with fail
  refine (valid_any b1 _ f true (by simp; exact HF.out) _ H1.out).mono ?_
  rintro e _ ⟨rfl, rfl⟩
  go_wp2_with fail
  refine (valid_any b2 _ g true (by simp; exact HG.out) _ H2.out).mono ?_
  rintro e _ ⟨rfl, rfl⟩
  go_wp2_with fail
  clear hmk
  go_loopw [28] (fun i wr => ∃ m : Nat, m ≤ f.length ∧ i = .int .i64 m ∧ Own wr w.heap.size (.slice (some ⟨w.heap.size, 0, none⟩) N N) (tms f g m) ∧ Below w.heap.size w wr) (fun i _ => f.length - (intOf i).toNat)
  case atStart => exact ⟨0, by omega, rfl, HO.out, HB0.out⟩
  case round =>
    obtain ⟨m, hm, rfl, how, hb⟩ := hrel
    have HOW := Lib.hid how
    have HB := Lib.hid hb
    clear how hb
    by_cases hlt : m < f.length
    · obtain ⟨ad, rfl, hbl, hcell⟩ := HCF.out (by omega)
      have hcx := (HB.out.cell (p := ad.add m) (by rw [addr_block]; exact hbl)).trans (hcell m _ (getD_get f m hlt))
      have hfb := coef_bd HF.out m
      have HBD0 := Lib.hid (tms_bd HF.out HG.out m)
      have HTL := Lib.hid (tms_length f g m)
      have HTS := Lib.hid (show tms f g (m + 1) = rowk f g m (tms f g m) g.length from rfl)
      have HRX := Lib.hid (fun j => show rowk f g m (tms f g m) (j + 1) = addAt (rowk f g m (tms f g m) j) (m + j) (f.getD m 0 * g.getD j 0) from rfl)
      have HRL := Lib.hid (fun j => (rowk_length f g m (tms f g m) j).trans HTL.out)
      have HRB := Lib.hid (fun j => rowk_bd HF.out HG.out m HBD0.out j)
      have hmg : m * g.length ≤ 49 := Nat.mul_le_mul (show m ≤ 7 by omega) hg7
      have HR0 := Lib.hid (show rowk f g m (tms f g m) 0 = tms f g m from rfl)
      clear hcell
      generalize f.getD m 0 = x at *
      generalize rowk f g m (tms f g m) = ro at *
      go_wp2_with fail
      go_loopw [35] (fun j wi => ∃ k : Nat, k ≤ g.length ∧ j = .int .i64 k ∧ Own wi w.heap.size (.slice (some ⟨w.heap.size, 0, none⟩) N N) (ro k) ∧ Below w.heap.size w wi) (fun j _ => g.length - (intOf j).toNat)
      case atStart => exact ⟨0, by omega, rfl, by rw [HR0.out]; exact HOW.out, HB.out⟩
      case round =>
        obtain ⟨k, hk, rfl, how, hb⟩ := hrel
        have HOW2 := Lib.hid how
        have HB2 := Lib.hid hb
        clear how hb
        by_cases hltk : k < g.length
        · obtain ⟨ad2, rfl, hbl2, hcell2⟩ := HCG.out (by omega)
          have hcy := (HB2.out.cell (p := ad2.add k) (by rw [addr_block]; exact hbl2)).trans (hcell2 k _ (getD_get g k hltk))
          have hgb := coef_bd HG.out k
          have hxy := mul_bd hfb.1 hfb.2 hgb.1 hgb.2
          have hxy1 := hxy.1
          have hxy2 := hxy.2
          have hcz := HOW2.out.cells (m + k) (by rw [HRL.out k]; omega)
          have hzb := HRB.out k (m + k)
          have hzb1 : -100000000 ≤ (ro k).getD (m + k) 0 := by have := hzb.1; omega
          have hzb2 : (ro k).getD (m + k) 0 ≤ 100000000 := by have := hzb.2; omega
          have hfr := HOW2.out.free
          have HP := Lib.hid (HOW2.out.put (by rw [HRL.out k]; omega) (m + k) ((ro k).getD (m + k) 0 + x * g.getD k 0))
          have HRK := Lib.hid (HRX.out k)
          have HBS := Lib.hid (HB2.out.setCell (p := ⟨w.heap.size, m + k, none⟩) (Nat.le_refl _) (.int .i64 ((ro k).getD (m + k) 0 + x * g.getD k 0)))
          have hit : ((m : Int) + k).toNat = m + k := by omega
          have hmk2 : m + k < N := by omega
          clear hcell2 hgb hxy hzb
          rw [show (ro k).set (m + k) ((ro k).getD (m + k) 0 + x * g.getD k 0) = addAt (ro k) (m + k) (x * g.getD k 0) from rfl] at HP
          generalize (ro k).getD (m + k) 0 = z at *
          generalize g.getD k 0 = y at *
          go_wp2_with fail
          go_roundw
          case rel => exact ⟨k + 1, by omega, by go_num, by rw [HRK.out]; exact HP.out, HBS.out⟩
          case measure => simp [intOf]; omega
        · obtain rfl : k = g.length := by omega
          go_wp2_with fail
          go_roundw
          case rel => exact ⟨m + 1, by omega, by go_num, by rw [HTS.out]; exact HOW2.out, HB2.out⟩
          case measure => simp [intOf]; omega
    · obtain rfl : m = f.length := by omega
      have HOT := Lib.hid (show Own wr w.heap.size (.slice (some ⟨w.heap.size, 0, none⟩) N N) (times f g) from HOW.out)
      go_wp2_with fail
      refine (valid_any w.heap.size _ (times f g) false (by simp; exact HT.out) _ HOT.out).mono ?_
      rintro e _ ⟨rfl, rfl⟩
      go_wp2_with fail
      exact bodyPost_ret (v := .tuple #[.slice none 0 0, .int .i64 2]) (by simp [results, Try.results25, go_sem]) rfl ⟨rfl, HB.out⟩

end Go.Proofs.Ytdkobkghhnccgaa
