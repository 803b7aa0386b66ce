/- Walks of Digits of the program. -/
import Derived.Test.YtdkobkghhnccgaaDk
import Derived.Outline
namespace Go.Proofs.Ytdkobkghhnccgaa
open Go.RowKit
/-- the cell of a ratio -/
def AtB (w : World) (B : Nat) (a b : Int) (P : Nat) : Prop := w.heap[B]? = some (.cells #[.int .i64 a, .int .i64 b, .int .i64 P] 86 (0, 0))
theorem AtB.cells {w : World} {B : Nat} {a b : Int} {P : Nat} (h : AtB w B a b P) : w.cell? ⟨B, 0, none⟩ = some (.int .i64 a) ∧ w.cell? ⟨B, 1, none⟩ = some (.int .i64 b) ∧ w.cell? ⟨B, 2, none⟩ = some (.int .i64 P) ∧ (∀ o, w.frozen? ⟨B, o, none⟩ = false) ∧ B < w.heap.size := by
  unfold AtB at h
  refine ⟨by simp [World.cell?, h], by simp [World.cell?, h], by simp [World.cell?, h], fun o => by simp [World.frozen?, h], (Array.getElem?_eq_some_iff.1 h).1⟩
theorem AtB.keep {w w' : World} {B : Nat} {a b : Int} {P : Nat} (h : AtB w B a b P) (hb : ∀ k, k < w.heap.size → w'.heap[k]? = w.heap[k]?) : AtB w' B a b P := by
  unfold AtB at h ⊢
  rw [hb B (Array.getElem?_eq_some_iff.1 h).1]; exact h
theorem AtB.new (w : World) (a b : Int) (P : Nat) : AtB (w.alloc (.cells #[.int .i64 a, .int .i64 b, .int .i64 P] 86)) w.heap.size a b P := heap_alloc_new w _
theorem AtB.store {w : World} {B : Nat} {a b : Int} {P : Nat} (h : AtB w B a b P) (a' b' : Int) (P' : Nat) : AtB (((w.setCell ⟨B, 0, none⟩ (.int .i64 a')).setCell ⟨B, 1, none⟩ (.int .i64 b')).setCell ⟨B, 2, none⟩ (.int .i64 P')) B a' b' P' := by
  unfold AtB at h ⊢
  simp [World.setCell, Array.getElem?_modify, h]
theorem below_store {w w' : World} {B C : Nat} (h : Below C w w') (hC : C ≤ B) (x y z : Value) : Below C w (((w'.setCell ⟨B, 0, none⟩ x).setCell ⟨B, 1, none⟩ y).setCell ⟨B, 2, none⟩ z) :=
  ((h.setCell (p := ⟨B, 0, none⟩) hC x).setCell (p := ⟨B, 1, none⟩) hC y).setCell (p := ⟨B, 2, none⟩) hC z
theorem heap_store {w : World} {B k : Nat} (h : k ≠ B) (x y z : Value) : (((w.setCell ⟨B, 0, none⟩ x).setCell ⟨B, 1, none⟩ y).setCell ⟨B, 2, none⟩ z).heap[k]? = w.heap[k]? := by
  rw [heap_setCell_ne _ _ _ _ h, heap_setCell_ne _ _ _ _ h, heap_setCell_ne _ _ _ _ h]
set_option maxRecDepth 100000 in
set_option maxHeartbeats 8000000 in
theorem Digits_yes (a b : Int) (P n : Nat) (h : Frc a b P) (hfi : FracI a b P) (hn : n ≤ 40) (w : World) :
    Calls Try.prog 31 #[.int .i64 a, .int .i64 b, .int .i64 P, .int .i64 n] w fun e w' => ∃ v', e = .returned (.tuple #[v', .int .i64 0]) ∧ Own w' w.heap.size v' (dl a b P n) ∧ Below w.heap.size w w' := by
  have H := Lib.hid h
  have HI := Lib.hid hfi
  have d1 : decide ((n : Int) < 0) = false := decide_eq_false (by omega)
  have d2 : decide ((40 : Int) < n) = false := decide_eq_false (by omega)
  have d3 : decide (40 < n) = false := decide_eq_false (by omega)
  clear h hfi
  go_enter Try.func31, Try.ntmps31
  go_wp2_with fail
  have HN := Lib.hid (AtB.new w a b P)
  have HB1 := Lib.hid ((Below.refl w.heap.size w).alloc (Nat.le_refl _) (.cells #[.int .i64 a, .int .i64 b, .int .i64 P] 86))
  refine (fvalid_any a b P true (by simp; exact HI.out) _).mono ?_
  rintro e w1 ⟨rfl, b1⟩
  have HA1 := Lib.hid (HN.out.keep (fun k hk => b1.block k hk))
  have HB := Lib.hid (HB1.out.trans (b1.mono HB1.out.size))
  clear b1
  go_wp2_with fail
  clear d1 d2 d3
  go_loopw [11, 29] (fun o i wr => ∃ k : Nat, k ≤ n ∧ i = .int .i64 k ∧ AtB wr w.heap.size (rs a b P k) b P ∧ Own wr (w.heap.size + 1) o (dl a b P k) ∧ Below w.heap.size w wr) (fun _ i _ => n - (intOf i).toNat)
  case atStart => exact ⟨0, by omega, rfl, HA1.out, Own.nil _ _, HB.out⟩
  case round =>
    obtain ⟨k, hk, rfl, hat, hown, hb⟩ := hrel
    have HAT := Lib.hid hat
    have HO := Lib.hid hown
    have HBB := Lib.hid hb
    clear hat hown hb
    by_cases hlt : k < n
    · have HF := Lib.hid (H.out.rs k)
      have HD := Lib.hid (dl_succ a b P k)
      have HR := Lib.hid (show rs a b P (k + 1) = nx (rs a b P k) b P from rfl)
      have HDL := Lib.hid (dl_length a b P k)
      obtain ⟨hc0, hc1, hc2, hfz, hlG⟩ := HAT.out.cells
      generalize rs a b P k = x at *
      go_wp2_with fail
      refine (step_any x b P HF.out _).mono ?_
      rintro e w2 ⟨rfl, b2⟩
      clear hc0 hc1 hc2 hfz
      have HAT2 := Lib.hid (HAT.out.keep (fun k hk => b2.block k hk))
      have HO2 := Lib.hid (HO.out.same (fun b _ hlt => b2.block b hlt))
      have HBB2 := Lib.hid (HBB.out.trans (b2.mono HBB.out.size))
      obtain ⟨hc0, hc1, hc2, hfz, hlG2⟩ := HAT2.out.cells
      clear b2
      generalize dg x b P = D at *
      have HAT3 := Lib.hid (HAT2.out.store (nx x b P) b P)
      have HBB3 := Lib.hid (below_store HBB2.out (Nat.le_refl _) (.int .i64 (nx x b P)) (.int .i64 b) (.int .i64 P))
      have HO3 := Lib.hid (HO2.out.same (w' := ((w2.setCell ⟨w.heap.size, 0, none⟩ (.int .i64 (nx x b P))).setCell ⟨w.heap.size, 1, none⟩ (.int .i64 b)).setCell ⟨w.heap.size, 2, none⟩ (.int .i64 P)) (fun k hk _ => heap_store (by have := (HO2.out.lt k hk).1; omega) _ _ _))
      have hsz3 : w.heap.size + 1 ≤ (((w2.setCell ⟨w.heap.size, 0, none⟩ (.int .i64 (nx x b P))).setCell ⟨w.heap.size, 1, none⟩ (.int .i64 b)).setCell ⟨w.heap.size, 2, none⟩ (.int .i64 P)).heap.size := HAT3.out.cells.2.2.2.2
      have HU := Lib.hid (show ((((w2.setCell ⟨w.heap.size, 0, none⟩ (.int .i64 (nx x b P))).setCell ⟨w.heap.size, 1, none⟩ (.int .i64 b)).setCell ⟨w.heap.size, 2, none⟩ (.int .i64 P)).alloc (.cells #[.int .i64 (D : Int)] 3)).cell? ⟨w2.heap.size, 0, none⟩ = some (.int .i64 (D : Int)) from by
        have e : (((w2.setCell ⟨w.heap.size, 0, none⟩ (.int .i64 (nx x b P))).setCell ⟨w.heap.size, 1, none⟩ (.int .i64 b)).setCell ⟨w.heap.size, 2, none⟩ (.int .i64 P)).heap.size = w2.heap.size := by simp
        rw [← e]
        exact cell_of_row _ _ 0 #[.int .i64 (D : Int)] 3 (0, 0) (heap_alloc_new _ _))
      have hsz2 : w.heap.size + 1 ≤ w2.heap.size := hlG2
      go_wp2_with (at_builtin; refine wpList_append_one _ rfl _ _ 22 rfl Try.underlying22 (w.heap.size + 1) u11 _ rfl (HO3.out.alloc _) w2.heap.size (D : Int) rfl HU.out (by have := HDL.out; omega) (by simp; omega) ?_; intro v' w3 hown3 hg3)
      have hb3 := ((Below.refl (w.heap.size + 1) _).alloc hsz3 _).grown hg3 (by simp; omega) (fun k hk => (HO3.out.lt k hk).1)
      have HAT4 := Lib.hid (show AtB w3 w.heap.size (nx x b P) b P from by
        have h := HAT3.out
        unfold AtB at h ⊢
        rw [hb3.block _ (by omega)]; exact h)
      have HBB4 := Lib.hid (HBB3.out.trans (hb3.mono (by omega)))
      go_roundw
      case rel => exact ⟨k + 1, by omega, by go_num, by rw [HR.out]; exact HAT4.out, by rw [HD.out]; exact hown3, HBB4.out⟩
      case measure => simp [intOf]; omega
    · obtain rfl : k = n := by omega
      go_wp2_with fail
      exact bodyPost_ret (v := .tuple #[u11, .int .i64 0]) (by simp [results, Try.results31, go_sem]) rfl ⟨u11, rfl, HO.out.base (by omega), HBB.out⟩
set_option maxHeartbeats 8000000 in
theorem Digits_no (a b p n : Int) (h : ¬ (FracI a b p ∧ 0 ≤ n ∧ n ≤ 40)) (w : World) :
    Calls Try.prog 31 #[.int .i64 a, .int .i64 b, .int .i64 p, .int .i64 n] w fun e w' => e = .returned (.tuple #[.slice none 0 0, .int .i64 2]) ∧ Below w.heap.size w w' := by
  have HB1 := Lib.hid ((Below.refl w.heap.size w).alloc (Nat.le_refl _) (.cells #[.int .i64 a, .int .i64 b, .int .i64 p] 86))
  by_cases hf : FracI a b p
  · have HF := Lib.hid hf
    by_cases h0 : n < 0
    · have d1 : decide (n < 0) = true := decide_eq_true h0
      clear h hf
      go_enter Try.func31, Try.ntmps31
      go_wp2_with fail
      refine (fvalid_any a b p true (by simp; exact HF.out) _).mono ?_
      rintro e w1 ⟨rfl, b1⟩
      have HB := Lib.hid (HB1.out.trans (b1.mono HB1.out.size))
      clear b1
      go_wp2_with fail
      exact bodyPost_ret (v := .tuple #[.slice none 0 0, .int .i64 2]) (by simp [results, Try.results31, go_sem]) rfl ⟨rfl, HB.out⟩
    · have d1 : decide (n < 0) = false := decide_eq_false h0
      have d2 : decide (40 < n) = true := decide_eq_true (by
        rcases (show 40 < n ∨ n ≤ 40 by omega) with g | g
        · exact g
        · exact absurd ⟨hf, by omega, g⟩ h)
      clear h hf
      go_enter Try.func31, Try.ntmps31
      go_wp2_with fail
      refine (fvalid_any a b p true (by simp; exact HF.out) _).mono ?_
      rintro e w1 ⟨rfl, b1⟩
      have HB := Lib.hid (HB1.out.trans (b1.mono HB1.out.size))
      clear b1
      go_wp2_with fail
      exact bodyPost_ret (v := .tuple #[.slice none 0 0, .int .i64 2]) (by simp [results, Try.results31, go_sem]) rfl ⟨rfl, HB.out⟩
  · have HF := Lib.hid hf
    clear h hf
    go_enter Try.func31, Try.ntmps31
    go_wp2_with fail
    refine (fvalid_any a b p false (by simp; exact HF.out) _).mono ?_
    rintro e w1 ⟨rfl, b1⟩
    have HB := Lib.hid (HB1.out.trans (b1.mono HB1.out.size))
    clear b1
    go_wp2_with fail
    exact bodyPost_ret (v := .tuple #[.slice none 0 0, .int .i64 2]) (by simp [results, Try.results31, go_sem]) rfl ⟨rfl, HB.out⟩
end Go.Proofs.Ytdkobkghhnccgaa
