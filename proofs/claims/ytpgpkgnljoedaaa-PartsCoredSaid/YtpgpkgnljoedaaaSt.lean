/- Sorting: slices.Sorted over slices.Values, and the program's sorted. -/
import Derived.Test.YtpgpkgnljoedaaaSw
import Derived.Test.YtpgpkgnljoedaaaShq
import Derived.Test.YtpgpkgnljoedaaaCp
import Derived.Test.YtpgpkgnljoedaaaGs
namespace Go.Proofs.Ytpgpkgnljoedaaa
open Go.RowKit
/-- the numbers of a list, rising -/
def ris (xs : List Int) : List Int := xs.mergeSort fun x y => decide (x ≤ y)
theorem ris_perm (xs : List Int) : (ris xs).Perm xs := List.mergeSort_perm xs _
theorem ris_length (xs : List Int) : (ris xs).length = xs.length := (ris_perm xs).length_eq
theorem ris_sorted (xs : List Int) : (ris xs).Pairwise (fun x y => x ≤ y) := by
  have h := List.pairwise_mergeSort (le := fun x y : Int => decide (x ≤ y)) (fun a b c h1 h2 => by simp only [decide_eq_true_eq] at *; omega) (fun a b => by simp only [Bool.or_eq_true, decide_eq_true_eq]; omega) xs
  exact h.imp (fun h => by simpa using h)
theorem ris_reverse (xs : List Int) : (ris xs).reverse = srt xs :=
  srt_of (List.pairwise_reverse.2 (ris_sorted xs)) ((List.reverse_perm _).trans (ris_perm xs))
theorem sort_any (base : Nat) (v : Value) (xs : List Int) (w : World) (h : Own w base v xs) (hl : xs.length ≤ 1000000) :
    Calls Try.prog 100 #[v] w fun e w' => e = .returned (.tuple #[]) ∧ Own w' base v (ris xs) ∧ Below base w w' := by
  rcases h.parts with ⟨rfl, rfl⟩ | ⟨g, n, cap, rfl⟩
  · have hcon := AnyM.slices_Sort_int_none l100 none 0 w
    change Calls Try.prog 100 _ _ _ at hcon
    refine hcon.mono ?_
    rintro e w' ⟨rfl, rfl⟩
    exact ⟨rfl, (by rw [show ris [] = [] by simp [ris]]; exact Own.nil _ _), Below.refl _ _⟩
  · obtain ⟨hn, hc, hm, hb, hg⟩ := h.nums
    subst hn
    have hcon := AnyM.slices_Sort_int l100 g 0 cap xs w h.holds hg (by omega)
    change Calls Try.prog 100 _ _ _ at hcon
    refine hcon.mono ?_
    rintro e w' ⟨rfl, q, os, rfl⟩
    obtain ⟨h1, h2⟩ := h.putRow q (ris xs) (ris_length xs) xs.length (Nat.le_refl _)
    rw [List.take_of_length_le (by rw [ris_length]; exact Nat.le_refl _)] at h1
    have hsz : («Sort».putRow (Value.int .i64) («Sort».ahead w q) g 0 (ris xs).toArray).heap.size = w.heap.size := by simp
    refine ⟨rfl, h1.same (fun b e hlt => ?_), h2.trans ⟨rfl, rfl, rfl, by simp [«Sort».grow], fun b hb => ?_⟩⟩
    · exact Array.getElem?_append_left hlt
    · exact Array.getElem?_append_left (by have h := hsz; simp only [ris] at h; omega)
set_option maxHeartbeats 1000000 in
theorem sorted89 (w : World) (Bs : Nat) (sv : Value) (zs : List Int) (hz : zs.length ≤ 1000000) (hBl : Bs < w.heap.size) (hBs : w.cell? ⟨Bs, 0, none⟩ = some sv) (hI : Ints w sv zs) (hlow : ∀ b, sv.ownBlock = some b → b < w.heap.size) :
    Calls Try.prog 89 #[.func (.func 101) #[] #[.pointer (some ⟨Bs, 0, none⟩)]] w fun e w' => ∃ v, e = .returned v ∧ Own w' w.heap.size v (ris zs) ∧ Below w.heap.size w w' := by
  have HC := Lib.hid (collect99 w Bs sv zs hz hBl hBs hI hlow)
  clear hBs hI hlow
  go_enter Try.func89, Try.ntmps89
  go_wp2_with fail
  with_reducible refine HC.out.mono ?_
  rintro e w1 ⟨v, rfl, hown, hb⟩
  have HS := Lib.hid (sort_any _ v zs w1 hown hz)
  have HB := Lib.hid hb
  clear HC hb
  obtain ⟨A, n, c, rfl⟩ := hown.isSlice
  clear hown
  go_wp2_with fail
  with_reducible refine HS.out.mono ?_
  rintro e w2 ⟨rfl, hown2, hb2⟩
  have HB2 := Lib.hid (HB.out.trans hb2)
  have HO2 := Lib.hid hown2
  clear hb2 hown2 HS
  go_wp2_with fail
  go_ret
  exact ⟨_, rfl, HO2.out, HB2.out⟩
theorem reverse_nil (w : World) :
    Calls Try.prog 91 #[.slice none 0 0] w fun e w' => e = .returned (.tuple #[]) ∧ w = w' := by
  go_enter Try.func91, Try.ntmps91
  go_wp2_with fail
  go_loop [2, 3] (fun i j => i = .int .i64 0 ∧ j = .int .i64 (-1)) (fun _ _ => 0)
  case atStart => exact ⟨rfl, rfl⟩
  case round =>
    obtain ⟨rfl, rfl⟩ := hrel
    go_wp2_with fail
    go_end0
    exact ⟨rfl, rfl⟩
set_option maxHeartbeats 1000000 in
theorem sorted78 (v : Value) (zs : List Int) (w : World) (hz : zs.length ≤ 1000000) (hI : Ints w v zs) (hlow : ∀ b, v.ownBlock = some b → b < w.heap.size) :
    Calls Try.prog 78 #[v] w fun e w' => ∃ v', e = .returned v' ∧ Own w' w.heap.size v' (srt zs) ∧ Below w.heap.size w w' := by
  obtain ⟨A, n, c, hvv⟩ : ∃ A n c, v = .slice A n c := by obtain ⟨_, A, c, h, _⟩ := hI; exact ⟨A, _, c, h⟩
  subst hvv
  have hB0 : Below w.heap.size w (w.alloc (.cells #[.slice A n c] 33)) := (Below.refl _ w).alloc (Nat.le_refl _) _
  have HC := Lib.hid (sorted89 (w.alloc (.cells #[.slice A n c] 33)) w.heap.size (.slice A n c) zs hz (by simp) (by simp) (hI.keep hB0) (fun b e => by have := hlow b e; simp; omega))
  have HB0 := Lib.hid hB0
  clear hI hlow hB0
  go_enter Try.func78, Try.ntmps78
  go_wp2_with fail
  with_reducible refine (values90 A n c w).mono ?_
  rintro e _ ⟨rfl, rfl⟩
  go_wp2_with fail
  with_reducible refine HC.out.mono ?_
  rintro e w1 ⟨v1, rfl, hown, hb⟩
  have HO := Lib.hid (hown.base (b2 := w.heap.size) (by simp))
  have HB := Lib.hid (HB0.out.trans (hb.mono (by simp)))
  clear HC hb hown
  rcases HO.out.parts with ⟨rfl, he⟩ | ⟨g, n1, cap, rfl⟩
  · have HE := Lib.hid he
    clear he
    go_wp2_with fail
    with_reducible refine (reverse_nil _).mono ?_
    rintro e _ ⟨rfl, rfl⟩
    go_wp2_with fail
    go_ret
    exact ⟨_, rfl, by rw [← ris_reverse, HE.out]; exact Own.nil _ _, HB.out⟩
  · have HR := Lib.hid (reverse_any w.heap.size g n1 cap (ris zs) w1 HO.out)
    go_wp2_with fail
    with_reducible refine HR.out.mono ?_
    rintro e w2 ⟨rfl, hown2, hb2⟩
    have HB2 := Lib.hid (HB.out.trans hb2)
    have HO2 := Lib.hid hown2
    clear hb2 hown2 HR
    go_wp2_with fail
    go_ret
    exact ⟨_, rfl, by rw [← ris_reverse]; exact HO2.out, HB2.out⟩
end Go.Proofs.Ytpgpkgnljoedaaa
