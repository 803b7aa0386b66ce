/- Names of a line: isName. -/
import Derived.Test.YtklnnpacfjnnlaaGreatDoorRw
import Derived.Laws.RangeString
import Derived.Deep.LoopGhost
import Derived.Lib.Strings
import Derived.Lib.Walk
import Derived.Lib.IndexBytes
import Derived.Lib.TrimByte
namespace Go.Proofs.YtklnnpacfjnnlaaGreatDoor
open Go.RowKit
/-- a small letter -/
def low (c : UInt8) : Bool := 97 ≤ c.toNat && c.toNat ≤ 122
/-- a name -/
def isNm (w : ByteArray) : Bool := w.data.toList.all low && decide (w.size ≠ 0) && decide (w.size ≤ 8)
theorem all_low (s : ByteArray) (h : ∀ j, ∀ h' : j < s.size, low (s[j]'h') = true) : s.data.toList.all low = true := by
  rw [List.all_eq_true]
  intro c hc
  obtain ⟨j, hj, rfl⟩ := List.mem_iff_getElem.1 hc
  have hj' : j < s.size := by rw [Lib.size_eq]; exact hj
  have e := Lib.data_getElem? s j hj'
  rw [List.getElem?_eq_getElem hj] at e
  rw [Option.some.inj e]
  exact h j hj'
theorem not_low (s : ByteArray) (j : Nat) (h' : j < s.size) (h : low (s[j]'h') = false) : s.data.toList.all low = false := by
  rw [List.all_eq_false]
  have e := Lib.data_getElem? s j h'
  exact ⟨_, List.mem_of_getElem? e, by rw [h]; simp⟩
theorem iter_below (w : World) (s : ByteArray) (i : Nat) : Below w.heap.size w (w.iter s i) := (Below.refl _ w).alloc (Nat.le_refl _) _
set_option maxHeartbeats 1000000 in
theorem isName_any (s : ByteArray) (hsz : s.size ≤ 1000) (ha : ∀ h : Nat, ∀ h' : h < s.size, (s[h]'h').toNat < 128) (w : World) :
    Calls Tryz.prog 182 #[.string s] w fun e w' => e = .returned (.bool (isNm s)) ∧ Below w.heap.size w w' := by
  have HA := Lib.hid ha
  clear ha
  go_enter Tryz.func182, Tryz.ntmps182
  go_wp2
  go_loopg [4] s.size (fun g _ wx => ∃ i : Nat, i + g = s.size ∧ wx = w.iter s i ∧ Lib.Kept (∀ j, ∀ h' : j < s.size, j < i → low (s[j]'h') = true))
  case atStart => exact ⟨0, by omega, rfl, fun j h' h => by omega⟩
  case round =>
    obtain ⟨i, hig, rfl, hall⟩ := hrel
    cases gk with
    | zero =>
      obtain rfl : i = s.size := by omega
      have hn := run_next_end (P := Tryz.prog) w s s.size 0 (by omega)
      have hres : s.data.toList.all low = true := all_low s fun j h' => hall j h' h'
      have HR := Lib.hid hres
      clear hres hall
      by_cases h0 : s.size = 0
      · have hemp : s = ⟨#[]⟩ := ByteArray.ext (Array.eq_empty_of_size_eq_zero h0)
        subst hemp
        have hn2 := run_next_end (P := Tryz.prog) w ⟨#[]⟩ 0 0 (by decide)
        go_wp2
        go_ret
        exact ⟨rfl, iter_below w _ _⟩
      · have hne2 : s.toList.isEmpty = false := by
          rw [Lib.toList_data]
          cases h : s.data.toList with
          | nil => have := Lib.size_eq s; rw [h, List.length_nil] at this; omega
          | cons _ _ => rfl
        by_cases h8 : s.size ≤ 8
        · have hd8 : decide ((s.size : Int) ≤ 8) = true := decide_eq_true (by omega)
          go_wp2
          go_ret
          refine ⟨?_, iter_below w s _⟩
          unfold isNm; rw [HR.out]; simp [h0, h8]
        · have hd8 : decide ((s.size : Int) ≤ 8) = false := decide_eq_false (by omega)
          go_wp2
          go_ret
          refine ⟨?_, iter_below w s _⟩
          unfold isNm; rw [HR.out]; simp [h0, h8]
    | succ g =>
      have hi : i < s.size := by omega
      have hn := run_next_ascii (P := Tryz.prog) w s i 0 hi (HA.out i hi)
      obtain ⟨x, hx⟩ : ∃ x : UInt8, s[i]'hi = x := ⟨_, rfl⟩
      have hl := low.eq_1 x
      rw [hx] at hn
      cases hlow : low x with
      | true =>
        rw [hlow] at hl
        have h1 : 97 ≤ x.toNat ∧ x.toNat ≤ 122 := by simpa using hl.symm
        have hstep : Lib.Kept (∀ j, ∀ h' : j < s.size, j < i + 1 → low (s[j]'h') = true) := fun j h' hj => by
          by_cases e : j = i
          · subst e; rw [hx]; exact hlow
          · exact hall j h' (by omega)
        clear hall hl hlow
        go_wp2
        go_roundg g
        case measure => omega
        case rel => exact ⟨i + 1, by omega, rfl, hstep⟩
      | false =>
        rw [hlow] at hl
        have h1 : ¬ (97 ≤ x.toNat ∧ x.toNat ≤ 122) := by
          intro h
          have : (decide (97 ≤ x.toNat) && decide (x.toNat ≤ 122)) = true := by simp [h.1, h.2]
          rw [← hl] at this
          cases this
        have hres := not_low s i hi (by rw [hx]; exact hlow)
        have HR := Lib.hid hres
        clear hres hall hl hlow
        by_cases hlt : (x.toNat : Int) < 97
        · go_wp2
          go_ret
          refine ⟨?_, iter_below w s _⟩
          unfold isNm; rw [HR.out]; simp
        · have hgt : (122 : Int) < (x.toNat : Int) := by omega
          go_wp2
          go_ret
          refine ⟨?_, iter_below w s _⟩
          unfold isNm; rw [HR.out]; simp
end Go.Proofs.YtklnnpacfjnnlaaGreatDoor
