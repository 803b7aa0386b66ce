/- Walks of R.Odd, ContainsFunc at Glaisher's test. -/
import Derived.Test.YtpgpkgnljoedaaaGo
import Derived.Test.YtpgpkgnljoedaaaVa
namespace Go.Proofs.Ytpgpkgnljoedaaa
open Go.RowKit
/-- The first k numbers are odd. -/
def OddTo (l : List Int) (k : Nat) : Prop := ∀ j, j < k → l.getD j 0 % 2 ≠ 0
theorem oddTo_next {l : List Int} {k : Nat} (h : OddTo l k) {x : Int} (hx : l.getD k 0 = x) (he : x % 2 ≠ 0) : OddTo l (k + 1) := by
  intro j hj
  by_cases e : j = k
  · subst e; rw [hx]; exact he
  · exact h j (by omega)
set_option maxHeartbeats 1000000 in
theorem rOdd_any (v : Value) (l : List Int) (h : Part l) (r : Bool) (hr : r = true ↔ OddTo l l.length) (w : World) (hv : Ints w v l) :
    Calls Try.prog 49 #[v] w fun e w' => e = .returned (.bool r) ∧ w = w' := by
  obtain ⟨hlen, A, c, rfl, hc, hrr⟩ := hv
  have HR := Lib.hid hrr
  have HX := Lib.hid hr
  have HO := Lib.hid h.1
  clear hrr h hr
  go_enter Try.func49, Try.ntmps49
  go_wp2_with fail
  go_loop [7] (fun i => ∃ k : Nat, k ≤ l.length ∧ i = .int .i64 k ∧ OddTo l k) (fun i => l.length - (intOf i).toNat)
  case atStart => exact ⟨0, Nat.zero_le _, rfl, fun j hj => by omega⟩
  case round =>
    obtain ⟨k, hk, rfl, ho⟩ := hrel
    have HD := Lib.hid ho
    clear ho
    by_cases hlt : k < l.length
    · obtain ⟨ad, rfl, hbl, hcell⟩ := HR.out (by omega)
      have hck := hcell k _ (getD_get l k hlt)
      have HE := Lib.hid (show ∀ x, l.getD k 0 = x → r = true → x % 2 ≠ 0 from fun x hx h => by subst hx; exact HX.out.1 h k hlt)
      have HN := Lib.hid (show ∀ x, l.getD k 0 = x → x % 2 ≠ 0 → OddTo l (k + 1) from fun x hx h => oddTo_next HD.out hx h)
      have HG := Lib.hid (show l.getD k 0 = l.getD k 0 from rfl)
      obtain ⟨a1, a2, _⟩ := HO.out k hlt
      have HE2 := Lib.hid (HE.out _ rfl)
      have HN2 := Lib.hid (HN.out _ rfl)
      clear HE HN HG hcell
      generalize l.getD k 0 = x at *
      by_cases he : x % 2 = 0
      · have e1 : (x % 2 == 0) = true := beq_iff_eq.2 he
        have hrf : r = false := by
          cases r with
          | false => rfl
          | true => exact absurd he (HE2.out rfl)
        subst hrf
        clear he
        go_wp2_with fail
        go_ret
        exact ⟨rfl, rfl⟩
      · have e1 : (x % 2 == 0) = false := beq_eq_false_iff_ne.2 he
        have HH := Lib.hid he
        clear he
        go_wp2_with fail
        go_round
        case rel => exact ⟨k + 1, by omega, by go_num, HN2.out HH.out⟩
        case measure => simp [intOf]; omega
    · obtain rfl : k = l.length := by omega
      have hrt : r = true := HX.out.2 HD.out
      subst hrt
      clear HR
      go_wp2_with fail
      go_ret
      exact ⟨rfl, rfl⟩
theorem isEven_any (x : Int) (h0 : 0 ≤ x) (h1 : x ≤ 1000) (w : World) :
    Calls Try.prog 77 #[.int .i64 x] w fun e w' => e = .returned (.bool (x % 2 == 0)) ∧ w = w' := by
  go_enter Try.func77, Try.ntmps77
  go_wp2_with fail
  go_ret
  exact ⟨rfl, rfl⟩
set_option maxHeartbeats 1000000 in
theorem indexFunc_any (v : Value) (l : List Int) (h : Part l) (w : World) (hv : Ints w v l) :
    Calls Try.prog 88 #[v, .func (.func 77) #[] #[]] w fun e w' => (∃ z : Int, e = .returned (.int .i64 z) ∧ (0 ≤ z ↔ ¬ OddTo l l.length) ∧ -1 ≤ z ∧ z ≤ 1000) ∧ w = w' := by
  obtain ⟨hlen, A, c, rfl, hc, hrr⟩ := hv
  have HR := Lib.hid hrr
  have HO := Lib.hid h.1
  have h30 := h.len
  clear hrr h
  go_enter Try.func88, Try.ntmps88
  go_wp2_with fail
  go_loop [8] (fun i => ∃ k : Nat, k ≤ l.length ∧ i = .int .i64 k ∧ OddTo l k) (fun i => l.length - (intOf i).toNat)
  case atStart => exact ⟨0, Nat.zero_le _, rfl, fun j hj => by omega⟩
  case round =>
    obtain ⟨k, hk, rfl, ho⟩ := hrel
    have HD := Lib.hid ho
    clear ho
    by_cases hlt : k < l.length
    · obtain ⟨ad, rfl, hbl, hcell⟩ := HR.out (by omega)
      have hck := hcell k _ (getD_get l k hlt)
      have HN := Lib.hid (show l.getD k 0 % 2 ≠ 0 → OddTo l (k + 1) from fun h => oddTo_next HD.out rfl h)
      have HE := Lib.hid (show l.getD k 0 % 2 = 0 → ¬ OddTo l l.length from fun h hh => hh k hlt h)
      obtain ⟨a1, a2, _⟩ := HO.out k hlt
      clear hcell
      generalize l.getD k 0 = x at *
      go_wp2_with fail
      with_reducible refine (isEven_any x (by omega) (by omega) _).mono ?_
      rintro e w1 ⟨rfl, rfl⟩
      by_cases he : x % 2 = 0
      · have e1 : (x % 2 == 0) = true := beq_iff_eq.2 he
        have HE2 := Lib.hid (HE.out he)
        rw [e1]
        clear he e1
        go_wp2_with fail
        go_ret
        exact ⟨⟨k, rfl, ⟨fun _ => HE2.out, fun _ => by omega⟩, by omega, by omega⟩, rfl⟩
      · have e1 : (x % 2 == 0) = false := beq_eq_false_iff_ne.2 he
        have HH := Lib.hid he
        rw [e1]
        clear he e1
        go_wp2_with fail
        go_round
        case rel => exact ⟨k + 1, by omega, by go_num, HN.out HH.out⟩
        case measure => simp [intOf]; omega
    · obtain rfl : k = l.length := by omega
      clear HR
      go_wp2_with fail
      go_ret
      exact ⟨⟨-1, rfl, ⟨fun h => absurd h (by omega), fun h => absurd HD.out h⟩, by omega, by omega⟩, rfl⟩
theorem containsFunc_any (v : Value) (l : List Int) (h : Part l) (r : Bool) (hr : r = true ↔ OddTo l l.length) (w : World) (hv : Ints w v l) :
    Calls Try.prog 76 #[v, .func (.func 77) #[] #[]] w fun e w' => e = .returned (.bool (!r)) ∧ w = w' := by
  have HX := Lib.hid hr
  have HV := Lib.hid hv
  have HP := Lib.hid h
  clear hr hv h
  go_enter Try.func76, Try.ntmps76
  go_wp2_with fail
  with_reducible refine (indexFunc_any v l HP.out _ HV.out).mono ?_
  rintro e w1 ⟨⟨z, rfl, hz, _, _⟩, rfl⟩
  have hz' : decide (0 ≤ z) = !r := by
    by_cases h : 0 ≤ z
    · have := hz.1 h
      cases r with
      | false => simp [h]
      | true => exact absurd (HX.out.1 rfl) this
    · cases r with
      | true => simp; omega
      | false => exact absurd (hz.2 fun h => by have := HX.out.2 h; cases this) h
  clear hz
  go_wp2_with fail
  go_ret
  exact ⟨by rw [← hz']; rfl, rfl⟩
end Go.Proofs.Ytpgpkgnljoedaaa
