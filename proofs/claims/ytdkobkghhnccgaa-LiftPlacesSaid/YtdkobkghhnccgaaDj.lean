/- Walks of digits: whether a fraction has digits. -/
import Derived.Test.YtdkobkghhnccgaaDi
namespace Go.Proofs.Ytdkobkghhnccgaa
open Go.RowKit
def FracI (a b p : Int) : Prop := PrimeI p ∧ -1000 ≤ a ∧ a ≤ 1000 ∧ 1 ≤ b ∧ b ≤ 1000 ∧ b % p ≠ 0
theorem FracI.frc {a b p : Int} (h : FracI a b p) : ∃ P : Nat, p = P ∧ Frc a b P := by
  obtain ⟨h0, h1, h2, h3, h4, h5⟩ := h
  obtain ⟨P, rfl⟩ : ∃ P : Nat, p = P := ⟨p.toNat, by unfold PrimeI at h0; omega⟩
  exact ⟨P, rfl, isP_int.1 h0, h1, h2, h3, h4, h5⟩
set_option maxHeartbeats 8000000 in
theorem rFraction_any (a b p : Int) (r : Bool) (hr : r = true ↔ FracI a b p) (w : World) :
    Calls Try.prog 33 #[.int .i64 a, .int .i64 b, .int .i64 p] w fun e w' => e = .returned (.bool r) ∧ w = w' := by
  by_cases hp : PrimeI p
  · have HP := Lib.hid hp
    have hp2 : 2 ≤ p := by unfold PrimeI at hp; omega
    have hp13 : p ≤ 13 := by unfold PrimeI at hp; omega
    by_cases g0 : a < -1000
    · have t0 : decide (-1000 ≤ a) = false := decide_eq_false (by omega)
      obtain rfl : r = false := by cases r; rfl; have h := hr.1 rfl; have := h.2.1; omega
      clear hr hp
      go_enter Try.func33, Try.ntmps33
      go_wp2_with fail
      refine (rPrime_any p true (by simp; exact HP.out) _).mono ?_
      rintro e _ ⟨rfl, rfl⟩
      go_wp2_with fail
      go_ret
      exact ⟨rfl, rfl⟩
    · have t0 : decide (-1000 ≤ a) = true := decide_eq_true (by omega)
      by_cases g1 : 1000 < a
      · have t1 : decide (a ≤ 1000) = false := decide_eq_false (by omega)
        obtain rfl : r = false := by cases r; rfl; have h := hr.1 rfl; have := h.2.2.1; omega
        clear hr hp
        go_enter Try.func33, Try.ntmps33
        go_wp2_with fail
        refine (rPrime_any p true (by simp; exact HP.out) _).mono ?_
        rintro e _ ⟨rfl, rfl⟩
        go_wp2_with fail
        go_ret
        exact ⟨rfl, rfl⟩
      · have t1 : decide (a ≤ 1000) = true := decide_eq_true (by omega)
        by_cases g2 : b < 1
        · have t2 : decide (1 ≤ b) = false := decide_eq_false (by omega)
          obtain rfl : r = false := by cases r; rfl; have h := hr.1 rfl; have := h.2.2.2.1; omega
          clear hr hp
          go_enter Try.func33, Try.ntmps33
          go_wp2_with fail
          refine (rPrime_any p true (by simp; exact HP.out) _).mono ?_
          rintro e _ ⟨rfl, rfl⟩
          go_wp2_with fail
          go_ret
          exact ⟨rfl, rfl⟩
        · have t2 : decide (1 ≤ b) = true := decide_eq_true (by omega)
          by_cases g3 : 1000 < b
          · have t3 : decide (b ≤ 1000) = false := decide_eq_false (by omega)
            obtain rfl : r = false := by cases r; rfl; have h := hr.1 rfl; have := h.2.2.2.2.1; omega
            clear hr hp
            go_enter Try.func33, Try.ntmps33
            go_wp2_with fail
            refine (rPrime_any p true (by simp; exact HP.out) _).mono ?_
            rintro e _ ⟨rfl, rfl⟩
            go_wp2_with fail
            go_ret
            exact ⟨rfl, rfl⟩
          · have t3 : decide (b ≤ 1000) = true := decide_eq_true (by omega)
            by_cases g4 : b % p = 0
            · have t4 : (b % p != 0) = false := by rw [bne_eq_false_iff_eq]; exact g4
              obtain rfl : r = false := by cases r; rfl; exact absurd g4 (hr.1 rfl).2.2.2.2.2
              clear hr hp g4
              go_enter Try.func33, Try.ntmps33
              go_wp2_with fail
              refine (rPrime_any p true (by simp; exact HP.out) _).mono ?_
              rintro e _ ⟨rfl, rfl⟩
              go_wp2_with fail
              go_ret
              exact ⟨rfl, rfl⟩
            · have t4 : (b % p != 0) = true := by rw [bne_iff_ne]; exact g4
              obtain rfl : r = true := hr.2 ⟨hp, by omega, by omega, by omega, by omega, g4⟩
              clear hr hp g4
              go_enter Try.func33, Try.ntmps33
              go_wp2_with fail
              refine (rPrime_any p true (by simp; exact HP.out) _).mono ?_
              rintro e _ ⟨rfl, rfl⟩
              go_wp2_with fail
              go_ret
              exact ⟨rfl, rfl⟩
  · have HP := Lib.hid hp
    obtain rfl : r = false := by cases r; rfl; exact absurd (hr.1 rfl).1 hp
    clear hr hp
    go_enter Try.func33, Try.ntmps33
    go_wp2_with fail
    refine (rPrime_any p false (by simp; exact HP.out) _).mono ?_
    rintro e _ ⟨rfl, rfl⟩
    go_wp2_with fail
    go_ret
    exact ⟨rfl, rfl⟩

set_option maxHeartbeats 8000000 in
theorem fvalid_any (a b p : Int) (r : Bool) (hr : r = true ↔ FracI a b p) (w : World) :
    Calls Try.prog 59 #[.agg #[.int .i64 a, .int .i64 b, .int .i64 p]] w fun e w' => e = .returned (.bool r) ∧ Below w.heap.size w w' := by
  by_cases hp : PrimeI p
  · have HP := Lib.hid hp
    have hp2 : 2 ≤ p := by unfold PrimeI at hp; omega
    have hp13 : p ≤ 13 := by unfold PrimeI at hp; omega
    by_cases g0 : a < -1000
    · have t0 : decide (-1000 ≤ a) = false := decide_eq_false (by omega)
      obtain rfl : r = false := by cases r; rfl; have h := hr.1 rfl; have := h.2.1; omega
      clear hr hp
      go_enter Try.func59, Try.ntmps59
      go_wp2_with fail
      refine (isPrime_any p true (by simp; exact HP.out) _).mono ?_
      rintro e w1 ⟨rfl, b1⟩
      have hc0 : w1.cell? ⟨w.heap.size, 0, none⟩ = some (.int .i64 a) := (b1.cell (p := ⟨w.heap.size, 0, none⟩) (by simp)).trans (by simp [World.cell?_alloc_new])
      have hc1 : w1.cell? ⟨w.heap.size, 1, none⟩ = some (.int .i64 b) := (b1.cell (p := ⟨w.heap.size, 1, none⟩) (by simp)).trans (by simp [World.cell?_alloc_new])
      have hc2 : w1.cell? ⟨w.heap.size, 2, none⟩ = some (.int .i64 p) := (b1.cell (p := ⟨w.heap.size, 2, none⟩) (by simp)).trans (by simp [World.cell?_alloc_new])
      have hb := below_new b1
      clear b1
      go_wp2_with fail
      go_ret
      exact ⟨rfl, hb⟩
    · have t0 : decide (-1000 ≤ a) = true := decide_eq_true (by omega)
      by_cases g1 : 1000 < a
      · have t1 : decide (a ≤ 1000) = false := decide_eq_false (by omega)
        obtain rfl : r = false := by cases r; rfl; have h := hr.1 rfl; have := h.2.2.1; omega
        clear hr hp
        go_enter Try.func59, Try.ntmps59
        go_wp2_with fail
        refine (isPrime_any p true (by simp; exact HP.out) _).mono ?_
        rintro e w1 ⟨rfl, b1⟩
        have hc0 : w1.cell? ⟨w.heap.size, 0, none⟩ = some (.int .i64 a) := (b1.cell (p := ⟨w.heap.size, 0, none⟩) (by simp)).trans (by simp [World.cell?_alloc_new])
        have hc1 : w1.cell? ⟨w.heap.size, 1, none⟩ = some (.int .i64 b) := (b1.cell (p := ⟨w.heap.size, 1, none⟩) (by simp)).trans (by simp [World.cell?_alloc_new])
        have hc2 : w1.cell? ⟨w.heap.size, 2, none⟩ = some (.int .i64 p) := (b1.cell (p := ⟨w.heap.size, 2, none⟩) (by simp)).trans (by simp [World.cell?_alloc_new])
        have hb := below_new b1
        clear b1
        go_wp2_with fail
        go_ret
        exact ⟨rfl, hb⟩
      · have t1 : decide (a ≤ 1000) = true := decide_eq_true (by omega)
        by_cases g2 : b < 1
        · have t2 : decide (1 ≤ b) = false := decide_eq_false (by omega)
          obtain rfl : r = false := by cases r; rfl; have h := hr.1 rfl; have := h.2.2.2.1; omega
          clear hr hp
          go_enter Try.func59, Try.ntmps59
          go_wp2_with fail
          refine (isPrime_any p true (by simp; exact HP.out) _).mono ?_
          rintro e w1 ⟨rfl, b1⟩
          have hc0 : w1.cell? ⟨w.heap.size, 0, none⟩ = some (.int .i64 a) := (b1.cell (p := ⟨w.heap.size, 0, none⟩) (by simp)).trans (by simp [World.cell?_alloc_new])
          have hc1 : w1.cell? ⟨w.heap.size, 1, none⟩ = some (.int .i64 b) := (b1.cell (p := ⟨w.heap.size, 1, none⟩) (by simp)).trans (by simp [World.cell?_alloc_new])
          have hc2 : w1.cell? ⟨w.heap.size, 2, none⟩ = some (.int .i64 p) := (b1.cell (p := ⟨w.heap.size, 2, none⟩) (by simp)).trans (by simp [World.cell?_alloc_new])
          have hb := below_new b1
          clear b1
          go_wp2_with fail
          go_ret
          exact ⟨rfl, hb⟩
        · have t2 : decide (1 ≤ b) = true := decide_eq_true (by omega)
          by_cases g3 : 1000 < b
          · have t3 : decide (b ≤ 1000) = false := decide_eq_false (by omega)
            obtain rfl : r = false := by cases r; rfl; have h := hr.1 rfl; have := h.2.2.2.2.1; omega
            clear hr hp
            go_enter Try.func59, Try.ntmps59
            go_wp2_with fail
            refine (isPrime_any p true (by simp; exact HP.out) _).mono ?_
            rintro e w1 ⟨rfl, b1⟩
            have hc0 : w1.cell? ⟨w.heap.size, 0, none⟩ = some (.int .i64 a) := (b1.cell (p := ⟨w.heap.size, 0, none⟩) (by simp)).trans (by simp [World.cell?_alloc_new])
            have hc1 : w1.cell? ⟨w.heap.size, 1, none⟩ = some (.int .i64 b) := (b1.cell (p := ⟨w.heap.size, 1, none⟩) (by simp)).trans (by simp [World.cell?_alloc_new])
            have hc2 : w1.cell? ⟨w.heap.size, 2, none⟩ = some (.int .i64 p) := (b1.cell (p := ⟨w.heap.size, 2, none⟩) (by simp)).trans (by simp [World.cell?_alloc_new])
            have hb := below_new b1
            clear b1
            go_wp2_with fail
            go_ret
            exact ⟨rfl, hb⟩
          · have t3 : decide (b ≤ 1000) = true := decide_eq_true (by omega)
            by_cases g4 : b % p = 0
            · have t4 : (b % p != 0) = false := by rw [bne_eq_false_iff_eq]; exact g4
              obtain rfl : r = false := by cases r; rfl; exact absurd g4 (hr.1 rfl).2.2.2.2.2
              clear hr hp g4
              go_enter Try.func59, Try.ntmps59
              go_wp2_with fail
              refine (isPrime_any p true (by simp; exact HP.out) _).mono ?_
              rintro e w1 ⟨rfl, b1⟩
              have hc0 : w1.cell? ⟨w.heap.size, 0, none⟩ = some (.int .i64 a) := (b1.cell (p := ⟨w.heap.size, 0, none⟩) (by simp)).trans (by simp [World.cell?_alloc_new])
              have hc1 : w1.cell? ⟨w.heap.size, 1, none⟩ = some (.int .i64 b) := (b1.cell (p := ⟨w.heap.size, 1, none⟩) (by simp)).trans (by simp [World.cell?_alloc_new])
              have hc2 : w1.cell? ⟨w.heap.size, 2, none⟩ = some (.int .i64 p) := (b1.cell (p := ⟨w.heap.size, 2, none⟩) (by simp)).trans (by simp [World.cell?_alloc_new])
              have hb := below_new b1
              clear b1
              go_wp2_with fail
              go_ret
              exact ⟨rfl, hb⟩
            · have t4 : (b % p != 0) = true := by rw [bne_iff_ne]; exact g4
              obtain rfl : r = true := hr.2 ⟨hp, by omega, by omega, by omega, by omega, g4⟩
              clear hr hp g4
              go_enter Try.func59, Try.ntmps59
              go_wp2_with fail
              refine (isPrime_any p true (by simp; exact HP.out) _).mono ?_
              rintro e w1 ⟨rfl, b1⟩
              have hc0 : w1.cell? ⟨w.heap.size, 0, none⟩ = some (.int .i64 a) := (b1.cell (p := ⟨w.heap.size, 0, none⟩) (by simp)).trans (by simp [World.cell?_alloc_new])
              have hc1 : w1.cell? ⟨w.heap.size, 1, none⟩ = some (.int .i64 b) := (b1.cell (p := ⟨w.heap.size, 1, none⟩) (by simp)).trans (by simp [World.cell?_alloc_new])
              have hc2 : w1.cell? ⟨w.heap.size, 2, none⟩ = some (.int .i64 p) := (b1.cell (p := ⟨w.heap.size, 2, none⟩) (by simp)).trans (by simp [World.cell?_alloc_new])
              have hb := below_new b1
              clear b1
              go_wp2_with fail
              go_ret
              exact ⟨rfl, hb⟩
  · have HP := Lib.hid hp
    obtain rfl : r = false := by cases r; rfl; exact absurd (hr.1 rfl).1 hp
    clear hr hp
    go_enter Try.func59, Try.ntmps59
    go_wp2_with fail
    refine (isPrime_any p false (by simp; exact HP.out) _).mono ?_
    rintro e w1 ⟨rfl, b1⟩
    have hc0 : w1.cell? ⟨w.heap.size, 0, none⟩ = some (.int .i64 a) := (b1.cell (p := ⟨w.heap.size, 0, none⟩) (by simp)).trans (by simp [World.cell?_alloc_new])
    have hc1 : w1.cell? ⟨w.heap.size, 1, none⟩ = some (.int .i64 b) := (b1.cell (p := ⟨w.heap.size, 1, none⟩) (by simp)).trans (by simp [World.cell?_alloc_new])
    have hc2 : w1.cell? ⟨w.heap.size, 2, none⟩ = some (.int .i64 p) := (b1.cell (p := ⟨w.heap.size, 2, none⟩) (by simp)).trans (by simp [World.cell?_alloc_new])
    have hb := below_new b1
    clear b1
    go_wp2_with fail
    go_ret
    exact ⟨rfl, hb⟩

end Go.Proofs.Ytdkobkghhnccgaa
