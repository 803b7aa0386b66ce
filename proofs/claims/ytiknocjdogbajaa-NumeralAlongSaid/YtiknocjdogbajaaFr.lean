/- Walks over continued fractions: valid, denominators; the reference's Fraction and Under. -/
import Derived.Test.YtiknocjdogbajaaB
namespace Go.Proofs.Ytiknocjdogbajaa
open Go.RowKit

theorem ite_min (x y : Int) : (if y < x then y else x) = min x y := by split <;> omega
theorem ite_max (x y : Int) : (if x < y then y else x) = max x y := by split <;> omega
/-- a slice of the call's own with elements: where it lies, and its cells -/
theorem Own.seen {w : World} {base : Nat} {v : Value} {xs : List Int} (h : Own w base v xs) (hx : 0 < xs.length) :
    ∃ g cap, v = .slice (some ⟨g, 0, none⟩) xs.length cap ∧ xs.length ≤ cap ∧ base ≤ g ∧ g < w.heap.size ∧ ∀ (j : Nat) (u : Int), xs[j]? = some u → w.cell? ⟨g, j, none⟩ = some (.int .i64 u) := by
  have hh := h
  rcases h.2 with ⟨_, h0⟩ | ⟨g, cap, cur, hv, hb, hg, hnc, _⟩
  · omega
  · subst hv
    refine ⟨g, cap, rfl, hnc, hb, (Array.getElem?_eq_some_iff.1 hg).1, fun j u hu => ?_⟩
    have := World.ownsRow.cells hh (g := g) rfl j (.int .i64 u) (by rw [List.getElem?_map, hu]; rfl)
    rwa [addr_head] at this

/-- the least number of a list -/
def IsMin (q : List Int) (m : Int) : Prop := m ∈ q ∧ ∀ x ∈ q, m ≤ x
def IsMax (q : List Int) (m : Int) : Prop := m ∈ q ∧ ∀ x ∈ q, x ≤ m
theorem IsMin.snoc {q : List Int} {m x : Int} (h : IsMin q m) : IsMin (q ++ [x]) (min m x) := by
  refine ⟨?_, fun y hy => ?_⟩
  · by_cases hx : m ≤ x
    · rw [Int.min_eq_left hx]; exact List.mem_append_left _ h.1
    · rw [Int.min_eq_right (by omega)]; simp
  · rcases List.mem_append.1 hy with hy | hy
    · have := h.2 y hy; omega
    · simp at hy; omega
theorem IsMax.snoc {q : List Int} {m x : Int} (h : IsMax q m) : IsMax (q ++ [x]) (max m x) := by
  refine ⟨?_, fun y hy => ?_⟩
  · by_cases hx : x ≤ m
    · rw [Int.max_eq_left hx]; exact List.mem_append_left _ h.1
    · rw [Int.max_eq_right (by omega)]; simp
  · rcases List.mem_append.1 hy with hy | hy
    · have := h.2 y hy; omega
    · simp at hy; omega
theorem isMin_one (q : List Int) (h : 0 < q.length) : IsMin (q.take 1) q[0] := by
  match q, h with
  | a :: q, _ => exact ⟨by simp, by simp⟩
theorem isMax_one (q : List Int) (h : 0 < q.length) : IsMax (q.take 1) q[0] := by
  match q, h with
  | a :: q, _ => exact ⟨by simp, by simp⟩
def RetMin (q : List Int) (w : World) (e : Ending) (w' : World) : Prop := ∃ m, IsMin q m ∧ e = .returned (.int .i64 m) ∧ w = w'
def RetMax (q : List Int) (w : World) (e : Ending) (w' : World) : Prop := ∃ m, IsMax q m ∧ e = .returned (.int .i64 m) ∧ w = w'

set_option maxHeartbeats 1000000 in
theorem min_any (v : Value) (q : List Int) (h0 : 0 < q.length) (w : World) (hv : Ints w v q) :
    Calls Try.prog 69 #[v] w (RetMin q w) := by
  obtain ⟨hlen, A, c, rfl, hc, hr⟩ := hv
  obtain ⟨ad, rfl, hbl, hcell⟩ := hr (by omega)
  have hck : w.cell? ad = some (.int .i64 q[0]) := hcell 0 q[0] (List.getElem?_eq_getElem h0)
  have hm0 := isMin_one q h0
  generalize q[0] = q0 at *
  have HC := Lib.hid hcell
  have HM0 := Lib.hid hm0
  have hlt1 : decide ((q.length : Int) < 1) = false := decide_eq_false (by omega)
  clear hr hcell hm0
  go_enter Try.func69, Try.ntmps69
  go_wp2_with fail
  go_loop [3, 4] (fun m i => ∃ (k : Nat) (x : Int), 1 ≤ k ∧ k ≤ q.length ∧ i = .int .i64 k ∧ m = .int .i64 x ∧ IsMin (q.take k) x) (fun _ i => q.length - (intOf i).toNat)
  case atStart => exact ⟨1, q0, by omega, by omega, rfl, rfl, HM0.out⟩
  case round =>
    obtain ⟨k, x, hk1, hk, rfl, rfl, hx⟩ := hrel
    have HX := Lib.hid hx
    clear hx
    by_cases hlt : k < q.length
    · have hck := HC.out k q[k] (List.getElem?_eq_getElem hlt)
      have HT := Lib.hid (List.take_succ_eq_append_getElem hlt)
      generalize q[k] = y at *
      go_wp2_with fail
      go_round
      case rel => exact ⟨k + 1, min x y, by omega, by omega, by go_num, by rw [ite_min], by rw [HT.out]; exact HX.out.snoc⟩
      case measure => simp [intOf]; omega
    · obtain rfl : k = q.length := by omega
      rw [List.take_length] at HX
      go_wp2_with fail
      go_ret
      exact ⟨x, HX.out, rfl, rfl⟩
set_option maxHeartbeats 1000000 in
theorem max_any (v : Value) (q : List Int) (h0 : 0 < q.length) (w : World) (hv : Ints w v q) :
    Calls Try.prog 70 #[v] w (RetMax q w) := by
  obtain ⟨hlen, A, c, rfl, hc, hr⟩ := hv
  obtain ⟨ad, rfl, hbl, hcell⟩ := hr (by omega)
  have hck : w.cell? ad = some (.int .i64 q[0]) := hcell 0 q[0] (List.getElem?_eq_getElem h0)
  have hm0 := isMax_one q h0
  generalize q[0] = q0 at *
  have HC := Lib.hid hcell
  have HM0 := Lib.hid hm0
  have hlt1 : decide ((q.length : Int) < 1) = false := decide_eq_false (by omega)
  clear hr hcell hm0
  go_enter Try.func70, Try.ntmps70
  go_wp2_with fail
  go_loop [3, 4] (fun m i => ∃ (k : Nat) (x : Int), 1 ≤ k ∧ k ≤ q.length ∧ i = .int .i64 k ∧ m = .int .i64 x ∧ IsMax (q.take k) x) (fun _ i => q.length - (intOf i).toNat)
  case atStart => exact ⟨1, q0, by omega, by omega, rfl, rfl, HM0.out⟩
  case round =>
    obtain ⟨k, x, hk1, hk, rfl, rfl, hx⟩ := hrel
    have HX := Lib.hid hx
    clear hx
    by_cases hlt : k < q.length
    · have hck := HC.out k q[k] (List.getElem?_eq_getElem hlt)
      have HT := Lib.hid (List.take_succ_eq_append_getElem hlt)
      generalize q[k] = y at *
      go_wp2_with fail
      go_round
      case rel => exact ⟨k + 1, max x y, by omega, by omega, by go_num, by rw [ite_max], by rw [HT.out]; exact HX.out.snoc⟩
      case measure => simp [intOf]; omega
    · obtain rfl : k = q.length := by omega
      rw [List.take_length] at HX
      go_wp2_with fail
      go_ret
      exact ⟨x, HX.out, rfl, rfl⟩

/-- a continued fraction -/
def Fr (q : List Int) : Prop := 1 ≤ q.length ∧ q.length ≤ 10 ∧ ∀ x ∈ q, 1 ≤ x ∧ x ≤ 9
set_option maxHeartbeats 1000000 in
theorem fvalid_yes (v : Value) (q : List Int) (h : Fr q) (w : World) (hv : Ints w v q) :
    Calls Try.prog 64 #[v] w fun e w' => e = .returned (.bool true) ∧ w = w' := by
  obtain ⟨h1, h10, hall⟩ := h
  have HV := Lib.hid hv
  obtain ⟨hlen, A, c, rfl, hc, hr⟩ := hv
  have HA := Lib.hid hall
  have ha1 : decide (1 ≤ q.length) = true := decide_eq_true h1
  have ha2 : decide (q.length ≤ 10) = true := decide_eq_true h10
  clear hr hall
  go_enter Try.func64, Try.ntmps64
  go_wp2_with fail
  refine (min_any _ q (by omega) _ HV.out).mono ?_
  rintro e _ ⟨m, hm, rfl, rfl⟩
  have hm1 : 1 ≤ m := (HA.out m hm.1).1
  have hd1 : decide (1 ≤ m) = true := decide_eq_true hm1
  clear hm
  go_wp2_with fail
  refine (max_any _ q (by omega) _ HV.out).mono ?_
  rintro e _ ⟨x, hx, rfl, rfl⟩
  have hx1 : x ≤ 9 := (HA.out x hx.1).2
  have hd2 : decide (x ≤ 9) = true := decide_eq_true hx1
  clear hx
  go_wp2_with fail
  go_ret
  exact ⟨rfl, rfl⟩
set_option maxHeartbeats 1000000 in
theorem fvalid_no (v : Value) (q : List Int) (h : ¬ Fr q) (w : World) (hv : Ints w v q) :
    Calls Try.prog 64 #[v] w fun e w' => e = .returned (.bool false) ∧ w = w' := by
  have HV := Lib.hid hv
  obtain ⟨hlen, A, c, rfl, hc, hr⟩ := hv
  clear hr
  have HF := Lib.hid h
  clear h
  by_cases h1 : 1 ≤ q.length
  · have ha1 : decide (1 ≤ q.length) = true := decide_eq_true h1
    by_cases h10 : q.length ≤ 10
    · have ha2 : decide (q.length ≤ 10) = true := decide_eq_true h10
      go_enter Try.func64, Try.ntmps64
      go_wp2_with fail
      refine (min_any _ q (by omega) _ HV.out).mono ?_
      rintro e _ ⟨m, hm, rfl, rfl⟩
      have HM := Lib.hid hm
      clear hm
      by_cases hm1 : 1 ≤ m
      · have hd1 : decide (1 ≤ m) = true := decide_eq_true hm1
        go_wp2_with fail
        refine (max_any _ q (by omega) _ HV.out).mono ?_
        rintro e _ ⟨x, hx, rfl, rfl⟩
        have hd2 : decide (x ≤ 9) = false := by
          refine decide_eq_false (fun hx9 => HF.out ⟨h1, h10, fun y hy => ?_⟩)
          have := HM.out.2 y hy
          have := hx.2 y hy
          omega
        clear hx
        go_wp2_with fail
        go_ret
        exact ⟨rfl, rfl⟩
      · have hd1 : decide (1 ≤ m) = false := decide_eq_false hm1
        go_wp2_with fail
        go_ret
        exact ⟨rfl, rfl⟩
    · have ha2 : decide (q.length ≤ 10) = false := decide_eq_false h10
      go_enter Try.func64, Try.ntmps64
      go_wp2_with fail
      go_ret
      exact ⟨rfl, rfl⟩
  · have ha1 : decide (1 ≤ q.length) = false := decide_eq_false h1
    go_enter Try.func64, Try.ntmps64
    go_wp2_with fail
    go_ret
    exact ⟨rfl, rfl⟩

/-- the denominators -/
def den (q : List Int) : Nat → Int
  | 0 => 1
  | 1 => q.getD 0 0
  | k + 2 => q.getD (k + 1) 0 * den q (k + 1) + den q k
def dlast (q : List Int) : Nat → Int
  | 0 => 0
  | k + 1 => den q k
theorem den_succ (q : List Int) (k : Nat) : den q (k + 1) = q.getD k 0 * den q k + dlast q k := by
  match k with
  | 0 => simp [den, dlast]
  | k + 1 => rfl
def dens (q : List Int) (n : Nat) : List Int := (List.range n).map (den q)
theorem dens_length (q : List Int) (n : Nat) : (dens q n).length = n := by simp [dens]
theorem dens_succ (q : List Int) (n : Nat) : dens q (n + 1) = dens q n ++ [den q n] := by simp [dens, List.range_succ]
theorem dens_get (q : List Int) (n k : Nat) (h : k < n) : (dens q n)[k]? = some (den q k) := by
  simp [dens, h]
theorem Fr.at {q : List Int} (h : Fr q) (k : Nat) (hk : k < q.length) : 1 ≤ q.getD k 0 ∧ q.getD k 0 ≤ 9 := by
  have := h.2.2 q[k] (List.getElem_mem hk)
  simp [List.getD, List.getElem?_eq_getElem hk]
  omega
theorem den_bd (q : List Int) (h : Fr q) : ∀ k, k ≤ q.length → 1 ≤ den q k ∧ 0 ≤ dlast q k ∧ dlast q k ≤ den q k ∧ den q k ≤ 10 ^ k := by
  intro k
  induction k with
  | zero => intro _; simp [den, dlast]
  | succ k ih =>
    intro hk
    obtain ⟨h1, h2, h3, h4⟩ := ih (by omega)
    obtain ⟨a1, a9⟩ := h.at k (by omega)
    rw [den_succ]
    have e : dlast q (k + 1) = den q k := rfl
    rw [e]
    have m1 : 1 * den q k ≤ q.getD k 0 * den q k := Int.mul_le_mul_of_nonneg_right a1 (by omega)
    have m2 : q.getD k 0 * den q k ≤ 9 * den q k := Int.mul_le_mul_of_nonneg_right a9 (by omega)
    have e10 : (10 : Int) ^ (k + 1) = 10 ^ k * 10 := Int.pow_succ _ _
    omega
theorem ten_le (k : Nat) (h : k ≤ 10) : (10 : Int) ^ k ≤ 10000000000 := by
  have := Nat.pow_le_pow_right (show 0 < 10 by omega) h
  have e : (10 : Int) ^ k = ((10 ^ k : Nat) : Int) := by simp
  rw [e]
  have : 10 ^ 10 = 10000000000 := rfl
  omega
theorem den_le (q : List Int) (h : Fr q) (k : Nat) (hk : k ≤ q.length) : 1 ≤ den q k ∧ 0 ≤ dlast q k ∧ dlast q k ≤ den q k ∧ den q k ≤ 10000000000 := by
  obtain ⟨h1, h2, h3, h4⟩ := den_bd q h k hk
  have := ten_le k (by have := h.2.1; omega)
  exact ⟨h1, h2, h3, by omega⟩
theorem getD_get (q : List Int) (k : Nat) (h : k < q.length) : q[k]? = some (q.getD k 0) := by
  simp [List.getD, List.getElem?_eq_getElem h]

set_option maxHeartbeats 1000000 in
theorem denominators_any (v : Value) (q : List Int) (h : Fr q) (w : World) (hv : Ints w v q) :
    Calls Try.prog 65 #[v] w fun e w' => ∃ v', e = .returned v' ∧ Own w' w.heap.size v' (dens q (q.length + 1)) ∧ Below w.heap.size w w' := by
  have h10 := h.2.1
  have HA := Lib.hid h.at
  have HB := Lib.hid (den_le q h)
  obtain ⟨hlen, A, c, rfl, hc, hr⟩ := hv
  obtain ⟨ad, rfl, hbl, hcell⟩ := hr (by have := h.1; omega)
  have HC := Lib.hid hcell
  clear hr hcell h
  go_enter Try.func65, Try.ntmps65
  go_wp2_with fail
  go_loopw [3, 4, 5, 12] (fun l n o i wr => ∃ k : Nat, k ≤ q.length ∧ i = .int .i64 k ∧ l = .int .i64 (dlast q k) ∧ n = .int .i64 (den q k) ∧ Own wr w.heap.size o (dens q (k + 1)) ∧ Below w.heap.size w wr)
    (fun _ _ _ i _ => q.length - (intOf i).toNat)
  case atStart => exact ⟨0, by omega, rfl, rfl, rfl, Own.lit w _ (Nat.le_refl _) _ _ _ rfl rfl (by simp [dens]), (Below.refl _ _).alloc (Nat.le_refl _) _⟩
  case round =>
    obtain ⟨k, hk, rfl, rfl, rfl, hown, hb⟩ := hrel
    by_cases hlt : k < q.length
    · have hck := (hb.cell (p := ad.add k) (by rw [addr_block]; exact hbl)).trans (HC.out k _ (getD_get q k hlt))
      obtain ⟨a1, a9⟩ := HA.out k hlt
      obtain ⟨b1, b2, b3, b4⟩ := HB.out k hk
      have m1 : 1 * den q k ≤ q.getD k 0 * den q k := Int.mul_le_mul_of_nonneg_right a1 (by omega)
      have m2 : q.getD k 0 * den q k ≤ 9 * den q k := Int.mul_le_mul_of_nonneg_right a9 (by omega)
      have m3 : 0 ≤ q.getD k 0 * den q k := by omega
      have m4 : q.getD k 0 * den q k ≤ 90000000000 := by omega
      have HS := Lib.hid (den_succ q k)
      have HL := Lib.hid (show dlast q (k + 1) = den q k from rfl)
      have HD := Lib.hid (dens_succ q (k + 1))
      have hlo := dens_length q (k + 1)
      generalize q.getD k 0 = a at *
      generalize dlast q k = l at *
      generalize den q k = d at *
      have HO := Lib.hid hlo
      clear m1 m2 hlo
      go_wp2_with (at_builtin; refine wpList_append_new _ rfl _ _ 30 rfl Try.underlying30 w.heap.size u5 (dens q (k + 1)) rfl hown (a * d + l) rfl (by rw [HO.out]; omega) hb.size ?_; intro v' w1 hown1 _ hb1)
      go_roundw
      case rel => exact ⟨k + 1, by omega, by go_num, by rw [HL.out], by rw [HS.out], by rw [HD.out, HS.out]; exact hown1, hb.trans hb1⟩
      case measure => simp [intOf]; omega
    · obtain rfl : k = q.length := by omega
      go_wp2_with fail
      go_ret
      exact ⟨_, rfl, hown, hb⟩

theorem dens_next {w1 : World} {base : Nat} {v' : Value} {q : List Int} {k : Nat} {x : Int} (hown : Own w1 base v' (dens q (k + 1) ++ [x])) (hx : den q (k + 1) = x) :
    ∃ g cap, v' = .slice (some ⟨g, 0, none⟩) (k + 2) cap ∧ k + 2 ≤ cap ∧ g < w1.heap.size ∧ w1.cell? ⟨g, k, none⟩ = some (.int .i64 (den q k)) ∧ Own w1 base (.slice (some ⟨g, 0, none⟩) (k + 2) cap) (dens q (k + 2)) := by
  rw [← hx, ← dens_succ] at hown
  have hl := dens_length q (k + 1 + 1)
  obtain ⟨g, cap, rfl, h1, h2, h3, h4⟩ := hown.seen (by omega)
  rw [hl] at h1 hown ⊢
  exact ⟨g, cap, rfl, h1, h3, h4 k _ (dens_get q _ k (by omega)), hown⟩

set_option maxHeartbeats 1000000 in
theorem under_any (v : Value) (q : List Int) (h : Fr q) (w : World) (hv : Ints w v q) :
    Calls Try.prog 40 #[v] w fun e w' => ∃ v', e = .returned v' ∧ Own w' w.heap.size v' (dens q (q.length + 1)) ∧ Below w.heap.size w w' := by
  have h10 := h.2.1
  have HA := Lib.hid h.at
  have HB := Lib.hid (den_le q h)
  obtain ⟨hlen, A, c, rfl, hc, hr⟩ := hv
  obtain ⟨ad, rfl, hbl, hcell⟩ := hr (by have := h.1; omega)
  have HC := Lib.hid hcell
  clear hr hcell h
  go_enter Try.func40, Try.ntmps40
  go_wp2_with fail
  go_loopw [3, 4, 10] (fun o l i wr => ∃ k : Nat, k ≤ q.length ∧ i = .int .i64 k ∧ l = .int .i64 (dlast q k) ∧ Own wr w.heap.size o (dens q (k + 1)) ∧ Below w.heap.size w wr)
    (fun _ _ i _ => q.length - (intOf i).toNat)
  case atStart => exact ⟨0, by omega, rfl, rfl, Own.lit w _ (Nat.le_refl _) _ _ _ rfl rfl (by simp [dens]), (Below.refl _ _).alloc (Nat.le_refl _) _⟩
  case round =>
    obtain ⟨k, hk, rfl, rfl, hown, hb⟩ := hrel
    by_cases hlt : k < q.length
    · have hck := (hb.cell (p := ad.add k) (by rw [addr_block]; exact hbl)).trans (HC.out k _ (getD_get q k hlt))
      obtain ⟨a1, a9⟩ := HA.out k hlt
      obtain ⟨b1, b2, b3, b4⟩ := HB.out k hk
      have m1 : 1 * den q k ≤ q.getD k 0 * den q k := Int.mul_le_mul_of_nonneg_right a1 (by omega)
      have m2 : q.getD k 0 * den q k ≤ 9 * den q k := Int.mul_le_mul_of_nonneg_right a9 (by omega)
      have m3 : 0 ≤ q.getD k 0 * den q k := by omega
      have m4 : q.getD k 0 * den q k ≤ 90000000000 := by omega
      have HS := Lib.hid (den_succ q k)
      have HL := Lib.hid (show dlast q (k + 1) = den q k from rfl)
      have HD := Lib.hid (dens_succ q (k + 1))
      have hlo := dens_length q (k + 1)
      have hdk := dens_get q (k + 1) k (by omega)
      have hdk1 := dens_get q (k + 2) k (by omega)
      have hlo1 := dens_length q (k + 2)
      obtain ⟨g, cap, rfl, hcap, hg1, hg2, hcs⟩ := hown.seen (by omega)
      have c0 := hcs k _ hdk
      rw [hlo] at hcap hown
      have HO := Lib.hid hlo
      clear m1 m2 hlo hdk hdk1 hcs hlo1
      have HNX := Lib.hid (@dens_next (q := q) (k := k))
      generalize q.getD k 0 = a at *
      generalize dlast q k = l at *
      generalize den q k = d at *
      rw [HO.out]
      go_wp2_with (at_builtin; refine wpList_append_new _ rfl _ _ 30 rfl Try.underlying30 w.heap.size (.slice (some ⟨g, 0, none⟩) (k + 1) cap) (dens q (k + 1)) rfl hown (a * d + l) rfl (by rw [HO.out]; omega) hb.size ?_; intro v' w1 hown1 _ hb1; obtain ⟨g', cap', rfl, hcap', hg', c1, hown2⟩ := HNX.out _ _ _ hown1 HS.out; clear c0 hown hown1 hck)
      go_roundw
      case rel => exact ⟨k + 1, by omega, by go_num, by rw [HL.out], hown2, hb.trans hb1⟩
      case measure => simp [intOf]; omega
    · obtain rfl : k = q.length := by omega
      go_wp2_with fail
      go_ret
      exact ⟨_, rfl, hown, hb⟩
end Go.Proofs.Ytiknocjdogbajaa
