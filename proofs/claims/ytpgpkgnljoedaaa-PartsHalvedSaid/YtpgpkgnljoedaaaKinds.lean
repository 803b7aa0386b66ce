/- Walk of Kinds, and of the law PartsKinds. -/
import Derived.Test.YtpgpkgnljoedaaaKg
import Derived.Test.YtpgpkgnljoedaaaKk
import Derived.Test.YtpgpkgnljoedaaaKl
import Derived.Test.YtpgpkgnljoedaaaPn
import Derived.Test.YtpgpkgnljoedaaaLi
namespace Go.Proofs.Ytpgpkgnljoedaaa
open Go.RowKit
theorem al12 : alR 1 2 = odd1 := by funext x; unfold alR odd1; simp
theorem al15 : alR 1 5 = res1 := rfl
theorem al25 : alR 2 5 = res2 := rfl
theorem GM.new (g : Nat) (w : World) : GM g (w.alloc (.map #[] 0)) w.heap.size [] := ⟨.map [], World.ownsMap_made w Try.prog 77 (plainElem (H := Unit) Try.prog 3), GapOk.zero g⟩

set_option maxRecDepth 100000 in
set_option maxHeartbeats 4000000 in
theorem Kinds0 (n : Nat) (hn : n ≤ 100) (w : World) :
    Calls Try.prog 30 #[.int .i64 n, .int .i64 0] w fun e w' => e = .returned (.tuple #[.int .i64 (gap 1 n 1 : Nat), .int .i64 0]) ∧ Below w.heap.size w w' := by
  have hmm := @run_makeMap Try.prog
  have d1 : decide (100 < n) = false := decide_eq_false (by omega)
  have hc : Calls Try.prog 65 #[.int .i64 n, .int .i64 1, .int .i64 1, .map (some w.heap.size)] (w.alloc (.map #[] 0)) (fun e w' => e = .returned (.int .i64 (gap 1 n 1 : Nat)) ∧ (∃ S', GM 1 w' w.heap.size S' ∧ Fresh [] S' (n + 1)) ∧ (w.alloc (.map #[] 0)).grownBy w' (some w.heap.size)) :=
    gaps_any 1 (by omega) w.heap.size n n (Nat.le_refl _) hn 1 (by omega) (by omega) _ _ (GM.new 1 w)
  have HC := Lib.hid hc
  clear hc
  go_enter Try.func30, Try.ntmps30
  go_wp2_with fail
  refine HC.out.mono ?_
  rintro e w1 ⟨rfl, _, hg⟩
  have hb : Below w.heap.size w w1 := ((Below.refl w.heap.size w).alloc (Nat.le_refl _) (.map #[] 0)).grown hg (by simp) (fun k e => by cases e; exact Nat.le_refl _)
  clear HC hmm hg
  go_wp2_with fail
  go_ret2
  exact ⟨rfl, hb⟩

set_option maxRecDepth 100000 in
set_option maxHeartbeats 4000000 in
theorem Kinds2 (n : Nat) (hn : n ≤ 100) (w : World) :
    Calls Try.prog 30 #[.int .i64 n, .int .i64 2] w fun e w' => e = .returned (.tuple #[.int .i64 (gap 2 n 1 : Nat), .int .i64 0]) ∧ Below w.heap.size w w' := by
  have hmm := @run_makeMap Try.prog
  have d1 : decide (100 < n) = false := decide_eq_false (by omega)
  have hc : Calls Try.prog 65 #[.int .i64 n, .int .i64 1, .int .i64 2, .map (some w.heap.size)] (w.alloc (.map #[] 0)) (fun e w' => e = .returned (.int .i64 (gap 2 n 1 : Nat)) ∧ (∃ S', GM 2 w' w.heap.size S' ∧ Fresh [] S' (n + 1)) ∧ (w.alloc (.map #[] 0)).grownBy w' (some w.heap.size)) :=
    gaps_any 2 (by omega) w.heap.size n n (Nat.le_refl _) hn 1 (by omega) (by omega) _ _ (GM.new 2 w)
  have HC := Lib.hid hc
  clear hc
  go_enter Try.func30, Try.ntmps30
  go_wp2_with fail
  refine HC.out.mono ?_
  rintro e w1 ⟨rfl, _, hg⟩
  have hb : Below w.heap.size w w1 := ((Below.refl w.heap.size w).alloc (Nat.le_refl _) (.map #[] 0)).grown hg (by simp) (fun k e => by cases e; exact Nat.le_refl _)
  clear HC hmm hg
  go_wp2_with fail
  go_ret2
  exact ⟨rfl, hb⟩

set_option maxRecDepth 100000 in
set_option maxHeartbeats 4000000 in
theorem Kinds4 (n : Nat) (hn : n ≤ 100) (w : World) :
    Calls Try.prog 30 #[.int .i64 n, .int .i64 4] w fun e w' => e = .returned (.tuple #[.int .i64 (gap 2 n 2 : Nat), .int .i64 0]) ∧ Below w.heap.size w w' := by
  have hmm := @run_makeMap Try.prog
  have d1 : decide (100 < n) = false := decide_eq_false (by omega)
  have hc : Calls Try.prog 65 #[.int .i64 n, .int .i64 2, .int .i64 2, .map (some w.heap.size)] (w.alloc (.map #[] 0)) (fun e w' => e = .returned (.int .i64 (gap 2 n 2 : Nat)) ∧ (∃ S', GM 2 w' w.heap.size S' ∧ Fresh [] S' (n + 1)) ∧ (w.alloc (.map #[] 0)).grownBy w' (some w.heap.size)) :=
    gaps_any 2 (by omega) w.heap.size n n (Nat.le_refl _) hn 2 (by omega) (by omega) _ _ (GM.new 2 w)
  have HC := Lib.hid hc
  clear hc
  go_enter Try.func30, Try.ntmps30
  go_wp2_with fail
  refine HC.out.mono ?_
  rintro e w1 ⟨rfl, _, hg⟩
  have hb : Below w.heap.size w w1 := ((Below.refl w.heap.size w).alloc (Nat.le_refl _) (.map #[] 0)).grown hg (by simp) (fun k e => by cases e; exact Nat.le_refl _)
  clear HC hmm hg
  go_wp2_with fail
  go_ret2
  exact ⟨rfl, hb⟩

set_option maxRecDepth 100000 in
set_option maxHeartbeats 4000000 in
theorem Kinds1 (n : Nat) (hn : n ≤ 100) (w : World) :
    Calls Try.prog 30 #[.int .i64 n, .int .i64 1] w fun e w' => e = .returned (.tuple #[.int .i64 (V (alR 1 2) n n : Nat), .int .i64 0]) ∧ Below w.heap.size w w' := by
  have d1 : decide (100 < n) = false := decide_eq_false (by omega)
  have HR := Lib.hid (fun W => show Calls Try.prog 66 #[.int .i64 1, .int .i64 2] W (fun e w' => ∃ b1 b2, e = .returned (resV b1 b2) ∧ Boxes w' b1 b2 2 1 ∧ Below W.heap.size W w') from residue_any 1 2 W)
  have HC := Lib.hid (fun b1 b2 W h => counts86 n hn b1 b2 2 1 (by omega) (by omega) (by omega) W h)
  go_enter Try.func30, Try.ntmps30
  go_wp2_with fail
  refine (HR.out _).mono ?_
  rintro e w1 ⟨b1, b2, rfl, hbx, hb1⟩
  have HBX := Lib.hid hbx
  clear hbx HR
  go_wp2_with fail
  refine (HC.out b1 b2 _ HBX.out).mono ?_
  rintro e w2 ⟨rfl, hrow, hb2⟩
  have cn := hrow.cell (i := n) (by omega)
  unfold fullR at cn
  have hb := hb1.trans (hb2.mono hb1.size)
  clear hrow hb1 hb2 HC HBX
  go_wp2_with fail
  go_ret2
  exact ⟨rfl, hb⟩

set_option maxRecDepth 100000 in
set_option maxHeartbeats 4000000 in
theorem Kinds3 (n : Nat) (hn : n ≤ 100) (w : World) :
    Calls Try.prog 30 #[.int .i64 n, .int .i64 3] w fun e w' => e = .returned (.tuple #[.int .i64 (V (alR 1 5) n n : Nat), .int .i64 0]) ∧ Below w.heap.size w w' := by
  have d1 : decide (100 < n) = false := decide_eq_false (by omega)
  have HR := Lib.hid (fun W => show Calls Try.prog 66 #[.int .i64 1, .int .i64 5] W (fun e w' => ∃ b1 b2, e = .returned (resV b1 b2) ∧ Boxes w' b1 b2 5 1 ∧ Below W.heap.size W w') from residue_any 1 5 W)
  have HC := Lib.hid (fun b1 b2 W h => counts86 n hn b1 b2 5 1 (by omega) (by omega) (by omega) W h)
  go_enter Try.func30, Try.ntmps30
  go_wp2_with fail
  refine (HR.out _).mono ?_
  rintro e w1 ⟨b1, b2, rfl, hbx, hb1⟩
  have HBX := Lib.hid hbx
  clear hbx HR
  go_wp2_with fail
  refine (HC.out b1 b2 _ HBX.out).mono ?_
  rintro e w2 ⟨rfl, hrow, hb2⟩
  have cn := hrow.cell (i := n) (by omega)
  unfold fullR at cn
  have hb := hb1.trans (hb2.mono hb1.size)
  clear hrow hb1 hb2 HC HBX
  go_wp2_with fail
  go_ret2
  exact ⟨rfl, hb⟩

set_option maxRecDepth 100000 in
set_option maxHeartbeats 4000000 in
theorem Kinds5 (n : Nat) (hn : n ≤ 100) (w : World) :
    Calls Try.prog 30 #[.int .i64 n, .int .i64 5] w fun e w' => e = .returned (.tuple #[.int .i64 (V (alR 2 5) n n : Nat), .int .i64 0]) ∧ Below w.heap.size w w' := by
  have d1 : decide (100 < n) = false := decide_eq_false (by omega)
  have HR := Lib.hid (fun W => show Calls Try.prog 66 #[.int .i64 2, .int .i64 5] W (fun e w' => ∃ b1 b2, e = .returned (resV b1 b2) ∧ Boxes w' b1 b2 5 2 ∧ Below W.heap.size W w') from residue_any 2 5 W)
  have HC := Lib.hid (fun b1 b2 W h => counts86 n hn b1 b2 5 2 (by omega) (by omega) (by omega) W h)
  go_enter Try.func30, Try.ntmps30
  go_wp2_with fail
  refine (HR.out _).mono ?_
  rintro e w1 ⟨b1, b2, rfl, hbx, hb1⟩
  have HBX := Lib.hid hbx
  clear hbx HR
  go_wp2_with fail
  refine (HC.out b1 b2 _ HBX.out).mono ?_
  rintro e w2 ⟨rfl, hrow, hb2⟩
  have cn := hrow.cell (i := n) (by omega)
  unfold fullR at cn
  have hb := hb1.trans (hb2.mono hb1.size)
  clear hrow hb1 hb2 HC HBX
  go_wp2_with fail
  go_ret2
  exact ⟨rfl, hb⟩

set_option maxHeartbeats 1000000 in
theorem Kinds_no (n k : Int) (hn : n < 0 ∨ 100 < n) (w : World) :
    Calls Try.prog 30 #[.int .i64 n, .int .i64 k] w fun e w' => e = .returned (.tuple #[.int .i64 0, .int .i64 2]) ∧ w = w' := by
  by_cases h0 : n < 0
  · have d0 : decide (n < 0) = true := decide_eq_true h0
    clear hn
    go_enter Try.func30, Try.ntmps30
    go_wp2_with fail
    go_ret2
    exact ⟨rfl, rfl⟩
  · have d0 : decide (n < 0) = false := decide_eq_false h0
    have d1 : decide (100 < n) = true := decide_eq_true (by omega)
    clear hn
    go_enter Try.func30, Try.ntmps30
    go_wp2_with fail
    go_ret2
    exact ⟨rfl, rfl⟩
set_option maxHeartbeats 1000000 in
theorem Kinds_else (n : Nat) (k : Int) (hn : n ≤ 100) (hk : k < 0 ∨ 5 < k) (w : World) :
    Calls Try.prog 30 #[.int .i64 n, .int .i64 k] w fun e w' => e = .returned (.tuple #[.int .i64 0, .int .i64 2]) ∧ w = w' := by
  have d1 : decide (100 < n) = false := decide_eq_false (by omega)
  have e0 : (k == 0) = false := beq_eq_false_iff_ne.2 (by omega)
  have e1 : (k == 1) = false := beq_eq_false_iff_ne.2 (by omega)
  have e2 : (k == 2) = false := beq_eq_false_iff_ne.2 (by omega)
  have e3 : (k == 3) = false := beq_eq_false_iff_ne.2 (by omega)
  have e4 : (k == 4) = false := beq_eq_false_iff_ne.2 (by omega)
  have e5 : (k == 5) = false := beq_eq_false_iff_ne.2 (by omega)
  clear hk
  go_enter Try.func30, Try.ntmps30
  go_wp2_with fail
  go_ret2
  exact ⟨rfl, rfl⟩
/-- how many partitions of n are of a kind -/
def kv (n : Nat) : Nat → Nat
  | 0 => gap 1 n 1
  | 1 => gap 1 n 1
  | 2 => gap 2 n 1
  | 3 => gap 2 n 1
  | _ => gap 2 n 2
theorem kv_bd (n k : Nat) (hn : n ≤ 100) : kv n k ≤ 1000000 := by
  unfold kv
  split <;> first | exact gap_bd 1 n 1 (by omega) hn (by omega) | exact gap_bd 2 n 1 (by omega) hn (by omega) | exact gap_bd 2 n 2 (by omega) hn (by omega)
theorem Kinds_any (n k : Nat) (hn : n ≤ 100) (hk : k ≤ 5) (w : World) :
    Calls Try.prog 30 #[.int .i64 n, .int .i64 k] w fun e w' => e = .returned (.tuple #[.int .i64 (kv n k : Nat), .int .i64 0]) ∧ Below w.heap.size w w' := by
  match k, hk with
  | 0, _ => exact Kinds0 n hn w
  | 1, _ => have h := Kinds1 n hn w; rw [al12, ← gap_V1 n hn] at h; exact h
  | 2, _ => exact Kinds2 n hn w
  | 3, _ => have h := Kinds3 n hn w; rw [al15, ← gap_V3 n hn] at h; exact h
  | 4, _ => exact Kinds4 n hn w
  | 5, _ => have h := Kinds5 n hn w; rw [al25, ← gap_V5 n hn] at h; exact h
theorem rKinds_any (n k : Nat) (hn : n ≤ 100) (hk : k ≤ 5) (w : World) :
    Calls Try.prog 32 #[.int .i64 n, .int .i64 k] w fun e w' => e = .returned (.int .i64 (kv n k : Nat)) ∧ Below w.heap.size w w' := by
  match k, hk with
  | 0, _ => have h := rKinds0 n hn w; rw [← gap_U n hn] at h; exact h
  | 1, _ => have h := rKinds1 n hn w; rw [← gap_V1 n hn] at h; exact h
  | 2, _ => have h := rKinds2 n hn w; rw [← gap_W1 n hn] at h; exact h
  | 3, _ => have h := rKinds3 n hn w; rw [← gap_V3 n hn] at h; exact h
  | 4, _ => have h := rKinds4 n hn w; rw [← gap_W2 n hn] at h; exact h
  | 5, _ => have h := rKinds5 n hn w; rw [← gap_V5 n hn] at h; exact h
set_option maxHeartbeats 4000000 in
theorem kinds_else (n : Nat) (k : Int) (hn : n ≤ 100) (hk : k < 0 ∨ 5 < k) (w : World) :
    Calls Try.prog 6 #[.int .i64 n, .int .i64 k] w fun e w' => e = .returned (.bool true) ∧ Below w.heap.size w w' := by
  have d1 : decide (100 < n) = false := decide_eq_false (by omega)
  have HK := Lib.hid hk
  have HE := Lib.hid (En_le n n (by omega))
  have dk : (decide (k < 0) = true) ∨ (decide (k < 0) = false ∧ decide (5 < k) = true) := by
    by_cases h : k < 0
    · exact .inl (decide_eq_true h)
    · exact .inr ⟨decide_eq_false h, decide_eq_true (by omega)⟩
  have DK := Lib.hid dk
  clear hk dk
  go_enter Try.func6, Try.ntmps6
  go_wp2_with fail
  with_reducible refine (Kinds_else n k hn HK.out _).mono ?_
  rintro e _ ⟨rfl, rfl⟩
  go_wp2_with fail
  with_reducible refine (Pentagonal_ok n hn _).mono ?_
  rintro e w1 ⟨rfl, hb1⟩
  have HB1 := Lib.hid hb1
  clear hb1
  go_wp2_with fail
  with_reducible refine (rPentagonal_any n hn _).mono ?_
  rintro e w2 ⟨rfl, hb2⟩
  have HB2 := Lib.hid (HB1.out.trans (hb2.mono HB1.out.size))
  clear hb2
  generalize En n n = y at *
  go_wp2_with fail
  with_reducible refine (awake_any _).mono ?_
  rintro e w3 ⟨rfl, hb3⟩
  have HB3 := Lib.hid (HB2.out.trans (hb3.mono HB2.out.size))
  clear hb3
  rcases DK.out with h | ⟨h, h'⟩
  · go_wp2_with fail
    go_ret
    exact ⟨rfl, HB3.out⟩
  · go_wp2_with fail
    go_ret
    exact ⟨rfl, HB3.out⟩
set_option maxHeartbeats 4000000 in
theorem kinds_in (n k : Nat) (hn : n ≤ 100) (hk : k ≤ 5) (w : World) :
    Calls Try.prog 6 #[.int .i64 n, .int .i64 k] w fun e w' => e = .returned (.bool true) ∧ Below w.heap.size w w' := by
  have d1 : decide (100 < n) = false := decide_eq_false (by omega)
  have d2 : decide (5 < k) = false := decide_eq_false (by omega)
  have hbd := kv_bd n k hn
  go_enter Try.func6, Try.ntmps6
  go_wp2_with fail
  with_reducible refine (Kinds_any n k hn hk _).mono ?_
  rintro e w0 ⟨rfl, hb0⟩
  have HB0 := Lib.hid hb0
  clear hb0
  go_wp2_with fail
  with_reducible refine (Pentagonal_ok n hn _).mono ?_
  rintro e w1 ⟨rfl, hb1⟩
  have HB1 := Lib.hid (HB0.out.trans (hb1.mono HB0.out.size))
  clear hb1
  go_wp2_with fail
  with_reducible refine (rPentagonal_any n hn _).mono ?_
  rintro e w2 ⟨rfl, hb2⟩
  have HB2 := Lib.hid (HB1.out.trans (hb2.mono HB1.out.size))
  clear hb2
  generalize En n n = y at *
  go_wp2_with fail
  with_reducible refine (awake_any _).mono ?_
  rintro e w3 ⟨rfl, hb3⟩
  have HB3 := Lib.hid (HB2.out.trans (hb3.mono HB2.out.size))
  clear hb3
  go_wp2_with fail
  with_reducible refine (rKinds_any n k hn hk _).mono ?_
  rintro e w4 ⟨rfl, hb4⟩
  have HB4 := Lib.hid (HB3.out.trans (hb4.mono HB3.out.size))
  clear hb4
  go_wp2_with fail
  go_ret
  exact ⟨rfl, HB4.out⟩
set_option maxHeartbeats 4000000 in
theorem kinds_out (n k : Int) (hn : n < 0 ∨ 100 < n) (w : World) :
    Calls Try.prog 6 #[.int .i64 n, .int .i64 k] w fun e w' => e = .returned (.bool true) ∧ Below w.heap.size w w' := by
  have HN := Lib.hid hn
  have dk : (decide (n < 0) = true) ∨ (decide (n < 0) = false ∧ decide (100 < n) = true) := by
    by_cases h : n < 0
    · exact .inl (decide_eq_true h)
    · exact .inr ⟨decide_eq_false h, decide_eq_true (by omega)⟩
  clear hn
  have DK := Lib.hid dk
  clear dk
  go_enter Try.func6, Try.ntmps6
  go_wp2_with fail
  with_reducible refine (Kinds_no n k HN.out _).mono ?_
  rintro e _ ⟨rfl, rfl⟩
  go_wp2_with fail
  with_reducible refine (Pentagonal_no n HN.out _).mono ?_
  rintro e _ ⟨rfl, rfl⟩
  rcases DK.out with h | ⟨h, h'⟩
  · go_wp2_with fail
    with_reducible refine (awake_any _).mono ?_
    rintro e w3 ⟨rfl, hb3⟩
    go_wp2_with fail
    go_ret
    exact ⟨rfl, hb3⟩
  · go_wp2_with fail
    with_reducible refine (awake_any _).mono ?_
    rintro e w3 ⟨rfl, hb3⟩
    go_wp2_with fail
    go_ret
    exact ⟨rfl, hb3⟩
theorem partsKinds_walk (w : World) (n : Int) (_ : -9223372036854775808 ≤ n ∧ n ≤ 9223372036854775807) (k : Int) (_ : -9223372036854775808 ≤ k ∧ k ≤ 9223372036854775807) :
    Calls Try.prog 6 #[.int .i64 n, .int .i64 k] w fun e w' => e = .returned (.bool true) ∧ Below w.heap.size w w' := by
  by_cases hn : n < 0 ∨ 100 < n
  · exact kinds_out n k hn w
  · obtain ⟨m, rfl⟩ : ∃ m : Nat, n = m := ⟨n.toNat, by omega⟩
    by_cases hk : k < 0 ∨ 5 < k
    · exact kinds_else m k (by omega) hk w
    · obtain ⟨j, rfl⟩ : ∃ j : Nat, k = j := ⟨k.toNat, by omega⟩
      exact kinds_in m j (by omega) (by omega) w
end Go.Proofs.Ytpgpkgnljoedaaa
