/- Walks of Encode and of the laws' awake. -/
import Derived.Test.YtkmnelmgckbmpaaGreatDoorK
import Derived.Test.YtkmnelmgckbmpaaGreatDoorM
namespace Go.Proofs.YtkmnelmgckbmpaaGreatDoor
open Go.RowKit
set_option maxHeartbeats 400000 in
theorem fibonacci_nat (n : Nat) (hn : n ≤ 90) (w : World) :
    Calls Tryz.prog 33 #[.int .i64 n] w fun e w' => e = .returned (.int .i64 (F n)) ∧ w = w' := by
  go_enter Tryz.func33, Tryz.ntmps33
  go_wp2
  go_loop [3, 4, 6] (fun a b i => ∃ k : Nat, k ≤ n ∧ i = .int .i64 k ∧ a = .int .i64 (F k) ∧ b = .int .i64 (F (k+1))) (fun _ _ i => n - (intOf i).toNat)
  case atStart => exact ⟨0, Nat.zero_le _, rfl, rfl, rfl⟩
  case round =>
    obtain ⟨k, hk, rfl, rfl, rfl⟩ := hrel
    by_cases hlt : k < n
    · have h2 := F_le (k+2) (by omega)
      rw [F_step] at h2
      go_wp2
      go_round
      case rel => exact ⟨k + 1, by omega, by go_num, rfl, by rw [F_step]; go_num⟩
      case measure => simp [intOf]; omega
    · have hkn : k = n := by omega
      go_wp2
      go_ret
      exact ⟨rfl, rfl⟩
theorem isNumber_yes (n : Int) (h : 0 ≤ n) (h1 : n ≤ 1000000000000) (w : World) :
    Calls Tryz.prog 24 #[.int .i64 n] w fun e w' => e = .returned (.bool true) ∧ w = w' := by
  go_enter Tryz.func24, Tryz.ntmps24
  go_wp2
  go_ret
  exact ⟨rfl, rfl⟩
/-- indices as integers -/
def ix (l : List Nat) : List Int := l.map (fun k : Nat => (k : Int))
theorem ix_append (l m : List Nat) : ix (l ++ m) = ix l ++ ix m := by simp [ix]
theorem ix_length (l : List Nat) : (ix l).length = l.length := by simp [ix]
set_option maxHeartbeats 1000000 in
theorem encode_nat (n : Nat) (hn : n ≤ 1000000000000) (w : World) :
    Calls Tryz.prog 25 #[.int .i64 n] w fun e w' => ∃ v, e = .returned v ∧ Ints w' v (ix (zk 60 n)) ∧ Below w.heap.size w w' := by
  go_enter Tryz.func25, Tryz.ntmps25
  go_wp2
  go_loopw [0, 3, 4] (fun vn v i wr => ∃ (k m : Nat) (l : List Nat), k ≤ 60 ∧ m < F (k + 1) ∧ m ≤ n ∧ i = .int .i64 k ∧ vn = .int .i64 m ∧ zk 60 n = l ++ zk k m ∧ l.length + k ≤ 60 ∧
      Own wr w.heap.size v (ix l) ∧ Below w.heap.size w wr)
    (fun _ _ i _ => (intOf i).toNat)
  case atStart =>
    refine ⟨60, n, [], Nat.le_refl _, by rw [F_61]; omega, Nat.le_refl _, rfl, rfl, rfl, by simp, ?_, (Below.refl _ _).alloc (Nat.le_refl _) _⟩
    exact World.ownsRow_lit w #[] 0 (Nat.le_refl _) (by simp [maxLen]) (by simp)
  case round =>
    obtain ⟨k, m, l, hk, hm, hmn, rfl, rfl, hz, hl, hown, hb⟩ := hrel
    have HZ := Lib.hid hz; clear hz
    by_cases h0 : m = 0
    · subst h0
      go_wp2
      go_ret
      refine ⟨u3, rfl, ?_, hb⟩
      have e : zk 60 n = l := by rw [HZ.out, zk_zero, List.append_nil]
      rw [e]
      exact hown.ints (by rw [ix_length]; omega)
    · have h0' : 0 < m := by omega
      have hk2 : 2 ≤ k := by
        match k, hm with
        | 0, hm => simp [F] at hm; omega
        | 1, hm => simp [F] at hm; omega
        | k + 2, hm => omega
      clear h0
      by_cases hf : F k ≤ m
      · go_wp2_with (first
          | (go_at_call 33; refine (fibonacci_nat k (by omega) _).mono ?_; rintro e w1 ⟨rfl, rfl⟩)
          | (at_builtin; refine wpList_append_new _ rfl _ _ 64 rfl Tryz.underlying64 w.heap.size u3 (ix l) rfl hown k rfl (by rw [ix_length]; omega) hb.size ?_; intro v' w1 hown1 _ hb1))
        go_roundw
        case rel =>
          have hstep : F (k + 1) = F k + F (k - 1) := by
            match k, hk2 with
            | k + 2, _ => exact F_step _
          refine ⟨k - 1, m - F k, l ++ [k], by omega, ?_, by omega, by go_num, by go_num, ?_, by simp; omega, ?_, hb.trans hb1⟩
          · have : k - 1 + 1 = k := by omega
            rw [this]
            have := F_mono_succ (k - 1)
            rw [‹k - 1 + 1 = k›] at this
            omega
          · rw [HZ.out, zk_take hk2 hf]; simp
          · rw [ix_append]; exact hown1
        case measure => simp [intOf]; omega
      · go_wp2_with (first
          | (go_at_call 33; refine (fibonacci_nat k (by omega) _).mono ?_; rintro e w1 ⟨rfl, rfl⟩))
        go_roundw
        case rel =>
          refine ⟨k - 1, m, l, by omega, ?_, by omega, by go_num, rfl, ?_, by omega, hown, hb⟩
          · have : k - 1 + 1 = k := by omega
            rw [this]; omega
          · rw [HZ.out, zk_skip hk2 (by omega)]
        case measure => simp [intOf]; omega
set_option maxHeartbeats 1000000 in
theorem Encode_yes (n : Nat) (hn : n ≤ 1000000000000) (w : World) :
    Calls Tryz.prog 11 #[.int .i64 n] w fun e w' => ∃ v, e = .returned (.tuple #[v, .int .i64 0]) ∧ Ints w' v (ix (zk 60 n)) ∧ Below w.heap.size w w' := by
  go_enter Tryz.func11, Tryz.ntmps11
  go_wp2_with (first
    | (go_at_call 24; refine (isNumber_yes n (by omega) (by omega) _).mono ?_; rintro e w1 ⟨rfl, rfl⟩)
    | (go_at_call 25; refine (encode_nat n hn _).mono ?_; rintro e w1 ⟨v, rfl, hv, hb⟩))
  go_ret2
  exact ⟨v, rfl, hv, hb⟩
theorem zk4 : ix (zk 60 4) = [4, 2] := by decide +kernel
set_option maxHeartbeats 1000000 in
theorem awake_any (w : World) : Calls Tryz.prog 5 #[] w fun e w' => e = .returned (.bool true) ∧ Below w.heap.size w w' := by
  go_enter Tryz.func5, Tryz.ntmps5
  go_wp2_with (first
    | (go_at_call 11; refine (Encode_yes 4 (by omega) _).mono ?_; rintro e w1 ⟨v, rfl, hv, hb⟩)
    | (go_at_call 12; refine (equal_yes _ _ [4, 2] _ ((zk4 ▸ hv).keep ((Below.refl _ _).alloc (Nat.le_refl _) _)) (Ints.lit w1 _ [4, 2] 2 rfl rfl (by simp))).mono ?_; rintro e w2 ⟨rfl, hb2⟩))
  go_ret
  refine ⟨rfl, (hb.alloc hb.size _).trans (hb2.mono ?_)⟩
  have := hb.size
  simp; omega
end Go.Proofs.YtkmnelmgckbmpaaGreatDoor
