/- Walks of the small functions of numeral: fibonacci, isNumber, sized, encode, value. -/
import Derived.Test.YtiknocjdogbajaaK
import Derived.Test.YtiknocjdogbajaaM
namespace Go.Proofs.Ytiknocjdogbajaa
open Go.RowKit

theorem ret_int {k : IntKind} {a b : Int} (h : a = b) : Ending.returned (.int k a) = .returned (.int k b) := by rw [h]

set_option maxHeartbeats 400000 in
theorem fibonacci_nat (n : Nat) (hn : n ≤ 90) (w : World) :
    Calls Try.prog 58 #[.int .i64 n] w fun e w' => e = .returned (.int .i64 (F n)) ∧ w = w' := by
  go_enter Try.func58, Try.ntmps58
  go_wp2
  go_loop [3, 4, 6] (fun a b i => ∃ k : Nat, k ≤ n ∧ i = .int .i64 k ∧ a = .int .i64 (F k) ∧ b = .int .i64 (F (k+1))) (fun _ _ i => n - (intOf i).toNat)
  case atStart => exact ⟨0, Nat.zero_le _, rfl, rfl, rfl⟩
  case round =>
    obtain ⟨k, hk, rfl, rfl, rfl⟩ := hrel
    by_cases hlt : k < n
    · have h2 := F_le (k+2) (by omega)
      rw [F_step] at h2
      go_wp2
      go_round
      case rel => exact ⟨k + 1, by omega, by go_num, rfl, by rw [F_step]; go_num⟩
      case measure => simp [intOf]; omega
    · have hkn : k = n := by omega
      go_wp2
      go_ret
      exact ⟨rfl, rfl⟩
/-- of an integer between 0 and 90 -/
theorem fibonacci_any (z : Int) (h0 : 0 ≤ z) (h1 : z ≤ 90) (w : World) :
    Calls Try.prog 58 #[.int .i64 z] w fun e w' => e = .returned (.int .i64 (F z.toNat)) ∧ w = w' := by
  obtain ⟨n, rfl⟩ := Int.eq_ofNat_of_zero_le h0
  exact fibonacci_nat n (by omega) w

theorem isNumber_yes (n : Int) (h : 0 ≤ n) (h1 : n ≤ 1000000000000) (w : World) :
    Calls Try.prog 50 #[.int .i64 n] w fun e w' => e = .returned (.bool true) ∧ w = w' := by
  go_enter Try.func50, Try.ntmps50
  go_wp2
  go_ret
  exact ⟨rfl, rfl⟩
theorem isNumber_no (n : Int) (h : n < 0 ∨ 1000000000000 < n) (w : World) :
    Calls Try.prog 50 #[.int .i64 n] w fun e w' => e = .returned (.bool false) ∧ w = w' := by
  by_cases h0 : 0 ≤ n
  · have h1 : decide (n ≤ 1000000000000) = false := by simp; omega
    clear h
    go_enter Try.func50, Try.ntmps50
    go_wp2
    go_ret
    exact ⟨rfl, rfl⟩
  · clear h
    go_enter Try.func50, Try.ntmps50
    go_wp2
    go_ret
    exact ⟨rfl, rfl⟩
theorem sized_yes (n : Int) (h : n ≤ 1000000000000) (w : World) :
    Calls Try.prog 51 #[.int .i64 n] w fun e w' => e = .returned (.tuple #[.int .i64 n, .int .i64 0]) ∧ w = w' := by
  go_enter Try.func51, Try.ntmps51
  go_wp2
  go_ret2
  exact ⟨rfl, rfl⟩
theorem sized_no (n : Int) (h : 1000000000000 < n) (w : World) :
    Calls Try.prog 51 #[.int .i64 n] w fun e w' => e = .returned (.tuple #[.int .i64 0, .int .i64 6]) ∧ w = w' := by
  go_enter Try.func51, Try.ntmps51
  go_wp2
  go_ret2
  exact ⟨rfl, rfl⟩

/-- indices as integers -/
def ix (l : List Nat) : List Int := l.map (fun k : Nat => (k : Int))
theorem ix_append (l m : List Nat) : ix (l ++ m) = ix l ++ ix m := by simp [ix]
theorem ix_length (l : List Nat) : (ix l).length = l.length := by simp [ix]

set_option maxHeartbeats 1000000 in
theorem encode_nat (n : Nat) (hn : n ≤ 1000000000000) (w : World) :
    Calls Try.prog 52 #[.int .i64 n] w fun e w' => ∃ v, e = .returned v ∧ Ints w' v (ix (zk 60 n)) ∧ Below w.heap.size w w' := by
  go_enter Try.func52, Try.ntmps52
  go_wp2
  go_loopw [0, 3, 4] (fun vn v i wr => ∃ (k m : Nat) (l : List Nat), k ≤ 60 ∧ m < F (k + 1) ∧ m ≤ n ∧ i = .int .i64 k ∧ vn = .int .i64 m ∧ zk 60 n = l ++ zk k m ∧ l.length + k ≤ 60 ∧
      Own wr w.heap.size v (ix l) ∧ Below w.heap.size w wr)
    (fun _ _ i _ => (intOf i).toNat)
  case atStart =>
    refine ⟨60, n, [], Nat.le_refl _, by rw [F_61]; omega, Nat.le_refl _, rfl, rfl, rfl, by simp, ?_, (Below.refl _ _).alloc (Nat.le_refl _) _⟩
    exact World.ownsRow_lit w #[] 0 (Nat.le_refl _) (by simp [maxLen]) (by simp)
  case round =>
    obtain ⟨k, m, l, hk, hm, hmn, rfl, rfl, hz, hl, hown, hb⟩ := hrel
    have HZ := Lib.hid hz; clear hz
    by_cases h0 : m = 0
    · subst h0
      go_wp2
      go_ret
      refine ⟨u3, rfl, ?_, hb⟩
      have e : zk 60 n = l := by rw [HZ.out, zk_zero, List.append_nil]
      rw [e]
      exact hown.ints (by rw [ix_length]; omega)
    · have h0' : 0 < m := by omega
      have hk2 : 2 ≤ k := by
        match k, hm with
        | 0, hm => simp [F] at hm; omega
        | 1, hm => simp [F] at hm; omega
        | k + 2, hm => omega
      clear h0
      by_cases hf : F k ≤ m
      · go_wp2_with (first
          | (go_at_call 58; refine (fibonacci_nat k (by omega) _).mono ?_; rintro e w1 ⟨rfl, rfl⟩)
          | (at_builtin; refine wpList_append_new _ rfl _ _ 60 rfl Try.underlying60 w.heap.size u3 (ix l) rfl hown k rfl (by rw [ix_length]; omega) hb.size ?_; intro v' w1 hown1 _ hb1))
        go_roundw
        case rel =>
          have hstep : F (k + 1) = F k + F (k - 1) := by
            match k, hk2 with
            | k + 2, _ => exact F_step _
          refine ⟨k - 1, m - F k, l ++ [k], by omega, ?_, by omega, by go_num, by go_num, ?_, by simp; omega, ?_, hb.trans hb1⟩
          · have : k - 1 + 1 = k := by omega
            rw [this]
            have := F_mono_succ (k - 1)
            rw [‹k - 1 + 1 = k›] at this
            omega
          · rw [HZ.out, zk_take hk2 hf]; simp
          · rw [ix_append]; exact hown1
        case measure => simp [intOf]; omega
      · go_wp2_with (first
          | (go_at_call 58; refine (fibonacci_nat k (by omega) _).mono ?_; rintro e w1 ⟨rfl, rfl⟩))
        go_roundw
        case rel =>
          refine ⟨k - 1, m, l, by omega, ?_, by omega, by go_num, rfl, ?_, by omega, hown, hb⟩
          · have : k - 1 + 1 = k := by omega
            rw [this]; omega
          · rw [HZ.out, zk_skip hk2 (by omega)]
        case measure => simp [intOf]; omega

/-- indices back -/
theorem ix_get (l : List Nat) (j : Nat) (u : Int) (h : (ix l)[j]? = some u) : ∃ k : Nat, l[j]? = some k ∧ u = k := by
  unfold ix at h
  rw [List.getElem?_map] at h
  obtain ⟨k, hk, rfl⟩ := Option.map_eq_some_iff.1 h
  exact ⟨k, hk, rfl⟩

set_option maxHeartbeats 1000000 in
theorem value_any (v : Value) (l : List Nat) (d : Int) (hd : -2 ≤ d) (hd1 : d ≤ 1) (hl : ∀ k ∈ l, 2 ≤ k ∧ k ≤ 60) (hs : vsum F l ≤ 4000000000000) (w : World) (hv : Ints w v (ix l)) :
    Calls Try.prog 53 #[v, .int .i64 d] w fun e w' => e = .returned (.int .i64 (vs d l)) ∧ w = w' := by
  obtain ⟨hlen, A, c, rfl, hc, hr⟩ := hv
  have hb := vs_le_double d l hd1 (fun k hk => (hl k hk).1)
  have HR := Lib.hid hr; clear hr
  have HL := Lib.hid hl; clear hl
  rw [ix_length] at *
  go_enter Try.func53, Try.ntmps53
  go_wp2
  go_loop [5, 10] (fun s i => ∃ k : Nat, k ≤ l.length ∧ i = .int .i64 k ∧ s = .int .i64 (vs d (l.take k))) (fun _ i => l.length - (intOf i).toNat)
  case atStart => exact ⟨0, Nat.zero_le _, rfl, rfl⟩
  case round =>
    obtain ⟨k, hk, rfl, rfl⟩ := hrel
    by_cases hlt : k < l.length
    · obtain ⟨ad, rfl, hbl, hcell⟩ := HR.out (by omega)
      have hx : l[k]? = some l[k] := List.getElem?_eq_getElem hlt
      have hck := hcell k l[k] (by simp [ix, hx])
      have hlk := HL.out l[k] (List.getElem_mem hlt)
      have hlk1 : (2 : Int) ≤ l[k] := by omega
      have hlk2 : (l[k] : Int) ≤ 60 := by omega
      have ht := vs_take d l k hlt
      have hle := vs_take_le d l (k + 1)
      rw [ht] at hle
      have HT := Lib.hid ht; clear ht
      clear hcell hx HR
      go_wp2_with (go_at_call 58; refine (fibonacci_any _ (by omega) (by omega) _).mono ?_; rintro e w1 ⟨rfl, rfl⟩)
      go_round
      case rel => exact ⟨k + 1, by omega, by go_num, by rw [HT.out]; go_num⟩
      case measure => simp [intOf]; omega
    · go_wp2
      go_ret
      exact ⟨ret_int (by rw [List.take_of_length_le (by omega)]), rfl⟩

end Go.Proofs.Ytiknocjdogbajaa
