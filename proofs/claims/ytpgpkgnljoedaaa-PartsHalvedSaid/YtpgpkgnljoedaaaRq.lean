/- Walk of slices.Repeat of one number. -/
import Derived.Test.YtpgpkgnljoedaaaRp
namespace Go.Proofs.Ytpgpkgnljoedaaa
open Go.RowKit
theorem mul_any (n : Nat) (hn : n ≤ 100) (w : World) :
    Calls Try.prog 92 #[.int .u64 1, .int .u64 n] w fun e w' => e = .returned (.tuple #[.int .u64 0, .int .u64 n]) ∧ w' = w := by
  have hcon := Any.bits_Mul l92 1 n (by omega) (by omega) w
  change Calls Try.prog 92 _ _ _ at hcon
  refine hcon.mono ?_
  rintro e w' ⟨rfl, rfl⟩
  have h1 : 1 * n / 18446744073709551616 = 0 := by omega
  have h2 : 1 * n % 18446744073709551616 = n := by omega
  rw [h1, h2]
  exact ⟨rfl, rfl⟩
set_option maxRecDepth 100000 in
set_option maxHeartbeats 8000000 in
theorem repeat_any (x : Int) (n : Nat) (h1 : 1 ≤ n) (hn : n ≤ 100) (ad : Addr) (c : Nat) (w : World) (hc : w.cell? ad = some (.int .i64 x)) (hbl : ad.block < w.heap.size) :
    Calls Try.prog 80 #[.slice (some ad) 1 c, .int .i64 n] w fun e w' => ∃ v', e = .returned v' ∧ Own w' w.heap.size v' (List.replicate n x) ∧ Below w.heap.size w w' := by
  have hmk := fun W => make3 n (by omega) W
  have HM := Lib.hid (mul_any n hn w)
  have hu : IntKind.u64.wrap (n : Int) = n := by rw [IntKind.wrap_u64]; omega
  have hi : IntKind.i64.wrap (n : Int) = n := IntWalk.i64_in _ (by omega)
  go_enter Try.func80, Try.ntmps80
  go_wp2_with fail
  with_reducible refine HM.out.mono ?_
  rintro e w1 ⟨rfl, rfl⟩
  clear HM
  have HROW := Lib.hid (made_row x w1 n)
  have HB0 := Lib.hid ((Below.refl w1.heap.size w1).alloc (Nat.le_refl _) (.cells (madeCells #[.int .i64 0] n) 3))
  have HSRC := Lib.hid (show ∀ j v, [Value.int .i64 x][j]? = some v → (w1.alloc (.cells (madeCells #[.int .i64 0] n) 3)).cell? (ad.add j) = some v from fun j v hv => by
    match j, hv with
    | 0, hv => simp at hv; subst hv; exact (World.cell?_alloc_lt _ _ ad hbl).trans hc
    | j + 1, hv => simp at hv)
  have HROW1 := Lib.hid (show Row1 ((w1.alloc (.cells (madeCells #[.int .i64 0] n) 3)).setRow w1.heap.size ((part1 x n 0).toArray.toList.take 0 ++ [Value.int .i64 x] ++ (part1 x n 0).toArray.toList.drop (0 + [Value.int .i64 x].length)).toArray) w1.heap.size x n 1 from HROW.out.next (k := 1) (by omega))
  have HB1 := Lib.hid (setRow_below HB0.out w1.heap.size ((part1 x n 0).toArray.toList.take 0 ++ [Value.int .i64 x] ++ (part1 x n 0).toArray.toList.drop (0 + [Value.int .i64 x].length)).toArray (Nat.le_refl _))
  have HMIN := Lib.hid (show [Value.int .i64 x].length = Nat.min 1 n from (Nat.min_eq_left h1).symm)
  have HFIT := Lib.hid (show 0 + [Value.int .i64 x].length ≤ (part1 x n 0).toArray.size by rw [List.size_toArray, part1_length x n 0 (by omega)]; simp; omega)
  obtain ⟨W, hW⟩ : ∃ W, (w1.alloc (.cells (madeCells #[.int .i64 0] n) 3)).setRow w1.heap.size ((part1 x n 0).toArray.toList.take 0 ++ [Value.int .i64 x] ++ (part1 x n 0).toArray.toList.drop (0 + [Value.int .i64 x].length)).toArray = W := ⟨_, rfl⟩
  have hcp : ∀ ty, (Builtin.copy_ #[33, 33] ty #[.slice (some ⟨w1.heap.size, 0, none⟩) n n, .slice (some ad) 1 c]).run Try.prog (w1.alloc (.cells (madeCells #[.int .i64 0] n) 3)) = .ok (.int .i64 1) W := fun ty => by
    have := run_copy_row (P := Try.prog) (w1.alloc (.cells (madeCells #[.int .i64 0] n) 3)) 33 33 ty 3 w1.heap.size 0 n n ad 1 c (part1 x n 0).toArray 3 [.int .i64 x] Try.underlying33 info3s HROW.out HMIN.out HSRC.out HFIT.out (by simp [Value.oneCell'])
    rw [hW] at this
    exact this
  rw [hW] at HROW1 HB1
  clear hW
  go_wp2_with fail
  generalize hG : w1.heap.size = G at *
  have HG := Lib.hid hG
  clear hG hmk HSRC HROW HB0 HMIN HFIT hc hbl hcp
  go_loopw [8] (fun i wr => ∃ m : Nat, 1 ≤ m ∧ m ≤ n ∧ i = .int .i64 m ∧ Row1 wr G x n m ∧ Below G w1 wr) (fun i _ => n - (intOf i).toNat)
  case atStart => exact ⟨1, by omega, h1, rfl, HROW1.out, HB1.out⟩
  case round =>
    obtain ⟨m, hm1, hm2, rfl, hrow, hb⟩ := hrel
    clear HROW1 HB1
    have HR := Lib.hid hrow
    have HB := Lib.hid hb
    have hbs := hb.size
    have hgl : G < wr.heap.size := (Array.getElem?_eq_some_iff.1 hrow).1
    clear hrow hb
    by_cases hlt : m < n
    · obtain ⟨k, hk⟩ : ∃ k, k = Nat.min m (n - m) := ⟨_, rfl⟩
      have hk1 : 1 ≤ k := by rw [hk]; exact Nat.le_min.2 ⟨hm1, by omega⟩
      have hk2 : k ≤ m := by rw [hk]; exact Nat.min_le_left _ _
      have hk3 : k ≤ n - m := by rw [hk]; exact Nat.min_le_right _ _
      have HMIN := Lib.hid (show (List.replicate k (Value.int .i64 x)).length = Nat.min m (n - m) by rw [List.length_replicate]; exact hk)
      have HFIT := Lib.hid (show m + (List.replicate k (Value.int .i64 x)).length ≤ (part1 x n m).toArray.size by rw [List.length_replicate, List.size_toArray, part1_length x n m hm2]; omega)
      have HSRC := Lib.hid (show ∀ W' : World, W'.heap[G]? = some (.cells (part1 x n m).toArray 3 (0, 0)) → ∀ j v, (List.replicate k (Value.int .i64 x))[j]? = some v → W'.cell? ((⟨G, 0, none⟩ : Addr).add j) = some v from fun W' hW j v hv => by
        have hj : j < k := by have := (List.getElem?_eq_some_iff.1 hv).1; simpa using this
        rw [List.getElem?_replicate, if_pos hj] at hv
        rw [addr_head, ← hv]
        simp only [World.cell?, hW, List.getElem?_toArray]
        exact part1_get x n m j (by omega))
      have HONE := Lib.hid (show ∀ v ∈ List.replicate k (Value.int .i64 x), v.oneCell' = true from fun v hv => by rw [(List.mem_replicate.1 hv).2]; rfl)
      have hne : ¬ n = m := by omega
      have hmn : m ≤ n := hm2
      clear hk
      obtain ⟨W2, hW2⟩ : ∃ W2, wr.drew.setRow G ((part1 x n m).toArray.toList.take m ++ List.replicate k (Value.int .i64 x) ++ (part1 x n m).toArray.toList.drop (m + (List.replicate k (Value.int .i64 x)).length)).toArray = W2 := ⟨_, rfl⟩
      have hcp : ∀ ty, (Builtin.copy_ #[33, 33] ty #[.slice (some ⟨G, m, none⟩) (n - m) (n - m), .slice (some ⟨G, 0, none⟩) m n]).run Try.prog wr.drew = .ok (.int .i64 k) W2 := fun ty => by
        have := run_copy_row (P := Try.prog) wr.drew 33 33 ty 3 G m (n - m) (n - m) ⟨G, 0, none⟩ m n (part1 x n m).toArray 3 (List.replicate k (.int .i64 x)) Try.underlying33 info3s HR.out HMIN.out (HSRC.out wr.drew HR.out) HFIT.out HONE.out
        rw [hW2, List.length_replicate] at this
        exact this
      have HN := Lib.hid (show Row1 W2 G x n (m + k) by rw [← hW2]; exact Row1.next (w := wr.drew) HR.out (k := k) (by omega))
      have HB2 := Lib.hid (show Below G w1 W2 by rw [← hW2]; exact setRow_below (below_drew HB.out) G _ (Nat.le_refl _))
      clear hW2
      go_wp2_with fail
      go_region
      all_goals
        go_wp2_with fail
        go_roundw
        case rel => exact ⟨m + k, by omega, by omega, by go_num, HN.out, HB2.out⟩
        case measure => simp [intOf]; omega
    · obtain rfl : m = n := by omega
      go_wp2_with fail
      go_ret
      rw [HG.out]
      exact ⟨_, rfl, HR.out.own G (Nat.le_refl _) (by omega), HB.out⟩
end Go.Proofs.Ytpgpkgnljoedaaa
