/- slices.Repeat of one fraction (two cells). -/
import Derived.Test.YtdkobkghhnccgaaSmp
import Derived.Test.YtdkobkghhnccgaaNe
import Derived.Laws.CopyRow
import Derived.Deep.OwnRows
namespace Go.Proofs.Ytdkobkghhnccgaa
open Go.RowKit
open Go in
theorem run_copy_rowk (P : Program) (k : Nat) (w : World) (dT sT ty elem : TypeId) (g o dLen dCap : Nat) (a : Addr) (sLen sCap : Nat) (cur : Array Value) (t : TypeId) (cs : List Value)
    (hu : P.underlying dT = some (.slice elem)) (hs : (P.info? elem).map (·.size) = some k)
    (hg : w.heap[g]? = some (.cells cur t (0, 0))) (hn : cs.length = Nat.min sLen dLen * k)
    (hsrc : ∀ j v, cs[j]? = some v → w.cell? (a.add j) = some v) (hfit : o + cs.length ≤ cur.size) (h1 : ∀ v ∈ cs, v.oneCell' = true) :
    (Builtin.copy_ #[dT, sT] ty #[.slice (some ⟨g, o, none⟩) dLen dCap, .slice (some a) sLen sCap]).run P w =
      .ok (goInt (Nat.min sLen dLen : Nat)) (w.setRow g (cur.toList.take o ++ cs ++ cur.toList.drop (o + cs.length)).toArray) := by
  have hl := run_loadCells_list (P := P) w a cs hsrc
  have hst := run_storeCells_at P g o t cs 0 cur w hg (by simpa using hfit) h1
  cases hq : P.info? elem with
  | none => simp [hq] at hs
  | some i =>
    have hi : i.size = k := by simpa [hq] using hs
    simp [Builtin.copy_, run_underlying hu, Builtin.lenOf, Builtin.firstCells, sizeOf, typeInfo, hq, hi, ← hn, hl, hst]
theorem info64s : (Try.prog.info? 64).map (·.size) = some 2 := by kernel_rfl
theorem info64 : (Try.prog.info? 64).map (fun i => (i.zero, i.size, i.bytes)) = some (some (.agg #[.int .i64 0, .int .i64 0]), 2, 16) := by kernel_rfl
/-- m times q, and zero up to n -/
def reps (q : Int × Int) (m : Nat) : List Value := (List.replicate m q).flatMap encQ
def part2 (q : Int × Int) (n m : Nat) : List Value := reps q m ++ List.replicate ((n - m) * 2) (.int .i64 0)
theorem reps_length (q : Int × Int) (m : Nat) : (reps q m).length = m * 2 := by
  have := enc_length EQ (List.replicate m q)
  rwa [List.length_replicate] at this
theorem reps_add (q : Int × Int) (m k : Nat) : reps q (m + k) = reps q m ++ reps q k := by
  unfold reps; rw [← List.replicate_append_replicate, List.flatMap_append]
theorem reps_one (q : Int × Int) (m : Nat) : ∀ v ∈ reps q m, v.oneCell' = true := by
  intro v hv
  unfold reps at hv
  obtain ⟨x, _, hx⟩ := List.mem_flatMap.1 hv
  exact EQ.one x v hx
theorem part2_length (q : Int × Int) (n m : Nat) (h : m ≤ n) : (part2 q n m).length = n * 2 := by unfold part2; rw [List.length_append, reps_length, List.length_replicate]; omega
theorem part2_get (q : Int × Int) (n m k j : Nat) (hk : k ≤ m) (h : j < k * 2) : (part2 q n m)[j]? = (reps q k)[j]? := by
  unfold part2
  rw [show m = k + (m - k) by omega, reps_add, List.append_assoc, List.getElem?_append_left (by rw [reps_length]; exact h)]
theorem part2_next (q : Int × Int) (n m k : Nat) (h : m + k ≤ n) : (part2 q n m).take (m * 2) ++ reps q k ++ (part2 q n m).drop (m * 2 + k * 2) = part2 q n (m + k) := by
  unfold part2
  rw [List.take_left' (reps_length q m), List.drop_append, List.drop_of_length_le (by rw [reps_length]; omega), reps_length, reps_add]
  simp only [List.nil_append, List.drop_replicate]
  congr 2
  omega
def Row2 (w : World) (G : Nat) (q : Int × Int) (n m : Nat) : Prop := w.heap[G]? = some (.cells (part2 q n m).toArray 64 (0, 0))
theorem setRow_block (w : World) (g : Nat) (cs : Array Value) (cur : Array Value) (t : TypeId) (h : w.heap[g]? = some (.cells cur t (0, 0))) : (w.setRow g cs).heap[g]? = some (.cells cs t (0, 0)) := by
  simp [World.setRow, Array.getElem?_modify, h]
theorem setRow_below {B : Nat} {w0 w : World} (h : Below B w0 w) (g : Nat) (cs : Array Value) (hg : B ≤ g) : Below B w0 (w.setRow g cs) := by
  refine ⟨h.os, h.tape, h.output, by simpa [World.setRow] using h.size, fun b hb => ?_⟩
  rw [← h.block b hb]
  simp [World.setRow, Array.getElem?_modify, show ¬ g = b by omega]
theorem Row2.next {w : World} {G : Nat} {q : Int × Int} {n m k : Nat} (h : Row2 w G q n m) (hk : m + k ≤ n) :
    Row2 (w.setRow G ((part2 q n m).toArray.toList.take (m * 2) ++ reps q k ++ (part2 q n m).toArray.toList.drop (m * 2 + (reps q k).length)).toArray) G q n (m + k) := by
  unfold Row2
  rw [setRow_block _ _ _ _ _ h]
  rw [reps_length, List.toList_toArray, part2_next q n m k hk]
theorem Row2.own {w : World} {G : Nat} {q : Int × Int} {n : Nat} (h : Row2 w G q n n) (base : Nat) (hb : base ≤ G) (hn : n ≤ 1000000) : Rw EQ 64 w base (.slice (some ⟨G, 0, none⟩) n n) (List.replicate n q) := by
  have he : part2 q n n = reps q n := by simp [part2]
  unfold Row2 at h
  rw [he] at h
  have hl : (List.replicate n q).length = n := List.length_replicate
  unfold Rw
  rw [hl]
  exact ⟨reps_length q n, .inr ⟨G, n, _, rfl, hb, h, Nat.le_refl _, by unfold maxLen; omega, by simp [reps_length], by rw [List.toList_toArray, List.take_of_length_le (by rw [reps_length]; omega)]; rfl⟩⟩
theorem make64 (n : Nat) (h : n ≤ 10000) (w : World) : (Instr.makeSlice 57 (.int .i64 n) (.int .i64 n)).run Try.prog w = .ok (.slice (some ⟨w.heap.size, 0, none⟩) n n) (w.alloc (.cells (madeCells #[.int .i64 0, .int .i64 0] (n * 2)) 64)) := by
  obtain ⟨i, hi, hz0, hz1, hz2⟩ := info_parts info64
  have := run_make (P := Try.prog) w 57 64 i _ Try.underlying57 hi hz0 .i64 .i64 (n : Int) (n : Int) (by omega) (Int.le_refl _) (by rw [hz2]; omega) (by omega)
  rw [hz1, show (Value.agg #[Value.int .i64 0, Value.int .i64 0]).cells = #[.int .i64 0, .int .i64 0] from rfl] at this
  simpa using this
theorem made_row2 (q : Int × Int) (w : World) (n : Nat) : Row2 (w.alloc (.cells (madeCells #[.int .i64 0, .int .i64 0] (n * 2)) 64)) w.heap.size q n 0 := by
  unfold Row2
  rw [heap_alloc_new]
  congr 2
  apply Array.ext
  · rw [size_madeCells, List.size_toArray, part2_length q n 0 (by omega)]
  · intro i h1 h2
    have e : part2 q n 0 = List.replicate (n * 2) (.int .i64 0) := by simp [part2, reps]
    simp only [madeCells, e, Array.getElem_map, Array.getElem_range, List.getElem_toArray, List.getElem_replicate]
    rcases Nat.mod_two_eq_zero_or_one i with h | h <;> simp [h]
theorem mul_any (n : Nat) (hn : n ≤ 100) (w : World) :
    Calls Try.prog 76 #[.int .u64 1, .int .u64 n] w fun e w' => e = .returned (.tuple #[.int .u64 0, .int .u64 n]) ∧ w' = w := by
  have hcon := Any.bits_Mul l76 1 n (by omega) (by omega) w
  change Calls Try.prog 76 _ _ _ at hcon
  refine hcon.mono ?_
  rintro e w' ⟨rfl, rfl⟩
  have h1 : 1 * n / 18446744073709551616 = 0 := by omega
  have h2 : 1 * n % 18446744073709551616 = n := by omega
  rw [h1, h2]
  exact ⟨rfl, rfl⟩
set_option maxRecDepth 100000 in
set_option maxHeartbeats 8000000 in
theorem repeat_any (q : Int × Int) (n : Nat) (h1 : 1 ≤ n) (hn : n ≤ 100) (b : Nat) (c : Nat) (w : World) (hc0 : w.cell? ⟨b, 0, none⟩ = some (.int .i64 q.1)) (hc1 : w.cell? ⟨b, 1, none⟩ = some (.int .i64 q.2)) (hbl : b < w.heap.size) :
    Calls Try.prog 65 #[.slice (some ⟨b, 0, none⟩) 1 c, .int .i64 n] w fun e w' => ∃ v', e = .returned v' ∧ Rw EQ 64 w' w.heap.size v' (List.replicate n q) ∧ Below w.heap.size w w' := by
  have hmk := fun W => make64 n (by omega) W
  have HM := Lib.hid (mul_any n hn w)
  have hu : IntKind.u64.wrap (n : Int) = n := by rw [IntKind.wrap_u64]; omega
  have hi : IntKind.i64.wrap (n : Int) = n := IntWalk.i64_in _ (by omega)
  go_enter Try.func65, Try.ntmps65
  go_wp2_with fail
  with_reducible refine HM.out.mono ?_
  rintro e w1 ⟨rfl, rfl⟩
  clear HM
  have HROW := Lib.hid (made_row2 q w1 n)
  have HB0 := Lib.hid ((Below.refl w1.heap.size w1).alloc (Nat.le_refl _) (.cells (madeCells #[.int .i64 0, .int .i64 0] (n * 2)) 64))
  have HSRC := Lib.hid (show ∀ j v, (reps q 1)[j]? = some v → (w1.alloc (.cells (madeCells #[.int .i64 0, .int .i64 0] (n * 2)) 64)).cell? ((⟨b, 0, none⟩ : Addr).add j) = some v from fun j v hv => by
    have hr : reps q 1 = [.int .i64 q.1, .int .i64 q.2] := rfl
    rw [hr] at hv
    rw [addr_head]
    match j, hv with
    | 0, hv => simp at hv; subst hv; exact (World.cell?_alloc_lt _ _ _ hbl).trans hc0
    | 1, hv => simp at hv; subst hv; exact (World.cell?_alloc_lt _ _ _ hbl).trans hc1
    | j + 2, hv => simp at hv)
  have HROW1 := Lib.hid (show Row2 ((w1.alloc (.cells (madeCells #[.int .i64 0, .int .i64 0] (n * 2)) 64)).setRow w1.heap.size ((part2 q n 0).toArray.toList.take 0 ++ reps q 1 ++ (part2 q n 0).toArray.toList.drop (0 + (reps q 1).length)).toArray) w1.heap.size q n 1 by
    have := HROW.out.next (k := 1) (by omega)
    simpa using this)
  have HB1 := Lib.hid (setRow_below HB0.out w1.heap.size ((part2 q n 0).toArray.toList.take 0 ++ reps q 1 ++ (part2 q n 0).toArray.toList.drop (0 + (reps q 1).length)).toArray (Nat.le_refl _))
  have HMIN := Lib.hid (show (reps q 1).length = Nat.min 1 n * 2 by rw [reps_length, show Nat.min 1 n = 1 from Nat.min_eq_left h1])
  have HM1 := Lib.hid (show Nat.min 1 n = 1 from Nat.min_eq_left h1)
  have HFIT := Lib.hid (show 0 + (reps q 1).length ≤ (part2 q n 0).toArray.size by rw [List.size_toArray, part2_length q n 0 (by omega), reps_length]; omega)
  obtain ⟨W, hW⟩ : ∃ W, (w1.alloc (.cells (madeCells #[.int .i64 0, .int .i64 0] (n * 2)) 64)).setRow w1.heap.size ((part2 q n 0).toArray.toList.take 0 ++ reps q 1 ++ (part2 q n 0).toArray.toList.drop (0 + (reps q 1).length)).toArray = W := ⟨_, rfl⟩
  have hcp : ∀ ty, (Builtin.copy_ #[57, 57] ty #[.slice (some ⟨w1.heap.size, 0, none⟩) n n, .slice (some ⟨b, 0, none⟩) 1 c]).run Try.prog (w1.alloc (.cells (madeCells #[.int .i64 0, .int .i64 0] (n * 2)) 64)) = .ok (.int .i64 1) W := fun ty => by
    have := run_copy_rowk Try.prog 2 (w1.alloc (.cells (madeCells #[.int .i64 0, .int .i64 0] (n * 2)) 64)) 57 57 ty 64 w1.heap.size 0 n n ⟨b, 0, none⟩ 1 c (part2 q n 0).toArray 64 (reps q 1) Try.underlying57 info64s HROW.out HMIN.out HSRC.out HFIT.out (reps_one q 1)
    rw [hW, HM1.out] at this
    exact this
  rw [hW] at HROW1 HB1
  clear hW
  go_wp2_with fail
  generalize hG : w1.heap.size = G at *
  have HG := Lib.hid hG
  clear hG hmk HSRC HROW HB0 HMIN HFIT hc0 hc1 hbl hcp
  go_loopw [8] (fun i wr => ∃ m : Nat, 1 ≤ m ∧ m ≤ n ∧ i = .int .i64 m ∧ Row2 wr G q n m ∧ Below G w1 wr) (fun i _ => n - (intOf i).toNat)
  case atStart => exact ⟨1, by omega, h1, rfl, HROW1.out, HB1.out⟩
  case round =>
    obtain ⟨m, hm1, hm2, rfl, hrow, hb⟩ := hrel
    clear HROW1 HB1
    have HR := Lib.hid hrow
    have HB := Lib.hid hb
    have hbs := hb.size
    have hgl : G < wr.heap.size := (Array.getElem?_eq_some_iff.1 hrow).1
    clear hrow hb
    by_cases hlt : m < n
    · obtain ⟨k, hk⟩ : ∃ k, k = Nat.min m (n - m) := ⟨_, rfl⟩
      have hk1 : 1 ≤ k := by rw [hk]; exact Nat.le_min.2 ⟨hm1, by omega⟩
      have hk2 : k ≤ m := by rw [hk]; exact Nat.min_le_left _ _
      have hk3 : k ≤ n - m := by rw [hk]; exact Nat.min_le_right _ _
      have HKK := Lib.hid hk
      have HMIN := Lib.hid (show (reps q k).length = Nat.min m (n - m) * 2 by rw [reps_length, ← hk])
      have HFIT := Lib.hid (show m * 2 + (reps q k).length ≤ (part2 q n m).toArray.size by rw [reps_length, List.size_toArray, part2_length q n m hm2]; omega)
      have HSRC := Lib.hid (show ∀ W' : World, W'.heap[G]? = some (.cells (part2 q n m).toArray 64 (0, 0)) → ∀ j v, (reps q k)[j]? = some v → W'.cell? ((⟨G, 0, none⟩ : Addr).add j) = some v from fun W' hW j v hv => by
        have hj : j < k * 2 := by have := (List.getElem?_eq_some_iff.1 hv).1; rwa [reps_length] at this
        rw [addr_head, ← hv]
        simp only [World.cell?, hW, List.getElem?_toArray]
        exact part2_get q n m k j hk2 hj)
      have hne : ¬ n = m := by omega
      have hmn : m ≤ n := hm2
      clear hk
      obtain ⟨W2, hW2⟩ : ∃ W2, wr.drew.setRow G ((part2 q n m).toArray.toList.take (m * 2) ++ reps q k ++ (part2 q n m).toArray.toList.drop (m * 2 + (reps q k).length)).toArray = W2 := ⟨_, rfl⟩
      have hcp : ∀ ty, (Builtin.copy_ #[57, 57] ty #[.slice (some ⟨G, m * 2, none⟩) (n - m) (n - m), .slice (some ⟨G, 0, none⟩) m n]).run Try.prog wr.drew = .ok (.int .i64 k) W2 := fun ty => by
        have := run_copy_rowk Try.prog 2 wr.drew 57 57 ty 64 G (m * 2) (n - m) (n - m) ⟨G, 0, none⟩ m n (part2 q n m).toArray 64 (reps q k) Try.underlying57 info64s HR.out HMIN.out (HSRC.out wr.drew HR.out) HFIT.out (reps_one q k)
        rw [hW2, ← HKK.out] at this
        exact this
      have HN := Lib.hid (show Row2 W2 G q n (m + k) by rw [← hW2]; exact Row2.next (w := wr.drew) HR.out (k := k) (by omega))
      have HB2 := Lib.hid (show Below G w1 W2 by rw [← hW2]; exact setRow_below (below_drew HB.out) G _ (Nat.le_refl _))
      clear hW2
      go_wp2_with fail
      go_region
      all_goals
        go_wp2_with fail
        go_roundw
        case rel => exact ⟨m + k, by omega, by omega, by go_num, HN.out, HB2.out⟩
        case measure => simp [intOf]; omega
    · obtain rfl : m = n := by omega
      go_wp2_with fail
      go_ret
      rw [HG.out]
      exact ⟨_, rfl, HR.out.own G (Nat.le_refl _) (by omega), HB.out⟩
end Go.Proofs.Ytdkobkghhnccgaa

