/- Walks over strings: stringslite.Clone, strings.Clone, Word of numeral. -/
import Derived.Test.YtkmnelmgckbmpaaGreatDoorK
import Derived.Test.YtkmnelmgckbmpaaGreatDoorWd
import Derived.Lib.Strings
import Derived.Lib.Walk
import Derived.Lib.BufferWrite
import Derived.Lib.UnsafeStr
namespace Go.Proofs.YtkmnelmgckbmpaaGreatDoor
open Go.RowKit

theorem info5 : (Tryz.prog.info? 5).map (fun i => (i.zero, i.size, i.bytes)) = some (some (.int .u8 0), 1, 1) := by kernel_rfl
set_option maxHeartbeats 4000000 in
set_option maxRecDepth 100000 in
theorem stringslite_Clone (s : ByteArray) (w : World) (hlim : s.size ≤ 281474976710656) :
    Calls Tryz.prog 23 #[.string s] w fun e w' => e = .returned (.string s) ∧ Below w.heap.size w w' := by
  by_cases h0 : s.size = 0
  · have hs : s = ⟨#[]⟩ := by
      apply ByteArray.ext
      exact Array.eq_empty_of_size_eq_zero h0
    subst hs
    clear h0 hlim
    go_enter Tryz.func23, Tryz.ntmps23
    go_wp2
    go_ret
    exact ⟨rfl, Below.refl _ _⟩
  · obtain ⟨i0, hi, hz0, hz1, hz2⟩ := info_parts info5
    have hinfo : (Tryz.prog.info? 5).map (·.size) = some 1 := by rw [hi]; simp [hz1]
    have hco : Tryz.prog.cellsOf 5 = 1 := by simp [Program.cellsOf, hi, hz1]
    obtain ⟨M, hM⟩ : ∃ M, M = madeCells (Value.int .u8 0).cells (((s.size : Nat) : Int).toNat * i0.size) := ⟨_, rfl⟩
    have hMs : M.size = s.size := by rw [hM, size_madeCells, hz1]; simp
    have hmk : ∀ W : World, (Instr.makeSlice 72 (.int .i64 (s.size : Int)) (.int .i64 (s.size : Int))).run Tryz.prog W = .ok (.slice (some ⟨W.heap.size, 0, none⟩) s.size s.size) (W.alloc (.cells M 5)) := fun W => by
      have h := run_make (P := Tryz.prog) W 72 5 i0 (.int .u8 0) Tryz.underlying72 hi hz0 .i64 .i64 (s.size : Int) (s.size : Int) (by omega) (by omega) (by rw [hz2]; omega) (by omega)
      rw [← hM] at h
      simpa using h
    clear hM
    have hcp := Lib.run_copy_row_string (P := Tryz.prog) (w.alloc (.cells M 5)) 72 9 3 5 w.heap.size 0 s.size s.size s M 5 Tryz.underlying72 hinfo (heap_alloc_new w _) (Nat.le_refl _) (by omega)
    obtain ⟨Y, hY⟩ : ∃ Y, Y = (M.toList.take 0 ++ Lib.byteCells s.data.toList ++ M.toList.drop (0 + s.size)).toArray := ⟨_, rfl⟩
    rw [← hY] at hcp
    have hYl : Y.toList = Lib.byteCells s.data.toList := by
      rw [hY, List.toList_toArray, List.take_zero, List.nil_append, List.drop_of_length_le (by rw [Array.length_toList]; omega), List.append_nil]
    have hYs : Y.size = s.size := by rw [← Array.length_toList, hYl, Lib.byteCells_length, ← Lib.size_eq]
    have hgY : ((w.alloc (.cells M 5)).setRow w.heap.size Y).heap[w.heap.size]? = some (.cells Y 5 (0, 0)) := setRow_heap _ _ M _ 5 (0, 0) (heap_alloc_new w _)
    have hne : s.data.toList ≠ [] := fun e => h0 (by rw [Lib.size_eq, e]; rfl)
    have hUS := Lib.run_unsafeString_row (P := Tryz.prog) ((w.alloc (.cells M 5)).setRow w.heap.size Y) 73 3 9 5 Tryz.underlying73 hco w.heap.size Y.size (by unfold World.shape?; rw [hgY]) s.data.toList hne (by rw [← Lib.size_eq]; omega) (by rw [← Lib.size_eq]; omega)
      (fun j x hx => Lib.cells_of_row hgY Y.size j _ (by rw [List.take_of_length_le (by rw [Array.length_toList]; exact Nat.le_refl _), hYl]; simp [Lib.byteCells, hx]))
    rw [← Lib.size_eq] at hUS
    clear hY
    go_enter Tryz.func23, Tryz.ntmps23
    go_wp2
    go_ret
    have hb1 : Below w.heap.size w (w.alloc (.cells M 5)) := (Below.refl _ w).alloc (Nat.le_refl _) _
    have hb2 : Below w.heap.size (w.alloc (.cells M 5)) ((w.alloc (.cells M 5)).setRow w.heap.size Y) := ⟨rfl, rfl, rfl, by simp, fun k hk => setRow_other _ _ _ _ (by omega)⟩
    exact ⟨rfl, Lib.below_freeze (hb1.trans hb2) (p := ⟨w.heap.size, 0, none⟩) (Nat.le_refl _) _⟩
theorem strings_Clone (s : ByteArray) (w : World) (hlim : s.size ≤ 281474976710656) :
    Calls Tryz.prog 10 #[.string s] w fun e w' => e = .returned (.string s) ∧ Below w.heap.size w w' := by
  go_enter Tryz.func10, Tryz.ntmps10
  go_wp2_with (go_at_call 23; refine (stringslite_Clone s _ hlim).mono ?_; rintro e w1 ⟨rfl, hb1⟩)
  go_ret
  exact ⟨rfl, hb1⟩

def str (l : List UInt8) : ByteArray := ⟨l.toArray⟩
theorem str_size (l : List UInt8) : (str l).size = l.length := by simp [str, ByteArray.size]
theorem str_append (l m : List UInt8) : str l ++ str m = str (l ++ m) := by
  unfold str; rw [ByteArray.mk_append_mk]
def lenOf : Value → Nat | .string s => s.size | _ => 0
theorem word_facts (j : Nat) (hj : j ≤ 15) : wl (j + 1) ≤ 2584 ∧ wl j ≤ wl (j + 1) ∧ 1 ≤ wl j ∧
    str (wd (j + 1)) ++ str (wd j) = str (wd (j + 2)) ∧ wl (j + 2) = wl (j + 1) + wl j := by
  have h : ((List.range 16).all fun j => wl (j + 1) ≤ 2584 && wl j ≤ wl (j + 1) && 1 ≤ wl j) = true := by decide +kernel
  have := List.all_eq_true.1 h j (List.mem_range.2 (by omega))
  simp only [Bool.and_eq_true, decide_eq_true_eq] at this
  exact ⟨this.1.1, this.1.2, this.2, by rw [str_append]; rfl, rfl⟩
theorem gsize (n : Nat) : (str (wd n)).size = wl n := by rw [str_size, wd_length]
theorem gextract (j n : Nat) (hj : j ≤ 17) (h : n ≤ wl j) : (str (wd j)).extract 0 n = str (gw n) := by
  rw [← gw_wd j n hj h]
  apply ByteArray.ext
  simp [str, ByteArray.data_extract]

set_option maxHeartbeats 1000000 in
theorem Word_yes (n : Nat) (hn : n ≤ 2000) (w : World) :
    Calls Tryz.prog 4 #[.int .i64 n] w fun e w' => e = .returned (.tuple #[.string (str (gw n)), .int .i64 0]) ∧ Below w.heap.size w w' := by
  have hd : decide (2000 < n) = false := by simp; omega
  go_enter Tryz.func4, Tryz.ntmps4
  go_wp2
  go_loop [4, 5] (fun a b => ∃ j : Nat, j ≤ 15 ∧ a = .string (str (wd j)) ∧ b = .string (str (wd (j + 1)))) (fun _ b => 3000 - lenOf b)
  case atStart => exact ⟨0, by omega, rfl, rfl⟩
  case round =>
    obtain ⟨j, hj, rfl, rfl⟩ := hrel
    obtain ⟨f1, f2, f3, f4, f5⟩ := word_facts j hj
    have s3 := gsize (j + 1)
    have s2 := gsize j
    have s4 := gsize (j + 2)
    have hg := fun h => gextract (j + 1) n (by omega) h
    by_cases hlt : wl (j + 1) < n
    · have hj15 : j < 15 := by
        rcases Nat.lt_or_ge j 15 with h | h
        · exact h
        · have : j = 15 := by omega
          subst this
          have : wl (15 + 1) = 2584 := wl_16
          omega
      have hle : (str (wd (j + 1))).size + (str (wd j)).size ≤ 9223372036854775807 := by omega
      have hrun := fun W : World => run_string_add_sum (P := Tryz.prog) W (str (wd (j + 1))) (str (wd j)) hle
      have hlt' : (str (wd (j + 1))).size < n := by omega
      have H4 := Lib.hid f4
      have H5 := Lib.hid f5
      have S3 := Lib.hid s3
      have S4 := Lib.hid s4
      clear f4 f5 s3 s2 s4 hle hg
      go_wp2
      go_round
      case rel => exact ⟨j + 1, by omega, rfl, by rw [H4.out]⟩
      case measure =>
        rw [H4.out]
        have h5 := H5.out
        have h3 := S3.out
        have h4 := S4.out
        simp only [lenOf]
        omega
    · have hge : n ≤ (str (wd (j + 1))).size := by omega
      have hbd : (str (wd (j + 1))).size ≤ 2584 := by omega
      have HG := Lib.hid (hg (by omega))
      clear f4 f5 s3 s2 s4 hg hlt
      go_wp2_with fail
      rw [HG.out]
      refine (strings_Clone _ _ (by rw [str_size, gw_length _ (by omega)]; omega)).mono ?_
      rintro e w1 ⟨rfl, hb1⟩
      go_wp2
      go_ret2
      exact ⟨rfl, hb1⟩
theorem Word_no (n : Int) (hn : n < 0 ∨ 2000 < n) (w : World) :
    Calls Tryz.prog 4 #[.int .i64 n] w fun e w' => e = .returned (.tuple #[.string ⟨#[]⟩, .int .i64 2]) ∧ Below w.heap.size w w' := by
  by_cases h0 : n < 0
  · have hd : decide (n < 0) = true := by simpa using h0
    clear hn
    go_enter Tryz.func4, Tryz.ntmps4
    go_wp2
    go_ret2
    exact ⟨rfl, Below.refl _ _⟩
  · have hd : decide (n < 0) = false := by simpa using h0
    have hd2 : decide (2000 < n) = true := by simp; omega
    clear hn
    go_enter Tryz.func4, Tryz.ntmps4
    go_wp2
    go_ret2
    exact ⟨rfl, Below.refl _ _⟩

end Go.Proofs.YtkmnelmgckbmpaaGreatDoor
