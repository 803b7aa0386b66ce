/- Walks over strings: stringslite.Clone, strings.Clone, Word of numeral and of the reference. -/
import Derived.Test.YtiknocjdogbajaaC
import Derived.Lib.Strings
import Derived.Lib.Walk
import Derived.Lib.BufferWrite
import Derived.Lib.UnsafeStr
namespace Go.Proofs.Ytiknocjdogbajaa
open Go.RowKit

theorem info5 : (Try.prog.info? 5).map (fun i => (i.zero, i.size, i.bytes)) = some (some (.int .u8 0), 1, 1) := by kernel_rfl
set_option maxHeartbeats 4000000 in
set_option maxRecDepth 100000 in
theorem stringslite_Clone (s : ByteArray) (w : World) (hlim : s.size ≤ 281474976710656) :
    Calls Try.prog 67 #[.string s] w fun e w' => e = .returned (.string s) ∧ Below w.heap.size w w' := by
  by_cases h0 : s.size = 0
  · have hs : s = ⟨#[]⟩ := by
      apply ByteArray.ext
      exact Array.eq_empty_of_size_eq_zero h0
    subst hs
    clear h0 hlim
    go_enter Try.func67, Try.ntmps67
    go_wp2
    go_ret
    exact ⟨rfl, Below.refl _ _⟩
  · obtain ⟨i0, hi, hz0, hz1, hz2⟩ := info_parts info5
    have hinfo : (Try.prog.info? 5).map (·.size) = some 1 := by rw [hi]; simp [hz1]
    have hco : Try.prog.cellsOf 5 = 1 := by simp [Program.cellsOf, hi, hz1]
    obtain ⟨M, hM⟩ : ∃ M, M = madeCells (Value.int .u8 0).cells (((s.size : Nat) : Int).toNat * i0.size) := ⟨_, rfl⟩
    have hMs : M.size = s.size := by rw [hM, size_madeCells, hz1]; simp
    have hmk : ∀ W : World, (Instr.makeSlice 74 (.int .i64 (s.size : Int)) (.int .i64 (s.size : Int))).run Try.prog W = .ok (.slice (some ⟨W.heap.size, 0, none⟩) s.size s.size) (W.alloc (.cells M 5)) := fun W => by
      have h := run_make (P := Try.prog) W 74 5 i0 (.int .u8 0) Try.underlying74 hi hz0 .i64 .i64 (s.size : Int) (s.size : Int) (by omega) (by omega) (by rw [hz2]; omega) (by omega)
      rw [← hM] at h
      simpa using h
    clear hM
    have hcp := Lib.run_copy_row_string (P := Try.prog) (w.alloc (.cells M 5)) 74 9 3 5 w.heap.size 0 s.size s.size s M 5 Try.underlying74 hinfo (heap_alloc_new w _) (Nat.le_refl _) (by omega)
    obtain ⟨Y, hY⟩ : ∃ Y, Y = (M.toList.take 0 ++ Lib.byteCells s.data.toList ++ M.toList.drop (0 + s.size)).toArray := ⟨_, rfl⟩
    rw [← hY] at hcp
    have hYl : Y.toList = Lib.byteCells s.data.toList := by
      rw [hY, List.toList_toArray, List.take_zero, List.nil_append, List.drop_of_length_le (by rw [Array.length_toList]; omega), List.append_nil]
    have hYs : Y.size = s.size := by rw [← Array.length_toList, hYl, Lib.byteCells_length, ← Lib.size_eq]
    have hgY : ((w.alloc (.cells M 5)).setRow w.heap.size Y).heap[w.heap.size]? = some (.cells Y 5 (0, 0)) := setRow_heap _ _ M _ 5 (0, 0) (heap_alloc_new w _)
    have hne : s.data.toList ≠ [] := fun e => h0 (by rw [Lib.size_eq, e]; rfl)
    have hUS := Lib.run_unsafeString_row (P := Try.prog) ((w.alloc (.cells M 5)).setRow w.heap.size Y) 75 3 9 5 Try.underlying75 hco w.heap.size Y.size (by unfold World.shape?; rw [hgY]) s.data.toList hne (by rw [← Lib.size_eq]; omega) (by rw [← Lib.size_eq]; omega)
      (fun j x hx => Lib.cells_of_row hgY Y.size j _ (by rw [List.take_of_length_le (by rw [Array.length_toList]; exact Nat.le_refl _), hYl]; simp [Lib.byteCells, hx]))
    rw [← Lib.size_eq] at hUS
    clear hY
    go_enter Try.func67, Try.ntmps67
    go_wp2
    go_ret
    have hb1 : Below w.heap.size w (w.alloc (.cells M 5)) := (Below.refl _ w).alloc (Nat.le_refl _) _
    have hb2 : Below w.heap.size (w.alloc (.cells M 5)) ((w.alloc (.cells M 5)).setRow w.heap.size Y) := ⟨rfl, rfl, rfl, by simp, fun k hk => setRow_other _ _ _ _ (by omega)⟩
    exact ⟨rfl, Lib.below_freeze (hb1.trans hb2) (p := ⟨w.heap.size, 0, none⟩) (Nat.le_refl _) _⟩
theorem strings_Clone (s : ByteArray) (w : World) (hlim : s.size ≤ 281474976710656) :
    Calls Try.prog 54 #[.string s] w fun e w' => e = .returned (.string s) ∧ Below w.heap.size w w' := by
  go_enter Try.func54, Try.ntmps54
  go_wp2_with (go_at_call 67; refine (stringslite_Clone s _ hlim).mono ?_; rintro e w1 ⟨rfl, hb1⟩)
  go_ret
  exact ⟨rfl, hb1⟩

/-- the letter of the golden word at index i -/
def letter (i : Nat) : UInt8 := if (zeck i).getLast? = some 2 then 49 else 48
def gw (n : Nat) : List UInt8 := (List.range n).map letter
def str (l : List UInt8) : ByteArray := ⟨l.toArray⟩
theorem gw_length (n : Nat) : (gw n).length = n := by simp [gw]
theorem gw_take (n m : Nat) (h : n ≤ m) : (gw m).take n = gw n := by
  unfold gw
  rw [← List.map_take, List.take_range]
  congr 2; omega
theorem gw_succ (n : Nat) : gw (n + 1) = gw n ++ [letter n] := by
  unfold gw
  rw [List.range_succ, List.map_append]; rfl
theorem zk_below (k j n : Nat) (h : n < F (k + 1)) : zk (k + j) n = zk k n := by
  induction j with
  | zero => rfl
  | succ j ih =>
    by_cases hk : 2 ≤ k + (j + 1)
    · have := F_mono (show k + 1 ≤ k + (j + 1) by omega)
      rw [zk_skip hk (by omega)]
      exact ih
    · have : j = 0 := by omega
      subst this
      have : k = 0 := by omega
      subst this
      simp [F] at h; subst h
      rfl
theorem letter_add (k i : Nat) (hk : 3 ≤ k) (hk2 : k ≤ 58) (hi : i < F (k - 1)) : letter (F k + i) = letter i := by
  have h2 : F (k + 1) = F k + F (k - 1) := by
    match k, hk with
    | k + 2, _ => exact F_step _
  have h3 : F (k - 1) ≤ F k := F_mono (by omega)
  have e1 : zeck (F k + i) = k :: zeck i := by
    have a := zk_below k (60 - k) (F k + i) (by omega)
    rw [show k + (60 - k) = 60 by omega] at a
    have b := zk_below (k - 1) (60 - (k - 1)) i (by rw [show k - 1 + 1 = k by omega]; omega)
    rw [show k - 1 + (60 - (k - 1)) = 60 by omega] at b
    unfold zeck
    rw [a, zk_take (by omega) (by omega), Nat.add_sub_cancel_left, b]
  unfold letter
  rw [e1]
  by_cases h : zeck i = []
  · rw [h]
    have : ¬ (k = 2) := by omega
    simp [this]
  · rw [List.getLast?_cons]
    cases hz : (zeck i).getLast? with
    | none => simp [List.getLast?_eq_none_iff] at hz; exact absurd hz h
    | some x => simp
theorem gw_add (k : Nat) (hk : 3 ≤ k) (hk2 : k ≤ 58) : gw (F (k + 1)) = gw (F k) ++ gw (F (k - 1)) := by
  have h2 : F (k + 1) = F k + F (k - 1) := by
    match k, hk with
    | k + 2, _ => exact F_step _
  have : ∀ m, m ≤ F (k - 1) → gw (F k + m) = gw (F k) ++ gw m := by
    intro m
    induction m with
    | zero => intro _; simp [gw]
    | succ m ih =>
      intro hm
      rw [← Nat.add_assoc, gw_succ, ih (by omega), letter_add k m hk hk2 (by omega), gw_succ, List.append_assoc]
  rw [h2]
  exact this _ (Nat.le_refl _)
theorem gw_one : gw 1 = [48] := by decide +kernel
theorem gw_two : gw 2 = [48, 49] := by decide +kernel

theorem str_size (l : List UInt8) : (str l).size = l.length := by simp [str, ByteArray.size]
theorem str_append (l m : List UInt8) : str l ++ str m = str (l ++ m) := by
  unfold str; rw [ByteArray.mk_append_mk]
def lenOf : Value → Nat | .string s => s.size | _ => 0
theorem F_18 : F 18 = 2584 := F_of _ _ (by decide +kernel)

theorem word_facts (j : Nat) (hj : j ≤ 15) : F (j + 3) ≤ 2584 ∧ F (j + 2) ≤ F (j + 3) ∧ 1 ≤ F (j + 2) ∧
    str (gw (F (j + 3))) ++ str (gw (F (j + 2))) = str (gw (F (j + 4))) ∧ F (j + 4) = F (j + 3) + F (j + 2) := by
  have h18 := F_18
  have m1 := F_mono (show j + 3 ≤ 18 by omega)
  have m2 := F_mono (show j + 2 ≤ j + 3 by omega)
  have p := F_pos (j + 2) (by omega)
  have a := gw_add (j + 3) (by omega) (by omega)
  rw [show j + 3 - 1 = j + 2 by omega, show j + 3 + 1 = j + 4 by omega] at a
  exact ⟨by omega, m2, p, by rw [str_append, ← a], F_step (j + 2)⟩
theorem gsize (n : Nat) : (str (gw n)).size = n := by rw [str_size, gw_length]
theorem gextract (m n : Nat) (h : n ≤ m) : (str (gw m)).extract 0 n = str (gw n) := by
  have e : gw n = (gw m).take n := (gw_take n m h).symm
  rw [e]
  apply ByteArray.ext
  simp [str, ByteArray.data_extract]

set_option maxHeartbeats 1000000 in
theorem Word_yes (n : Nat) (hn : n ≤ 2000) (w : World) :
    Calls Try.prog 17 #[.int .i64 n] w fun e w' => e = .returned (.tuple #[.string (str (gw n)), .int .i64 0]) ∧ Below w.heap.size w w' := by
  have hd : decide (2000 < n) = false := by simp; omega
  go_enter Try.func17, Try.ntmps17
  go_wp2
  go_loop [4, 5] (fun a b => ∃ j : Nat, j ≤ 15 ∧ a = .string (str (gw (F (j + 2)))) ∧ b = .string (str (gw (F (j + 3))))) (fun _ b => 3000 - lenOf b)
  case atStart => exact ⟨0, by omega, by rw [show F (0 + 2) = 1 from rfl, gw_one]; rfl, by rw [show F (0 + 3) = 2 from rfl, gw_two]; rfl⟩
  case round =>
    obtain ⟨j, hj, rfl, rfl⟩ := hrel
    obtain ⟨f1, f2, f3, f4, f5⟩ := word_facts j hj
    have s3 := gsize (F (j + 3))
    have s2 := gsize (F (j + 2))
    have s4 := gsize (F (j + 4))
    have hx := fun h => gextract (F (j + 3)) n h
    have hg := hx
    clear hx
    by_cases hlt : F (j + 3) < n
    · have hj15 : j < 15 := by
        rcases Nat.lt_or_ge j 15 with h | h
        · exact h
        · have : j = 15 := by omega
          subst this
          have : F (15 + 3) = 2584 := F_18
          omega
      have hle : (str (gw (F (j + 3)))).size + (str (gw (F (j + 2)))).size ≤ 9223372036854775807 := by omega
      have hrun := fun W : World => run_string_add_sum (P := Try.prog) W (str (gw (F (j + 3)))) (str (gw (F (j + 2)))) hle
      have hlt' : (str (gw (F (j + 3)))).size < n := by omega
      have H4 := Lib.hid f4
      have H5 := Lib.hid f5
      have S3 := Lib.hid s3
      have S4 := Lib.hid s4
      clear f4 f5 s3 s2 s4 hle hg
      go_wp2
      go_round
      case rel => exact ⟨j + 1, by omega, rfl, by rw [H4.out]⟩
      case measure =>
        rw [H4.out]
        have h5 := H5.out
        have h3 := S3.out
        have h4 := S4.out
        simp only [lenOf]
        omega
    · have hge : n ≤ (str (gw (F (j + 3)))).size := by omega
      have hbd : (str (gw (F (j + 3)))).size ≤ 2584 := by omega
      have HG := Lib.hid (hg (by omega))
      clear f4 f5 s3 s2 s4 hg hlt
      go_wp2_with fail
      rw [HG.out]
      refine (strings_Clone _ _ (by rw [gsize]; omega)).mono ?_
      rintro e w1 ⟨rfl, hb1⟩
      go_wp2
      go_ret2
      exact ⟨rfl, hb1⟩
theorem Word_no (n : Int) (hn : n < 0 ∨ 2000 < n) (w : World) :
    Calls Try.prog 17 #[.int .i64 n] w fun e w' => e = .returned (.tuple #[.string ⟨#[]⟩, .int .i64 2]) ∧ Below w.heap.size w w' := by
  by_cases h0 : n < 0
  · have hd : decide (n < 0) = true := by simpa using h0
    clear hn
    go_enter Try.func17, Try.ntmps17
    go_wp2
    go_ret2
    exact ⟨rfl, Below.refl _ _⟩
  · have hd : decide (n < 0) = false := by simpa using h0
    have hd2 : decide (2000 < n) = true := by simp; omega
    clear hn
    go_enter Try.func17, Try.ntmps17
    go_wp2
    go_ret2
    exact ⟨rfl, Below.refl _ _⟩

theorem getLast_ix (l : List Nat) (h : 0 < l.length) : (ix l)[l.length - 1]? = some ((l.getLast (by intro e; subst e; simp at h) : Nat) : Int) := by
  unfold ix
  rw [List.getElem?_map, ← List.getLast?_eq_getElem?, List.getLast?_eq_some_getLast (by intro e; subst e; simp at h)]
  rfl
set_option maxHeartbeats 2000000 in
theorem rWord_any (n : Nat) (hn : n ≤ 2000) (w : World) :
    Calls Try.prog 18 #[.int .i64 n] w fun e w' => e = .returned (.string (str (gw n))) ∧ Below w.heap.size w w' := by
  go_enter Try.func18, Try.ntmps18
  go_wp2
  go_loopw [3, 4, 7] (fun s _ i wr => ∃ k : Nat, k ≤ n ∧ i = .int .i64 k ∧ s = .string (str (gw k)) ∧ Below w.heap.size w wr) (fun _ _ i _ => n - (intOf i).toNat)
  case atStart => exact ⟨0, by omega, rfl, rfl, Below.refl _ _⟩
  case round =>
    obtain ⟨k, hk, rfl, rfl, hb⟩ := hrel
    by_cases hlt : k < n
    · have hsz := gsize k
      have hrun1 : ∀ W : World, (Op.stringOp .add (str (gw k)) ⟨#[49]⟩).run Try.prog W = .ok (.string (str (gw k) ++ ⟨#[49]⟩)) W := fun W => run_string_add_sum (P := Try.prog) W _ _ (by have : (⟨#[49]⟩ : ByteArray).size = 1 := rfl; omega)
      have hrun0 : ∀ W : World, (Op.stringOp .add (str (gw k)) ⟨#[48]⟩).run Try.prog W = .ok (.string (str (gw k) ++ ⟨#[48]⟩)) W := fun W => run_string_add_sum (P := Try.prog) W _ _ (by have : (⟨#[48]⟩ : ByteArray).size = 1 := rfl; omega)
      have hsucc := gw_succ k
      have HS := Lib.hid hsucc
      clear hsucc hsz
      go_wp2_with fail
      refine (rEncode_nat k (by omega) _).mono ?_
      rintro e w1 ⟨v, rfl, hv, hb1⟩
      have hb2 := hb.trans (hb1.mono hb.size)
      obtain ⟨hlen, A, c, rfl, hc, hr⟩ := hv
      rw [ix_length] at *
      have HR := Lib.hid hr
      clear hr hb hb1
      by_cases h0 : (zeck k).length = 0
      · have hnil : zeck k = [] := List.eq_nil_of_length_eq_zero h0
        have hl : letter k = 48 := by unfold letter; rw [hnil]; rfl
        have HL := Lib.hid hl
        clear hl hnil HR
        have hd : decide (0 < (zeck k).length) = false := decide_eq_false (by omega)
        go_wp2
        go_roundw
        case rel => exact ⟨k + 1, by omega, by go_num, by rw [HS.out, HL.out, ← str_append]; rfl, hb2⟩
        case measure => simp [intOf]; omega
      · have hpos : 0 < (zeck k).length := by omega
        obtain ⟨ad, rfl, hbl, hcell⟩ := HR.out hpos
        have hck := hcell _ _ (getLast_ix (zeck k) hpos)
        have hlast : (zeck k).getLast? = some ((zeck k).getLast (by intro e; rw [e] at hpos; simp at hpos)) := List.getLast?_eq_some_getLast _
        clear hcell HR
        have hd : decide (0 < (zeck k).length) = true := decide_eq_true (by omega)
        have k1 : ((((zeck k).length : Nat) : Int) - 1).toNat = (zeck k).length - 1 := by omega
        generalize (zeck k).getLast _ = x at *
        by_cases hx2 : x = 2
        · subst hx2
          have hl : letter k = 49 := by unfold letter; rw [hlast]; rfl
          have HL := Lib.hid hl
          clear hl hlast
          go_wp2
          go_roundw
          case rel => exact ⟨k + 1, by omega, by go_num, by rw [HS.out, HL.out, ← str_append]; rfl, hb2⟩
          case measure => simp [intOf]; omega
        · have hl : letter k = 48 := by unfold letter; rw [hlast, if_neg (by simpa using hx2)]
          have HL := Lib.hid hl
          have hd2 : ((x : Int) == 2) = false := by simp; omega
          clear hl hlast
          go_wp2
          go_roundw
          case rel => exact ⟨k + 1, by omega, by go_num, by rw [HS.out, HL.out, ← str_append]; rfl, hb2⟩
          case measure => simp [intOf]; omega
    · have hkn : k = n := by omega
      subst hkn
      go_wp2
      go_ret
      exact ⟨rfl, hb⟩
end Go.Proofs.Ytiknocjdogbajaa
