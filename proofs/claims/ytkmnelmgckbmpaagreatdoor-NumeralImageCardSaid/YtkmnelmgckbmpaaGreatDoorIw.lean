/- NumeralImage: the golden word is its own image, and has one more part of each length than the length: the walk. -/
import Derived.Test.YtkmnelmgckbmpaaGreatDoorIm
import Derived.Test.YtkmnelmgckbmpaaGreatDoorA
namespace Go.Proofs.YtkmnelmgckbmpaaGreatDoor
open Go.RowKit
set_option maxRecDepth 100000 in
set_option maxHeartbeats 1600000 in
theorem new_any (w : World) :
    Calls Tryz.prog 6 #[.slice (some ⟨w.heap.size, 0, none⟩) 4 4] (w.alloc (.cells #[.string ⟨#[48]⟩, .string ⟨#[48, 49]⟩, .string ⟨#[49]⟩, .string ⟨#[48]⟩] 9)) fun e w' => ∃ b ob c x3, e = .returned (.pointer (some ⟨b, 0, none⟩)) ∧
      w'.cell? ⟨b, 3, none⟩ = some x3 ∧ w'.cell? ⟨b, 4, none⟩ = some (.slice (some ⟨ob, 0, none⟩) 4 c) ∧ b < w'.heap.size ∧ ob < w'.heap.size ∧ ob ≠ b ∧ (∀ j, w'.frozen? ⟨b, j, none⟩ = false) ∧ w'.cell? ⟨b, 0, none⟩ = some (.int .u32 0) ∧ w'.cell? ⟨b, 1, none⟩ = some (.int .i32 0) ∧
      w'.cell? ⟨ob, 0, none⟩ = some (.string ⟨#[48]⟩) ∧ w'.cell? ⟨ob, 1, none⟩ = some (.string ⟨#[48, 49]⟩) ∧ w'.cell? ⟨ob, 2, none⟩ = some (.string ⟨#[49]⟩) ∧ w'.cell? ⟨ob, 3, none⟩ = some (.string ⟨#[48]⟩) ∧ w.heap.size ≤ b ∧ Below w.heap.size w w' := by
  go_enter Tryz.func6, Tryz.ntmps6
  go_wp2
  go_ret
  generalize (Question.appendCap 4 0 9).cut (w.tape w.drawn (Question.appendCap 4 0 9)) = cap
  have hbl : ∀ c1 c2 c3 : Array Value, Below w.heap.size w (((w.alloc (.cells c1 9)).alloc (.cells c2 9)).alloc (.cells c3 53)).drew := fun c1 c2 c3 =>
    ((((Below.refl _ w).alloc (Nat.le_refl _) _).alloc (by simp) _).alloc (by simp; omega) _).drew
  refine ⟨w.heap.size + 1 + 1, w.heap.size + 1, cap, .nilIface, rfl, ?_, ?_, ?_, ?_, by omega, fun j => ?_, ?_, ?_, ?_, ?_, ?_, ?_, by omega, hbl _ _ _⟩
  · rw [World.cell?_drew, World.cell?_alloc_at _ _ _ _ (by simp)]; rfl
  · rw [World.cell?_drew, World.cell?_alloc_at _ _ _ _ (by simp)]; rfl
  · simp [World.drew, -World.drew_eq]
  · simp [World.drew, -World.drew_eq]
  · rw [World.frozen?_drew, World.frozen?_alloc_at _ _ _ _ (by simp)]
  · rw [World.cell?_drew, World.cell?_alloc_at _ _ _ _ (by simp)]; rfl
  · rw [World.cell?_drew, World.cell?_alloc_at _ _ _ _ (by simp)]; rfl
  · rw [World.cell?_drew, World.cell?_alloc_past _ _ _ (by simp), World.cell?_alloc_at _ _ _ _ (by simp), Array.getElem?_append_left (by simp)]; rfl
  · rw [World.cell?_drew, World.cell?_alloc_past _ _ _ (by simp), World.cell?_alloc_at _ _ _ _ (by simp), Array.getElem?_append_left (by simp)]; rfl
  · rw [World.cell?_drew, World.cell?_alloc_past _ _ _ (by simp), World.cell?_alloc_at _ _ _ _ (by simp), Array.getElem?_append_left (by simp)]; rfl
  · rw [World.cell?_drew, World.cell?_alloc_past _ _ _ (by simp), World.cell?_alloc_at _ _ _ _ (by simp), Array.getElem?_append_left (by simp)]; rfl
theorem dropWhile_all {α : Type} (p : α → Bool) : ∀ (l : List α), (∀ c ∈ l, p c = true) → l.dropWhile p = []
  | [], _ => rfl
  | c :: l, h => by rw [List.dropWhile_cons, if_pos (h c (List.mem_cons_self ..))]; exact dropWhile_all p l fun d hd => h d (List.mem_cons_of_mem _ hd)
theorem trim_letters (l cut : List UInt8) (h : ∀ c ∈ l, cut.contains c = true) : Lib.trimS l cut = [] := by
  unfold Lib.trimS Lib.trimRightS
  rw [dropWhile_all _ _ (fun c hc => h c (List.mem_reverse.1 hc))]
  rfl
theorem small_k (k : Int) : ∃ K : Nat, K < 12 ∧ wrap64 ((IntKind.u64.wrap k).tmod 12) = (K : Int) := by
  have h0 : 0 ≤ IntKind.u64.wrap k := by rw [IntKind.wrap_u64]; omega
  have h1 := Int.tmod_nonneg 12 h0
  have h2 : (IntKind.u64.wrap k).tmod 12 < 12 := Int.tmod_lt_of_pos _ (by omega)
  generalize (IntKind.u64.wrap k).tmod 12 = x at h1 h2
  exact ⟨x.toNat, by omega, by unfold wrap64; omega⟩
theorem asciiZero : (Tryz.prog.info? 56).map (fun i => (i.zero, i.size)) = some (some (.agg (Array.replicate 256 (Value.bool false))), 256) := by kernel_rfl
set_option maxRecDepth 100000 in
theorem trim_any (n : Nat) (hn : n ≤ 2000) (w : World) : Calls Tryz.prog 8 #[.string (str (gw n)), .string ⟨#[48, 49]⟩] w fun e w' => e = .returned (.string ⟨#[]⟩) ∧ Below w.heap.size w w' := by
  have hs : (str (gw n)).size = n := by rw [str_size, gw_length _ (by omega)]
  obtain ⟨z1, z2⟩ := zero_of_info asciiZero
  refine (Any.strings_Trim_ascii l8 z1 z2 (str (gw n)) ⟨#[48, 49]⟩ w (by omega) (by decide) (fun j b hj => ?_)).mono ?_
  · match j, hj with
    | 0, hj => simp at hj; subst hj; decide
    | 1, hj => simp at hj; subst hj; decide
  · rintro e w' ⟨rfl, hb⟩
    refine ⟨?_, hb⟩
    rw [trim_letters _ _ (fun c hc => ?_)]
    have : c = 48 ∨ c = 49 := gw_letters n c (by simpa [str] using hc)
    rcases this with rfl | rfl <;> decide
theorem contains_any (X : Nat) (v : Value) (L : List ByteArray) (x : ByteArray) (w : World) (h : Rw stEnc 9 w X v L) (hl : L.length ≤ 1000) :
    Calls Tryz.prog 9 #[v, .string x] w fun e w' => e = .returned (.bool (Lib.containsS L x)) ∧ w' = w := by
  by_cases h0 : L.length = 0
  · obtain rfl := List.eq_nil_of_length_eq_zero h0
    obtain ⟨A, c, rfl⟩ := h.form
    refine (Any.slices_Contains_string_empty l9 A c x w).mono ?_
    rintro e w' ⟨rfl, rfl⟩
    exact ⟨rfl, rfl⟩
  · obtain ⟨g, c, rfl, -, -⟩ := h.seen (by omega)
    refine (Any.slices_Contains_string l9 g 0 L.length c L x w (Nat.le_refl _) (by omega) (fun j hj => ?_)).mono ?_
    · have := h.cell (j := j) (x := L[j]) (List.getElem?_eq_getElem hj) (i := 0) (u := .string L[j]) rfl
      rw [Nat.zero_add, List.getD_eq_getElem?_getD, List.getElem?_eq_getElem hj]
      simpa using this
    · rintro e w' ⟨rfl, rfl⟩
      refine ⟨?_, rfl⟩
      rw [List.take_length]
theorem str_inj {a b : List UInt8} (h : str a = str b) : a = b := by
  have := congrArg (fun x : ByteArray => x.data.toList) h
  simpa [str] using this
theorem mem_str (y : List UInt8) (L : List (List UInt8)) : (str y ∈ L.map str) ↔ y ∈ L := by
  rw [List.mem_map]
  constructor
  · rintro ⟨a, ha, h⟩; rw [← str_inj h]; exact ha
  · intro h; exact ⟨y, h, rfl⟩
theorem met_le (k : Nat) : ∀ j, (met k j).length ≤ j
  | 0 => by simp [met]
  | j + 1 => by
    have := met_le k j
    rw [met]
    split
    · omega
    · rw [List.length_append, List.length_singleton]; omega
set_option maxRecDepth 100000 in
set_option maxHeartbeats 1600000 in
theorem image_no (n k : Int) (h : n < 0 ∨ 2000 < n) (w : World) : Calls Tryz.prog 3 #[.int .i64 n, .int .i64 k] w fun e w' => e = .returned (.bool true) ∧ Below w.heap.size w w' := by
  go_enter Tryz.func3, Tryz.ntmps3
  go_wp2_with (first
    | (go_at_call 4; refine (Word_no n h _).mono ?_; rintro e w1 ⟨rfl, hb1⟩)
    | (go_at_call 5; refine (awake_any _).mono ?_; rintro e w2 ⟨rfl, hb2⟩))
  go_ret
  exact ⟨rfl, hb1.trans (hb2.mono hb1.size)⟩
set_option maxRecDepth 100000 in
set_option maxHeartbeats 4000000 in
theorem image_yes (n : Nat) (k : Int) (hn : n ≤ 2000) (hk : -9223372036854775808 ≤ k ∧ k ≤ 9223372036854775807) (w : World) : Calls Tryz.prog 3 #[.int .i64 n, .int .i64 k] w fun e w' => e = .returned (.bool true) ∧ Below w.heap.size w w' := by
  have hs : (str (gw n)).size = n := by rw [str_size, gw_length _ (by omega)]
  obtain ⟨m0, hm0⟩ : ∃ m0, m0 = ((gw n).flatMap im).length := ⟨_, rfl⟩
  have him : (gw n).flatMap im = gw m0 := by rw [hm0]; exact im_gw n hn
  have hle : m0 ≤ 4000 := by rw [hm0]; have := im_length_le (gw n); rw [gw_length n (by omega)] at this; omega
  have hsi : (str (gw m0)).size = m0 := by rw [str_size, gw_length _ (by omega)]
  have HIM := Lib.hid him
  clear him hm0
  go_enter Tryz.func3, Tryz.ntmps3
  go_wp2_with fail
  refine (Word_yes n hn _).mono ?_
  rintro e w1 ⟨rfl, hb1⟩
  go_wp2_with (first
    | (go_at_call 6; refine (new_any _).mono ?_; rintro e w2 ⟨b, ob, c, x3, rfl, q1, q2, q3, q4, q5, q6, q7, q8, q9, q10, q11, q12, q13, hb2⟩
       have HC := Lib.hid (replace_any b c ob x3 (gw n) (by rw [gw_length _ (by omega)]; exact hn) (gw_letters n) w2 q1 q2 q3 q4 q5 q6 q7 q8 q9 q10 q11 q12 w1.heap.size q13)
       clear q1 q2 q3 q4 q5 q6 q7 q8 q9 q10 q11 q12)
    | (go_at_call 7; refine HC.out.mono ?_; rintro e w3 ⟨rfl, hb3⟩; rw [HIM.out]))
  rw [show min (m0 : Int) 2000 = ((min m0 2000 : Nat) : Int) by omega]
  obtain ⟨m, hm⟩ : ∃ m, m = min m0 2000 := ⟨_, rfl⟩
  rw [← hm]
  have hmle : m ≤ 2000 := by omega
  have hmm : m ≤ m0 := by omega
  have hext : (str (gw m0)).extract 0 m = str (gw m) := by
    rw [← gw_take m m0 hmm]
    apply ByteArray.ext
    simp [str, ByteArray.data_extract]
  clear hm
  refine (Word_yes m hmle _).mono ?_
  rintro e w4 ⟨rfl, hb4⟩
  go_wp2_with fail
  refine (trim_any n hn _).mono ?_
  rintro e w5 ⟨rfl, hb5⟩
  go_wp2_with fail
  obtain ⟨K, hK, hKe⟩ := small_k k
  rw [hKe]
  refine (Word_yes 400 (by omega) _).mono ?_
  rintro e w6 ⟨rfl, hb6⟩
  have h400 : (str (gw 400)).size = 400 := by rw [str_size, gw_length _ (by omega)]
  go_wp2_with fail
  have bel : Below w.heap.size w w6 := by
    have e1 := hb1
    have e3 := e1.trans (hb2.mono e1.size)
    have e4 := e3.trans (hb3.mono e1.size)
    have e5 := e4.trans (hb4.mono e4.size)
    have e6 := e5.trans (hb5.mono e5.size)
    exact e6.trans (hb6.mono e6.size)
  go_loopw [10, 11, 12] (fun ps i _ wr => ∃ j : Nat, j ≤ 401 - K ∧ i = .int .i64 j ∧ Rw stEnc 9 wr w.heap.size ps ((met K j).map str) ∧ Below w.heap.size w wr) (fun _ i _ _ => 401 - (intOf i).toNat)
  case atStart => exact ⟨0, Nat.zero_le _, rfl, Rw.nil _ _, bel⟩
  case round =>
    obtain ⟨j, hj, rfl, hps, hb⟩ := hrel
    by_cases hlt : j + K ≤ 400
    · obtain ⟨y, hy⟩ : ∃ y, y = ((gw 400).drop j).take K := ⟨_, rfl⟩
      have hx : (str (gw 400)).extract j (j + K) = str y := by
        rw [hy]
        apply ByteArray.ext
        simp [str, ByteArray.data_extract, List.extract_eq_take_drop]
      have hmet : met K (j + 1) = if y ∈ met K j then met K j else met K j ++ [y] := by rw [met, hy]
      have hml := met_le K j
      have HY := Lib.hid hy
      have HM := Lib.hid hmet
      clear hy hmet
      by_cases hin : y ∈ met K j
      · have hc : Lib.containsS ((met K j).map str) (str y) = true := (Lib.containsS_iff _ _).2 ((mem_str _ _).2 hin)
        go_wp2_with (go_at_call 9; refine (contains_any w.heap.size _ _ _ _ hps (by rw [List.length_map]; omega)).mono ?_; rintro e w7 ⟨rfl, hw⟩; rw [hw, hc]; clear hw w7)
        go_roundw
        case rel => exact ⟨j + 1, by omega, by go_num, by rw [HM.out, if_pos hin]; exact hps, hb⟩
        case measure => simp [intOf]; omega
      · have hc : Lib.containsS ((met K j).map str) (str y) = false := Bool.eq_false_iff.2 (fun h => hin ((mem_str _ _).1 ((Lib.containsS_iff _ _).1 h)))
        go_wp2_with (first
          | (go_at_call 9; refine (contains_any w.heap.size _ _ _ _ hps (by rw [List.length_map]; omega)).mono ?_; rintro e w7 ⟨rfl, hw⟩; rw [hw, hc]; clear hw w7)
          | (at_builtin; refine wpList_rw stElt wr rfl _ _ rfl w.heap.size u10 _ rfl hps (str y) _ rfl rfl (by rw [List.length_map]; omega) hb.size ?_; intro g2 cap2 w8 r2 bel2))
        go_roundw
        case rel => exact ⟨j + 1, by omega, by go_num, by rw [HM.out, if_neg hin, List.map_append, List.length_map] at *; exact r2, hb.trans bel2⟩
        case measure => simp [intOf]; omega
    · obtain rfl : j = 401 - K := by omega
      have hlen := met_length K hK
      obtain ⟨A, c, hform⟩ := hps.form
      rw [List.length_map, hlen] at hform
      subst hform
      have hd : decide ((401 - K : Nat) + K ≤ 400) = false := decide_eq_false (by omega)
      go_wp2_with (go_at_call 5; refine (awake_any _).mono ?_; rintro e w9 ⟨rfl, hb9⟩)
      go_ret
      exact ⟨rfl, hb.trans (hb9.mono hb.size)⟩
end Go.Proofs.YtkmnelmgckbmpaaGreatDoor
