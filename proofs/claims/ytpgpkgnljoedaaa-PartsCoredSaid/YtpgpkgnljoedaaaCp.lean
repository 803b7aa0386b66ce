/- Library functions on slices of the call's own: compact, delete, reverse. -/
import Derived.Test.YtpgpkgnljoedaaaShp
import Derived.Test.YtpgpkgnljoedaaaOs
import Derived.Test.YtpgpkgnljoedaaaC
import Derived.Test.YtpgpkgnljoedaaaFn
namespace Go.Proofs.Ytpgpkgnljoedaaa
open Go.RowKit
theorem Own.holds {w : World} {base g n cap : Nat} {xs : List Int} (h : Own w base (.slice (some ⟨g, 0, none⟩) n cap) xs) : «Sort».Holds (Value.int .i64) w g 0 xs.toArray := by
  rcases h.2 with ⟨h0, _⟩ | ⟨g', cap', cur, hv, hb0, hg, hnc, hcm, hcs, htake⟩
  · cases h0
  · simp only [Value.slice.injEq, Option.some.injEq, Addr.mk.injEq] at hv
    obtain ⟨⟨rfl, _⟩, hn, rfl⟩ := hv
    intro j hj
    simp only [List.size_toArray] at hj
    refine ⟨?_, by simp [World.frozen?, hg]⟩
    have e : cur[j]? = some (.int .i64 xs[j]) := by
      have := congrArg (fun l => l[j]?) htake
      simp only [List.getElem?_take, List.getElem?_map, List.getElem?_eq_getElem hj, Array.getElem?_toList] at this
      rw [if_pos (by omega)] at this
      exact this
    simp only [World.cell?, hg, Nat.zero_add]
    simp [e, hj]
theorem Own.nums {w : World} {base g n cap : Nat} {xs : List Int} (h : Own w base (.slice (some ⟨g, 0, none⟩) n cap) xs) : n = xs.length ∧ n ≤ cap ∧ cap ≤ 9223372036854775807 ∧ base ≤ g ∧ g < w.heap.size := by
  rcases h.2 with ⟨h0, _⟩ | ⟨g', cap', cur, hv, hb0, hg, hnc, hcm, hcs, htake⟩
  · cases h0
  · simp only [Value.slice.injEq, Option.some.injEq, Addr.mk.injEq] at hv
    obtain ⟨⟨rfl, _⟩, hn, rfl⟩ := hv
    unfold maxLen at hcm
    exact ⟨hn, by omega, hcm, hb0, (Array.getElem?_eq_some_iff.1 hg).1⟩
theorem Own.putRow {w : World} {base g n cap : Nat} {xs : List Int} (h : Own w base (.slice (some ⟨g, 0, none⟩) n cap) xs) (q : Nat) (d : List Int) (hd : d.length = n) (k : Nat) (hk : k ≤ n) :
    Own («Sort».putRow (Value.int .i64) («Sort».ahead w q) g 0 d.toArray) base (.slice (some ⟨g, 0, none⟩) k cap) (d.take k) ∧ Below base w («Sort».putRow (Value.int .i64) («Sort».ahead w q) g 0 d.toArray) := by
  rcases h.2 with ⟨h0, _⟩ | ⟨g', cap', cur, hv, hb0, hg, hnc, hcm, hcs, htake⟩
  · cases h0
  · simp only [Value.slice.injEq, Option.some.injEq, Addr.mk.injEq] at hv
    obtain ⟨⟨rfl, _⟩, hn, rfl⟩ := hv
    have hg2 : («Sort».putRow (Value.int .i64) («Sort».ahead w q) g 0 d.toArray).heap[g]? = some (.cells («Sort».putCells (Value.int .i64) 0 d.toArray cur) 3 (0, 0)) := by
      simp [«Sort».putRow, «Sort».mapBlock, Array.getElem?_modify, hg, «Sort».onCells]
    constructor
    · refine ⟨?_, .inr ⟨g, cap, «Sort».putCells (Value.int .i64) 0 d.toArray cur, by rw [List.length_take]; congr 2; omega, hb0, hg2, by rw [List.length_take]; omega, hcm, by simpa [«Sort».putCells] using hcs, ?_⟩⟩
      · simp
      · apply List.ext_getElem?
        intro i
        simp only [List.getElem?_take, List.getElem?_map, Array.getElem?_toList, List.length_take, hd]
        by_cases hi : i < k
        · have hid : i < d.length := by omega
          have hic : i < cur.size := by omega
          rw [if_pos (by omega), if_pos hi, List.getElem?_eq_getElem hid]
          simp [«Sort».putCells, Array.getElem?_mapIdx, Array.getElem?_eq_getElem hic, hid]
        · rw [if_neg (by omega), if_neg hi]
          rfl
    · refine ⟨rfl, rfl, rfl, by simp, fun b hb => ?_⟩
      simp [«Sort».putRow, «Sort».mapBlock, Array.getElem?_modify, show ¬ g = b by omega]
/-- slices.Compact on a slice of the call's own: the first numbers of each run stay -/
theorem compact_any (base g n cap : Nat) (xs : List Int) (w : World) (h : Own w base (.slice (some ⟨g, 0, none⟩) n cap) xs) :
    Calls Try.prog 85 #[.slice (some ⟨g, 0, none⟩) n cap] w fun e w' => e = .returned (.slice (some ⟨g, 0, none⟩) (Lib.compact xs).length cap) ∧ Own w' base (.slice (some ⟨g, 0, none⟩) (Lib.compact xs).length cap) (Lib.compact xs) ∧ Below base w w' := by
  obtain ⟨hn, hc, hm, _, _⟩ := h.nums
  subst hn
  have hcon := AnyG.slices_Compact_int l85 g 0 cap xs w h.holds (by omega) hc
  change Calls Try.prog 85 _ _ _ at hcon
  refine hcon.mono ?_
  rintro e w' ⟨rfl, q, rfl⟩
  have hle : (Lib.compact xs).length ≤ xs.length := by
    simp only [Lib.compact, Lib.compactUpTo, List.length_map]
    exact Nat.le_trans (List.length_filter_le _ _) (by simp)
  obtain ⟨h1, h2⟩ := h.putRow q (Lib.compact xs ++ List.replicate (xs.length - (Lib.compact xs).length) 0) (by simp; omega) (Lib.compact xs).length hle
  rw [List.take_left'  rfl] at h1
  exact ⟨rfl, h1, h2⟩
theorem compact_nil (w : World) :
    Calls Try.prog 85 #[.slice none 0 0] w fun e w' => e = .returned (.slice none 0 0) ∧ w = w' := by
  go_enter Try.func85, Try.ntmps85
  go_wp2_with fail
  go_ret
  exact ⟨rfl, rfl⟩
theorem delete_any (base g n cap i : Nat) (xs : List Int) (w : World) (h : Own w base (.slice (some ⟨g, 0, none⟩) n cap) xs) (hi : i + 1 ≤ n) :
    Calls Try.prog 79 #[.slice (some ⟨g, 0, none⟩) n cap, .int .i64 i, .int .i64 ((i + 1 : Nat) : Int)] w fun e w' => e = .returned (.slice (some ⟨g, 0, none⟩) (n - 1) cap) ∧ Own w' base (.slice (some ⟨g, 0, none⟩) (n - 1) cap) (xs.take i ++ xs.drop (i + 1)) ∧ Below base w w' := by
  obtain ⟨hn, hc, hm, _, _⟩ := h.nums
  subst hn
  have hcon := AnyG.slices_Delete_int l79 g 0 cap i (i + 1) xs w h.holds hc hm (by omega) hi
  change Calls Try.prog 79 _ _ _ at hcon
  refine hcon.mono ?_
  rintro e w' ⟨rfl, q, rfl⟩
  obtain ⟨h1, h2⟩ := h.putRow q (xs.take i ++ xs.drop (i + 1) ++ List.replicate (i + 1 - i) 0) (by simp; omega) (xs.length - 1) (by omega)
  rw [List.take_left' (by simp; omega)] at h1
  rw [show xs.length - (i + 1 - i) = xs.length - 1 by omega]
  exact ⟨rfl, h1, h2⟩
theorem reverse_any (base g n cap : Nat) (xs : List Int) (w : World) (h : Own w base (.slice (some ⟨g, 0, none⟩) n cap) xs) :
    Calls Try.prog 91 #[.slice (some ⟨g, 0, none⟩) n cap] w fun e w' => e = .returned (.tuple #[]) ∧ Own w' base (.slice (some ⟨g, 0, none⟩) n cap) xs.reverse ∧ Below base w w' := by
  obtain ⟨hn, hc, hm, _, _⟩ := h.nums
  subst hn
  have hcon := AnyG.slices_Reverse_int l91 g 0 cap xs w h.holds (by omega)
  change Calls Try.prog 91 _ _ _ at hcon
  refine hcon.mono ?_
  rintro e w' ⟨rfl, q, rfl⟩
  obtain ⟨h1, h2⟩ := h.putRow q xs.reverse (by simp) xs.length (by omega)
  rw [List.take_of_length_le (by simp)] at h1
  exact ⟨rfl, h1, h2⟩
theorem Own.parts {w : World} {base : Nat} {v : Value} {xs : List Int} (h : Own w base v xs) : (v = .slice none 0 0 ∧ xs = []) ∨ ∃ g n cap, v = .slice (some ⟨g, 0, none⟩) n cap := by
  rcases h.2 with ⟨h0, h1⟩ | ⟨g', cap', cur, hv, _⟩
  · exact .inl ⟨h0, List.eq_nil_of_length_eq_zero h1⟩
  · exact .inr ⟨_, _, _, hv⟩
theorem compact_own (base : Nat) (v : Value) (xs : List Int) (w : World) (h : Own w base v xs) :
    Calls Try.prog 85 #[v] w fun e w' => ∃ A cap, e = .returned (.slice A (Lib.compact xs).length cap) ∧ Below base w w' := by
  rcases h.parts with ⟨rfl, rfl⟩ | ⟨g, n, cap, rfl⟩
  · refine (compact_nil w).mono ?_
    rintro e w' ⟨rfl, rfl⟩
    exact ⟨none, 0, rfl, Below.refl _ _⟩
  · refine (compact_any base g n cap xs w h).mono ?_
    rintro e w' ⟨rfl, _, hb⟩
    exact ⟨_, _, rfl, hb⟩
/-- none falls out just if neighbours differ -/
theorem compact_same (xs : List Int) : (Lib.compact xs).length = xs.length ↔ ∀ k, k + 1 < xs.length → xs.getD (k + 1) 0 ≠ xs.getD k 0 := by
  have hf : (Lib.compact xs).length = ((List.range xs.length).filter (Lib.keeps xs.toArray)).length := by simp [Lib.compact, Lib.compactUpTo]
  have hg : ∀ k, k < xs.length → xs.toArray[k]! = xs.getD k 0 := fun k hk => by simp [hk]
  have h2 : ((List.range xs.length).filter (Lib.keeps xs.toArray)).length = xs.length ↔ ∀ a ∈ List.range xs.length, Lib.keeps xs.toArray a = true := by
    have := List.length_filter_eq_length_iff (l := List.range xs.length) (p := Lib.keeps xs.toArray)
    rw [List.length_range] at this
    exact this
  rw [hf, h2]
  constructor
  · intro h k hk e
    have a := h (k + 1) (List.mem_range.2 hk)
    have b := Lib.keeps_neg (d := xs.toArray) (m := k + 1) (by omega) (by rw [Nat.add_sub_cancel, hg _ hk, hg _ (by omega)]; exact e)
    rw [a] at b; cases b
  · intro h a ha
    rw [List.mem_range] at ha
    by_cases h0 : a = 0
    · subst h0; exact Lib.keeps_lt_one _ 0 (by omega)
    · refine Lib.keeps_pos ?_
      have := h (a - 1) (by omega)
      rw [show a - 1 + 1 = a by omega] at this
      rw [hg _ ha, hg _ (by omega)]
      exact this
set_option maxHeartbeats 400000 in
theorem different_yes (v : Value) (l : List Int) (hd : Dif l) (w : World) (hv : Ints w v l) :
    Calls Try.prog 64 #[v] w fun e w' => e = .returned (.bool true) ∧ Below w.heap.size w w' := by
  have hs := compact_same l
  have hxl : (Lib.compact l).length ≤ l.length := by
    simp only [Lib.compact, Lib.compactUpTo, List.length_map]
    exact Nat.le_trans (List.length_filter_le _ _) (by simp)
  obtain ⟨x, hx⟩ : ∃ x, x = (Lib.compact l).length := ⟨_, rfl⟩
  rw [← hx] at hs hxl
  have hxx : x = l.length := hs.2 hd
  have HX := Lib.hid hx
  have HV := Lib.hid hv
  obtain ⟨_, A, c, rfl, _, _⟩ := hv
  clear hx hs hd
  have HXX := Lib.hid hxx; clear hxx
  go_enter Try.func64, Try.ntmps64
  go_wp2_with fail
  refine (clonep_any _ l _ HV.out).mono ?_
  rintro e w1 ⟨v1, rfl, o1, b1⟩
  have O1 := Lib.hid o1
  clear o1
  go_wp2_with fail
  refine (compact_own _ _ l _ O1.out).mono ?_
  rintro e w2 ⟨A2, c2, rfl, b2⟩
  have hb := b1.trans b2
  clear b1 b2
  rw [← HX.out, HXX.out]
  go_wp2_with fail
  go_ret
  exact ⟨rfl, hb⟩
set_option maxHeartbeats 400000 in
theorem different_no (v : Value) (l : List Int) (hd : ¬ Dif l) (w : World) (hv : Ints w v l) :
    Calls Try.prog 64 #[v] w fun e w' => e = .returned (.bool false) ∧ Below w.heap.size w w' := by
  have hs := compact_same l
  have hxl : (Lib.compact l).length ≤ l.length := by
    simp only [Lib.compact, Lib.compactUpTo, List.length_map]
    exact Nat.le_trans (List.length_filter_le _ _) (by simp)
  obtain ⟨x, hx⟩ : ∃ x, x = (Lib.compact l).length := ⟨_, rfl⟩
  rw [← hx] at hs hxl
  have hxx : x < l.length := by rcases Nat.lt_or_ge x l.length with h | h; exact h; exact absurd (hs.1 (by omega)) hd
  have HX := Lib.hid hx
  have HV := Lib.hid hv
  obtain ⟨_, A, c, rfl, _, _⟩ := hv
  clear hx hs hd
  have t1 : ((x : Int) == l.length) = false := by rw [beq_eq_false_iff_ne]; omega
  go_enter Try.func64, Try.ntmps64
  go_wp2_with fail
  refine (clonep_any _ l _ HV.out).mono ?_
  rintro e w1 ⟨v1, rfl, o1, b1⟩
  have O1 := Lib.hid o1
  clear o1
  go_wp2_with fail
  refine (compact_own _ _ l _ O1.out).mono ?_
  rintro e w2 ⟨A2, c2, rfl, b2⟩
  have hb := b1.trans b2
  clear b1 b2
  rw [← HX.out]
  go_wp2_with fail
  go_ret
  exact ⟨rfl, hb⟩
end Go.Proofs.Ytpgpkgnljoedaaa
