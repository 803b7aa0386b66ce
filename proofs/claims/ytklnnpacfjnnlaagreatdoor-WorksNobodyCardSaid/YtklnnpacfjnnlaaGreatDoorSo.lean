/- slices.Sort of strings, strings.Join. -/
import Derived.Test.YtklnnpacfjnnlaaGreatDoorSy
import Derived.Test.YtklnnpacfjnnlaaGreatDoorShe
import Derived.Shelf.Slices.In.SortNone
import Derived.Shelf.Strings.OnBuilder
namespace Go.Proofs.YtklnnpacfjnnlaaGreatDoor
open Go.RowKit
/-- sorted strings -/
def sortB (L : List ByteArray) : List ByteArray := ((L.map fun s => s.data.toList).mergeSort fun x y => decide (x ≤ y)).map fun l => ⟨l.toArray⟩
theorem back_str (l : List ByteArray) : (l.map fun s => s.data.toList).map (fun l => (⟨l.toArray⟩ : ByteArray)) = l := by
  rw [List.map_map]
  conv => rhs; rw [← List.map_id l]
  exact List.map_congr_left fun s _ => rfl
theorem sortB_length (L : List ByteArray) : (sortB L).length = L.length := by simp [sortB]
theorem Rw.holdsS {w : World} {base g n cap : Nat} {xs : List ByteArray} (h : Rw stEnc 9 w base (.slice (some ⟨g, 0, none⟩) n cap) xs) : «Sort».Holds encStr w g 0 (xs.map fun s => s.data.toList).toArray := by
  rcases h.2 with ⟨h0, _⟩ | ⟨g', cap', cur, hv, hb0, hg, hnc, hcm, hcs, htake⟩
  · cases h0
  · simp only [Value.slice.injEq, Option.some.injEq, Addr.mk.injEq] at hv
    obtain ⟨⟨rfl, _⟩, hn, rfl⟩ := hv
    intro j hj
    simp only [List.size_toArray, List.length_map] at hj
    refine ⟨?_, by simp [World.frozen?, hg]⟩
    have := h.cell (j := j) (x := xs[j]) (List.getElem?_eq_getElem hj) (i := 0) (u := .string xs[j]) rfl
    rw [show 0 + j = j * 1 + 0 by omega, this]
    simp [hj]
theorem Rw.putRowS {w : World} {base g n cap : Nat} {xs : List ByteArray} (h : Rw stEnc 9 w base (.slice (some ⟨g, 0, none⟩) n cap) xs) (q : Nat) (d : List (List UInt8)) (hd : d.length = n) :
    Rw stEnc 9 («Sort».putRow encStr («Sort».ahead w q) g 0 d.toArray) base (.slice (some ⟨g, 0, none⟩) n cap) (d.map fun l => ⟨l.toArray⟩) ∧ Below base w («Sort».putRow encStr («Sort».ahead w q) g 0 d.toArray) ∧
      ∀ b, b ≠ g → («Sort».putRow encStr («Sort».ahead w q) g 0 d.toArray).heap[b]? = w.heap[b]? := by
  rcases h.2 with ⟨h0, _⟩ | ⟨g', cap', cur, hv, hb0, hg, hnc, hcm, hcs, htake⟩
  · cases h0
  · simp only [Value.slice.injEq, Option.some.injEq, Addr.mk.injEq] at hv
    obtain ⟨⟨rfl, _⟩, hn, rfl⟩ := hv
    have hg2 : («Sort».putRow encStr («Sort».ahead w q) g 0 d.toArray).heap[g]? = some (.cells («Sort».putCells encStr 0 d.toArray cur) 9 (0, 0)) := by
      simp [«Sort».putRow, «Sort».mapBlock, Array.getElem?_modify, hg, «Sort».onCells]
    refine ⟨?_, ⟨rfl, rfl, rfl, by simp, fun b hb => ?_⟩, fun b hb => ?_⟩
    · unfold Rw
      rw [st_flat]
      refine ⟨?_, .inr ⟨g, cap, «Sort».putCells encStr 0 d.toArray cur, by rw [List.length_map]; congr 2; omega, hb0, hg2, by rw [List.length_map]; omega, hcm, by simpa [«Sort».putCells] using hcs, ?_⟩⟩
      · simp
      · apply List.ext_getElem?
        intro i
        simp only [List.getElem?_take, List.getElem?_map, Array.getElem?_toList, List.length_map]
        by_cases hi : i < n
        · have hid : i < d.length := by omega
          have hic : i < cur.size := by omega
          rw [if_pos (by omega), List.getElem?_eq_getElem hid]
          simp [«Sort».putCells, Array.getElem?_mapIdx, Array.getElem?_eq_getElem hic, hid]
        · rw [if_neg (by omega), List.getElem?_eq_none (by omega)]
          rfl
    · simp [«Sort».putRow, «Sort».mapBlock, Array.getElem?_modify, show ¬ g = b by omega]
    · simp [«Sort».putRow, «Sort».mapBlock, Array.getElem?_modify, Ne.symm hb]
theorem sort_any (X : Nat) (v : Value) (L : List ByteArray) (w : World) (hl : L.length ≤ 1000000) (h : Rw stEnc 9 w X v L) :
    Calls Tryz.prog 146 #[v] w fun e w' => e = .returned (.tuple #[]) ∧ Rw stEnc 9 w' X v (sortB L) ∧ Below X w w' ∧ w.heap.size ≤ w'.heap.size ∧ ∀ b, b < w.heap.size → v.ownBlock ≠ some b → w'.heap[b]? = w.heap[b]? := by
  by_cases h0 : L.length = 0
  · obtain rfl := List.eq_nil_of_length_eq_zero h0
    obtain ⟨A, c, rfl⟩ := h.form
    have hcon := Any.slices_Sort_string_none l146 A c w
    change Calls Tryz.prog 146 _ _ _ at hcon
    refine hcon.mono ?_
    rintro e w' ⟨rfl, rfl⟩
    exact ⟨rfl, by simpa [sortB] using h, Below.refl _ _, Nat.le_refl _, fun _ _ _ => rfl⟩
  · obtain ⟨g, c, rfl, hX, hlt⟩ := h.seen (by omega)
    have hcon := Any.slices_Sort_string l146 g 0 c (L.map fun s => s.data.toList) w h.holdsS hlt (by rw [List.length_map]; omega)
    rw [List.length_map] at hcon
    change Calls Tryz.prog 146 _ _ _ at hcon
    refine hcon.mono ?_
    rintro e w' ⟨rfl, q, os, rfl⟩
    obtain ⟨h1, h2, h3⟩ := h.putRowS q ((L.map fun s => s.data.toList).mergeSort fun x y => decide (x ≤ y)) (by rw [List.length_mergeSort, List.length_map])
    have hs := h2.size
    refine ⟨rfl, h1.same (fun b _ hlt => «Sort».heap_grow_old _ os hlt), h2.trans ⟨rfl, rfl, rfl, by simp, fun k hk => ?_⟩, by first | (simp; done) | (simp; omega), fun b hb hne => ?_⟩
    · exact «Sort».heap_grow_old _ os (by omega)
    · rw [«Sort».heap_grow_old _ os (by omega)]
      exact h3 b (fun e => hne (by rw [e]; rfl))
theorem alloc_two' (w : World) (a b : Value) (t : TypeId) : (w.alloc (.cells #[a, b] t)).cell? ⟨w.heap.size, 0, none⟩ = some a ∧ (w.alloc (.cells #[a, b] t)).cell? ⟨w.heap.size, 1, none⟩ = some b := by
  rw [World.cell?_alloc_at _ _ _ _ (by simp), World.cell?_alloc_at _ _ _ _ (by simp)]
  exact ⟨rfl, rfl⟩
theorem alloc_plain' (w : World) (o : Obj) : Below w.heap.size w (w.alloc o) ∧ (w.alloc o).heap.size = w.heap.size + 1 := ⟨(Below.refl _ _).alloc (Nat.le_refl _) _, World.size_alloc _ _⟩
theorem Rw.cap {α : Type} {k : Nat} {E : Enc α k} {e : TypeId} {w : World} {X g n c : Nat} {L : List α} (h : Rw E e w X (.slice (some ⟨g, 0, none⟩) n c) L) (hn : n = L.length) : L.length ≤ c := by
  rcases h.2 with ⟨h0, _⟩ | ⟨g', cap', cur, hv, hb0, hg, hnc, hcm, hcs, htake⟩
  · cases h0
  · simp only [Value.slice.injEq, Option.some.injEq, Addr.mk.injEq] at hv
    omega
theorem xtra30 : Builder.Extra Tryz.prog l30_ren := by
  have x : Builder.X72 Tryz.prog l30_ren := ⟨by kernel_rfl, by kernel_rfl⟩
  exact { x with t5 := Tryz.underlying5, a5 := Tryz.isAgg5, z5 := Tryz.sizeOf5, v5 := Tryz.zeroValue5, infoByte := by kernel_rfl, cellsByte := by kernel_rfl, sizeByte := by kernel_rfl, neB5 := by decide }
theorem join_any (X : Nat) (v : Value) (L : List ByteArray) (sep : ByteArray) (w : World) (hl : L.length ≤ 1000000) (h : Rw stEnc 9 w X v L) (hL : 0 < L.length) (hj : (Lib.join (L.map (·.data.toList)) sep.data.toList).length ≤ 100000000) :
    Calls Tryz.prog 30 #[v, .string sep] w fun e w' => e = .returned (.string ⟨(Lib.join (L.map (·.data.toList)) sep.data.toList).toArray⟩) ∧ Below w.heap.size w w' := by
  obtain ⟨g, c, rfl, hX, hlt⟩ := h.seen hL
  have hcon := Any.strings_Join l30 xtra30 g 0 c L sep w (fun j x hj => by
    have := h.cell (j := j) (x := x) hj (i := 0) (u := .string x) rfl
    rw [show 0 + j = j * 1 + 0 by omega]; exact this) hlt (by omega) (h.cap rfl) (by omega)
  exact hcon
end Go.Proofs.YtklnnpacfjnnlaaGreatDoor
