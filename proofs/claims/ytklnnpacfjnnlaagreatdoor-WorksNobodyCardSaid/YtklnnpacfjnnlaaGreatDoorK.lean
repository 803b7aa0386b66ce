/- Words for memory: a slice value reads as a list of integers; a slice of the call's own; append, Equal, Clone. -/
import Derived.Test.YtklnnpacfjnnlaaGreatDoorRows
import Derived.WalkKit
import Derived.WalkSpells
import Derived.WalkLawsBesides
import Derived.Lib.Hide
import Derived.Deep.QuietTactic
import Derived.BigQuiet
import Derived.OneCell
import Derived.Deep.AppendLies
import Derived.Sort.Row
namespace Go.Proofs.YtklnnpacfjnnlaaGreatDoor
open Go.RowKit

theorem addr_block (a : Addr) (n : Nat) : (a.add n).block = a.block := by unfold Addr.add; split <;> rfl
theorem addr_add (a : Addr) (i j : Nat) : (a.add i).add j = a.add (i + j) := by
  unfold Addr.add
  by_cases hi : i = 0 <;> by_cases hj : j = 0 <;> simp [hi, hj, Nat.add_assoc]
theorem addr_head (g j : Nat) : (⟨g, 0, none⟩ : Addr).add j = ⟨g, j, none⟩ := by
  unfold Addr.add; split <;> simp_all

/-- The slice value v reads, in the world w, as the integers xs. -/
def Ints (w : World) (v : Value) (xs : List Int) : Prop :=
  xs.length ≤ 17592186043904 ∧ ∃ (A : Option Addr) (c : Nat), v = .slice A xs.length c ∧ xs.length ≤ c ∧
    (0 < xs.length → ∃ ad, A = some ad ∧ ad.block < w.heap.size ∧ ∀ j u, xs[j]? = some u → w.cell? (ad.add j) = some (.int .i64 u))

theorem Ints.nil (w : World) : Ints w (.slice none 0 0) [] := ⟨by simp, none, 0, rfl, by simp, fun h => by simp at h⟩
theorem Ints.keep {w w' : World} {v : Value} {xs : List Int} (h : Ints w v xs) (hb : Below w.heap.size w w') : Ints w' v xs := by
  obtain ⟨hl, A, c, rfl, hc, hr⟩ := h
  refine ⟨hl, A, c, rfl, hc, fun h0 => ?_⟩
  obtain ⟨ad, rfl, hbl, hcell⟩ := hr h0
  exact ⟨ad, rfl, Nat.lt_of_lt_of_le hbl hb.size, fun j u hu => (hb.cell (by rw [addr_block]; exact hbl)).trans (hcell j u hu)⟩
theorem Ints.below {w w' : World} {v : Value} {xs : List Int} (h : Ints w v xs) {B : Nat} (hb : Below B w w') (hB : w.heap.size ≤ B) : Ints w' v xs := h.keep (hb.mono hB)

/-- v is a slice of the call's own and holds the integers xs. -/
def Own (w : World) (base : Nat) (v : Value) (xs : List Int) : Prop :=
  w.ownsRow base 3 1 v xs.length (xs.map (Value.int .i64))

theorem Own.nil (w : World) (base : Nat) : Own w base (.slice none 0 0) [] := World.ownsRow_nil _ _ _ _
theorem Own.ints {w : World} {base : Nat} {v : Value} {xs : List Int} (h : Own w base v xs) (hl : xs.length ≤ 17592186043904) : Ints w v xs := by
  rcases h.2 with ⟨rfl, hn⟩ | ⟨g, cap, cur, rfl, _, hg, hnc, hcm, hcs, htake⟩
  · have : xs = [] := List.eq_nil_of_length_eq_zero hn
    subst this
    exact Ints.nil w
  · refine ⟨hl, _, cap, rfl, hnc, fun h0 => ⟨_, rfl, (Array.getElem?_eq_some_iff.1 hg).1, fun j u hu => ?_⟩⟩
    exact World.ownsRow.cells h (g := g) rfl j (.int .i64 u) (by rw [List.getElem?_map, hu]; rfl)

/-- A literal of numbers in a new block. -/
theorem Own.lit (w : World) (base : Nat) (hb : base ≤ w.heap.size) (cs : Array Value) (xs : List Int) (n : Nat) (hn : n = xs.length) (hcs : cs = (xs.map (Value.int .i64)).toArray) (hl : xs.length ≤ 1000000) :
    Own (w.alloc (.cells cs 3)) base (.slice (some ⟨w.heap.size, 0, none⟩) n n) xs := by
  subst hn hcs
  have h := World.ownsRow_lit (e := 3) (size := 1) w (xs.map (Value.int .i64)).toArray xs.length hb (by unfold maxLen; omega) (by simp)
  simpa [Own] using h
theorem Ints.lit (w : World) (cs : Array Value) (xs : List Int) (n : Nat) (hn : n = xs.length) (hcs : cs = (xs.map (Value.int .i64)).toArray) (hl : xs.length ≤ 1000000) :
    Ints (w.alloc (.cells cs 3)) (.slice (some ⟨w.heap.size, 0, none⟩) n n) xs := (Own.lit w 0 (Nat.zero_le _) cs xs n hn hcs hl).ints (by omega)

theorem info3 : (Tryz.prog.info? 3).map (fun i => (i.zero, i.size, i.bytes)) = some (some (.int .i64 0), 1, 8) := by kernel_rfl

/-- append(s, x) of one number onto a slice of the call's own. -/
theorem wpList_append_one (w : World) {ops : Array Oper} {rest : List Oper} {o : Oper} {a : Act} {Q : Exit → Act → World → Prop} (hgd : o.guard = none) (s x : Operand) (t : TypeId)
    (ho : o.op = .call { callee := .builtin .append, args := #[s, x], argTypes := #[t, t] })
    (ht : Tryz.prog.underlying t = some (.slice 3))
    (base : Nat) (v : Value) (xs : List Int) (hs : a.eval s = v) (hown : Own w base v xs)
    (b : Nat) (u : Int) (hx : a.eval x = .slice (some ⟨b, 0, none⟩) 1 1) (hu : w.cell? ⟨b, 0, none⟩ = some (.int .i64 u))
    (hlen : xs.length < 17592186044416) (hbase : base ≤ w.heap.size)
    (h : ∀ v' w', Own w' base v' (xs ++ [u]) → w.grownBy w' v.ownBlock → wpList Tryz.prog ops Q rest (a.put o.dst v') w') : wpList Tryz.prog ops Q (o :: rest) a w := by
  obtain ⟨i0, hi, hz0, hz1, hz2⟩ := info_parts info3
  refine wpList_append_own w hgd s x t ho base 3 i0 (.int .i64 0) 1 8 ht hi hz0 hz1 hz2 rfl (by decide) v xs.length (xs.map (Value.int .i64)) hs hown ⟨b, 0, none⟩ 1 1 [.int .i64 u] hx rfl ?_ ?_ ?_ ?_ hbase ?_
  · intro j z hj
    match j, hj with
    | 0, hj => simp at hj; subst hj; rw [addr_head]; exact hu
  · intro z hz; simp at hz; subst hz; rfl
  · unfold maxLen; omega
  · omega
  · intro v' w' h1 h2 _
    exact h v' w' (by unfold Own; simpa using h1) h2

/-- The world after a law on append: what was below stays. -/
theorem below_grown {B : Nat} {w0 w w' : World} {base : Nat} {v : Value} {xs : List Int} (h : Below B w0 w) (hown : Own w base v xs) (hg : w.grownBy w' v.ownBlock) (hB : B ≤ w.heap.size) (hbase : B ≤ base) : Below B w0 w' :=
  h.grown hg hB (fun k hk => Nat.le_trans hbase (hown.lt k hk).1)


/-- append(s, u): the one number lies in a new block of its own. -/
theorem wpList_append_new (w : World) {ops : Array Oper} {rest : List Oper} {o : Oper} {a : Act} {Q : Exit → Act → World → Prop} (hgd : o.guard = none) (s x : Operand) (t : TypeId)
    (ho : o.op = .call { callee := .builtin .append, args := #[s, x], argTypes := #[t, t] })
    (ht : Tryz.prog.underlying t = some (.slice 3))
    (base : Nat) (v : Value) (xs : List Int) (hs : a.eval s = v) (hown : Own w base v xs)
    (u : Int) (hx : a.eval x = .slice (some ⟨w.heap.size, 0, none⟩) 1 1)
    (hlen : xs.length < 17592186044416) (hbase : base ≤ w.heap.size)
    (h : ∀ v' w', Own w' base v' (xs ++ [u]) → w.grownBy w' v.ownBlock → Below base w w' → wpList Tryz.prog ops Q rest (a.put o.dst v') w') :
    wpList Tryz.prog ops Q (o :: rest) a (w.alloc (.cells #[.int .i64 u] 3)) := by
  refine wpList_append_one _ hgd s x t ho ht base v xs hs (World.ownsRow.alloc hown _) w.heap.size u hx ?_ hlen (by simp; omega) ?_
  · exact (cell_of_row _ w.heap.size 0 #[.int .i64 u] 3 (0, 0) (heap_alloc_new w _))
  · intro v' w' h1 h2
    have hg : w.grownBy w' v.ownBlock := ⟨h2.os, h2.tape, h2.output, Nat.le_trans (by simp) h2.size, fun k hk hne => (h2.block k (by simp; omega) hne).trans (Below.heap_alloc w _ k hk)⟩
    exact h v' w' h1 hg (below_grown (Below.refl _ _) hown hg hbase (Nat.le_refl _))

/-- A call behind a new block. -/
theorem below_new {w w' : World} {o : Obj} (h : Below (w.alloc o).heap.size (w.alloc o) w') : Below w.heap.size w w' :=
  ((Below.refl _ _).alloc (Nat.le_refl _) o).trans (h.mono (by simp))
theorem ownBlock_some {ad : Addr} {n c b : Nat} (h : (Value.slice (some ad) n c).ownBlock = some b) : b = ad.block := by
  simp [Value.ownBlock] at h; exact h.symm
/-- A slice that reads as numbers reads so wherever its own block is as it was. -/
theorem Ints.same {w w' : World} {v : Value} {xs : List Int} (h : Ints w v xs) (hs : w.heap.size ≤ w'.heap.size) (hb : ∀ b, v.ownBlock = some b → b < w.heap.size → w'.heap[b]? = w.heap[b]?) : Ints w' v xs := by
  obtain ⟨hl, A, c, rfl, hc, hr⟩ := h
  refine ⟨hl, A, c, rfl, hc, fun h0 => ?_⟩
  obtain ⟨ad, rfl, hbl, hcell⟩ := hr h0
  refine ⟨ad, rfl, Nat.lt_of_lt_of_le hbl hs, fun j u hu => ?_⟩
  have := hb ad.block rfl hbl
  rw [← hcell j u hu]
  exact World.cell?_of_block (by rw [addr_block]; exact this)
/-- Own, the same. -/
theorem Own.same {w w' : World} {base : Nat} {v : Value} {xs : List Int} (h : Own w base v xs) (hb : ∀ b, v.ownBlock = some b → b < w.heap.size → w'.heap[b]? = w.heap[b]?) : Own w' base v xs := by
  refine ⟨h.1, ?_⟩
  rcases h.2 with hn | ⟨g, cap, cur, rfl, hb0, hg, rest⟩
  · exact .inl hn
  · refine .inr ⟨g, cap, cur, rfl, hb0, ?_, rest⟩
    rw [hb g rfl (Array.getElem?_eq_some_iff.1 hg).1]
    exact hg
theorem Own.base {w : World} {base b2 : Nat} {v : Value} {xs : List Int} (h : Own w base v xs) (hb : b2 ≤ base) : Own w b2 v xs := by
  refine ⟨h.1, ?_⟩
  rcases h.2 with hn | ⟨g, cap, cur, rfl, hb0, rest⟩
  · exact .inl hn
  · exact .inr ⟨g, cap, cur, rfl, by omega, rest⟩
/-- The last number taken away. -/
theorem Own.pop {w : World} {base g n cap : Nat} {xs : List Int} {x : Int} (h : Own w base (.slice (some ⟨g, 0, none⟩) (n + 1) cap) (xs ++ [x])) (hn : xs.length = n) : Own w base (.slice (some ⟨g, 0, none⟩) n cap) xs := by
  rcases h.2 with ⟨h0, _⟩ | ⟨g', cap', cur, hv, hb0, hg, hnc, hcm, hcs, htake⟩
  · cases h0
  · simp only [Value.slice.injEq, Option.some.injEq, Addr.mk.injEq] at hv
    obtain ⟨⟨rfl, _⟩, _, rfl⟩ := hv
    rw [List.length_append] at hnc
    simp only [List.length_cons, List.length_nil] at hnc
    refine ⟨by simp, .inr ⟨g, cap, cur, by rw [hn], hb0, hg, by omega, hcm, hcs, ?_⟩⟩
    rw [hn]
    have e : cur.toList.take (n * 1) = (cur.toList.take ((xs ++ [x]).length * 1)).take (n * 1) := by rw [List.take_take]; congr 1; simp; omega
    rw [e, htake, List.map_append, List.take_left' (by simp; omega)]
/-- a slice of the call's own with elements: where it lies, and its cells -/
theorem Own.seen {w : World} {base : Nat} {v : Value} {xs : List Int} (h : Own w base v xs) (hx : 0 < xs.length) :
    ∃ g cap, v = .slice (some ⟨g, 0, none⟩) xs.length cap ∧ xs.length ≤ cap ∧ base ≤ g ∧ g < w.heap.size ∧ ∀ (j : Nat) (u : Int), xs[j]? = some u → w.cell? ⟨g, j, none⟩ = some (.int .i64 u) := by
  have hh := h
  rcases h.2 with ⟨_, h0⟩ | ⟨g, cap, cur, hv, hb, hg, hnc, _⟩
  · omega
  · subst hv
    refine ⟨g, cap, rfl, hnc, hb, (Array.getElem?_eq_some_iff.1 hg).1, fun j u hu => ?_⟩
    have := World.ownsRow.cells hh (g := g) rfl j (.int .i64 u) (by rw [List.getElem?_map, hu]; rfl)
    rwa [addr_head] at this
theorem Own.isSlice {w : World} {base : Nat} {v : Value} {xs : List Int} (h : Own w base v xs) : ∃ A n c, v = .slice A n c := by
  rcases h.2 with ⟨rfl, _⟩ | ⟨g, cap, cur, rfl, _⟩
  · exact ⟨_, _, _, rfl⟩
  · exact ⟨_, _, _, rfl⟩
theorem Own.one {w : World} {base : Nat} {v : Value} {xs : List Int} (h : Own w base v xs) : v.oneCell' = true := by
  rcases h.2 with ⟨rfl, _⟩ | ⟨g, cap, cur, rfl, _⟩ <;> rfl
theorem ret_int {k : IntKind} {a b : Int} (h : a = b) : Ending.returned (.int k a) = .returned (.int k b) := by rw [h]
theorem ret_bool {a b : Bool} (h : a = b) : Ending.returned (.bool a) = .returned (.bool b) := by rw [h]
theorem below_drewN {B : Nat} {a w : World} (h : Below B a w) (n : Nat) : Below B a (w.drewN n) := ⟨h.os, h.tape, h.output, h.size, h.block⟩
theorem below_drew {B : Nat} {a w : World} (h : Below B a w) : Below B a w.drew := ⟨h.os, h.tape, h.output, h.size, h.block⟩
/-- append(s, l...) of a slice that reads as numbers. -/
theorem wpList_append_ints (w : World) {ops : Array Oper} {rest : List Oper} {o : Oper} {a : Act} {Q : Exit → Act → World → Prop} (hgd : o.guard = none) (s x : Operand) (t : TypeId)
    (ho : o.op = .call { callee := .builtin .append, args := #[s, x], argTypes := #[t, t] })
    (ht : Tryz.prog.underlying t = some (.slice 3))
    (base : Nat) (v : Value) (xs : List Int) (hs : a.eval s = v) (hown : Own w base v xs)
    (ad : Addr) (ys : List Int) (c : Nat) (hx : a.eval x = .slice (some ad) ys.length c) (hcell : ∀ j u, ys[j]? = some u → w.cell? (ad.add j) = some (.int .i64 u))
    (hlen : xs.length + ys.length ≤ 17592186044416) (hbase : base ≤ w.heap.size)
    (h : ∀ v' w', Own w' base v' (xs ++ ys) → w.grownBy w' v.ownBlock → wpList Tryz.prog ops Q rest (a.put o.dst v') w') : wpList Tryz.prog ops Q (o :: rest) a w := by
  obtain ⟨i0, hi, hz0, hz1, hz2⟩ := info_parts info3
  refine wpList_append_own w hgd s x t ho base 3 i0 (.int .i64 0) 1 8 ht hi hz0 hz1 hz2 rfl (by decide) v xs.length (xs.map (Value.int .i64)) hs hown ad ys.length c (ys.map (Value.int .i64)) hx (by simp) ?_ (ints_oneCell _ _) ?_ ?_ hbase ?_
  · intro j z hj
    rw [List.getElem?_map] at hj
    obtain ⟨u, hu, rfl⟩ := Option.map_eq_some_iff.1 hj
    exact hcell j u hu
  · unfold maxLen; omega
  · omega
  · intro v' w' h1 h2 _
    exact h v' w' (by unfold Own; simpa using h1) h2
theorem Ints.take {w : World} {A : Option Addr} {c : Nat} {xs : List Int} (h : Ints w (.slice A xs.length c) xs) (k : Nat) (hk : k ≤ xs.length) : Ints w (.slice A k c) (xs.take k) := by
  obtain ⟨hlen, A', c', e, hc, hr⟩ := h
  cases e
  have hl : (xs.take k).length = k := by rw [List.length_take]; omega
  refine ⟨by omega, A, c, by rw [hl], by omega, fun h0 => ?_⟩
  obtain ⟨ad, e, hb, hcell⟩ := hr (by omega)
  refine ⟨ad, e, hb, fun j u hu => hcell j u ?_⟩
  rw [List.getElem?_take] at hu
  split at hu
  · exact hu
  · cases hu
theorem Own.put {w : World} {base g n cap : Nat} {xs : List Int} (h : Own w base (.slice (some ⟨g, 0, none⟩) n cap) xs) (hn : n = xs.length) (i : Nat) (v : Int) :
    Own (w.setCell ⟨g, i, none⟩ (.int .i64 v)) base (.slice (some ⟨g, 0, none⟩) n cap) (xs.set i v) := by
  subst hn
  rcases h.2 with ⟨h0, _⟩ | ⟨g', cap', cur, hv, hb0, hg, hnc, hcm, hcs, htake⟩
  · cases h0
  · simp only [Value.slice.injEq, Option.some.injEq, Addr.mk.injEq] at hv
    obtain ⟨⟨rfl, _⟩, _, rfl⟩ := hv
    refine ⟨by simp, .inr ⟨g, cap, cur.setIfInBounds i (.int .i64 v), by rw [List.length_set], hb0, ?_, by rw [List.length_set]; exact hnc, hcm, by simpa using hcs, ?_⟩⟩
    · simp [World.setCell, Array.getElem?_modify, hg]
    · rw [List.length_set, Array.toList_setIfInBounds, List.map_set, ← htake, List.take_set]
theorem Own.free {w : World} {base g n cap : Nat} {xs : List Int} (h : Own w base (.slice (some ⟨g, 0, none⟩) n cap) xs) (o : Nat) : w.frozen? ⟨g, o, none⟩ = false := by
  rcases h.2 with ⟨h0, _⟩ | ⟨g', cap', cur, hv, hb0, hg, _⟩
  · cases h0
  · simp only [Value.slice.injEq, Option.some.injEq, Addr.mk.injEq] at hv
    obtain ⟨⟨rfl, _⟩, _, rfl⟩ := hv
    simp [World.frozen?, hg]
theorem made_lit (n : Nat) : madeCells #[.int .i64 0] n = ((List.replicate n (0 : Int)).map (Value.int .i64)).toArray := by
  apply Array.ext
  · simp [size_madeCells]
  · intro i h1 h2
    simp [madeCells, Nat.mod_one]
theorem Own.alloc {w : World} {base : Nat} {v : Value} {xs : List Int} (h : Own w base v xs) (o : Obj) : Own (w.alloc o) base v xs :=
  h.same (fun b _ hlt => Below.heap_alloc w o b hlt)
theorem Own.holds {w : World} {base g n cap : Nat} {xs : List Int} (h : Own w base (.slice (some ⟨g, 0, none⟩) n cap) xs) : «Sort».Holds (Value.int .i64) w g 0 xs.toArray := by
  rcases h.2 with ⟨h0, _⟩ | ⟨g', cap', cur, hv, hb0, hg, hnc, hcm, hcs, htake⟩
  · cases h0
  · simp only [Value.slice.injEq, Option.some.injEq, Addr.mk.injEq] at hv
    obtain ⟨⟨rfl, _⟩, hn, rfl⟩ := hv
    intro j hj
    simp only [List.size_toArray] at hj
    refine ⟨?_, by simp [World.frozen?, hg]⟩
    have e : cur[j]? = some (.int .i64 xs[j]) := by
      have := congrArg (fun l => l[j]?) htake
      simp only [List.getElem?_take, List.getElem?_map, List.getElem?_eq_getElem hj, Array.getElem?_toList] at this
      rw [if_pos (by omega)] at this
      exact this
    simp only [World.cell?, hg, Nat.zero_add]
    simp [e, hj]
theorem Own.nums {w : World} {base g n cap : Nat} {xs : List Int} (h : Own w base (.slice (some ⟨g, 0, none⟩) n cap) xs) : n = xs.length ∧ n ≤ cap ∧ cap ≤ 9223372036854775807 ∧ base ≤ g ∧ g < w.heap.size := by
  rcases h.2 with ⟨h0, _⟩ | ⟨g', cap', cur, hv, hb0, hg, hnc, hcm, hcs, htake⟩
  · cases h0
  · simp only [Value.slice.injEq, Option.some.injEq, Addr.mk.injEq] at hv
    obtain ⟨⟨rfl, _⟩, hn, rfl⟩ := hv
    unfold maxLen at hcm
    exact ⟨hn, by omega, hcm, hb0, (Array.getElem?_eq_some_iff.1 hg).1⟩
theorem Own.putRow {w : World} {base g n cap : Nat} {xs : List Int} (h : Own w base (.slice (some ⟨g, 0, none⟩) n cap) xs) (q : Nat) (d : List Int) (hd : d.length = n) (k : Nat) (hk : k ≤ n) :
    Own («Sort».putRow (Value.int .i64) («Sort».ahead w q) g 0 d.toArray) base (.slice (some ⟨g, 0, none⟩) k cap) (d.take k) ∧ Below base w («Sort».putRow (Value.int .i64) («Sort».ahead w q) g 0 d.toArray) := by
  rcases h.2 with ⟨h0, _⟩ | ⟨g', cap', cur, hv, hb0, hg, hnc, hcm, hcs, htake⟩
  · cases h0
  · simp only [Value.slice.injEq, Option.some.injEq, Addr.mk.injEq] at hv
    obtain ⟨⟨rfl, _⟩, hn, rfl⟩ := hv
    have hg2 : («Sort».putRow (Value.int .i64) («Sort».ahead w q) g 0 d.toArray).heap[g]? = some (.cells («Sort».putCells (Value.int .i64) 0 d.toArray cur) 3 (0, 0)) := by
      simp [«Sort».putRow, «Sort».mapBlock, Array.getElem?_modify, hg, «Sort».onCells]
    constructor
    · refine ⟨?_, .inr ⟨g, cap, «Sort».putCells (Value.int .i64) 0 d.toArray cur, by rw [List.length_take]; congr 2; omega, hb0, hg2, by rw [List.length_take]; omega, hcm, by simpa [«Sort».putCells] using hcs, ?_⟩⟩
      · simp
      · apply List.ext_getElem?
        intro i
        simp only [List.getElem?_take, List.getElem?_map, Array.getElem?_toList, List.length_take, hd]
        by_cases hi : i < k
        · have hid : i < d.length := by omega
          have hic : i < cur.size := by omega
          rw [if_pos (by omega), if_pos hi, List.getElem?_eq_getElem hid]
          simp [«Sort».putCells, Array.getElem?_mapIdx, Array.getElem?_eq_getElem hic, hid]
        · rw [if_neg (by omega), if_neg hi]
          rfl
    · refine ⟨rfl, rfl, rfl, by simp, fun b hb => ?_⟩
      simp [«Sort».putRow, «Sort».mapBlock, Array.getElem?_modify, show ¬ g = b by omega]
theorem Own.parts {w : World} {base : Nat} {v : Value} {xs : List Int} (h : Own w base v xs) : (v = .slice none 0 0 ∧ xs = []) ∨ ∃ g n cap, v = .slice (some ⟨g, 0, none⟩) n cap := by
  rcases h.2 with ⟨h0, h1⟩ | ⟨g', cap', cur, hv, _⟩
  · exact .inl ⟨h0, List.eq_nil_of_length_eq_zero h1⟩
  · exact .inr ⟨_, _, _, hv⟩
/-- a slice of the call's own, cut -/
theorem Own.cut {w : World} {base g n cap : Nat} {xs : List Int} (h : Own w base (.slice (some ⟨g, 0, none⟩) n cap) xs) (k : Nat) (hk : k ≤ n) : Own w base (.slice (some ⟨g, 0, none⟩) k cap) (xs.take k) := by
  rcases h.2 with ⟨h0, _⟩ | ⟨g', cap', cur, hv, hb0, hg, hnc, hcm, hcs, htake⟩
  · cases h0
  · simp only [Value.slice.injEq, Option.some.injEq, Addr.mk.injEq] at hv
    obtain ⟨⟨rfl, _⟩, hn, rfl⟩ := hv
    refine ⟨by simp, .inr ⟨g, cap, cur, by rw [List.length_take]; congr 2; omega, hb0, hg, by rw [List.length_take]; omega, hcm, hcs, ?_⟩⟩
    have := congrArg (List.take (min k xs.length)) htake
    rw [List.take_take, ← List.map_take] at this
    rw [List.length_take]
    have e : min (min k xs.length) (xs.length * 1) = min k xs.length * 1 := by omega
    rw [e] at this
    rw [this]
    congr 1
    rw [List.take_eq_take_iff]
    omega
theorem getD_get (q : List Int) (k : Nat) (h : k < q.length) : q[k]? = some (q.getD k 0) := by
  simp [List.getD, List.getElem?_eq_getElem h]
theorem heap_setCell_ne (w : World) (a : Addr) (v : Value) (b : Nat) (h : b ≠ a.block) : (w.setCell a v).heap[b]? = w.heap[b]? := Below.heap_setCell w a v b h
/-- append(l, x): where the result lies -/
theorem wpList_push (w : World) {ops : Array Oper} {rest : List Oper} {o : Oper} {a : Act} {Q : Exit → Act → World → Prop} (hgd : o.guard = none) (s x : Operand) (t : TypeId)
    (ho : o.op = .call { callee := .builtin .append, args := #[s, x], argTypes := #[t, t] }) (ht : Tryz.prog.underlying t = some (.slice 3))
    (base : Nat) (v : Value) (xs : List Int) (hs : a.eval s = v) (hown : Own w base v xs)
    (u : Int) (hx : a.eval x = .slice (some ⟨w.heap.size, 0, none⟩) 1 1) (hn : xs.length ≤ 1000000) (hbase : base ≤ w.heap.size)
    (h : ∀ g cap w', Own w' base (.slice (some ⟨g, 0, none⟩) (xs.length + 1) cap) (xs ++ [u]) → (w.alloc (.cells #[.int .i64 u] 3)).grownBy w' v.ownBlock → (v.ownBlock = some g ∨ g = w.heap.size + 1) → wpList Tryz.prog ops Q rest (a.put o.dst (.slice (some ⟨g, 0, none⟩) (xs.length + 1) cap)) w') :
    wpList Tryz.prog ops Q (o :: rest) a (w.alloc (.cells #[.int .i64 u] 3)) := by
  obtain ⟨i0, hi, hz0, hz1, hz2⟩ := info_parts info3
  exact wpList_append_lies _ hgd s x t ho base 3 i0 (.int .i64 0) 1 8 ht hi hz0 hz1 hz2 rfl (by decide) v xs.length (xs.map (Value.int .i64)) hs (World.ownsRow.alloc hown _) ⟨w.heap.size, 0, none⟩ 1 1 [.int .i64 u] hx rfl
    (World.news_of_block (heap_alloc_new w _)) (by intro z hz; simp at hz; subst hz; rfl) (by omega) (by unfold maxLen; omega) (by omega) (by simp; omega) (w.heap.size + 1) (by simp)
    (fun g cap w' h2 h3 h4 _ => h g cap w' (by unfold Own; simpa using h2) h3 h4)
end Go.Proofs.YtklnnpacfjnnlaaGreatDoor
