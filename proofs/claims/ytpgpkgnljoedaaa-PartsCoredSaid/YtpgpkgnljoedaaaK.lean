/- Words for memory: a slice value reads as a list of integers; a slice of the call's own; appending one number. -/
import Derived.Test.YtpgpkgnljoedaaaRows
import Derived.WalkKit
import Derived.WalkSpells
import Derived.WalkLawsBesides
import Derived.Lib.Hide
import Derived.Deep.QuietTactic
import Derived.BigQuiet
namespace Go.Proofs.Ytpgpkgnljoedaaa
open Go.RowKit

theorem addr_block (a : Addr) (n : Nat) : (a.add n).block = a.block := by unfold Addr.add; split <;> rfl
theorem addr_add (a : Addr) (i j : Nat) : (a.add i).add j = a.add (i + j) := by
  unfold Addr.add
  by_cases hi : i = 0 <;> by_cases hj : j = 0 <;> simp [hi, hj, Nat.add_assoc]
theorem addr_head (g j : Nat) : (⟨g, 0, none⟩ : Addr).add j = ⟨g, j, none⟩ := by
  unfold Addr.add; split <;> simp_all

/-- The slice value v reads, in the world w, as the integers xs. -/
def Ints (w : World) (v : Value) (xs : List Int) : Prop :=
  xs.length ≤ 17592186043904 ∧ ∃ (A : Option Addr) (c : Nat), v = .slice A xs.length c ∧ xs.length ≤ c ∧
    (0 < xs.length → ∃ ad, A = some ad ∧ ad.block < w.heap.size ∧ ∀ j u, xs[j]? = some u → w.cell? (ad.add j) = some (.int .i64 u))

theorem Ints.nil (w : World) : Ints w (.slice none 0 0) [] := ⟨by simp, none, 0, rfl, by simp, fun h => by simp at h⟩
theorem Ints.keep {w w' : World} {v : Value} {xs : List Int} (h : Ints w v xs) (hb : Below w.heap.size w w') : Ints w' v xs := by
  obtain ⟨hl, A, c, rfl, hc, hr⟩ := h
  refine ⟨hl, A, c, rfl, hc, fun h0 => ?_⟩
  obtain ⟨ad, rfl, hbl, hcell⟩ := hr h0
  exact ⟨ad, rfl, Nat.lt_of_lt_of_le hbl hb.size, fun j u hu => (hb.cell (by rw [addr_block]; exact hbl)).trans (hcell j u hu)⟩
theorem Ints.below {w w' : World} {v : Value} {xs : List Int} (h : Ints w v xs) {B : Nat} (hb : Below B w w') (hB : w.heap.size ≤ B) : Ints w' v xs := h.keep (hb.mono hB)

/-- v is a slice of the call's own and holds the integers xs. -/
def Own (w : World) (base : Nat) (v : Value) (xs : List Int) : Prop :=
  w.ownsRow base 3 1 v xs.length (xs.map (Value.int .i64))

theorem Own.nil (w : World) (base : Nat) : Own w base (.slice none 0 0) [] := World.ownsRow_nil _ _ _ _
theorem Own.ints {w : World} {base : Nat} {v : Value} {xs : List Int} (h : Own w base v xs) (hl : xs.length ≤ 17592186043904) : Ints w v xs := by
  rcases h.2 with ⟨rfl, hn⟩ | ⟨g, cap, cur, rfl, _, hg, hnc, hcm, hcs, htake⟩
  · have : xs = [] := List.eq_nil_of_length_eq_zero hn
    subst this
    exact Ints.nil w
  · refine ⟨hl, _, cap, rfl, hnc, fun h0 => ⟨_, rfl, (Array.getElem?_eq_some_iff.1 hg).1, fun j u hu => ?_⟩⟩
    exact World.ownsRow.cells h (g := g) rfl j (.int .i64 u) (by rw [List.getElem?_map, hu]; rfl)

/-- A literal of numbers in a new block. -/
theorem Own.lit (w : World) (base : Nat) (hb : base ≤ w.heap.size) (cs : Array Value) (xs : List Int) (n : Nat) (hn : n = xs.length) (hcs : cs = (xs.map (Value.int .i64)).toArray) (hl : xs.length ≤ 1000000) :
    Own (w.alloc (.cells cs 3)) base (.slice (some ⟨w.heap.size, 0, none⟩) n n) xs := by
  subst hn hcs
  have h := World.ownsRow_lit (e := 3) (size := 1) w (xs.map (Value.int .i64)).toArray xs.length hb (by unfold maxLen; omega) (by simp)
  simpa [Own] using h
theorem Ints.lit (w : World) (cs : Array Value) (xs : List Int) (n : Nat) (hn : n = xs.length) (hcs : cs = (xs.map (Value.int .i64)).toArray) (hl : xs.length ≤ 1000000) :
    Ints (w.alloc (.cells cs 3)) (.slice (some ⟨w.heap.size, 0, none⟩) n n) xs := (Own.lit w 0 (Nat.zero_le _) cs xs n hn hcs hl).ints (by omega)

theorem info3 : (Try.prog.info? 3).map (fun i => (i.zero, i.size, i.bytes)) = some (some (.int .i64 0), 1, 8) := by kernel_rfl

/-- append(s, x) of one number onto a slice of the call's own. -/
theorem wpList_append_one (w : World) {ops : Array Oper} {rest : List Oper} {o : Oper} {a : Act} {Q : Exit → Act → World → Prop} (hgd : o.guard = none) (s x : Operand) (t : TypeId)
    (ho : o.op = .call { callee := .builtin .append, args := #[s, x], argTypes := #[t, t] })
    (ht : Try.prog.underlying t = some (.slice 3))
    (base : Nat) (v : Value) (xs : List Int) (hs : a.eval s = v) (hown : Own w base v xs)
    (b : Nat) (u : Int) (hx : a.eval x = .slice (some ⟨b, 0, none⟩) 1 1) (hu : w.cell? ⟨b, 0, none⟩ = some (.int .i64 u))
    (hlen : xs.length < 17592186044416) (hbase : base ≤ w.heap.size)
    (h : ∀ v' w', Own w' base v' (xs ++ [u]) → w.grownBy w' v.ownBlock → wpList Try.prog ops Q rest (a.put o.dst v') w') : wpList Try.prog ops Q (o :: rest) a w := by
  obtain ⟨i0, hi, hz0, hz1, hz2⟩ := info_parts info3
  refine wpList_append_own w hgd s x t ho base 3 i0 (.int .i64 0) 1 8 ht hi hz0 hz1 hz2 rfl (by decide) v xs.length (xs.map (Value.int .i64)) hs hown ⟨b, 0, none⟩ 1 1 [.int .i64 u] hx rfl ?_ ?_ ?_ ?_ hbase ?_
  · intro j z hj
    match j, hj with
    | 0, hj => simp at hj; subst hj; rw [addr_head]; exact hu
  · intro z hz; simp at hz; subst hz; rfl
  · unfold maxLen; omega
  · omega
  · intro v' w' h1 h2 _
    exact h v' w' (by unfold Own; simpa using h1) h2

/-- The world after a law on append: what was below stays. -/
theorem below_grown {B : Nat} {w0 w w' : World} {base : Nat} {v : Value} {xs : List Int} (h : Below B w0 w) (hown : Own w base v xs) (hg : w.grownBy w' v.ownBlock) (hB : B ≤ w.heap.size) (hbase : B ≤ base) : Below B w0 w' :=
  h.grown hg hB (fun k hk => Nat.le_trans hbase (hown.lt k hk).1)


/-- append(s, u): the one number lies in a new block of its own. -/
theorem wpList_append_new (w : World) {ops : Array Oper} {rest : List Oper} {o : Oper} {a : Act} {Q : Exit → Act → World → Prop} (hgd : o.guard = none) (s x : Operand) (t : TypeId)
    (ho : o.op = .call { callee := .builtin .append, args := #[s, x], argTypes := #[t, t] })
    (ht : Try.prog.underlying t = some (.slice 3))
    (base : Nat) (v : Value) (xs : List Int) (hs : a.eval s = v) (hown : Own w base v xs)
    (u : Int) (hx : a.eval x = .slice (some ⟨w.heap.size, 0, none⟩) 1 1)
    (hlen : xs.length < 17592186044416) (hbase : base ≤ w.heap.size)
    (h : ∀ v' w', Own w' base v' (xs ++ [u]) → w.grownBy w' v.ownBlock → Below base w w' → wpList Try.prog ops Q rest (a.put o.dst v') w') :
    wpList Try.prog ops Q (o :: rest) a (w.alloc (.cells #[.int .i64 u] 3)) := by
  refine wpList_append_one _ hgd s x t ho ht base v xs hs (World.ownsRow.alloc hown _) w.heap.size u hx ?_ hlen (by simp; omega) ?_
  · exact (cell_of_row _ w.heap.size 0 #[.int .i64 u] 3 (0, 0) (heap_alloc_new w _))
  · intro v' w' h1 h2
    have hg : w.grownBy w' v.ownBlock := ⟨h2.os, h2.tape, h2.output, Nat.le_trans (by simp) h2.size, fun k hk hne => (h2.block k (by simp; omega) hne).trans (Below.heap_alloc w _ k hk)⟩
    exact h v' w' h1 hg (below_grown (Below.refl _ _) hown hg hbase (Nat.le_refl _))

/-- A call behind a new block. -/
theorem below_new {w w' : World} {o : Obj} (h : Below (w.alloc o).heap.size (w.alloc o) w') : Below w.heap.size w w' :=
  ((Below.refl _ _).alloc (Nat.le_refl _) o).trans (h.mono (by simp))
end Go.Proofs.Ytpgpkgnljoedaaa
