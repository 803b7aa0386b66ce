/- A row of pairs of numbers in memory; appending one pair. -/
import Derived.Test.YtiknocjdogbajaaMw
namespace Go.Proofs.Ytiknocjdogbajaa
open Go.RowKit

/-- the cells of n pairs -/
def flat (c : Nat → Cand) : Nat → List Value
  | 0 => []
  | n + 1 => flat c n ++ [.int .i64 (c n).x, .int .i64 (c n).y]
theorem flat_length (c : Nat → Cand) (n : Nat) : (flat c n).length = n * 2 := by
  induction n with
  | zero => rfl
  | succ n ih => simp [flat, ih]; omega
theorem flat_at (c : Nat → Cand) (n k : Nat) (h : k < n) : (flat c n)[k * 2]? = some (.int .i64 (c k).x) ∧ (flat c n)[k * 2 + 1]? = some (.int .i64 (c k).y) := by
  induction n with
  | zero => omega
  | succ n ih =>
    have hl := flat_length c n
    unfold flat
    by_cases hk : k = n
    · subst hk
      rw [List.getElem?_append_right (by omega), List.getElem?_append_right (by omega), hl]
      simp
    · obtain ⟨h1, h2⟩ := ih (by omega)
      rw [List.getElem?_append_left (by omega), List.getElem?_append_left (by omega)]
      exact ⟨h1, h2⟩
/-- n pairs in a block -/
def RowC (w : World) (g : Nat) (c : Nat → Cand) (n : Nat) : Prop := g < w.heap.size ∧ ∀ k, k < n → w.cell? ⟨g, k * 2, none⟩ = some (.int .i64 (c k).x) ∧ w.cell? ⟨g, k * 2 + 1, none⟩ = some (.int .i64 (c k).y)
theorem RowC.keep {w w' : World} {g n : Nat} {c : Nat → Cand} (h : RowC w g c n) (hb : Below w.heap.size w w') : RowC w' g c n :=
  ⟨Nat.lt_of_lt_of_le h.1 hb.size, fun k hk => ⟨(hb.cell (p := ⟨g, k * 2, none⟩) h.1).trans (h.2 k hk).1, (hb.cell (p := ⟨g, k * 2 + 1, none⟩) h.1).trans (h.2 k hk).2⟩⟩
theorem RowC.far {w : World} {g n : Nat} {c : Nat → Cand} (h : RowC w g c n) {p : Addr} (hp : g ≠ p.block) (u : Value) : RowC (w.setCell p u) g c n :=
  ⟨by have := h.1; simpa [World.setCell] using this, fun k hk => ⟨(World.cell?_setCell_other w p ⟨g, k * 2, none⟩ u (fun e => hp (by rw [e]))).trans (h.2 k hk).1, (World.cell?_setCell_other w p ⟨g, k * 2 + 1, none⟩ u (fun e => hp (by rw [e]))).trans (h.2 k hk).2⟩⟩
theorem RowC.alloc {w : World} {g n : Nat} {c : Nat → Cand} (h : RowC w g c n) (o : Obj) : RowC (w.alloc o) g c n := h.keep ((Below.refl _ _).alloc (Nat.le_refl _) o)
/-- a slice of the call's own, of n pairs -/
def OwnP (w : World) (base g cap : Nat) (c : Nat → Cand) (n : Nat) : Prop := w.ownsRow base 43 2 (.slice (some ⟨g, 0, none⟩) n cap) n (flat c n)
theorem OwnP.row {w : World} {base g cap n : Nat} {c : Nat → Cand} (h : OwnP w base g cap c n) : RowC w g c n := by
  refine ⟨(h.lt g rfl).2, fun k hk => ?_⟩
  have e := flat_at c n k hk
  exact ⟨(h.cellAt (k * 2) (by omega)).trans e.1, (h.cellAt (k * 2 + 1) (by omega)).trans e.2⟩
theorem OwnP.lit (w : World) (base : Nat) (hb : base ≤ w.heap.size) (c : Nat → Cand) (n : Nat) (cs : Array Value) (h : cs.toList = flat c n) (hn : n ≤ 1000) :
    OwnP (w.alloc (.cells cs 43)) base w.heap.size n c n := by
  have := World.ownsRow_lit (e := 43) (size := 2) w cs n hb (by unfold maxLen; omega) (by have := flat_length c n; rw [← h] at this; simpa using this)
  rw [h] at this
  exact this
theorem info43 : (Try.prog.info? 43).map (fun i => (i.zero, i.size, i.bytes)) = some (some (.agg #[.int .i64 0, .int .i64 0]), 2, 16) := by kernel_rfl
/-- append(s, p) of one pair in a new block onto a slice of the call's own -/
theorem wpList_append_pair (w : World) {ops : Array Oper} {rest : List Oper} {o : Oper} {a : Act} {Q : Exit → Act → World → Prop} (hgd : o.guard = none) (s x : Operand) (t : TypeId)
    (ho : o.op = .call { callee := .builtin .append, args := #[s, x], argTypes := #[t, t] })
    (ht : Try.prog.underlying t = some (.slice 43))
    (base g cap n : Nat) (c : Nat → Cand) (hs : a.eval s = .slice (some ⟨g, 0, none⟩) n cap) (hown : OwnP w base g cap c n)
    (u1 u2 : Int) (hc : c n = ⟨u1, u2⟩) (hx : a.eval x = .slice (some ⟨w.heap.size, 0, none⟩) 1 1)
    (hlen : n < 1000000) (hbase : base ≤ w.heap.size)
    (h : ∀ g' cap' w', OwnP w' base g' cap' c (n + 1) → w.grownBy w' (some g) → Below base w w' → wpList Try.prog ops Q rest (a.put o.dst (.slice (some ⟨g', 0, none⟩) (n + 1) cap')) w') :
    wpList Try.prog ops Q (o :: rest) a (w.alloc (.cells #[.int .i64 u1, .int .i64 u2] 43)) := by
  obtain ⟨i0, hi, hz0, hz1, hz2⟩ := info_parts info43
  have hg := hown.lt g rfl
  refine wpList_append_own _ hgd s x t ho base 43 i0 (.agg #[.int .i64 0, .int .i64 0]) 2 16 ht hi hz0 hz1 hz2 rfl (by decide) _ n (flat c n) hs (World.ownsRow.alloc hown _) ⟨w.heap.size, 0, none⟩ 1 1 [.int .i64 u1, .int .i64 u2] hx rfl ?_ ?_ ?_ ?_ (by simp; omega) ?_
  · intro j z hj
    match j, hj with
    | 0, hj => simp at hj; subst hj; exact cell_of_row _ w.heap.size 0 #[.int .i64 u1, .int .i64 u2] 43 (0, 0) (heap_alloc_new w _)
    | 1, hj => simp at hj; subst hj; exact cell_of_row _ w.heap.size 1 #[.int .i64 u1, .int .i64 u2] 43 (0, 0) (heap_alloc_new w _)
  · intro z hz
    simp at hz
    rcases hz with rfl | rfl <;> rfl
  · unfold maxLen; omega
  · omega
  · intro v' w' h1 h2 h3
    have hgr : w.grownBy w' (some g) := ⟨h2.os, h2.tape, h2.output, Nat.le_trans (by simp) h2.size, fun k hk hne => (h2.block k (by simp; omega) hne).trans (Below.heap_alloc w _ k hk)⟩
    have hb : Below base w w' := (Below.refl _ _).grown hgr hbase (fun k hk => by cases hk; exact hg.1)
    have h1' := h1
    rcases h1'.2 with ⟨rfl, hn⟩ | ⟨g', cap', cur, rfl, _⟩
    · omega
    · refine h g' cap' w' ?_ hgr hb
      unfold OwnP
      unfold flat
      rw [hc]
      exact h1
end Go.Proofs.Ytiknocjdogbajaa
