/- Words for memory: a slice of the call's own whose elements take k cells each. -/
import Derived.Test.YtklnnpacfjnnlaaGreatDoorK
import Derived.Deep.AppendLies
namespace Go.Proofs.YtklnnpacfjnnlaaGreatDoor
open Go.RowKit
/-- how a thing lies in memory: k cells -/
structure Enc (α : Type) (k : Nat) where
  enc : α → List Value
  len : ∀ x, (enc x).length = k
  one : ∀ x, ∀ v ∈ enc x, v.oneCell' = true
section
variable {α : Type} {k : Nat} {E : Enc α k}
theorem enc_length (E : Enc α k) (L : List α) : (L.flatMap E.enc).length = L.length * k := by
  induction L with
  | nil => simp
  | cons x L ih => rw [List.flatMap_cons, List.length_append, E.len, ih, List.length_cons, Nat.add_mul]; omega
theorem enc_get (E : Enc α k) (L : List α) : ∀ (j : Nat) (x : α), L[j]? = some x → ∀ (i : Nat) (u : Value), (E.enc x)[i]? = some u → (L.flatMap E.enc)[j * k + i]? = some u := by
  induction L with
  | nil => intro j x h; simp at h
  | cons y L ih =>
    intro j x h i u hu
    have hi : i < k := by rw [← E.len x]; exact (List.getElem?_eq_some_iff.1 hu).1
    rw [List.flatMap_cons]
    match j, h with
    | 0, h =>
      simp only [List.getElem?_cons_zero, Option.some.injEq] at h
      subst h
      rw [Nat.zero_mul, Nat.zero_add, List.getElem?_append_left (by rw [E.len]; exact hi)]
      exact hu
    | j + 1, h =>
      rw [List.getElem?_cons_succ] at h
      have : (j + 1) * k = k + j * k := by rw [Nat.add_mul]; omega
      rw [List.getElem?_append_right (by rw [E.len]; omega), E.len, show (j + 1) * k + i - k = j * k + i by omega]
      exact ih j x h i u hu
/-- v is a slice of the call's own, from block X on, with the things L -/
def Rw (E : Enc α k) (e : TypeId) (w : World) (X : Nat) (v : Value) (L : List α) : Prop := w.ownsRow X e k v L.length (L.flatMap E.enc)
theorem Rw.nil {e : TypeId} (w : World) (X : Nat) : Rw E e w X (.slice none 0 0) [] := World.ownsRow_nil _ _ _ _
theorem Rw.form {e : TypeId} {w : World} {X : Nat} {v : Value} {L : List α} (h : Rw E e w X v L) : ∃ A c, v = .slice A L.length c := by
  rcases h.2 with ⟨rfl, h0⟩ | ⟨g, cap, cur, rfl, _⟩
  · exact ⟨none, 0, by rw [h0]⟩
  · exact ⟨_, _, rfl⟩
theorem Rw.seen {e : TypeId} {w : World} {X : Nat} {v : Value} {L : List α} (h : Rw E e w X v L) (h0 : 0 < L.length) : ∃ g c, v = .slice (some ⟨g, 0, none⟩) L.length c ∧ X ≤ g ∧ g < w.heap.size := by
  rcases h.2 with ⟨rfl, h1⟩ | ⟨g, cap, cur, rfl, hb, hg, _⟩
  · omega
  · exact ⟨g, cap, rfl, hb, (Array.getElem?_eq_some_iff.1 hg).1⟩
theorem Rw.lt {e : TypeId} {w : World} {X g n c : Nat} {L : List α} (h : Rw E e w X (.slice (some ⟨g, 0, none⟩) n c) L) : g < w.heap.size := (World.ownsRow.lt h g rfl).2
theorem Rw.cell {e : TypeId} {w : World} {X g n c : Nat} {L : List α} (h : Rw E e w X (.slice (some ⟨g, 0, none⟩) n c) L) {j : Nat} {x : α} (hj : L[j]? = some x) {i : Nat} {u : Value} (hi : (E.enc x)[i]? = some u) :
    w.cell? ⟨g, j * k + i, none⟩ = some u := by
  have := World.ownsRow.cells h (g := g) rfl (j * k + i) u (enc_get E L j x hj i u hi)
  rwa [addr_head] at this
theorem Rw.same {e : TypeId} {w w' : World} {X : Nat} {v : Value} {L : List α} (h : Rw E e w X v L) (hb : ∀ b, v.ownBlock = some b → b < w.heap.size → w'.heap[b]? = w.heap[b]?) : Rw E e w' X v L := by
  refine ⟨h.1, ?_⟩
  rcases h.2 with hn | ⟨g, cap, cur, rfl, hb0, hg, rest⟩
  · exact .inl hn
  · refine .inr ⟨g, cap, cur, rfl, hb0, ?_, rest⟩
    rw [hb g rfl (Array.getElem?_eq_some_iff.1 hg).1]
    exact hg
theorem Rw.keep {e : TypeId} {w w' : World} {X : Nat} {v : Value} {L : List α} (h : Rw E e w X v L) (hb : Below w.heap.size w w') : Rw E e w' X v L := h.same fun b _ hlt => hb.block b hlt
theorem Rw.base {e : TypeId} {w : World} {X Y : Nat} {v : Value} {L : List α} (h : Rw E e w X v L) (hy : Y ≤ X) : Rw E e w Y v L := by
  refine ⟨h.1, ?_⟩
  rcases h.2 with hn | ⟨g, cap, cur, rfl, hb0, rest⟩
  · exact .inl hn
  · exact .inr ⟨g, cap, cur, rfl, by omega, rest⟩
theorem Rw.alloc {e : TypeId} {w : World} {X : Nat} {v : Value} {L : List α} (h : Rw E e w X v L) (o : Obj) : Rw E e (w.alloc o) X v L := World.ownsRow.alloc h o
theorem Rw.one {e : TypeId} {w : World} {X : Nat} {v : Value} {L : List α} (h : Rw E e w X v L) : v.oneCell' = true := by
  obtain ⟨A, c, rfl⟩ := h.form
  rfl
/-- what append needs to know of an element type -/
structure Elt (E : Enc α k) (t e : TypeId) (z : Value) (by' : Nat) : Prop where
  info : (Tryz.prog.info? e).map (fun i => (i.zero, i.size, i.bytes)) = some (some z, k, by')
  zc : z.cells.size = k
  k0 : 0 < k
  ht : Tryz.prog.underlying t = some (.slice e)
  hb : by' ≤ 1000
/-- append(s, x) of one thing that lies in a new block -/
theorem wpList_rw {t e : TypeId} {z : Value} {by' : Nat} (T : Elt E t e z by') (w : World) {ops : Array Oper} {rest : List Oper} {o : Oper} {a : Act} {Q : Exit → Act → World → Prop} (hgd : o.guard = none) (s x : Operand)
    (ho : o.op = .call { callee := .builtin .append, args := #[s, x], argTypes := #[t, t] })
    (X : Nat) (v : Value) (L : List α) (hs : a.eval s = v) (h : Rw E e w X v L) (y : α) (cs : Array Value) (hcs : cs = (E.enc y).toArray)
    (hx : a.eval x = .slice (some ⟨w.heap.size, 0, none⟩) 1 1) (hn : L.length ≤ 1000000) (hX : X ≤ w.heap.size)
    (hK : ∀ g cap w', Rw E e w' X (.slice (some ⟨g, 0, none⟩) (L.length + 1) cap) (L ++ [y]) → Below X w w' → wpList Tryz.prog ops Q rest (a.put o.dst (.slice (some ⟨g, 0, none⟩) (L.length + 1) cap)) w') :
    wpList Tryz.prog ops Q (o :: rest) a (w.alloc (.cells cs e)) := by
  subst hcs
  obtain ⟨i0, hi, hz0, hz1, hz2⟩ := info_parts T.info
  have hb := T.hb
  refine wpList_append_lies _ hgd s x t ho X e i0 z k by' T.ht hi hz0 hz1 hz2 T.zc T.k0 v L.length _ hs (World.ownsRow.alloc h _) ⟨w.heap.size, 0, none⟩ 1 1 (E.enc y) hx (by rw [E.len]; omega)
    (World.news_of_block (heap_alloc_new w _)) (E.one y) (by omega) (by unfold maxLen; omega) ?_ (by simp; omega) (w.heap.size + 1) (by simp) ?_
  · have : (L.length + 1) * by' ≤ 1000001 * 1000 := Nat.mul_le_mul (by omega) hb
    omega
  · intro g cap w' r1 r2 r3 _
    have hbl : Below X w w' := ((Below.refl X w).alloc hX _).grown r2 (by simp; omega) (fun k e => (World.ownsRow.lt h k e).1)
    refine hK g cap w' ?_ hbl
    unfold Rw
    rw [List.length_append, List.flatMap_append]
    simpa using r1
/-- the same, with what is left alone -/
theorem wpList_rw2 {t e : TypeId} {z : Value} {by' : Nat} (T : Elt E t e z by') (w : World) {ops : Array Oper} {rest : List Oper} {o : Oper} {a : Act} {Q : Exit → Act → World → Prop} (hgd : o.guard = none) (s x : Operand)
    (ho : o.op = .call { callee := .builtin .append, args := #[s, x], argTypes := #[t, t] })
    (X : Nat) (v : Value) (L : List α) (hs : a.eval s = v) (h : Rw E e w X v L) (y : α) (cs : Array Value) (hcs : cs = (E.enc y).toArray)
    (hx : a.eval x = .slice (some ⟨w.heap.size, 0, none⟩) 1 1) (hn : L.length ≤ 1000000) (hX : X ≤ w.heap.size)
    (hK : ∀ g cap w', Rw E e w' X (.slice (some ⟨g, 0, none⟩) (L.length + 1) cap) (L ++ [y]) → Below X w w' → (∀ b, b < w.heap.size → v.ownBlock ≠ some b → w'.heap[b]? = w.heap[b]?) → (v.ownBlock = some g ∨ g = w.heap.size + 1) → w.heap.size ≤ w'.heap.size →
      wpList Tryz.prog ops Q rest (a.put o.dst (.slice (some ⟨g, 0, none⟩) (L.length + 1) cap)) w') :
    wpList Tryz.prog ops Q (o :: rest) a (w.alloc (.cells cs e)) := by
  subst hcs
  obtain ⟨i0, hi, hz0, hz1, hz2⟩ := info_parts T.info
  have hb := T.hb
  refine wpList_append_lies _ hgd s x t ho X e i0 z k by' T.ht hi hz0 hz1 hz2 T.zc T.k0 v L.length _ hs (World.ownsRow.alloc h _) ⟨w.heap.size, 0, none⟩ 1 1 (E.enc y) hx (by rw [E.len]; omega)
    (World.news_of_block (heap_alloc_new w _)) (E.one y) (by omega) (by unfold maxLen; omega) ?_ (by simp; omega) (w.heap.size + 1) (by simp) ?_
  · have : (L.length + 1) * by' ≤ 1000001 * 1000 := Nat.mul_le_mul (by omega) hb
    omega
  · intro g cap w' r1 r2 r3 _
    have hbl : Below X w w' := ((Below.refl X w).alloc hX _).grown r2 (by simp; omega) (fun k e => (World.ownsRow.lt h k e).1)
    refine hK g cap w' ?_ hbl (fun b hb hne => ?_) r3 (by have := r2.size; simp at this; omega)
    · unfold Rw
      rw [List.length_append, List.flatMap_append]
      simpa using r1
    · exact (r2.block b (by simp; omega) (Ne.symm hne)).trans (Below.heap_alloc w _ b hb)
/-- the same as a step of a region that draws its order -/
theorem step_rw {t e : TypeId} {z : Value} {by' : Nat} (T : Elt E t e z by') (w : World) {ops : Array Oper} {o : Oper} {a : Act} {K : Act → World → Prop} {Q : Exit → Act → World → Prop} {EE : Prop} (hgd : o.guard = none) (s x : Operand)
    (ho : o.op = .call { callee := .builtin .append, args := #[s, x], argTypes := #[t, t] })
    (X : Nat) (v : Value) (L : List α) (hs : a.eval s = v) (h : Rw E e w X v L) (y : α) (cs : Array Value) (hcs : cs = (E.enc y).toArray)
    (hx : a.eval x = .slice (some ⟨w.heap.size, 0, none⟩) 1 1) (hn : L.length ≤ 1000000) (hX : X ≤ w.heap.size)
    (hK : ∀ g cap w', Rw E e w' X (.slice (some ⟨g, 0, none⟩) (L.length + 1) cap) (L ++ [y]) → Below X w w' → K (a.put o.dst (.slice (some ⟨g, 0, none⟩) (L.length + 1) cap)) w') :
    if Region.wanted o (yielded ops a.tmps) = true then Oper.wp Tryz.prog o a (w.alloc (.cells cs e)) K Q else EE := by
  subst hcs
  obtain ⟨i0, hi, hz0, hz1, hz2⟩ := info_parts T.info
  have hb := T.hb
  refine step_append_lies _ hgd s x t ho X e i0 z k by' T.ht hi hz0 hz1 hz2 T.zc T.k0 v L.length _ hs (World.ownsRow.alloc h _) ⟨w.heap.size, 0, none⟩ 1 1 (E.enc y) hx (by rw [E.len]; omega)
    (World.news_of_block (heap_alloc_new w _)) (E.one y) (by omega) (by unfold maxLen; omega) ?_ (by simp; omega) (w.heap.size + 1) (by simp) ?_
  · have : (L.length + 1) * by' ≤ 1000001 * 1000 := Nat.mul_le_mul (by omega) hb
    omega
  · intro g cap w' r1 r2 r3 _
    have hbl : Below X w w' := ((Below.refl X w).alloc hX _).grown r2 (by simp; omega) (fun k e => (World.ownsRow.lt h k e).1)
    refine hK g cap w' ?_ hbl
    unfold Rw
    rw [List.length_append, List.flatMap_append]
    simpa using r1
end
end Go.Proofs.YtklnnpacfjnnlaaGreatDoor
