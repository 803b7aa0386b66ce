/- For LiftFactors: sorting by insertion, stores into a slice of fractions, append of nothing. -/
import Derived.Test.YtdkobkghhnccgaaNk
namespace Go.Proofs.Ytdkobkghhnccgaa
open Go.RowKit
open Np (frc Red ord Prm fle flt cf nz od Sides Sd Pg slopes)
/-- append(s) of no elements -/
theorem run_append_empty (P : Program) (w : World) (base : Nat) (t ty e : TypeId) (i : TypeInfo) (size : Nat) (ht : P.underlying t = some (.slice e)) (hi : P.info? e = some i)
    (v : Value) (n : Nat) (xs : List Value) (hown : w.ownsRow base e size v n xs) (A : Option Addr) (c : Nat) : (Builtin.append_ #[t, t] ty #[v, .slice A 0 c]).run P w = .ok v w := by
  have hf : (Builtin.firstCells i.size 0 (.slice A 0 c)).run P w = .ok #[] w := by
    cases A with
    | none => exact run_firstCells_none w _ _ _ _
    | some a => have := run_firstCells_some (P := P) w i.size 0 a 0 c [] (by simp) (fun j v h => by simp at h); simpa using this
  rcases hown.2 with ⟨rfl, _⟩ | ⟨g, cap, cur, rfl, _, hg, hnc, _⟩
  · simp [Builtin.append_, run_underlying ht, sizeOf, typeInfo, hi, Builtin.lenOf, hf]
  · simp [Builtin.append_, run_underlying ht, sizeOf, typeInfo, hi, Builtin.lenOf, hf, hnc, storeCells]
theorem wpList_rw0 {α : Type} {k : Nat} {E : Enc α k} {t e : TypeId} {z : Value} {by' : Nat} (T : Elt E t e z by') (w : World) {ops : Array Oper} {rest : List Oper} {o : Oper} {a : Act} {Q : Exit → Act → World → Prop} (hgd : o.guard = none) (s x : Operand)
    (ho : o.op = .call { callee := .builtin .append, args := #[s, x], argTypes := #[t, t] })
    (X : Nat) (v : Value) (L : List α) (hs : a.eval s = v) (h : Rw E e w X v L) (A2 : Option Addr) (c2 : Nat) (hx : a.eval x = .slice A2 0 c2)
    (hK : wpList Try.prog ops Q rest (a.put o.dst v) w) :
    wpList Try.prog ops Q (o :: rest) a w := by
  obtain ⟨i0, hi, hz0, hz1, hz2⟩ := info_parts T.info
  refine wpList_plain hgd fun K' hK' => ?_
  have hrun := run_append_empty Try.prog w X t o.type e i0 k T.ht hi v L.length _ h A2 c2
  unfold Oper.wp
  simp [execOp, ho, resolve, invoke, builtin, hs, hx, hrun, Result.andThen]
  exact hK' _ _ hK
/-- the cells of two fractions' row, one of them replaced -/
theorem flat_set : ∀ (L : List (Int × Int)) (j : Nat) (a b : Int), j < L.length → ((L.flatMap encQ).set (j * 2) (.int .i64 a)).set (j * 2 + 1) (.int .i64 b) = (L.set j (a, b)).flatMap encQ := by
  intro L
  induction L with
  | nil => intro j a b h; simp at h
  | cons q L ih =>
    intro j a b h
    match j, h with
    | 0, _ => rfl
    | j + 1, h =>
      have := ih j a b (by simpa using h)
      rw [List.flatMap_cons, List.set_cons_succ, List.flatMap_cons, ← this]
      rw [show (j + 1) * 2 = j * 2 + 2 by omega]
      rfl
theorem Rw.put {w : World} {X g n c : Nat} {L : List (Int × Int)} (h : Rw EQ 64 w X (.slice (some ⟨g, 0, none⟩) n c) L) {j : Nat} (hj : j < L.length) (a b : Int) :
    Rw EQ 64 ((w.setCell ⟨g, j * 2, none⟩ (.int .i64 a)).setCell ⟨g, j * 2 + 1, none⟩ (.int .i64 b)) X (.slice (some ⟨g, 0, none⟩) n c) (L.set j (a, b)) := by
  unfold Rw
  rw [List.length_set]
  refine ⟨by rw [enc_length, List.length_set], ?_⟩
  rcases h.2 with ⟨h0, _⟩ | ⟨g', cap', cur, hv, hb0, hg, hnc, hcm, hcs, htake⟩
  · cases h0
  · simp only [Value.slice.injEq, Option.some.injEq, Addr.mk.injEq] at hv
    obtain ⟨⟨rfl, _⟩, hn, rfl⟩ := hv
    refine .inr ⟨g, c, (cur.setIfInBounds (j * 2) (.int .i64 a)).setIfInBounds (j * 2 + 1) (.int .i64 b), by rw [hn], hb0, ?_, hnc, hcm, by simpa using hcs, ?_⟩
    · simp [World.setCell, Array.getElem?_modify, hg]
    · rw [Array.toList_setIfInBounds, Array.toList_setIfInBounds, List.take_set, List.take_set, htake]
      exact flat_set L j a b hj
theorem Rw.free {α : Type} {k : Nat} {E : Enc α k} {e : TypeId} {w : World} {X g n c : Nat} {L : List α} (h : Rw E e w X (.slice (some ⟨g, 0, none⟩) n c) L) (o : Nat) : w.frozen? ⟨g, o, none⟩ = false := by
  rcases h.2 with ⟨h0, _⟩ | ⟨g', cap', cur, hv, hb0, hg, _⟩
  · cases h0
  · simp only [Value.slice.injEq, Option.some.injEq, Addr.mk.injEq] at hv
    obtain ⟨⟨rfl, _⟩, _, rfl⟩ := hv
    simp [World.frozen?, hg]
/-- two fractions, the cells of one -/
theorem Rw.frac {w : World} {X0 g n c : Nat} {L : List (Int × Int)} (h : Rw EQ 64 w X0 (.slice (some ⟨g, 0, none⟩) n c) L) {j : Nat} {q : Int × Int} (hj : L[j]? = some q) :
    w.cell? ⟨g, j * 2, none⟩ = some (.int .i64 q.1) ∧ w.cell? ⟨g, j * 2 + 1, none⟩ = some (.int .i64 q.2) :=
  ⟨h.cell hj (i := 0) rfl, h.cell hj (i := 1) rfl⟩
/-- the inner state of sorting by insertion: x stands behind A and ahead of B -/
structure Ins (L0 : List (Int × Int)) (i j : Nat) (L A B C : List (Int × Int)) (x : Int × Int) : Prop where
  split : L = A ++ x :: (B ++ C)
  perm : L.Perm L0
  srt : (A ++ B).Pairwise fle
  low : ∀ b ∈ B, fle x b
  la : A.length = j
  lb : A.length + B.length = i
theorem Ins.start {L0 L : List (Int × Int)} {i : Nat} (hi : i < L.length) (hp : L.Perm L0) (hs : (L.take i).Pairwise fle) : Ins L0 i i L (L.take i) [] (L.drop (i + 1)) L[i] := by
  refine ⟨?_, hp, by simpa using hs, by simp, by simp; omega, by simp; omega⟩
  rw [List.nil_append]
  conv => lhs; rw [← List.take_append_drop i L]
  rw [List.drop_eq_getElem_cons hi]
theorem Ins.swap {L0 L A B C : List (Int × Int)} {i j : Nat} {x u : Int × Int} (h : Ins L0 i (j + 1) L (A ++ [u]) B C x) (hlt : flt x u) :
    Ins L0 i j (A ++ x :: ((u :: B) ++ C)) A (u :: B) C x := by
  refine ⟨rfl, ?_, ?_, ?_, ?_, ?_⟩
  · refine List.Perm.trans ?_ h.perm
    rw [h.split, List.append_assoc]
    exact List.Perm.append_left A (List.Perm.swap _ _ _)
  · have := h.srt
    rwa [List.append_assoc] at this
  · intro b hb
    rcases List.mem_cons.1 hb with rfl | hb
    · unfold flt at hlt; unfold fle; omega
    · exact h.low b hb
  · have := h.la
    simp at this; omega
  · have := h.lb
    simp at this ⊢; omega
theorem Ins.sets {A B C : List (Int × Int)} {x u : Int × Int} {j : Nat} (hj : A.length = j) : (((A ++ [u]) ++ x :: (B ++ C)).set j x).set (j + 1) u = A ++ x :: ((u :: B) ++ C) := by
  subst hj
  rw [List.append_assoc, List.set_append_right _ _ (Nat.le_refl _), Nat.sub_self, List.set_append_right _ _ (by omega), show A.length + 1 - A.length = 1 by omega]
  rfl
theorem Ins.get {A B C : List (Int × Int)} {x u : Int × Int} {j : Nat} (hj : A.length = j) : ((A ++ [u]) ++ x :: (B ++ C))[j]? = some u ∧ ((A ++ [u]) ++ x :: (B ++ C))[j + 1]? = some x := by
  subst hj
  rw [List.append_assoc]
  constructor
  · rw [List.getElem?_append_right (Nat.le_refl _), Nat.sub_self]; rfl
  · rw [List.getElem?_append_right (by omega), show A.length + 1 - A.length = 1 by omega]; rfl
theorem Ins.done {L0 L A B C : List (Int × Int)} {i j : Nat} {x : Int × Int} (h : Ins L0 i j L A B C x) (hd : ∀ q ∈ L, 1 ≤ q.2) (ha : ∀ A' u, A = A' ++ [u] → fle u x) : (L.take (i + 1)).Pairwise fle := by
  have ht : L.take (i + 1) = A ++ x :: B := by
    rw [h.split, show A ++ x :: (B ++ C) = (A ++ x :: B) ++ C by simp]
    exact List.take_left' (by have := h.lb; simp; omega)
  rw [ht, List.pairwise_append]
  have hs := List.pairwise_append.1 h.srt
  refine ⟨hs.1, List.pairwise_cons.2 ⟨h.low, hs.2.1⟩, fun a haA b hb => ?_⟩
  have hx : ∀ q ∈ A ++ x :: B, 1 ≤ q.2 := fun q hq => hd q (by rw [← ht] at hq; exact List.mem_of_mem_take hq)
  have hax : fle a x := by
    rcases List.eq_nil_or_concat A with e | ⟨A', u, e⟩
    · subst e; cases haA
    · rw [List.concat_eq_append] at e
      have hu := ha A' u e
      subst e
      rcases List.mem_append.1 haA with h1 | h1
      · have h2 := (List.pairwise_append.1 hs.1).2.2 a h1 u (by simp)
        exact Np.fle_trans (hx a (by simp [h1])) (hx u (by simp)) (hx x (by simp)) h2 hu
      · simp at h1; subst h1; exact hu
  rcases List.mem_cons.1 hb with rfl | hb
  · exact hax
  · exact hs.2.2 a haA b hb
/-- the factor -/
def byB (b : Int) : Nat := 1 + (IntKind.u64.wrap b % 9).toNat
theorem by_any (b : Int) : 1 ≤ byB b ∧ byB b ≤ 9 ∧ wrap64 (1 + wrap64 ((IntKind.u64.wrap b).tmod 9)) = byB b := by
  unfold byB
  have h0 : 0 ≤ IntKind.u64.wrap b := by rw [IntKind.wrap_u64]; omega
  generalize IntKind.u64.wrap b = u at *
  rw [Int.tmod_eq_emod_of_nonneg h0]
  refine ⟨by omega, by omega, ?_⟩
  rw [IntWalk.wrap64_in (u % 9) (by omega), IntWalk.wrap64_in _ (by omega)]
  omega
/-- the first m coefficients multiplied -/
def mulk (f : List Int) (b : Int) (m : Nat) : List Int := (f.take m).map (· * b) ++ f.drop m
theorem mulk_length (f : List Int) (b : Int) (m : Nat) : (mulk f b m).length = f.length := by unfold mulk; simp; omega
theorem mulk_zero (f : List Int) (b : Int) : mulk f b 0 = f := by simp [mulk]
theorem mulk_get (f : List Int) (b : Int) (m : Nat) (h : m < f.length) : (mulk f b m).getD m 0 = f.getD m 0 := by
  unfold mulk
  rw [List.getD_eq_getElem?_getD, List.getElem?_append_right (by rw [List.length_map, List.length_take]; omega), List.getElem?_drop, List.getD_eq_getElem?_getD]
  simp
  rw [show m + (m - min m f.length) = m by omega]
theorem mulk_step (f : List Int) (b : Int) (m : Nat) (h : m < f.length) : (mulk f b m).set m (f.getD m 0 * b) = mulk f b (m + 1) := by
  unfold mulk
  have hl : ((f.take m).map (· * b)).length = m := by simp; omega
  rw [List.set_append_right _ _ (by omega), hl, Nat.sub_self, List.drop_eq_getElem_cons h, List.set_cons_zero, List.take_succ_eq_append_getElem h, List.map_append, List.append_assoc]
  congr 1
  simp [List.getD_eq_getElem?_getD, h]
theorem mulk_all (f : List Int) (b : Int) (i : Nat) : cf (mulk f b f.length) i = cf f i * b := by
  unfold mulk cf
  rw [List.take_length, List.drop_length, List.append_nil, List.getD_eq_getElem?_getD, List.getElem?_map, List.getD_eq_getElem?_getD]
  cases f[i]? <;> simp
end Go.Proofs.Ytdkobkghhnccgaa

