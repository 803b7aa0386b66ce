/- Words for memory: slices of slices of numbers; the partitions as a list. -/
import Derived.Test.YtpgpkgnljoedaaaK
import Derived.OneCell
import Derived.Deep.AppendLies
namespace Go.Proofs.Ytpgpkgnljoedaaa
open Go.RowKit

theorem ownBlock_some {ad : Addr} {n c b : Nat} (h : (Value.slice (some ad) n c).ownBlock = some b) : b = ad.block := by
  simp [Value.ownBlock] at h; exact h.symm
/-- A slice that reads as numbers reads so wherever its own block is as it was. -/
theorem Ints.same {w w' : World} {v : Value} {xs : List Int} (h : Ints w v xs) (hs : w.heap.size ≤ w'.heap.size) (hb : ∀ b, v.ownBlock = some b → b < w.heap.size → w'.heap[b]? = w.heap[b]?) : Ints w' v xs := by
  obtain ⟨hl, A, c, rfl, hc, hr⟩ := h
  refine ⟨hl, A, c, rfl, hc, fun h0 => ?_⟩
  obtain ⟨ad, rfl, hbl, hcell⟩ := hr h0
  refine ⟨ad, rfl, Nat.lt_of_lt_of_le hbl hs, fun j u hu => ?_⟩
  have := hb ad.block rfl hbl
  rw [← hcell j u hu]
  exact World.cell?_of_block (by rw [addr_block]; exact this)
/-- Own, the same. -/
theorem Own.same {w w' : World} {base : Nat} {v : Value} {xs : List Int} (h : Own w base v xs) (hb : ∀ b, v.ownBlock = some b → b < w.heap.size → w'.heap[b]? = w.heap[b]?) : Own w' base v xs := by
  refine ⟨h.1, ?_⟩
  rcases h.2 with hn | ⟨g, cap, cur, rfl, hb0, hg, rest⟩
  · exact .inl hn
  · refine .inr ⟨g, cap, cur, rfl, hb0, ?_, rest⟩
    rw [hb g rfl (Array.getElem?_eq_some_iff.1 hg).1]
    exact hg
theorem ownsRow_same {w w' : World} {base n : Nat} {e : TypeId} {v : Value} {xs : List Value} (h : w.ownsRow base e 1 v n xs) (hb : ∀ b, v.ownBlock = some b → b < w.heap.size → w'.heap[b]? = w.heap[b]?) : w'.ownsRow base e 1 v n xs := by
  refine ⟨h.1, ?_⟩
  rcases h.2 with hn | ⟨g, cap, cur, rfl, hb0, hg, rest⟩
  · exact .inl hn
  · refine .inr ⟨g, cap, cur, rfl, hb0, ?_, rest⟩
    rw [hb g rfl (Array.getElem?_eq_some_iff.1 hg).1]
    exact hg
theorem Own.base {w : World} {base b2 : Nat} {v : Value} {xs : List Int} (h : Own w base v xs) (hb : b2 ≤ base) : Own w b2 v xs := by
  refine ⟨h.1, ?_⟩
  rcases h.2 with hn | ⟨g, cap, cur, rfl, hb0, rest⟩
  · exact .inl hn
  · exact .inr ⟨g, cap, cur, rfl, by omega, rest⟩
/-- The last number taken away. -/
theorem Own.pop {w : World} {base g n cap : Nat} {xs : List Int} {x : Int} (h : Own w base (.slice (some ⟨g, 0, none⟩) (n + 1) cap) (xs ++ [x])) (hn : xs.length = n) : Own w base (.slice (some ⟨g, 0, none⟩) n cap) xs := by
  rcases h.2 with ⟨h0, _⟩ | ⟨g', cap', cur, hv, hb0, hg, hnc, hcm, hcs, htake⟩
  · cases h0
  · simp only [Value.slice.injEq, Option.some.injEq, Addr.mk.injEq] at hv
    obtain ⟨⟨rfl, _⟩, _, rfl⟩ := hv
    rw [List.length_append] at hnc
    simp only [List.length_cons, List.length_nil] at hnc
    refine ⟨by simp, .inr ⟨g, cap, cur, by rw [hn], hb0, hg, by omega, hcm, hcs, ?_⟩⟩
    rw [hn]
    have e : cur.toList.take (n * 1) = (cur.toList.take ((xs ++ [x]).length * 1)).take (n * 1) := by rw [List.take_take]; congr 1; simp; omega
    rw [e, htake, List.map_append, List.take_left' (by simp; omega)]

/-- The values vs read as the lists xss; their arrays lie in blocks that meet B. -/
def Elts (w : World) (B : Nat → Prop) (vs : List Value) (xss : List (List Int)) : Prop :=
  vs.length = xss.length ∧ ∀ (j : Nat) (s : Value) (xs : List Int), vs[j]? = some s → xss[j]? = some xs → Ints w s xs ∧ ∀ b, s.ownBlock = some b → b < w.heap.size ∧ B b
theorem Elts.nil (w : World) (B : Nat → Prop) : Elts w B [] [] := ⟨rfl, fun j s xs h => by simp at h⟩
theorem Elts.keep {w w' : World} {B B' : Nat → Prop} {vs : List Value} {xss : List (List Int)} (h : Elts w B vs xss) (hs : w.heap.size ≤ w'.heap.size)
    (hb : ∀ b, b < w.heap.size → B b → w'.heap[b]? = w.heap[b]?) (hB : ∀ b, b < w.heap.size → B b → B' b) : Elts w' B' vs xss := by
  refine ⟨h.1, fun j s xs h1 h2 => ?_⟩
  obtain ⟨hi, hbl⟩ := h.2 j s xs h1 h2
  refine ⟨hi.same hs (fun b e hlt => hb b hlt (hbl b e).2), fun b e => ?_⟩
  obtain ⟨h3, h4⟩ := hbl b e
  exact ⟨by omega, hB b h3 h4⟩
theorem Elts.append {w : World} {B : Nat → Prop} {vs vs' : List Value} {xss xss' : List (List Int)} (h : Elts w B vs xss) (h' : Elts w B vs' xss') : Elts w B (vs ++ vs') (xss ++ xss') := by
  refine ⟨by rw [List.length_append, List.length_append, h.1, h'.1], fun j s xs h1 h2 => ?_⟩
  by_cases hj : j < vs.length
  · rw [List.getElem?_append_left hj] at h1
    rw [List.getElem?_append_left (by rw [← h.1]; exact hj)] at h2
    exact h.2 j s xs h1 h2
  · rw [List.getElem?_append_right (by omega)] at h1
    rw [List.getElem?_append_right (by rw [← h.1]; omega), ← h.1] at h2
    exact h'.2 _ s xs h1 h2
theorem Elts.one {w : World} {B : Nat → Prop} {s : Value} {xs : List Int} (h : Ints w s xs) (hb : ∀ b, s.ownBlock = some b → b < w.heap.size ∧ B b) : Elts w B [s] [xs] := by
  refine ⟨rfl, fun j s' xs' h1 h2 => ?_⟩
  match j, h1, h2 with
  | 0, h1, h2 => simp at h1 h2; subst h1 h2; exact ⟨h, hb⟩

/-- The slice value v reads, in the world w, as the lists xss. -/
def IntsL (w : World) (v : Value) (xss : List (List Int)) : Prop :=
  xss.length ≤ 1000000 ∧ ∃ (A : Option Addr) (c : Nat) (vs : List Value), v = .slice A xss.length c ∧ xss.length ≤ c ∧ Elts w (fun _ => True) vs xss ∧
    (0 < xss.length → ∃ ad, A = some ad ∧ ad.block < w.heap.size ∧ ∀ (j : Nat) (u : Value), vs[j]? = some u → w.cell? (ad.add j) = some u)
theorem IntsL.keep {w w' : World} {v : Value} {xss : List (List Int)} (h : IntsL w v xss) (hb : Below w.heap.size w w') : IntsL w' v xss := by
  obtain ⟨hl, A, c, vs, rfl, hc, he, hr⟩ := h
  refine ⟨hl, A, c, vs, rfl, hc, he.keep hb.size (fun b hlt _ => hb.block b hlt) (fun _ _ _ => trivial), fun h0 => ?_⟩
  obtain ⟨ad, rfl, hbl, hcell⟩ := hr h0
  exact ⟨ad, rfl, Nat.lt_of_lt_of_le hbl hb.size, fun j u hu => (hb.cell (by rw [addr_block]; exact hbl)).trans (hcell j u hu)⟩
theorem IntsL.nil (w : World) : IntsL w (.slice none 0 0) [] := ⟨by simp, none, 0, [], rfl, by simp, Elts.nil _ _, fun h => by simp at h⟩
/-- a slice of the call's own with elements that read as lists -/
theorem intsL_of_own {w : World} {base : Nat} {B : Nat → Prop} {v : Value} {vs : List Value} {xss : List (List Int)} (h : w.ownsRow base 33 1 v xss.length vs) (he : Elts w B vs xss) (hl : xss.length ≤ 1000000) : IntsL w v xss := by
  refine ⟨hl, ?_⟩
  have he' : Elts w (fun _ => True) vs xss := he.keep (Nat.le_refl _) (fun _ _ _ => rfl) (fun _ _ _ => trivial)
  have hh := h
  rcases h.2 with ⟨rfl, h0⟩ | ⟨g, cap, cur, rfl, hb, hg, hnc, _⟩
  · refine ⟨none, 0, vs, by rw [h0], by omega, he', fun h => by omega⟩
  · refine ⟨_, cap, vs, rfl, hnc, he', fun h0 => ⟨_, rfl, (Array.getElem?_eq_some_iff.1 hg).1, fun j u hu => ?_⟩⟩
    exact World.ownsRow.cells hh (g := g) rfl j u hu

/-- a slice of the call's own with elements: where it lies, and its cells -/
theorem Own.seen {w : World} {base : Nat} {v : Value} {xs : List Int} (h : Own w base v xs) (hx : 0 < xs.length) :
    ∃ g cap, v = .slice (some ⟨g, 0, none⟩) xs.length cap ∧ xs.length ≤ cap ∧ base ≤ g ∧ g < w.heap.size ∧ ∀ (j : Nat) (u : Int), xs[j]? = some u → w.cell? ⟨g, j, none⟩ = some (.int .i64 u) := by
  have hh := h
  rcases h.2 with ⟨_, h0⟩ | ⟨g, cap, cur, hv, hb, hg, hnc, _⟩
  · omega
  · subst hv
    refine ⟨g, cap, rfl, hnc, hb, (Array.getElem?_eq_some_iff.1 hg).1, fun j u hu => ?_⟩
    have := World.ownsRow.cells hh (g := g) rfl j (.int .i64 u) (by rw [List.getElem?_map, hu]; rfl)
    rwa [addr_head] at this

theorem info33 : (Try.prog.info? 33).map (fun i => (i.zero, i.size, i.bytes)) = some (some (.slice none 0 0), 1, 24) := by kernel_rfl

theorem Own.isSlice {w : World} {base : Nat} {v : Value} {xs : List Int} (h : Own w base v xs) : ∃ A n c, v = .slice A n c := by
  rcases h.2 with ⟨rfl, _⟩ | ⟨g, cap, cur, rfl, _⟩
  · exact ⟨_, _, _, rfl⟩
  · exact ⟨_, _, _, rfl⟩
theorem Own.one {w : World} {base : Nat} {v : Value} {xs : List Int} (h : Own w base v xs) : v.oneCell' = true := by
  rcases h.2 with ⟨rfl, _⟩ | ⟨g, cap, cur, rfl, _⟩ <;> rfl
/-- append(out, s) of one slice of numbers, as a step of a region that draws -/
theorem step_row (w : World) {ops : Array Oper} {o : Oper} {a : Act} {K : Act → World → Prop} {Q : Exit → Act → World → Prop} {E : Prop} (hgd : o.guard = none) (s x : Operand)
    (ho : o.op = .call { callee := .builtin .append, args := #[s, x], argTypes := #[22, 22] })
    (base : Nat) (v : Value) (n : Nat) (vs : List Value) (hs : a.eval s = v) (hown : w.ownsRow base 33 1 v n vs)
    (u : Value) (hx : a.eval x = .slice (some ⟨w.heap.size, 0, none⟩) 1 1) (h1 : u.oneCell' = true) (hn : n ≤ 1000000) (hbase : base ≤ w.heap.size)
    (h : ∀ g cap w', w'.ownsRow base 33 1 (.slice (some ⟨g, 0, none⟩) (n + 1) cap) (n + 1) (vs ++ [u]) → (w.alloc (.cells #[u] 33)).grownBy w' v.ownBlock → (v.ownBlock = some g ∨ g = w.heap.size + 1) → K (a.put o.dst (.slice (some ⟨g, 0, none⟩) (n + 1) cap)) w') :
    if Region.wanted o (yielded ops a.tmps) = true then Oper.wp Try.prog o a (w.alloc (.cells #[u] 33)) K Q else E := by
  obtain ⟨i0, hi, hz0, hz1, hz2⟩ := info_parts info33
  exact step_append_lies _ hgd s x 22 ho base 33 i0 (.slice none 0 0) 1 24 Try.underlying22 hi hz0 hz1 hz2 rfl (by decide) v n vs hs (World.ownsRow.alloc hown _) ⟨w.heap.size, 0, none⟩ 1 1 [u] hx rfl
    (World.news_of_block (heap_alloc_new w _)) (by intro z hz; simp at hz; subst hz; exact h1) (by omega) (by unfold maxLen; omega) (by omega) (by simp; omega) (w.heap.size + 1) (by simp)
    (fun g cap w' h2 h3 h4 _ => h g cap w' h2 h3 h4)
/-- the same in a walk -/
theorem wpList_row (w : World) {ops : Array Oper} {rest : List Oper} {o : Oper} {a : Act} {Q : Exit → Act → World → Prop} (hgd : o.guard = none) (s x : Operand)
    (ho : o.op = .call { callee := .builtin .append, args := #[s, x], argTypes := #[22, 22] })
    (base : Nat) (v : Value) (n : Nat) (vs : List Value) (hs : a.eval s = v) (hown : w.ownsRow base 33 1 v n vs)
    (u : Value) (hx : a.eval x = .slice (some ⟨w.heap.size, 0, none⟩) 1 1) (h1 : u.oneCell' = true) (hn : n ≤ 1000000) (hbase : base ≤ w.heap.size)
    (h : ∀ g cap w', w'.ownsRow base 33 1 (.slice (some ⟨g, 0, none⟩) (n + 1) cap) (n + 1) (vs ++ [u]) → (w.alloc (.cells #[u] 33)).grownBy w' v.ownBlock → (v.ownBlock = some g ∨ g = w.heap.size + 1) → wpList Try.prog ops Q rest (a.put o.dst (.slice (some ⟨g, 0, none⟩) (n + 1) cap)) w') :
    wpList Try.prog ops Q (o :: rest) a (w.alloc (.cells #[u] 33)) := by
  obtain ⟨i0, hi, hz0, hz1, hz2⟩ := info_parts info33
  exact wpList_append_lies _ hgd s x 22 ho base 33 i0 (.slice none 0 0) 1 24 Try.underlying22 hi hz0 hz1 hz2 rfl (by decide) v n vs hs (World.ownsRow.alloc hown _) ⟨w.heap.size, 0, none⟩ 1 1 [u] hx rfl
    (World.news_of_block (heap_alloc_new w _)) (by intro z hz; simp at hz; subst hz; exact h1) (by omega) (by unfold maxLen; omega) (by omega) (by simp; omega) (w.heap.size + 1) (by simp)
    (fun g cap w' h2 h3 h4 _ => h g cap w' h2 h3 h4)
/-- the partitions of n with parts up to most, rising, as lists of numbers (f: how many steps) -/
def prt : Nat → Nat → Nat → List (List Int)
  | 0, _, _ => [[]]
  | f + 1, n, most => if n = 0 then [[]] else (List.range (min n most)).flatMap fun i => (prt f (n - (i + 1)) (i + 1)).map (((i + 1 : Nat) : Int) :: ·)
/-- the first k of its branches -/
def prtk (f n k : Nat) : List (List Int) := (List.range k).flatMap fun i => (prt f (n - (i + 1)) (i + 1)).map (((i + 1 : Nat) : Int) :: ·)
theorem prt_zero (f most : Nat) : prt f 0 most = [[]] := by cases f <;> simp [prt]
theorem prt_pos (f n most : Nat) (h : n ≠ 0) : prt (f + 1) n most = prtk f n (min n most) := by rw [prt, if_neg h]; rfl
theorem prtk_zero (f n : Nat) : prtk f n 0 = [] := rfl
theorem prtk_succ (f n k : Nat) : prtk f n (k + 1) = prtk f n k ++ (prt f (n - (k + 1)) (k + 1)).map (((k + 1 : Nat) : Int) :: ·) := by
  simp [prtk, List.range_succ]
/-- Only so much of most counts as n has. -/
theorem prt_fuel : ∀ (f n most : Nat), n ≤ f → prt f n most = prt n n most := by
  intro f
  induction f using Nat.strongRecOn with
  | _ f ih =>
    intro n most h
    match f, n, ih, h with
    | 0, 0, _, _ => rfl
    | f + 1, 0, _, _ => rw [prt_zero, prt_zero]
    | f + 1, n + 1, ih, h =>
      rw [prt_pos _ _ _ (by omega), prt_pos _ _ _ (by omega)]
      unfold prtk
      congr 1
      funext i
      rw [ih f (by omega) (n + 1 - (i + 1)) (i + 1) (by omega)]
      by_cases e : f = n
      · subst e; rw [← ih f (by omega) (f + 1 - (i + 1)) (i + 1) (by omega)]
      · rw [ih n (by omega) (n + 1 - (i + 1)) (i + 1) (by omega)]
end Go.Proofs.Ytpgpkgnljoedaaa
