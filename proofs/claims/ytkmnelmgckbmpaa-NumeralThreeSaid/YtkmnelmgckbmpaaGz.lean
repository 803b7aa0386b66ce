/- What a walk over the map of gaps has met; the sort of what it met. -/
import Derived.Test.YtkmnelmgckbmpaaGx
import Derived.Shelf.SlSortCmp.SmallK
import Derived.Shelf.SlicesQ.Reverse
import Derived.Maps.OwnSet
namespace Go.Proofs.Ytkmnelmgckbmpaa
open Go.RowKit
/-- the walk over the map of how often each number is in G has met Lo -/
structure Got (G : List Nat) (left : Lit → Bool) (Lo : List (Nat × Nat)) : Prop where
  val : ∀ x ∈ Lo, x.1 ∈ G ∧ x.2 = G.count x.1 ∧ left (gk x.1) = false
  nodup : (Lo.map fun x => x.1).Nodup
  all : ∀ g ∈ G, left (gk g) = false → ∃ x ∈ Lo, x.1 = g
  key : ∀ kl, left kl = true → ∃ g : Nat, g ∈ G ∧ kl = gk g
theorem Got.start {D : DataW Unit} {G : List Nat} (h : MapIs D G) : Got G (Maps.has D) [] :=
  ⟨by simp, by simp, fun g hg e => absurd ((h.2.1 g hg).1.symm.trans e) (by simp), h.2.2⟩
theorem gk_same (a b : Nat) : (gk a).sameKey (gk b) = decide (a = b) := by
  unfold gk
  simp only [Lit.sameKey, true_and]
  exact decide_eq_decide.2 (by omega)
theorem Got.step {G : List Nat} {left : Lit → Bool} {Lo : List (Nat × Nat)} (h : Got G left Lo) (g : Nat) (hg : g ∈ G) (hl : left (gk g) = true) :
    Got G (fun z => left z && !z.sameKey (gk g)) (Lo ++ [(g, G.count g)]) := by
  refine ⟨fun x hx => ?_, ?_, fun y hy e => ?_, fun kl hk => ?_⟩
  · rcases List.mem_append.1 hx with hx | hx
    · obtain ⟨a, b, c⟩ := h.val x hx
      exact ⟨a, b, by simp [c]⟩
    · simp at hx
      subst hx
      exact ⟨hg, rfl, by simp [gk_same]⟩
  · rw [List.map_append, List.nodup_append]
    refine ⟨h.nodup, by simp, fun a ha b hb => ?_⟩
    simp at hb
    subst hb
    obtain ⟨x, hx, rfl⟩ := List.mem_map.1 ha
    intro e
    have := (h.val x hx).2.2
    rw [e, hl] at this
    cases this
  · by_cases c : y = g
    · exact ⟨(g, G.count g), by simp, c.symm⟩
    · rw [gk_same] at e
      obtain ⟨x, hx, e2⟩ := h.all y hy (by simpa [c] using e)
      exact ⟨x, by simp [hx], e2⟩
  · simp at hk
    exact h.key kl hk.1
theorem Got.perm {m : Nat} {G : List Nat} {left : Lit → Bool} {Lo : List (Nat × Nat)} (h : Got G left Lo) (he : ∀ kl, left kl = false) (hm : ∀ g ∈ G, g ≤ m) : Lo.Perm (gapL m G) := by
  rw [List.perm_ext_iff_of_nodup (List.pairwise_map.1 h.nodup |>.imp (fun h e => h (by rw [e]))) ((gapL_lt m G).imp (fun h e => by rw [e] at h; omega))]
  intro x
  rw [mem_gapL]
  constructor
  · intro hx
    obtain ⟨a, b, _⟩ := h.val x hx
    exact ⟨hm _ a, List.count_pos_iff.2 a, b⟩
  · rintro ⟨_, b, c⟩
    have hxG := List.count_pos_iff.1 b
    obtain ⟨y, hy, e⟩ := h.all x.1 hxG (he _)
    have hb := (h.val y hy).2.1
    have : y = x := Prod.ext e (by rw [hb, c, e])
    rwa [← this]
theorem ltG (x y : Nat × Nat) : ltOf (fun x y : Nat × Nat => Lib.compareInt x.1 y.1) x y = decide (x.1 < y.1) := by
  unfold ltOf Lib.compareInt
  by_cases h1 : x.1 < y.1
  · simp [h1]
  · by_cases h2 : y.1 < x.1 <;> simp [h1, h2]
theorem swoG : «Sort».SWO (ltOf fun x y : Nat × Nat => Lib.compareInt x.1 y.1) where
  irrefl x := by rw [ltG]; simp
  trans x y z h1 h2 := by rw [ltG] at *; simp at *; omega
  ntrans x y z h1 h2 := by rw [ltG] at *; simp at *; omega
theorem heap_putRowK (w : World) (q g : Nat) (d : Array (Nat × Nat)) (b : Nat) (h : b ≠ g) : («Sort».putRowK encG 2 («Sort».ahead w q) g 0 d).heap[b]? = w.heap[b]? := by
  unfold «Sort».putRowK «Sort».putRow «Sort».mapBlock
  show ((«Sort».ahead w q).heap.modify g _)[b]? = _
  rw [Array.getElem?_modify, if_neg (Ne.symm h)]
  rfl
theorem sortFunc_own (X g cap : Nat) (L : List (Nat × Nat)) (w : World) (h : Rw EG 29 w X (.slice (some ⟨g, 0, none⟩) L.length cap) L) (hl : L.length ≤ 12) :
    Calls Try.prog 12 #[.slice (some ⟨g, 0, none⟩) L.length cap, .func (.func 13) #[] #[]] w fun e w' => e = .returned (.tuple #[]) ∧ ∃ L' : List (Nat × Nat), L'.Perm L ∧ (L'.Pairwise fun x y => x.1 ≤ y.1) ∧ Rd EG w' (.slice (some ⟨g, 0, none⟩) L.length cap) L' ∧ Below X w w' := by
  have eg : ∀ args w, (callFunc 13 args).run Try.prog w = .ok (.enter 13 args) w := enters_of Try.func13 (by kernel_rfl) rfl
  have hlt := h.lt
  have hXg : X ≤ g := by
    rcases h.2 with ⟨h0, _⟩ | ⟨g', cap', cur, hv, hb0, _⟩
    · cases h0
    · simp only [Value.slice.injEq, Option.some.injEq, Addr.mk.injEq] at hv
      obtain ⟨⟨rfl, _⟩, _⟩ := hv
      exact hb0
  have hcon := AnyQ.slices_SortFunc_small_sorted l12 2 Try.isAgg29 Try.sizeOf29 encG (fun _ => rfl) (fun x v hv => by simp [encG] at hv; rcases hv with rfl | rfl <;> rfl) (fun x y => Lib.compareInt x.1 y.1) 13 #[] swoG g 0 cap L.toArray w eg
    (fun _ _ _ _ x y => closure13 x y _) h.holdsK hlt (by simpa using hl) (fun n W hn => (Any.bits_Len l19 n W (by omega) (by omega)).mono fun _ _ ⟨he, hw⟩ => ⟨⟨_, he⟩, hw⟩)
  change Calls Try.prog 12 _ _ _ at hcon
  refine hcon.mono ?_
  rintro e w' ⟨rfl, d', q, os, ⟨hp1, _, hp3⟩, hs, rfl⟩
  simp only [List.size_toArray] at hp1 hp3 hs
  have hH := holdsK_sortWorldK_c encG 2 w g 0 L.toArray d' q os h.holdsK hlt (by simpa using hp1)
  refine ⟨rfl, d'.toList, ?_, ?_, ⟨g, cap, ?_, ?_, ?_⟩, ?_⟩
  · rw [Array.extract_eq_self_of_le (by omega), Array.extract_eq_self_of_le (by simp)] at hp3
    simpa using hp3
  · rw [List.pairwise_iff_getElem]
    intro i j hi hj hij
    have := hs i j (Nat.zero_le _) hij (by simpa [hp1] using hj)
    rw [ltG] at this
    simp only [Array.length_toList] at hi hj
    rw [getElem!_pos d' i hi, getElem!_pos d' j hj] at this
    simp at this ⊢
    omega
  · simp [hp1]
  · have := size_sortWorldK_c encG 2 w g 0 q d' os
    omega
  · intro j x i u hj hi
    have hj2 : j < d'.size := by
      have := (List.getElem?_eq_some_iff.1 hj).1
      simpa using this
    have := HoldsK.cells hH (fun _ => rfl) hj2 i u (by
      rw [getElem!_pos d' j hj2]
      have : d'[j] = x := by
        have := hj
        rw [Array.getElem?_toList, Array.getElem?_eq_getElem hj2] at this
        simpa using this
      rw [this]; exact hi)
    rw [Addr.add_lit] at this
    simpa using this
  · refine ⟨rfl, rfl, rfl, ?_, fun b hb => ?_⟩
    · exact size_sortWorldK_c encG 2 w g 0 q d' os
    · unfold sortWorldK
      by_cases hbs : b < w.heap.size
      · rw [«Sort».heap_grow_old _ _ (by rw [«Sort».size_putRowK]; exact hbs), heap_putRowK _ _ _ _ _ (by omega)]
      · omega
end Go.Proofs.Ytkmnelmgckbmpaa
