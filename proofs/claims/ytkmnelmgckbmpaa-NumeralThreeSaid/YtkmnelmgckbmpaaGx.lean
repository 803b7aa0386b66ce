/- Walk: Gaps of the program inside its domain. -/
import Derived.Test.YtkmnelmgckbmpaaGw
import Derived.Maps.Views
import Derived.Maps.OwnOps
import Derived.Maps.RangeWalk
namespace Go.Proofs.Ytkmnelmgckbmpaa
open Go.RowKit
theorem keyed3 : Maps.Keyed Try.prog 3 := Maps.int_keyed Try.underlying3
theorem zero3 (w : World) : (zeroValue 3).run Try.prog w = .ok (.int .i64 0) w := by kernel_rfl
/-- the key of a gap -/
def gk (g : Nat) : Lit := .int .i64 g
theorem gk_inj {a b : Nat} (h : gk a = gk b) : a = b := by unfold gk at h; simp at h; omega
theorem gk_ok (g : Nat) (h : g ≤ 1000) : keyOf Try.prog 3 (.int .i64 g) = some (gk g) := Maps.keyOf_int_mk Try.underlying3 (WalkArith.wf_i64 (by omega))
/-- the map tells how often each number is in G -/
def MapIs (D : DataW Unit) (G : List Nat) : Prop :=
  Maps.IsMap D ∧ (∀ g : Nat, g ∈ G → Maps.has D (gk g) = true ∧ ∀ z, D.atKey (gk g) z = .lit (.int .i64 (G.count g))) ∧ (∀ kl, Maps.has D kl = true → ∃ g : Nat, g ∈ G ∧ kl = gk g)
theorem MapIs.nil : MapIs (.map []) [] := ⟨Maps.isMap_empty, fun g h => absurd h (by simp), fun kl h => absurd h (by rw [Maps.has_eq]; simp)⟩
theorem MapIs.look {D : DataW Unit} {G : List Nat} (h : MapIs D G) (g : Nat) : D.atKey (gk g) (.lit (.int .i64 0)) = .lit (.int .i64 (G.count g)) := by
  by_cases hg : g ∈ G
  · exact (h.2.1 g hg).2 _
  · have h0 : Maps.has D (gk g) = false := by
      rw [Bool.eq_false_iff]
      intro e
      obtain ⟨g', h1, h2⟩ := h.2.2 _ e
      rw [gk_inj h2] at hg
      exact hg h1
    rw [Maps.atKey_of_not_has h0, List.count_eq_zero.2 hg]
    rfl
theorem MapIs.put {D : DataW Unit} {G : List Nat} (h : MapIs D G) (g : Nat) (hg : g ≤ 1000) : MapIs (D.put (gk g) (.lit (.int .i64 (G.count g + 1 : Nat)))) (G ++ [g]) := by
  obtain ⟨h1, h2, h3⟩ := h
  have hkl := keyed3.key (gk_ok g hg)
  refine ⟨h1.put _ _, fun x hx => ?_, fun kl hk => ?_⟩
  · by_cases e : x = g
    · subst e
      refine ⟨Maps.has_put_same h1 hkl _, fun z => ?_⟩
      rw [Maps.atKey_put_same h1 hkl, List.count_append]
      simp
    · have hne : gk x ≠ gk g := fun e2 => e (gk_inj e2)
      have hxG : x ∈ G := by
        rcases List.mem_append.1 hx with h | h
        · exact h
        · simp at h; exact absurd h e
      refine ⟨by rw [Maps.has_put_other hne]; exact (h2 x hxG).1, fun z => ?_⟩
      rw [Maps.atKey_put_other hne, (h2 x hxG).2 z, List.count_append, List.count_singleton]
      rw [if_neg (by simpa using fun h => e h.symm)]
      rfl
  · by_cases e : kl = gk g
    · exact ⟨g, by simp, e⟩
    · rw [Maps.has_put_other e] at hk
      obtain ⟨x, hx, e2⟩ := h3 kl hk
      exact ⟨x, by simp [hx], e2⟩
/-- v reads as the things L -/
def Rd {α : Type} {k : Nat} (E : Enc α k) (w : World) (v : Value) (L : List α) : Prop :=
  ∃ g c, v = .slice (some ⟨g, 0, none⟩) L.length c ∧ g < w.heap.size ∧ ∀ (j : Nat) (x : α) (i : Nat) (u : Value), L[j]? = some x → (E.enc x)[i]? = some u → w.cell? ⟨g, j * k + i, none⟩ = some u
theorem Rd.keep {α : Type} {k : Nat} {E : Enc α k} {w w' : World} {v : Value} {L : List α} (h : Rd E w v L) (hb : Below w.heap.size w w') : Rd E w' v L := by
  obtain ⟨g, c, e, hg, hc⟩ := h
  exact ⟨g, c, e, Nat.lt_of_lt_of_le hg hb.size, fun j x i u h1 h2 => (hb.cell (p := ⟨g, j * k + i, none⟩) hg).trans (hc j x i u h1 h2)⟩
theorem Rw.free {α : Type} {k : Nat} {E : Enc α k} {e : TypeId} {w : World} {X g n c : Nat} {L : List α} (h : Rw E e w X (.slice (some ⟨g, 0, none⟩) n c) L) (o : Nat) : w.frozen? ⟨g, o, none⟩ = false := by
  rcases h.2 with ⟨h0, _⟩ | ⟨g', cap', cur, hv, hb0, hg, _⟩
  · cases h0
  · simp only [Value.slice.injEq, Option.some.injEq, Addr.mk.injEq] at hv
    obtain ⟨⟨rfl, _⟩, _, rfl⟩ := hv
    simp [World.frozen?, hg]
theorem Rw.holdsK {w : World} {X g n c : Nat} {L : List (Nat × Nat)} (h : Rw EG 29 w X (.slice (some ⟨g, 0, none⟩) n c) L) : «Sort».HoldsK encG 2 w g 0 L.toArray := by
  intro t ht
  rw [«Sort».size_flatK] at ht
  simp only [List.size_toArray] at ht
  have hj : t / 2 < L.length := by omega
  have he : ([Value.int .i64 (L[t / 2]'hj).1, .int .i64 (L[t / 2]'hj).2])[t % 2]? = some ((encG L[t / 2])[t % 2]!) := by
    rcases Nat.mod_two_eq_zero_or_one t with e | e <;> rw [e] <;> rfl
  have hc := h.cell (List.getElem?_eq_getElem hj) (i := t % 2) he
  have ha : t / 2 * 2 + t % 2 = 0 + t := by omega
  rw [ha] at hc
  refine ⟨?_, Rw.free h _⟩
  rw [hc, «Sort».get_flatK _ _ _ t (by simpa using ht)]
  simp [hj, getElem!_pos]
end Go.Proofs.Ytkmnelmgckbmpaa
