/- Acts that came in. -/
import Derived.Test.YtklnnpacfjnnlaaGreatDoorZ
import Derived.Test.YtklnnpacfjnnlaaGreatDoorWb
import Derived.OpenShut
namespace Go.Proofs.YtklnnpacfjnnlaaGreatDoor
open Go.ChangeShapes Go.WideShapes Go.ChangeAt Go.RowKit
instance : Inhabited AcT := ⟨⟨0, 0, ⟨#[]⟩, []⟩⟩
theorem cells43 : Tryz.prog.cellsOf 43 = 4 := by kernel_rfl
theorem bytes43 : Tryz.prog.bytesOf 43 = 56 := by kernel_rfl
section
variable {H : Type} {enc : TypeId × Value → H}
theorem intsX_of {W : World} {fuel : Nat} {v : Value} {x : DataW H × List MemPlace} (h : DataW.trod enc Tryz.prog W 0 (fun _ => true) true fuel 41 [v] = some x) (hlt : ∀ y ∈ x.2, y.block < W.heap.size) : ∃ xs : List Int, IntsX W v xs := by
  rcases open_ints Tryz.underlying41 Tryz.underlying3 cells3 h with ⟨hcs, rfl⟩ | ⟨a, len', cap', zs, hcs, _, hl, hm, hz, rfl, hcell, hwz⟩
  · simp at hcs
    subst hcs
    exact ⟨[], none, 0, rfl, by simp, fun h => by simp at h⟩
  · simp at hcs
    subst hcs
    simp only [if_true] at hz
    have hlen : (zs.take len').length = len' := by rw [List.length_take]; omega
    refine ⟨zs.take len', some a, cap', by rw [hlen], by omega, fun h0 => ⟨a, rfl, ?_, fun i u hu => ?_⟩⟩
    · have hbW := hlt (MemPlace.cell a.block a.off) (MemPlace.mem_row.2 ⟨0, by omega, by simp⟩)
      exact hbW
    · rw [List.getElem?_take] at hu
      split at hu
      · rw [hcell i (by omega)]
        simp [List.getD, hu]
      · cases hu
set_option maxRecDepth 100000 in
theorem acts_of_arg {W : World} {base : Nat} {v : Value} {d : DataW H} {p : List MemPlace} {ts : List TypeId} {ds : List (DataW H)} {j : Nat}
    (hval : Value.okWide Tryz.prog W .any base 37 v) (h : DataW.Trod enc Tryz.prog W 0 (fun _ => true) true 37 v d p) (hlt : ∀ x ∈ p, x.block < W.heap.size)
    (hsz : (DataW.weightsEach Tryz.prog ts ds).all (· ≤ reachBytes) = true) (ht : ts[j]? = some 37) (hd : ds[j]? = some d) :
    ∃ L : List AcT, Acts W v L := by
  obtain ⟨a0, len, cap, rfl⟩ := okWide_slice Tryz.underlying37 hval
  obtain ⟨fuel, hf⟩ := h
  rcases Deep.open_slice Tryz.underlying37 hf with ⟨hcs, hx⟩ | ⟨a, len', cap', m, n, D, Pl, hcs, _, hl, hm, hmm, hx, hel⟩
  · simp [Value.cells] at hcs
    obtain ⟨rfl, rfl, rfl⟩ := hcs
    exact ⟨[], by simp, none, 0, rfl, by simp, fun j a h => by simp at h⟩
  · simp [Value.cells] at hcs
    obtain ⟨rfl, rfl, rfl⟩ := hcs
    simp only [Prod.mk.injEq] at hx
    obtain ⟨rfl, rfl⟩ := hx
    simp only [if_true] at hmm
    subst hmm
    have hreach : len * 56 ≤ 140737488351232 := by
      have := sized_slice hsz ht hd Tryz.underlying37
      rw [bytes43] at this
      simp only [List.length_map, List.length_range, reachBytes] at this
      omega
    have each : ∀ i, i < len → ∃ t : AcT, -9223372036854775808 ≤ t.n ∧ t.n ≤ 9223372036854775807 ∧ ∃ ad kv, some a = some ad ∧ ad.block < W.heap.size ∧
        W.cell? (ad.add (i * 4)) = some (.int .i64 t.kind) ∧ W.cell? (ad.add (i * 4 + 1)) = some (.int .i64 t.n) ∧ W.cell? (ad.add (i * 4 + 2)) = some (.string t.line) ∧ W.cell? (ad.add (i * 4 + 3)) = some kv ∧ IntsX W kv t.keep := by
      intro i hi
      obtain ⟨cs', h1, h2⟩ := hel i (by omega)
      rw [cells43] at h1
      obtain ⟨_, hlen, hcell⟩ := World.cells?_some h1
      obtain ⟨xs, k, _, hxy, _, hxl, hfl⟩ := DataW.trod_struct Tryz.underlying43 h2
      match xs, hxl, cs', hlen with
      | [y0, y1, y2, y3], _, [v0, v1, v2, v3], _ =>
        have g0 := hfl 0 _ rfl
        have g1 := hfl 1 _ rfl
        have g2 := hfl 2 _ rfl
        have g3 := hfl 3 _ rfl
        simp [cells3, cells9, show Tryz.prog.cellsOf 41 = 1 by kernel_rfl] at g0 g1 g2 g3
        have e0 := hcell 0 (by omega)
        have e1 := hcell 1 (by omega)
        have e2 := hcell 2 (by omega)
        have e3 := hcell 3 (by omega)
        rw [addr_add] at e0 e1 e2 e3
        simp only [List.getElem?_cons_zero, List.getElem?_cons_succ, Nat.add_zero] at e0 e1 e2 e3
        obtain ⟨z0, w0, -, -⟩ := DataW.trod_int Tryz.underlying3 g0
        obtain ⟨z1, w1, q1, q2⟩ := DataW.trod_int Tryz.underlying3 g1
        obtain ⟨s2, w2, -, -⟩ := DataW.trod_string Tryz.underlying9 g2
        simp only [List.cons.injEq, and_true] at w0 w1 w2
        subst w0 w1 w2
        simp only [Prod.mk.injEq] at hxy
        have hpl : ∀ y ∈ y3.2, y.block < W.heap.size := fun y hy => hlt y (by
          refine List.mem_append_right _ (List.mem_flatMap.2 ⟨i, by simp; omega, ?_⟩)
          rw [hxy.2]
          simp [hy])
        obtain ⟨keep, hk⟩ := intsX_of g3 hpl
        have hbW := hlt (MemPlace.cell a.block a.off) (List.mem_append_left _ (MemPlace.mem_row.2 ⟨0, by rw [cells43]; omega, by simp⟩))
        have hb1 := int_bounds q2
        exact ⟨⟨z0, z1, s2, keep⟩, hb1.1, hb1.2, a, v3, rfl, hbW, e0, e1, e2, e3, hk⟩
    obtain ⟨f, hfx⟩ := Deep.choose_lt (α := AcT) each
    refine ⟨(List.range len).map f, by simp; omega, some a, m, by simp, by simp; omega, fun i t hs => ?_⟩
    simp only [List.getElem?_map, Option.map_eq_some_iff] at hs
    obtain ⟨k, hk, rfl⟩ := hs
    obtain ⟨hi, e⟩ := List.getElem?_eq_some_iff.1 hk
    simp only [List.getElem_range] at e
    subst e
    simp only [List.length_range] at hi
    exact hfx _ hi
end
end Go.Proofs.YtklnnpacfjnnlaaGreatDoor
