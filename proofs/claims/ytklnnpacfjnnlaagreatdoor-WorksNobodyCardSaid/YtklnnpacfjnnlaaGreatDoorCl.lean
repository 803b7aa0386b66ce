/- The state's clone: slices.Clone, maps.Clone. -/
import Derived.Test.YtklnnpacfjnnlaaGreatDoorSy
import Derived.Test.YtklnnpacfjnnlaaGreatDoorShe
namespace Go.Proofs.YtklnnpacfjnnlaaGreatDoor
open Go.RowKit
/-- spots in memory -/
def spEnc : Enc (Int × Int) 2 := prEnc
theorem enc_one {α : Type} {k : Nat} (E : Enc α k) (L : List α) : ∀ v ∈ L.flatMap E.enc, v.oneCell' = true := by
  intro v hv
  obtain ⟨x, -, hx⟩ := List.mem_flatMap.1 hv
  exact E.one x v hx
set_option maxRecDepth 100000 in
set_option maxHeartbeats 1000000 in
theorem cloneV (X : Nat) (v : Value) (L : List Vat) (hl : L.length ≤ 100) (w : World) (hv : Rw vtEnc 121 w X v L) :
    Calls Tryz.prog 152 #[v] w fun e w' => ∃ u, e = .returned u ∧ Rw vtEnc 121 w' w.heap.size u L ∧ Below w.heap.size w w' := by
  obtain ⟨i0, hi, hz0, hz1, hz2⟩ := info_parts vtElt.info
  have hsz : ∀ w, (Go.sizeOf 121).run Tryz.prog w = .ok 3 w := fun w => by simp [sizeOf, typeInfo, hi, hz1]
  rcases hv.2 with ⟨rfl, h0⟩ | ⟨g, cap, cur, rfl, _, hg, _⟩
  · obtain rfl := List.eq_nil_of_length_eq_zero h0
    refine (AnyE.slices_Clone_nil l152 0 0 w).mono ?_
    rintro e w' ⟨rfl, rfl⟩
    exact ⟨_, rfl, Rw.nil _ _, Below.refl _ _⟩
  · refine (AnyE.slices_Clone l152 i0 _ 3 32 hi hz0 hz1 hz2 vtElt.zc (by omega) hsz g 0 L.length cap (L.flatMap vtEnc.enc) w (enc_length vtEnc L) (by unfold maxLen; omega) (by omega) (fun j u hj => ?_) (enc_one vtEnc L)).mono ?_
    · have := World.ownsRow.cells hv (g := g) rfl j u hj
      rw [addr_head] at this
      rw [Nat.zero_add]; exact this
    · rintro e w' ⟨u, rfl, h1, -, h3⟩
      exact ⟨u, rfl, h1, h3⟩
set_option maxRecDepth 100000 in
set_option maxHeartbeats 1000000 in
theorem cloneS (X : Nat) (v : Value) (L : List (Int × Int)) (hl : L.length ≤ 100) (w : World) (hv : Rw spEnc 150 w X v L) :
    Calls Tryz.prog 153 #[v] w fun e w' => ∃ u, e = .returned u ∧ Rw spEnc 150 w' w.heap.size u L ∧ Below w.heap.size w w' := by
  have info : (Tryz.prog.info? 150).map (fun i => (i.zero, i.size, i.bytes)) = some (some (.agg #[.int .i64 0, .int .i64 0]), 2, 16) := by kernel_rfl
  obtain ⟨i0, hi, hz0, hz1, hz2⟩ := info_parts info
  have hsz : ∀ w, (Go.sizeOf 150).run Tryz.prog w = .ok 2 w := fun w => by simp [sizeOf, typeInfo, hi, hz1]
  rcases hv.2 with ⟨rfl, h0⟩ | ⟨g, cap, cur, rfl, _, hg, _⟩
  · obtain rfl := List.eq_nil_of_length_eq_zero h0
    refine (AnyE.slices_Clone_nil l153 0 0 w).mono ?_
    rintro e w' ⟨rfl, rfl⟩
    exact ⟨_, rfl, Rw.nil _ _, Below.refl _ _⟩
  · refine (AnyE.slices_Clone l153 i0 _ 2 16 hi hz0 hz1 hz2 rfl (by omega) hsz g 0 L.length cap (L.flatMap spEnc.enc) w (enc_length spEnc L) (by unfold maxLen; omega) (by omega) (fun j u hj => ?_) (enc_one spEnc L)).mono ?_
    · have := World.ownsRow.cells hv (g := g) rfl j u hj
      rw [addr_head] at this
      rw [Nat.zero_add]; exact this
    · rintro e w' ⟨u, rfl, h1, -, h3⟩
      exact ⟨u, rfl, h1, h3⟩
theorem cloneG (b : Nat) (es : Array MapEntry) (clock : Nat) (w : World) (hb : w.heap[b]? = some (.map es clock)) :
    Calls Tryz.prog 154 #[.map (some b)] w fun e w' => e = .returned (.map (some w.heap.size)) ∧ w' = w.alloc (.map es clock) := AnyW.maps_Clone l154 b es clock w hb
theorem cloneP (b : Nat) (es : Array MapEntry) (clock : Nat) (w : World) (hb : w.heap[b]? = some (.map es clock)) :
    Calls Tryz.prog 155 #[.map (some b)] w fun e w' => e = .returned (.map (some w.heap.size)) ∧ w' = w.alloc (.map es clock) := AnyW.maps_Clone l155 b es clock w hb
theorem alloc_drew (w : World) (o : Obj) : Below w.heap.size w (w.drew.alloc o) ∧ (w.drew.alloc o).heap.size = w.heap.size + 1 ∧ (w.drew.alloc o).heap[w.heap.size]? = some o := by
  have hd : w.drew.heap.size = w.heap.size := by simp [World.drew, -World.drew_eq]
  refine ⟨(Below.refl _ _).drew.alloc (by omega) _, ?_, ?_⟩
  · rw [World.size_alloc, hd]
  · have := heap_alloc_new w.drew o
    rwa [hd] at this
theorem alloc_plain (w : World) (o : Obj) : Below w.heap.size w (w.alloc o) ∧ (w.alloc o).heap.size = w.heap.size + 1 ∧ (w.alloc o).heap[w.heap.size]? = some o :=
  ⟨(Below.refl _ _).alloc (Nat.le_refl _) _, World.size_alloc _ _, heap_alloc_new w o⟩
/-- the cells of a state -/
def Row5 (w : World) (s : Nat) (v g p gv cv : Value) : Prop := (∀ j, w.cell? ⟨s, j, none⟩ = #[v, g, p, gv, cv][j]?) ∧ ∀ j, w.frozen? ⟨s, j, none⟩ = false
theorem Row5.of {w : World} {s : Nat} {v g p gv cv : Value} (h : w.heap[s]? = some (.cells #[v, g, p, gv, cv] 130 (0, 0))) : Row5 w s v g p gv cv := by
  refine ⟨fun j => cell_of_row w s j _ 130 (0, 0) h, fun j => ?_⟩
  unfold World.frozen?
  rw [h]
  simp
theorem Row5.lt {w : World} {s : Nat} {v g p gv cv : Value} (h : Row5 w s v g p gv cv) : s < w.heap.size := block_lt_of_cell (a := ⟨s, 0, none⟩) (h.1 0)
theorem Row5.cell {w : World} {s : Nat} {v g p gv cv : Value} (h : Row5 w s v g p gv cv) (j : Nat) : w.cell? ⟨s, j, none⟩ = #[v, g, p, gv, cv][j]? := h.1 j
theorem Row5.free {w : World} {s : Nat} {v g p gv cv : Value} (h : Row5 w s v g p gv cv) (j : Nat) : w.frozen? ⟨s, j, none⟩ = false := h.2 j
theorem Row5.same {w w' : World} {s : Nat} {v g p gv cv : Value} (h : Row5 w s v g p gv cv) (hb : w'.heap[s]? = w.heap[s]?) : Row5 w' s v g p gv cv :=
  ⟨fun j => (World.cell?_of_block (w := w) (a := ⟨s, j, none⟩) hb).trans (h.1 j), fun j => (World.frozen?_of_block (w := w) (a := ⟨s, j, none⟩) hb).trans (h.2 j)⟩
theorem Row5.keep {w w' : World} {s n : Nat} {v g p gv cv : Value} (h : Row5 w s v g p gv cv) (hb : Below n w w') (hn : s < n) : Row5 w' s v g p gv cv := h.same (hb.block s hn)
theorem Row5.set {w : World} {s : Nat} {v g p gv cv : Value} (h : Row5 w s v g p gv cv) (j : Nat) (y x : Value) (hj : #[v, g, p, gv, cv][j]? = some y) (v' g' p' gv' cv' : Value) (he : ∀ i, #[v', g', p', gv', cv'][i]? = if i = j then some x else #[v, g, p, gv, cv][i]?) : Row5 (w.setCell ⟨s, j, none⟩ x) s v' g' p' gv' cv' := by
  refine ⟨fun i => ?_, fun i => by rw [World.frozen?_setCell]; exact h.2 i⟩
  rw [he]
  by_cases hi : i = j
  · subst hi
    rw [if_pos rfl]
    exact World.cell?_setCell_same _ _ _ ((h.1 i).trans hj)
  · rw [if_neg hi, World.cell?_setCell_other _ _ _ _ (by simp)]
    exact h.1 i
theorem arr5 {v g p gv cv v' g' p' gv' cv' x : Value} {j : Nat} (h : ∀ i : Fin 5, #[v', g', p', gv', cv'][i.1]? = if i.1 = j then some x else #[v, g, p, gv, cv][i.1]?) (hj : j < 5) : ∀ i, #[v', g', p', gv', cv'][i]? = if i = j then some x else #[v, g, p, gv, cv][i]? := by
  intro i
  by_cases hi : i < 5
  · exact h ⟨i, hi⟩
  · rw [if_neg (by omega), Array.getElem?_eq_none (by simp; omega), Array.getElem?_eq_none (by simp; omega)]
theorem Row5.set0 {w : World} {s : Nat} {v g p gv cv : Value} (h : Row5 w s v g p gv cv) (x : Value) : Row5 (w.setCell ⟨s, 0, none⟩ x) s x g p gv cv :=
  h.set 0 v x rfl _ _ _ _ _ (arr5 (fun i => by match i with | 0 => rfl | 1 => rfl | 2 => rfl | 3 => rfl | 4 => rfl) (by omega))
theorem Row5.set1 {w : World} {s : Nat} {v g p gv cv : Value} (h : Row5 w s v g p gv cv) (x : Value) : Row5 (w.setCell ⟨s, 1, none⟩ x) s v x p gv cv :=
  h.set 1 g x rfl _ _ _ _ _ (arr5 (fun i => by match i with | 0 => rfl | 1 => rfl | 2 => rfl | 3 => rfl | 4 => rfl) (by omega))
theorem Row5.set2 {w : World} {s : Nat} {v g p gv cv : Value} (h : Row5 w s v g p gv cv) (x : Value) : Row5 (w.setCell ⟨s, 2, none⟩ x) s v g x gv cv :=
  h.set 2 p x rfl _ _ _ _ _ (arr5 (fun i => by match i with | 0 => rfl | 1 => rfl | 2 => rfl | 3 => rfl | 4 => rfl) (by omega))
theorem Row5.set4 {w : World} {s : Nat} {v g p gv cv : Value} (h : Row5 w s v g p gv cv) (x : Value) : Row5 (w.setCell ⟨s, 4, none⟩ x) s v g p gv x :=
  h.set 4 cv x rfl _ _ _ _ _ (arr5 (fun i => by match i with | 0 => rfl | 1 => rfl | 2 => rfl | 3 => rfl | 4 => rfl) (by omega))
/-- the state with the vats L, the crates C and the maps' entries ge, pe lies at block s; its parts from block B on -/
def Sta (w : World) (B s : Nat) (L : List Vat) (C : List (Int × Int)) (ge pe : Array MapEntry × Nat) (gv : Value) : Prop :=
  ∃ v cv gm pm, Row5 w s v (.map (some gm)) (.map (some pm)) gv cv ∧ Rw vtEnc 121 w B v L ∧ Rw spEnc 150 w B cv C ∧ w.heap[gm]? = some (.map ge.1 ge.2) ∧ w.heap[pm]? = some (.map pe.1 pe.2) ∧
    B ≤ s ∧ B ≤ gm ∧ B ≤ pm ∧ gm ≠ pm ∧ v.ownBlock ≠ some s ∧ cv.ownBlock ≠ some s ∧ ∀ b, v.ownBlock = some b → cv.ownBlock ≠ some b
theorem Sta.keep {w w' : World} {B s : Nat} {L : List Vat} {C : List (Int × Int)} {ge pe : Array MapEntry × Nat} {gv : Value} (h : Sta w B s L C ge pe gv) (hb : Below w.heap.size w w') : Sta w' B s L C ge pe gv := by
  obtain ⟨v, cv, gm, pm, h1, h2, h3, h4, h5, h6, h7, h8, h9⟩ := h
  exact ⟨v, cv, gm, pm, h1.keep hb h1.lt, h2.keep hb, h3.keep hb, (hb.block gm (Array.getElem?_eq_some_iff.1 h4).1).trans h4, (hb.block pm (Array.getElem?_eq_some_iff.1 h5).1).trans h5, h6, h7, h8, h9⟩
set_option maxHeartbeats 4000000 in
set_option maxRecDepth 100000 in
theorem clone_any (s X : Nat) (gA : Option Addr) (gn gc : Nat) (ges pes : Array MapEntry) (gcl pcl : Nat) (L : List Vat) (C : List (Int × Int)) (w : World) (hl : L.length ≤ 100) (hC : C.length ≤ 100) (hst : Sta w X s L C (ges, gcl) (pes, pcl) (.slice gA gn gc)) :
    Calls Tryz.prog 99 #[.pointer (some ⟨s, 0, none⟩)] w fun e w' => e = .returned (.pointer (some ⟨w.heap.size, 0, none⟩)) ∧ Below w.heap.size w w' ∧ Sta w' w.heap.size w.heap.size L C (ges, gcl) (pes, pcl) (.slice gA gn gc) := by
  obtain ⟨v, cv, gm, pm, hs, hv, hc, hg, hp, -⟩ := hst
  have hsz := hs.lt
  have hgz : gm < w.heap.size := (Array.getElem?_eq_some_iff.1 hg).1
  have hpz : pm < w.heap.size := (Array.getElem?_eq_some_iff.1 hp).1
  obtain ⟨A1, k1, e1⟩ := hv.form
  obtain ⟨A2, k2, e2⟩ := hc.form
  subst e1
  subst e2
  have s0 := hs.cell 0
  have s1 := hs.cell 1
  have s2 := hs.cell 2
  have s3 := hs.cell 3
  have s4 := hs.cell 4
  simp only [List.getElem?_toArray, List.getElem?_cons_zero, List.getElem?_cons_succ] at s0 s1 s2 s3 s4
  have HV := Lib.hid hv
  have HC := Lib.hid hc
  have HG := Lib.hid hg
  have HP := Lib.hid hp
  have HS := Lib.hid hs
  clear hv hc hg hp hs
  go_enter Tryz.func99, Tryz.ntmps99
  go_wp2_with fail
  obtain ⟨w1, hw1⟩ : ∃ w1, w1 = w.alloc (.cells #[.slice A1 L.length k1, .map (some gm), .map (some pm), .slice gA gn gc, .slice A2 C.length k2] 130) := ⟨_, rfl⟩
  have bw1 : Below w.heap.size w w1 := by rw [hw1]; exact (Below.refl _ w).alloc (Nat.le_refl _) _
  have z1 : w1.heap.size = w.heap.size + 1 := by rw [hw1]; simp
  have R1 : Row5 w1 w.heap.size (.slice A1 L.length k1) (.map (some gm)) (.map (some pm)) (.slice gA gn gc) (.slice A2 C.length k2) := by rw [hw1]; exact Row5.of (heap_alloc_new w _)
  rw [← hw1]
  have a0 := (bw1.cell (p := ⟨s, 0, none⟩) hsz).trans s0
  have a4 := (bw1.cell (p := ⟨s, 4, none⟩) hsz).trans s4
  have n0 := R1.cell 0
  have n4 := R1.cell 4
  simp only [List.getElem?_toArray, List.getElem?_cons_zero, List.getElem?_cons_succ] at n0 n4
  have f0 := R1.free 0
  have f4 := R1.free 4
  have HCV := Lib.hid (cloneV X _ L hl w1.drew ((HV.out.keep bw1).keep (Below.refl _ _).drew))
  have HBW := Lib.hid bw1
  have HR1 := Lib.hid R1
  have hn1 : w.heap.size < w1.heap.size := by omega
  have hs1 : s < w1.heap.size := by omega
  clear hw1 bw1 R1
  have s0' := s0
  have s4' := s4
  have SK := Lib.hid (fun (W : World) (HZ : Below w.heap.size w W) => (⟨(HZ.cell (p := ⟨s, 0, none⟩) hsz).trans s0', (HZ.cell (p := ⟨s, 4, none⟩) hsz).trans s4', HZ⟩ : W.cell? ⟨s, 0, none⟩ = some (.slice A1 L.length k1) ∧ W.cell? ⟨s, 4, none⟩ = some (.slice A2 C.length k2) ∧ Below w.heap.size w W))
  go_region_held3 (fun w' => w'.cell? ⟨s, 0, none⟩ = some (.slice A1 L.length k1) ∧ w'.cell? ⟨s, 4, none⟩ = some (.slice A2 C.length k2) ∧ Below w.heap.size w w')
    (first
      | exact SK.out _ ((B6.setCell (p := ⟨w.heap.size, 0, none⟩) (Nat.le_refl _) _).setCell (p := ⟨w.heap.size, 4, none⟩) (Nat.le_refl _) _)
      | exact SK.out _ (B6.setCell (p := ⟨w.heap.size, 0, none⟩) (Nat.le_refl _) _)
      | exact SK.out _ B6
      | exact SK.out _ B5
      | exact SK.out _ HBW.out.drew
      | exact SK.out _ HBW.out)
    (first
      | (go_at_call 152
         ((with_reducible refine HCV.out.mono ?_); rintro e w5 ⟨u5, rfl, hR5, hb5⟩)
         obtain ⟨A5, k5, e5⟩ := hR5.form
         subst e5
         have B15 : Below w1.heap.size w1 w5 := (Below.refl _ _).drew.trans hb5
         have B5 : Below w.heap.size w w5 := HBW.out.trans (B15.mono (by omega)))
      | (go_at_call 153
         ((with_reducible refine (cloneS X _ C hC w5 (((HC.out.keep HBW.out).keep (Below.refl _ _).drew).keep hb5)).mono ?_); rintro e w6 ⟨u6, rfl, hR6, hb6⟩)
         obtain ⟨A6, k6, e6⟩ := hR6.form
         subst e6
         have B16 : Below w1.heap.size w1 w6 := B15.trans (hb6.mono B15.size)
         have B6 : Below w.heap.size w w6 := HBW.out.trans (B16.mono (by omega))
         have m0 := (B16.cell (p := ⟨w.heap.size, 0, none⟩) hn1).trans n0
         have m4 := (B16.cell (p := ⟨w.heap.size, 4, none⟩) hn1).trans n4
         have mf0 := (B16.frozen (p := ⟨w.heap.size, 0, none⟩) hn1).trans f0
         have mf4 := (B16.frozen (p := ⟨w.heap.size, 4, none⟩) hn1).trans f4))
  obtain ⟨w7, hw7⟩ : ∃ w7, w7 = (w6.setCell ⟨w.heap.size, 0, none⟩ (.slice A5 L.length k5)).setCell ⟨w.heap.size, 4, none⟩ (.slice A6 C.length k6) := ⟨_, rfl⟩
  rw [← hw7]
  have b7 : Below w.heap.size w w7 := by rw [hw7]; exact (B6.setCell (p := ⟨w.heap.size, 0, none⟩) (Nat.le_refl _) _).setCell (p := ⟨w.heap.size, 4, none⟩) (Nat.le_refl _) _
  have o7 : ∀ b, b ≠ w.heap.size → w7.heap[b]? = w6.heap[b]? := fun b hb => by rw [hw7, heap_setCell_ne _ _ _ _ hb, heap_setCell_ne _ _ _ _ hb]
  have hR6b : Row5 w6 w.heap.size (.slice A1 L.length k1) (.map (some gm)) (.map (some pm)) (.slice gA gn gc) (.slice A2 C.length k2) := HR1.out.keep B16 hn1
  have R7 : Row5 w7 w.heap.size (.slice A5 L.length k5) (.map (some gm)) (.map (some pm)) (.slice gA gn gc) (.slice A6 C.length k6) := by
    rw [hw7]
    exact (hR6b.set0 _).set4 _
  have z7 : w7.heap.size = w6.heap.size := by rw [hw7]; simp [World.setCell]
  have RV7 : Rw vtEnc 121 w7 w1.heap.size (.slice A5 L.length k5) L := (hR5.keep (hb6)).same fun b hb _ => o7 b (fun e => by have : w1.heap.size ≤ b := (World.ownsRow.lt hR5 b hb).1; omega)
  have RC7 : Rw spEnc 150 w7 w5.heap.size (.slice A6 C.length k6) C := hR6.same fun b hb _ => o7 b (fun e => by have : w5.heap.size ≤ b := (World.ownsRow.lt hR6 b hb).1; have := B15.size; omega)
  have ne7 : ∀ b, (Value.slice A5 L.length k5).ownBlock = some b → b < w5.heap.size := fun b hb => (World.ownsRow.lt hR5 b hb).2
  have c1 := (b7.cell (p := ⟨s, 1, none⟩) hsz).trans s1
  have c2 := (b7.cell (p := ⟨s, 2, none⟩) hsz).trans s2
  have hg7 := (b7.block gm hgz).trans HG.out
  have hp7 := (b7.block pm hpz).trans HP.out
  have d1 := R7.cell 1
  have d2 := R7.cell 2
  simp only [List.getElem?_toArray, List.getElem?_cons_zero, List.getElem?_cons_succ] at d1 d2
  have g1 := R7.free 1
  have g2 := R7.free 2
  have z56 := hb6.size
  have z15 := B15.size
  have zz : w.heap.size < w7.heap.size := by omega
  have HRV := Lib.hid RV7
  have HRC := Lib.hid RC7
  have HNE := Lib.hid ne7
  have HB7 := Lib.hid b7
  have HR7 := Lib.hid R7
  have HCG := Lib.hid (cloneG gm ges gcl w7.drew hg7)
  have HP7 := Lib.hid hp7
  clear hw7 o7 hR6b SK HCV n0 n4 m0 m4 mf0 mf4 RV7 RC7 ne7 B6 B16 B5 B15 hb5 hb6 hR5 hR6 s0' s4' HR1 R7 hg7 hp7 a0 a4 f0 f4
  go_wp2_with fail
  have SK : RowKit.Hid (∀ W : World, Below w.heap.size w W → (W.cell? ⟨s, 1, none⟩ = some (.map (some gm)) ∧ W.cell? ⟨s, 2, none⟩ = some (.map (some pm)) ∧ Below w.heap.size w W)) := Lib.hid (fun W HZ => ⟨(HZ.cell (p := ⟨s, 1, none⟩) hsz).trans s1, (HZ.cell (p := ⟨s, 2, none⟩) hsz).trans s2, HZ⟩)
  have hs7 : s < w7.heap.size := by omega
  have hgm7 : pm < w7.heap.size := by omega
  go_region_held3 (fun w' => w'.cell? ⟨s, 1, none⟩ = some (.map (some gm)) ∧ w'.cell? ⟨s, 2, none⟩ = some (.map (some pm)) ∧ Below w.heap.size w w')
    (first
      | exact SK.out _ ((B9.setCell (p := ⟨w.heap.size, 1, none⟩) (Nat.le_refl _) _).setCell (p := ⟨w.heap.size, 2, none⟩) (Nat.le_refl _) _)
      | exact SK.out _ (B9.setCell (p := ⟨w.heap.size, 1, none⟩) (Nat.le_refl _) _)
      | exact SK.out _ B9
      | exact SK.out _ B8
      | exact SK.out _ HB7.out.drew
      | exact SK.out _ HB7.out)
    (first
      | (go_at_call 154
         ((with_reducible refine HCG.out.mono ?_); rintro e w8 ⟨rfl, hw8⟩)
         obtain ⟨B78, z8, hM8⟩ : Below w7.heap.size w7 w8 ∧ w8.heap.size = w7.heap.size + 1 ∧ w8.heap[w7.heap.size]? = some (.map ges gcl) := by rw [hw8]; exact alloc_drew w7 (.map ges gcl)
         clear hw8
         have B8 : Below w.heap.size w w8 := HB7.out.trans (B78.mono (by omega)))
      | (go_at_call 155
         ((with_reducible refine (cloneP pm pes pcl w8 ((B78.block pm hgm7).trans HP7.out)).mono ?_); rintro e w9 ⟨rfl, hw9⟩)
         obtain ⟨B89, z9, hM9⟩ : Below w8.heap.size w8 w9 ∧ w9.heap.size = w8.heap.size + 1 ∧ w9.heap[w8.heap.size]? = some (.map pes pcl) := by rw [hw9]; exact alloc_plain w8 (.map pes pcl)
         clear hw9
         have B79 : Below w7.heap.size w7 w9 := B78.trans (B89.mono (by omega))
         have B9 : Below w.heap.size w w9 := HB7.out.trans (B79.mono (by omega))
         have m1 := (B79.cell (p := ⟨w.heap.size, 1, none⟩) (by show w.heap.size < _; omega)).trans d1
         have m2 := (B79.cell (p := ⟨w.heap.size, 2, none⟩) (by show w.heap.size < _; omega)).trans d2
         have mf1 := (B79.frozen (p := ⟨w.heap.size, 1, none⟩) (by show w.heap.size < _; omega)).trans g1
         have mf2 := (B79.frozen (p := ⟨w.heap.size, 2, none⟩) (by show w.heap.size < _; omega)).trans g2))
  obtain ⟨w10, hw10⟩ : ∃ w10, w10 = (w9.setCell ⟨w.heap.size, 1, none⟩ (.map (some w6.heap.size))).setCell ⟨w.heap.size, 2, none⟩ (.map (some (w6.heap.size + 1))) := ⟨_, rfl⟩
  rw [← hw10]
  have b10 : Below w.heap.size w w10 := by rw [hw10]; exact (B9.setCell (p := ⟨w.heap.size, 1, none⟩) (Nat.le_refl _) _).setCell (p := ⟨w.heap.size, 2, none⟩) (Nat.le_refl _) _
  have o10 : ∀ b, b ≠ w.heap.size → w10.heap[b]? = w9.heap[b]? := fun b hb => by rw [hw10, heap_setCell_ne _ _ _ _ hb, heap_setCell_ne _ _ _ _ hb]
  have R9 : Row5 w9 w.heap.size (.slice A5 L.length k5) (.map (some gm)) (.map (some pm)) (.slice gA gn gc) (.slice A6 C.length k6) := HR7.out.keep B79 (by omega)
  have R10 : Row5 w10 w.heap.size (.slice A5 L.length k5) (.map (some w6.heap.size)) (.map (some (w6.heap.size + 1))) (.slice gA gn gc) (.slice A6 C.length k6) := by
    rw [hw10]
    exact (R9.set1 _).set2 _
  have V10 : Rw vtEnc 121 w10 w1.heap.size (.slice A5 L.length k5) L := (HRV.out.keep B79).same fun b hb _ => o10 b (fun e => by have : w1.heap.size ≤ b := (World.ownsRow.lt HRV.out b hb).1; omega)
  have C10 : Rw spEnc 150 w10 w5.heap.size (.slice A6 C.length k6) C := (HRC.out.keep B79).same fun b hb _ => o10 b (fun e => by have : w5.heap.size ≤ b := (World.ownsRow.lt HRC.out b hb).1; omega)
  have G10 : w10.heap[w6.heap.size]? = some (.map ges gcl) := by
    rw [o10 _ (by omega), ← z7, B89.block _ (by omega)]; exact hM8
  have P10 : w10.heap[w6.heap.size + 1]? = some (.map pes pcl) := by
    rw [o10 _ (by omega), ← z7, ← z8]; exact hM9
  have FIN : Sta w10 w.heap.size w.heap.size L C (ges, gcl) (pes, pcl) (.slice gA gn gc) := by
    refine ⟨_, _, _, _, R10, V10.base (by omega), C10.base (by omega), G10, P10, Nat.le_refl _, by omega, by omega, by omega, fun e => ?_, fun e => ?_, fun b hb hb2 => ?_⟩
    · have : w1.heap.size ≤ w.heap.size := (World.ownsRow.lt V10 _ e).1
      omega
    · have : w5.heap.size ≤ w.heap.size := (World.ownsRow.lt C10 _ e).1
      omega
    · have h1 := HNE.out b hb
      have h2 : w5.heap.size ≤ b := (World.ownsRow.lt C10 _ hb2).1
      omega
  have HF := Lib.hid FIN
  have HB := Lib.hid b10
  clear hw10 b10 o10 R9 R10 V10 C10 G10 P10 FIN hM8 hM9 m1 m2 mf1 mf2 B79 B89 B9 B78 B8
  go_wp2_with fail
  go_ret
  exact ⟨rfl, HB.out, HF.out⟩
end Go.Proofs.YtklnnpacfjnnlaaGreatDoor
