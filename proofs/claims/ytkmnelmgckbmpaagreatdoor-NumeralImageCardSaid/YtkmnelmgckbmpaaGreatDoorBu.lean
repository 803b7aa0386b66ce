/- strings.Replacer: the table by bytes is built. -/
import Derived.Test.YtkmnelmgckbmpaaGreatDoorK
import Derived.Test.YtkmnelmgckbmpaaGreatDoorRw
import Derived.Test.YtkmnelmgckbmpaaGreatDoorWo
import Derived.Deep.WholeRow
import Derived.Lib.BufferMore
import Derived.Laws.IdiomStrings
import Derived.Lib.ConvBytes
namespace Go.Proofs.YtkmnelmgckbmpaaGreatDoor
open Go.RowKit
/-- strings in memory -/
def stEnc : Enc ByteArray 1 := ⟨fun s => [.string s], fun _ => rfl, fun _ v h => by simp at h; subst h; rfl⟩
theorem stElt : Elt stEnc 31 9 (.string ByteArray.empty) 16 := ⟨by kernel_rfl, rfl, by omega, Tryz.underlying31, by omega⟩
theorem bsZero : (Tryz.prog.info? 88).map (fun i => (i.zero, i.size)) = some (some (.agg ((Array.replicate 256 (Value.slice none 0 0)).push (.slice none 0 0))), 257) := by kernel_rfl
/-- v reads as bytes -/
def Byts (w : World) (v : Value) (l : List UInt8) : Prop :=
  ∃ (A : Addr) (c : Nat), v = .slice (some A) l.length c ∧ l.length ≤ c ∧ A.block < w.heap.size ∧ ∀ j u, l[j]? = some u → w.cell? (A.add j) = some (.int .u8 u.toNat)
theorem Byts.keep {w w' : World} {v : Value} {l : List UInt8} (h : Byts w v l) (hb : Below w.heap.size w w') : Byts w' v l := by
  obtain ⟨A, c, rfl, hc, hlt, hr⟩ := h
  refine ⟨A, c, rfl, hc, Nat.lt_of_lt_of_le hlt hb.size, fun j u hj => ?_⟩
  rw [hb.cell (by rw [addr_block]; exact hlt)]
  exact hr j u hj
/-- the table after s of its two letters, in block g, made in the world w -/
structure Tab (w : World) (g : Nat) (s : Nat) (wr : World) : Prop where
  big : g < wr.heap.size
  fresh : w.heap.size ≤ g
  below : Below w.heap.size w wr
  free : ∀ j, wr.frozen? ⟨g, j, none⟩ = false
  top : ∃ T, wr.cell? ⟨g, 256, none⟩ = some T ∧ T.ownBlock ≠ some g ∧ Rw stEnc 9 wr w.heap.size T (([⟨#[49]⟩, ⟨#[48]⟩] : List ByteArray).take s)
  at49 : ∃ v, wr.cell? ⟨g, 49, none⟩ = some v ∧ (s = 0 → v = .slice none 0 0) ∧ (1 ≤ s → Byts wr v [48] ∧ v.ownBlock ≠ some g ∧ ∀ k, v.ownBlock = some k → w.heap.size ≤ k)
  at48 : ∃ v, wr.cell? ⟨g, 48, none⟩ = some v ∧ (s ≤ 1 → v = .slice none 0 0) ∧ (2 ≤ s → Byts wr v [48, 49] ∧ v.ownBlock ≠ some g ∧ ∀ k, v.ownBlock = some k → w.heap.size ≤ k)
  apart : s = 1 → ∀ T v, wr.cell? ⟨g, 256, none⟩ = some T → wr.cell? ⟨g, 49, none⟩ = some v → v.ownBlock ≠ T.ownBlock
theorem Byts.same {w w' : World} {v : Value} {l : List UInt8} (h : Byts w v l) (hs : w.heap.size ≤ w'.heap.size) (hb : ∀ b, v.ownBlock = some b → b < w.heap.size → w'.heap[b]? = w.heap[b]?) : Byts w' v l := by
  obtain ⟨A, c, rfl, hc, hlt, hr⟩ := h
  refine ⟨A, c, rfl, hc, Nat.lt_of_lt_of_le hlt hs, fun j u hj => ?_⟩
  rw [World.cell?_of_block (w := w) (by rw [addr_block]; exact hb A.block rfl hlt)]
  exact hr j u hj
theorem bytesWorld_frozen (w : World) (e : TypeId) (s : ByteArray) (a : Addr) (ha : a.block < w.heap.size) : (Lib.bytesWorld w e s).frozen? a = w.frozen? a :=
  World.frozen?_of_block (Lib.bytesWorld_at_old w e s a.block ha)
theorem bytesWorld_below (w : World) (e : TypeId) (s : ByteArray) : Below w.heap.size w (Lib.bytesWorld w e s) :=
  ⟨rfl, rfl, rfl, by rw [Lib.bytesWorld_size]; omega, fun k hk => Lib.bytesWorld_at_old w e s k hk⟩
theorem size_setCell (w : World) (a : Addr) (v : Value) : (w.setCell a v).heap.size = w.heap.size := by simp [World.setCell]
/-- one letter more: the world behind the two stores -/
theorem tab_step (w w3 : World) (g g2 n cap2 : Nat) (L : List ByteArray) (o : Nat) (s : ByteArray) (C : Nat) (T0 x0 : Value) (hf : w.heap.size ≤ g) (hg : g < w3.heap.size) (bel : Below w.heap.size w w3)
    (free : ∀ j, w3.frozen? ⟨g, j, none⟩ = false) (c256 : w3.cell? ⟨g, 256, none⟩ = some T0) (co : w3.cell? ⟨g, o, none⟩ = some x0) (ho : o < 256)
    (hR : Rw stEnc 9 w3 w.heap.size (.slice (some ⟨g2, 0, none⟩) n cap2) L) (hne : g ≠ g2) (hC : s.size ≤ C) (W : World)
    (hW : W = (Lib.bytesWorld (w3.setCell ⟨g, 256, none⟩ (.slice (some ⟨g2, 0, none⟩) n cap2)) 5 s).setCell ⟨g, o, none⟩ (.slice (some ⟨w3.heap.size, 0, none⟩) s.size C)) :
    Below w.heap.size w W ∧ g < W.heap.size ∧ (∀ j, W.frozen? ⟨g, j, none⟩ = false) ∧ W.cell? ⟨g, 256, none⟩ = some (.slice (some ⟨g2, 0, none⟩) n cap2) ∧
      Rw stEnc 9 W w.heap.size (.slice (some ⟨g2, 0, none⟩) n cap2) L ∧ W.cell? ⟨g, o, none⟩ = some (.slice (some ⟨w3.heap.size, 0, none⟩) s.size C) ∧
      Byts W (.slice (some ⟨w3.heap.size, 0, none⟩) s.size C) s.data.toList ∧ (∀ j, j ≠ o → j ≠ 256 → W.cell? ⟨g, j, none⟩ = w3.cell? ⟨g, j, none⟩) ∧
      (∀ k, k < w3.heap.size → k ≠ g → W.heap[k]? = w3.heap[k]?) := by
  obtain ⟨w4, h4⟩ : ∃ w4, w4 = w3.setCell ⟨g, 256, none⟩ (.slice (some ⟨g2, 0, none⟩) n cap2) := ⟨_, rfl⟩
  rw [← h4] at hW
  have s4 : w4.heap.size = w3.heap.size := by rw [h4, size_setCell]
  have b4 : Below w.heap.size w w4 := by rw [h4]; exact bel.setCell (p := ⟨g, 256, none⟩) hf _
  have s5 := Lib.bytesWorld_size w4 5 s
  have b5 : Below w.heap.size w (Lib.bytesWorld w4 5 s) := b4.trans ((bytesWorld_below w4 5 s).mono (by have := b4.size; omega))
  have hx : ∀ k, k < w3.heap.size → k ≠ g → W.heap[k]? = w3.heap[k]? := fun k hk hkg => by
    rw [hW, heap_setCell_ne _ _ _ _ (by exact hkg), Lib.bytesWorld_at_old _ _ _ _ (by omega), h4, heap_setCell_ne _ _ _ _ (by exact hkg)]
  have hcell : ∀ j, j ≠ o → W.cell? ⟨g, j, none⟩ = w4.cell? ⟨g, j, none⟩ := fun j hj => by
    rw [hW, World.cell?_setCell_other _ _ _ _ (by first | (simp; done) | (simp; exact fun e => hj e.symm)), Lib.bytesWorld_old _ _ _ _ (by first | (simp; done) | (simp; omega))]
  have h256 : W.cell? ⟨g, 256, none⟩ = some (.slice (some ⟨g2, 0, none⟩) n cap2) := by
    rw [hcell 256 (by omega), h4]; exact World.cell?_setCell_same _ _ _ c256
  refine ⟨by rw [hW]; exact b5.setCell (p := ⟨g, o, none⟩) hf _, by rw [hW, size_setCell, s5, s4]; omega, fun j => ?_, h256, ?_, ?_, ?_, fun j hj h2 => ?_, hx⟩
  · rw [hW, World.frozen?_setCell, bytesWorld_frozen _ _ _ _ (by simp; omega), h4, World.frozen?_setCell]
    exact free j
  · exact hR.same fun b hb hlt => hx b hlt (by simp [Value.ownBlock] at hb; omega)
  · rw [hW]
    refine World.cell?_setCell_same _ _ _ (?_ : _ = some x0)
    rw [Lib.bytesWorld_old _ _ _ _ (by simp; omega), h4, World.cell?_setCell_other _ _ _ _ (by first | (simp; done) | (simp; omega))]
    exact co
  · refine ⟨⟨w3.heap.size, 0, none⟩, C, by rw [Lib.size_eq], by rw [← Lib.size_eq]; exact hC, by rw [hW, size_setCell, s5, s4]; simp, fun j u hj => ?_⟩
    have hjl : j < s.size := by rw [Lib.size_eq]; exact (List.getElem?_eq_some_iff.1 hj).1
    rw [addr_head, hW, World.cell?_setCell_other _ _ _ _ (by first | (simp; done) | (simp; omega)), ← s4, Lib.bytesWorld_cell _ _ _ _ hjl, List.getD_eq_getElem?_getD, hj]
    rfl
  · rw [hcell j hj, h4, World.cell?_setCell_other _ _ _ _ (by first | (simp; done) | (simp; exact fun e => h2 e.symm))]
theorem one_byte (b : UInt8) (w : World) : (convert 72 9 (.slice (some ⟨w.heap.size, 0, none⟩) 1 1)).run Tryz.prog (w.alloc (.cells #[.int .u8 (b.toNat : Int)] 5)) = .ok (.string ⟨#[b]⟩) (w.alloc (.cells #[.int .u8 (b.toNat : Int)] 5)) :=
  run_convert_bytes_back _ 72 9 5 ⟨w.heap.size, 0, none⟩ 1 [b] Tryz.underlying72 Tryz.underlying5 Tryz.underlying9 (by
    intro j hj
    obtain rfl : j = 0 := by simpa using hj
    rw [addr_head]; simp)
set_option maxRecDepth 100000 in
set_option maxHeartbeats 4000000 in
theorem build_any (b : Nat) (c : Nat) (ob : Nat) (w : World) (h4 : w.cell? ⟨b, 4, none⟩ = some (.slice (some ⟨ob, 0, none⟩) 4 c))
    (hb : b < w.heap.size) (hob : ob < w.heap.size) (o0 : w.cell? ⟨ob, 0, none⟩ = some (.string ⟨#[48]⟩)) (o1 : w.cell? ⟨ob, 1, none⟩ = some (.string ⟨#[48, 49]⟩)) (o2 : w.cell? ⟨ob, 2, none⟩ = some (.string ⟨#[49]⟩)) (o3 : w.cell? ⟨ob, 3, none⟩ = some (.string ⟨#[48]⟩)) :
    Calls Tryz.prog 28 #[.pointer (some ⟨b, 0, none⟩)] w fun e w' => ∃ g, e = .returned (.iface 89 (.pointer (some ⟨g, 0, none⟩))) ∧ Tab w g 2 w' := by
  have info9 : (Tryz.prog.info? 9).map (fun i => (i.zero, i.size, i.bytes)) = some (some (.string ByteArray.empty), 1, 16) := by kernel_rfl
  obtain ⟨i0, hi, hz0, hz1, hz2⟩ := info_parts info9
  obtain ⟨M, hM⟩ : ∃ M, M = madeCells (Value.string ByteArray.empty).cells (2 * i0.size) := ⟨_, rfl⟩
  have hMs : M.size = 2 := by rw [hM, size_madeCells, hz1]
  have hmk : ∀ W : World, (Instr.makeSlice 31 (.int .i64 0) (.int .i64 2)).run Tryz.prog W = .ok (.slice (some ⟨W.heap.size, 0, none⟩) 0 2) (W.alloc (.cells M 9)) := fun W => by
    have h := run_make (P := Tryz.prog) W 31 9 i0 (.string ByteArray.empty) Tryz.underlying31 hi hz0 .i64 .i64 0 2 (by omega) (by omega) (by rw [hz2]; omega) (by omega)
    simp at h
    rw [← hM] at h
    simpa using h
  obtain ⟨Z, hZ⟩ : ∃ Z, Z = (Array.replicate 256 (Value.slice none 0 0)).push (.slice none 0 0) := ⟨_, rfl⟩
  have hbz := bsZero
  rw [← hZ] at hbz
  obtain ⟨hzz, hzs⟩ := zero_of_info hbz
  have hZs : Z.size = 257 := by rw [hZ]; simp
  clear hbz
  have HZ := Lib.hid hZ
  have HM := Lib.hid hM
  have hsc : (storeCells ⟨w.heap.size + 1, 0, none⟩ (Z.toList.set 256 (.slice (some ⟨w.heap.size, 0, none⟩) 0 2)) 0).run Tryz.prog ((w.alloc (.cells M 9)).alloc (.cells Z 88)) = .ok () ((w.alloc (.cells M 9)).alloc (.cells (Z.toList.set 256 (.slice (some ⟨w.heap.size, 0, none⟩) 0 2)).toArray 88)) := by
    have h := run_storeCells_new (P := Tryz.prog) (w.alloc (.cells M 9)) 88 Z (Z.toList.set 256 (.slice (some ⟨w.heap.size, 0, none⟩) 0 2)).toArray (by rw [hzs]; simp [hZs]) (by simp) (by
      rw [Array.all_eq_true_iff_forall_mem]
      intro v hv
      rw [List.mem_toArray] at hv
      rcases List.mem_or_eq_of_mem_set hv with h | h
      · rw [hZ] at h
        simp at h
        rw [h]; rfl
      · rw [h]; rfl)
    simpa using h
  have tab0 : Tab w (w.heap.size + 1) 0 ((w.alloc (.cells M 9)).alloc (.cells (Z.toList.set 256 (.slice (some ⟨w.heap.size, 0, none⟩) 0 2)).toArray 88)) := by
    have hbl : Below w.heap.size w ((w.alloc (.cells M 9)).alloc (.cells (Z.toList.set 256 (.slice (some ⟨w.heap.size, 0, none⟩) 0 2)).toArray 88)) := ((Below.refl _ w).alloc (Nat.le_refl _) _).alloc (by simp) _
    refine ⟨by simp, by omega, hbl, fun j => by simp, ⟨.slice (some ⟨w.heap.size, 0, none⟩) 0 2, ?_, by simp [Value.ownBlock], ?_⟩, ⟨.slice none 0 0, ?_, fun _ => rfl, fun h => by omega⟩, ⟨.slice none 0 0, ?_, fun _ => rfl, fun h => by omega⟩, fun h => by omega⟩
    · simp [hZs]
    · have h := World.ownsRow_made (base := w.heap.size) (e := 9) (size := 1) w M 2 (Nat.le_refl _) (by unfold maxLen; omega) (by rw [hMs])
      exact World.ownsRow.alloc h _
    · have : Z[49]? = some (.slice none 0 0) := by rw [hZ]; rfl
      simp [this]
    · have : Z[48]? = some (.slice none 0 0) := by rw [hZ]; rfl
      simp [this]
  clear hZ hM
  have hcs : ∀ (W : World) (s : ByteArray), (convert 9 72 (.string s)).run Tryz.prog W = .ok (.slice (some ⟨W.heap.size, 0, none⟩) s.size (grownCap W s.size 0 5)) (Lib.bytesWorld W 5 s) := fun W s => Lib.run_convert_string_bytes W 9 72 5 s Tryz.underlying9 Tryz.underlying72 Tryz.underlying5
  have hnil : ∀ W, (binOp .eql 72 (.slice none 0 0) (.slice none 0 0)).run Tryz.prog W = .ok (.bool true) W := fun W => Lib.run_eql_slice_nil_nil W _ _ Tryz.underlying72
  go_enter Tryz.func28, Tryz.ntmps28
  go_wp2_with fail
  go_loop [4, 5] (fun a i => (a = .bool true ∧ i = .int .i64 0) ∨ (a = .bool false ∧ i = .int .i64 2) ∨ (a = .bool false ∧ i = .int .i64 4)) (fun _ i => 10 - (intOf i).toNat)
  case atStart => exact .inl ⟨rfl, rfl⟩
  case round =>
    rcases hrel with ⟨rfl, rfl⟩ | ⟨rfl, rfl⟩ | ⟨rfl, rfl⟩
    · go_wp2
      go_round
      case rel => exact .inr (.inl ⟨rfl, rfl⟩)
      case measure => simp [intOf]
    · go_wp2
      go_round
      case rel => exact .inr (.inr ⟨rfl, rfl⟩)
      case measure => simp [intOf]
    · go_wp2_with fail
      generalize ((w.alloc (.cells M 9)).alloc (.cells (Z.toList.set 256 (.slice (some ⟨w.heap.size, 0, none⟩) 0 2)).toArray 88)) = w2 at tab0 ⊢
      go_loopw [12, 13, 14] (fun i _ _ wr => (i = .int .i64 2 ∧ Tab w (w.heap.size + 1) 0 wr) ∨ (i = .int .i64 0 ∧ Tab w (w.heap.size + 1) 1 wr) ∨ (i = .int .i64 (-2) ∧ Tab w (w.heap.size + 1) 2 wr)) (fun i _ _ _ => (intOf i + 2).toNat)
      case atStart => exact .inl ⟨rfl, tab0⟩
      case round =>
        rcases hrel with ⟨rfl, ht⟩ | ⟨rfl, ht⟩ | ⟨rfl, ht⟩
        · obtain ⟨big, fresh, bel, free, ⟨T, hT, hTg, hTR⟩, ⟨v9, h9, h9a, -⟩, ⟨v8, h8, h8a, -⟩, -⟩ := ht
          obtain rfl := h9a rfl
          obtain rfl := h8a (by omega)
          clear h9a h8a
          have hx49 : ∀ h, ((⟨#[49]⟩ : ByteArray)[0]'h).toNat = 49 := fun _ => rfl
          have hx48 : ∀ h, ((⟨#[48]⟩ : ByteArray)[0]'h).toNat = 48 := fun _ => rfl
          have q2 := (bel.cell (p := ⟨ob, 2, none⟩) hob).trans o2
          have q3 := (bel.cell (p := ⟨ob, 3, none⟩) hob).trans o3
          have hcv : (convert 72 9 (.slice (some ⟨wr.heap.size, 0, none⟩) 1 1)).run Tryz.prog (wr.alloc (.cells #[.int .u8 49] 5)) = .ok (.string ⟨#[49]⟩) (wr.alloc (.cells #[.int .u8 49] 5)) := one_byte 49 wr
          have r1 := hTR.alloc (.cells #[.int .u8 49] 5)
          have szw := bel.size
          go_wp2_with (
            at_builtin
            refine wpList_rw2 stElt (wr.alloc (.cells #[.int .u8 49] 5)) rfl _ _ rfl w.heap.size T _ rfl r1 ⟨#[49]⟩ _ rfl (by rw [show (wr.alloc (.cells #[.int .u8 49] 5)).heap.size = wr.heap.size + 1 from by simp]; rfl) (by simp) (by simp; omega) ?_
            intro g2 cap2 w3 r2 bel2 oth2 or2 sz2
            have hg3 : w3.heap[w.heap.size + 1]? = wr.heap[w.heap.size + 1]? := (oth2 _ (by simp; omega) hTg).trans (Below.heap_alloc _ _ _ big)
            have sz3 : wr.heap.size + 1 ≤ w3.heap.size := by simpa using sz2
            have c256 := (World.cell?_of_block (a := ⟨w.heap.size + 1, 256, none⟩) hg3).trans hT
            have c49 := (World.cell?_of_block (a := ⟨w.heap.size + 1, 49, none⟩) hg3).trans h9
            have c48 := (World.cell?_of_block (a := ⟨w.heap.size + 1, 48, none⟩) hg3).trans h8
            have f3 : ∀ j, w3.frozen? ⟨w.heap.size + 1, j, none⟩ = false := fun j => (World.frozen?_of_block (a := ⟨w.heap.size + 1, j, none⟩) hg3).trans (free j)
            have hg2 : w.heap.size + 1 ≠ g2 := by
              intro e
              rcases or2 with h | h
              · rw [← e] at h; exact hTg h
              · simp at h; omega
            have f256 := f3 256
            have lt3 : w.heap.size + 1 < w3.heap.size := by omega
            have e49 : ∀ T', (Lib.bytesWorld (w3.setCell ⟨w.heap.size + 1, 256, none⟩ T') 5 ⟨#[48]⟩).cell? ⟨w.heap.size + 1, 49, none⟩ = some (.slice none 0 0) := fun T' => by
              rw [Lib.bytesWorld_old _ _ _ _ (by simp [World.setCell]; omega), World.cell?_setCell_other _ _ _ _ (by simp)]
              exact c49
            have z49 : ∀ T', (Lib.bytesWorld (w3.setCell ⟨w.heap.size + 1, 256, none⟩ T') 5 ⟨#[48]⟩).frozen? ⟨w.heap.size + 1, 49, none⟩ = false := fun T' => by
              rw [bytesWorld_frozen _ _ _ _ (by simp [World.setCell]; omega), World.frozen?_setCell]
              exact f3 49
            have FT := Lib.hid f3
            have C49 := Lib.hid c49
            clear hcv hT h9 h8 free oth2 hg3 f3 c49)
          obtain ⟨p1, p2, p3, p4, p5, p6, p7, p8, p9⟩ := tab_step w w3 (w.heap.size + 1) g2 1 cap2 _ 49 ⟨#[48]⟩ _ _ _ (by omega) lt3 ((bel.alloc szw _).trans bel2) FT.out c256 C49.out (by omega) r2 hg2 (grownCap_ge _ _ _ _) _ rfl
          refine ⟨.inr (.inl ⟨rfl, ⟨p2, by omega, p1, p3, ⟨_, p4, by simp [Value.ownBlock]; omega, p5⟩, ⟨_, p6, fun h => by omega, fun _ => ⟨p7, by simp [Value.ownBlock]; omega, fun k hk => by simp [Value.ownBlock] at hk; omega⟩⟩, ⟨_, (p8 48 (by omega) (by omega)).trans c48, fun _ => rfl, fun h => by omega⟩, fun _ T' v' e1 e2 => ?_⟩⟩), by simp [intOf]⟩
          obtain rfl := Option.some.inj (p4.symm.trans e1)
          obtain rfl := Option.some.inj (p6.symm.trans e2)
          have := r2.lt
          simp [Value.ownBlock]; omega
        · obtain ⟨big, fresh, bel, free, ⟨T, hT, hTg, hTR⟩, ⟨v9, h9, -, h9a⟩, ⟨v8, h8, h8a, -⟩, hap⟩ := ht
          have HAP := Lib.hid (hap rfl T v9 hT h9)
          clear hap
          obtain ⟨h9b, h9c⟩ := h9a (by omega)
          obtain rfl := h8a (by omega)
          have H9B := Lib.hid h9b
          have H9C := Lib.hid h9c
          clear h9a h8a h9b h9c
          have hx49 : ∀ h, ((⟨#[49]⟩ : ByteArray)[0]'h).toNat = 49 := fun _ => rfl
          have hx48 : ∀ h, ((⟨#[48]⟩ : ByteArray)[0]'h).toNat = 48 := fun _ => rfl
          have q2 := (bel.cell (p := ⟨ob, 0, none⟩) hob).trans o0
          have q3 := (bel.cell (p := ⟨ob, 1, none⟩) hob).trans o1
          have hcv : (convert 72 9 (.slice (some ⟨wr.heap.size, 0, none⟩) 1 1)).run Tryz.prog (wr.alloc (.cells #[.int .u8 48] 5)) = .ok (.string ⟨#[48]⟩) (wr.alloc (.cells #[.int .u8 48] 5)) := one_byte 48 wr
          have r1 := hTR.alloc (.cells #[.int .u8 48] 5)
          have szw := bel.size
          go_wp2_with (
            at_builtin
            refine wpList_rw2 stElt (wr.alloc (.cells #[.int .u8 48] 5)) rfl _ _ rfl w.heap.size T _ rfl r1 ⟨#[48]⟩ _ rfl (by rw [show (wr.alloc (.cells #[.int .u8 48] 5)).heap.size = wr.heap.size + 1 from by simp]; rfl) (by simp) (by simp; omega) ?_
            intro g2 cap2 w3 r2 bel2 oth2 or2 sz2
            have hg3 : w3.heap[w.heap.size + 1]? = wr.heap[w.heap.size + 1]? := (oth2 _ (by simp; omega) hTg).trans (Below.heap_alloc _ _ _ big)
            have sz3 : wr.heap.size + 1 ≤ w3.heap.size := by simpa using sz2
            have c256 := (World.cell?_of_block (a := ⟨w.heap.size + 1, 256, none⟩) hg3).trans hT
            have c49 := (World.cell?_of_block (a := ⟨w.heap.size + 1, 49, none⟩) hg3).trans h9
            have c48 := (World.cell?_of_block (a := ⟨w.heap.size + 1, 48, none⟩) hg3).trans h8
            have f3 : ∀ j, w3.frozen? ⟨w.heap.size + 1, j, none⟩ = false := fun j => (World.frozen?_of_block (a := ⟨w.heap.size + 1, j, none⟩) hg3).trans (free j)
            have hg2 : w.heap.size + 1 ≠ g2 := by
              intro e
              rcases or2 with h | h
              · rw [← e] at h; exact hTg h
              · simp at h; omega
            have f256 := f3 256
            have lt3 : w.heap.size + 1 < w3.heap.size := by omega
            have e49 : ∀ T', (Lib.bytesWorld (w3.setCell ⟨w.heap.size + 1, 256, none⟩ T') 5 ⟨#[48, 49]⟩).cell? ⟨w.heap.size + 1, 48, none⟩ = some (.slice none 0 0) := fun T' => by
              rw [Lib.bytesWorld_old _ _ _ _ (by simp [World.setCell]; omega), World.cell?_setCell_other _ _ _ _ (by simp)]
              exact c48
            have z49 : ∀ T', (Lib.bytesWorld (w3.setCell ⟨w.heap.size + 1, 256, none⟩ T') 5 ⟨#[48, 49]⟩).frozen? ⟨w.heap.size + 1, 48, none⟩ = false := fun T' => by
              rw [bytesWorld_frozen _ _ _ _ (by simp [World.setCell]; omega), World.frozen?_setCell]
              exact f3 48
            have FT := Lib.hid f3
            have C48 := Lib.hid c48
            have C49 := Lib.hid c49
            have OT := Lib.hid oth2
            clear hcv hT h9 h8 free oth2 hg3 f3 c49 c48)
          obtain ⟨p1, p2, p3, p4, p5, p6, p7, p8, p9⟩ := tab_step w w3 (w.heap.size + 1) g2 2 cap2 _ 48 ⟨#[48, 49]⟩ _ _ _ (by omega) lt3 ((bel.alloc szw _).trans bel2) FT.out c256 C48.out (by omega) r2 hg2 (grownCap_ge _ _ _ _) _ rfl
          refine ⟨.inr (.inr ⟨rfl, ⟨p2, by omega, p1, p3, ⟨_, p4, by simp [Value.ownBlock]; omega, p5⟩, ⟨_, (p8 49 (by omega) (by omega)).trans C49.out, fun h => by omega, fun _ => ⟨?_, H9C.out⟩⟩, ⟨_, p6, fun h => by omega, fun _ => ⟨p7, by simp [Value.ownBlock]; omega, fun k hk => by simp [Value.ownBlock] at hk; omega⟩⟩, fun h => by omega⟩⟩), by simp [intOf]⟩
          refine H9B.out.same (by rw [size_setCell, Lib.bytesWorld_size, size_setCell]; omega) fun k hk hlt => ?_
          refine (p9 k (by omega) (fun e => H9C.out.1 (by rw [hk, e]))).trans ?_
          exact (OT.out k (by simp; omega) (fun e => HAP.out (by rw [hk, e]))).trans (Below.heap_alloc _ _ _ hlt)
        · go_wp2
          go_ret
          exact ⟨_, rfl, ht⟩
end Go.Proofs.YtkmnelmgckbmpaaGreatDoor
