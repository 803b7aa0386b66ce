/- The walk of parts.List: the closures found and grow. -/
import Derived.Test.YtpgpkgnljoedaaaC
import Derived.Deep.RegionLaw
import Derived.Laws.EntriesVeiled
namespace Go.Proofs.Ytpgpkgnljoedaaa
open Go.RowKit

/-- the places of a call of List: the first own block, and the blocks of out, l, grow and found -/
structure Pl where
  B : Nat
  o : Nat
  l : Nat
  g : Nat
  f : Nat
structure Pl.Ok (p : Pl) : Prop where
  bo : p.B ≤ p.o
  bl : p.B ≤ p.l
  bg : p.B ≤ p.g
  bf : p.B ≤ p.f
  ol : p.o ≠ p.l
  og : p.o ≠ p.g
  of : p.o ≠ p.f
  lg : p.l ≠ p.g
  lf : p.l ≠ p.f
  gf : p.g ≠ p.f
def pt (b : Nat) : Value := .pointer (some ⟨b, 0, none⟩)
def foundV (p : Pl) : Value := .func (Fn.func 57) #[] #[.pointer (some ⟨p.o, 0, none⟩)]
def growV (p : Pl) : Value := .func (Fn.func 84) #[] #[.pointer (some ⟨p.f, 0, none⟩), .pointer (some ⟨p.l, 0, none⟩), .pointer (some ⟨p.g, 0, none⟩)]
/-- not one of the places -/
def Pl.Free (p : Pl) (b : Nat) : Prop := b ≠ p.o ∧ b ≠ p.l ∧ b ≠ p.g ∧ b ≠ p.f
/-- memory while List runs -/
structure GS (p : Pl) (w : World) (vl : Value) (cur : List Int) (vo : Value) (vs : List Value) (outs : List (List Int)) : Prop where
  hl : w.heap[p.l]? = some (.cells #[vl] 53 (0, 0))
  ho : w.heap[p.o]? = some (.cells #[vo] 22 (0, 0))
  hg : w.heap[p.g]? = some (.cells #[growV p] 76 (0, 0))
  hf : w.heap[p.f]? = some (.cells #[foundV p] 55 (0, 0))
  hB : p.B ≤ w.heap.size
  own : Own w p.B vl cur
  row : w.ownsRow p.B 33 1 vo outs.length vs
  elts : Elts w (fun b => p.Free b ∧ vl.ownBlock ≠ some b ∧ vo.ownBlock ≠ some b) vs outs
  fl : ∀ b, vl.ownBlock = some b → p.Free b ∧ vo.ownBlock ≠ some b
  fo : ∀ b, vo.ownBlock = some b → p.Free b
/-- behind a call that leaves all blocks as they were -/
theorem GS.keep {p : Pl} {w w' : World} {vl vo : Value} {cur : List Int} {vs : List Value} {outs : List (List Int)} (h : GS p w vl cur vo vs outs) (hb : Below w.heap.size w w') : GS p w' vl cur vo vs outs := by
  have lt : ∀ {b o}, w.heap[b]? = some o → b < w.heap.size := fun e => (Array.getElem?_eq_some_iff.1 e).1
  exact ⟨(hb.block _ (lt h.hl)).trans h.hl, (hb.block _ (lt h.ho)).trans h.ho, (hb.block _ (lt h.hg)).trans h.hg, (hb.block _ (lt h.hf)).trans h.hf, Nat.le_trans h.hB hb.size,
    h.own.same (fun b _ hlt => hb.block b hlt), ownsRow_same h.row (fun b _ hlt => hb.block b hlt), h.elts.keep hb.size (fun b hlt _ => hb.block b hlt) (fun _ _ h => h), h.fl, h.fo⟩
theorem cellOf {w : World} {b : Nat} {v : Value} {t : TypeId} (h : w.heap[b]? = some (.cells #[v] t (0, 0))) : w.cell? ⟨b, 0, none⟩ = some v := by simp [World.cell?, h]
theorem freeOf {w : World} {b : Nat} {v : Value} {t : TypeId} (h : w.heap[b]? = some (.cells #[v] t (0, 0))) (o : Nat) : w.frozen? ⟨b, o, none⟩ = false := by simp [World.frozen?, h]
theorem ltOf {w : World} {b : Nat} {o : Obj} (h : w.heap[b]? = some o) : b < w.heap.size := (Array.getElem?_eq_some_iff.1 h).1

theorem heap_setCell_ne (w : World) (a : Addr) (v : Value) (b : Nat) (h : b ≠ a.block) : (w.setCell a v).heap[b]? = w.heap[b]? := Below.heap_setCell w a v b h
theorem heap_setCell_one {w : World} {b : Nat} {u : Value} {t : TypeId} (h : w.heap[b]? = some (.cells #[u] t (0, 0))) (v : Value) : (w.setCell ⟨b, 0, none⟩ v).heap[b]? = some (.cells #[v] t (0, 0)) := by
  simp [World.setCell, Array.getElem?_modify, h]
theorem size_setCell' (w : World) (a : Addr) (v : Value) : (w.setCell a v).heap.size = w.heap.size := by simp [World.setCell]
/-- found: the copy is appended -/
theorem gs_append {p : Pl} (hp : p.Ok) {w w1 w2 : World} {vl vo vc : Value} {cur : List Int} {vs : List Value} {outs : List (List Int)} {g cap n : Nat}
    (h : GS p w vl cur vo vs outs) (hb : Below w.heap.size w w1) (hv : Own w1 w.heap.size vc cur) (hc : cur.length ≤ 1000) (hn : n = outs.length)
    (h2 : w2.ownsRow p.B 33 1 (.slice (some ⟨g, 0, none⟩) (n + 1) cap) (n + 1) (vs ++ [vc])) (hgr : (w1.alloc (.cells #[vc] 33)).grownBy w2 vo.ownBlock)
    (hat : vo.ownBlock = some g ∨ g = w1.heap.size + 1) :
    GS p (w2.setCell ⟨p.o, 0, none⟩ (.slice (some ⟨g, 0, none⟩) (n + 1) cap)) vl cur (.slice (some ⟨g, 0, none⟩) (n + 1) cap) (vs ++ [vc]) (outs ++ [cur]) ∧
      Below p.B w (w2.setCell ⟨p.o, 0, none⟩ (.slice (some ⟨g, 0, none⟩) (n + 1) cap)) := by
  subst hn
  have lo : ∀ b, vo.ownBlock = some b → b < w.heap.size := fun b e => (h.row.lt b e).2
  have ll : ∀ b, vl.ownBlock = some b → b < w.heap.size := fun b e => (h.own.lt b e).2
  have hsz : w1.heap.size + 1 ≤ w2.heap.size := by have := hgr.size; simpa using this
  -- what was there in the copy's world and is not the row that was appended to
  have k1 : ∀ b, b < w1.heap.size → vo.ownBlock ≠ some b → w2.heap[b]? = w1.heap[b]? := fun b hlt hne =>
    (hgr.block b (by simp; omega) (fun e => hne e.symm)).trans (Below.heap_alloc w1 _ b hlt)
  have k0 : ∀ b, b < w.heap.size → vo.ownBlock ≠ some b → w2.heap[b]? = w.heap[b]? := fun b hlt hne => (k1 b (Nat.lt_of_lt_of_le hlt hb.size) hne).trans (hb.block b hlt)
  have fo := h.fo
  have no : vo.ownBlock ≠ some p.o := fun e => (fo _ e).1 rfl
  have nl : vo.ownBlock ≠ some p.l := fun e => (fo _ e).2.1 rfl
  have ng : vo.ownBlock ≠ some p.g := fun e => (fo _ e).2.2.1 rfl
  have nf : vo.ownBlock ≠ some p.f := fun e => (fo _ e).2.2.2 rfl
  have f0 : ∀ b, b < w.heap.size → vo.ownBlock ≠ some b → b ≠ p.o → (w2.setCell ⟨p.o, 0, none⟩ (.slice (some ⟨g, 0, none⟩) (outs.length + 1) cap)).heap[b]? = w.heap[b]? := fun b hlt hne hbo =>
    (heap_setCell_ne _ _ _ b hbo).trans (k0 b hlt hne)
  have gfree : p.Free g ∧ vl.ownBlock ≠ some g := by
    rcases hat with e | e
    · exact ⟨fo _ e, fun e2 => (h.fl g e2).2 e⟩
    · subst e
      have := hb.size
      have a1 := ltOf h.ho
      have a2 := ltOf h.hl
      have a3 := ltOf h.hg
      have a4 := ltOf h.hf
      exact ⟨⟨by omega, by omega, by omega, by omega⟩, fun e => by have := ll _ e; omega⟩
  have hvb : ∀ b, vc.ownBlock = some b → w.heap.size ≤ b ∧ b < w1.heap.size := fun b e => hv.lt b e
  refine ⟨⟨(f0 _ (ltOf h.hl) nl hp.ol.symm).trans h.hl, heap_setCell_one ((k0 _ (ltOf h.ho) no).trans h.ho) _, (f0 _ (ltOf h.hg) ng hp.og.symm).trans h.hg, (f0 _ (ltOf h.hf) nf hp.of.symm).trans h.hf, ?_, ?_, ?_, ?_, ?_, ?_⟩, ?_⟩
  · rw [size_setCell']; have := hb.size; have := h.hB; omega
  · exact h.own.same (fun b e hlt => f0 b hlt (h.fl b e).2 (h.fl b e).1.1)
  · rw [List.length_append]
    exact ownsRow_same h2 (fun b e _ => heap_setCell_ne _ _ _ b (by
      have : b = g := ownBlock_some e
      subst this
      exact gfree.1.1))
  · refine Elts.append ?_ (Elts.one ?_ ?_)
    · refine h.elts.keep (by rw [size_setCell']; have := hb.size; omega) (fun b hlt hB => f0 b hlt hB.2.2 hB.1.1) (fun b hlt hB => ⟨hB.1, hB.2.1, fun e => ?_⟩)
      have e' := ownBlock_some e
      simp only at e'
      subst e'
      rcases hat with e2 | e2
      · exact hB.2.2 e2
      · have := hb.size; omega
    · refine (hv.ints (by omega)).same (by rw [size_setCell']; omega) (fun b e hlt => ?_)
      have := hvb b e
      exact (heap_setCell_ne _ _ _ b (by have := ltOf h.ho; simp only; omega)).trans (k1 b hlt (fun e2 => by have := lo _ e2; omega))
    · intro b e
      have hbb := hvb b e
      have a1 := ltOf h.ho
      have a2 := ltOf h.hl
      have a3 := ltOf h.hg
      have a4 := ltOf h.hf
      refine ⟨by rw [size_setCell']; omega, ⟨by omega, by omega, by omega, by omega⟩, fun e2 => by have := ll _ e2; omega, fun e2 => ?_⟩
      have e' := ownBlock_some e2
      simp only at e'
      subst e'
      rcases hat with e3 | e3
      · have := lo _ e3; omega
      · omega
  · intro b e
    refine ⟨(h.fl b e).1, fun e2 => ?_⟩
    have e' := ownBlock_some e2
    simp only at e'
    subst e'
    exact gfree.2 e
  · intro b e
    have e' := ownBlock_some e
    simp only at e'
    subst e'
    exact gfree.1
  · refine Below.setCell ?_ hp.bo _
    refine ⟨hgr.os.trans hb.os, hgr.tape.trans hb.tape, hgr.output.trans hb.output, by have := hb.size; omega, fun b hlt => k0 b (by have := h.hB; omega) (fun e => by have := (h.row.lt b e).1; omega)⟩

theorem hold_alloc {w : World} {b : Nat} {v : Value} (h1 : w.cell? ⟨b, 0, none⟩ = some v) (h2 : w.frozen? ⟨b, 0, none⟩ = false) (h3 : b < w.heap.size) (o : Obj) :
    (w.alloc o).cell? ⟨b, 0, none⟩ = some v ∧ (w.alloc o).frozen? ⟨b, 0, none⟩ = false ∧ b < (w.alloc o).heap.size :=
  ⟨(World.cell?_alloc_lt _ _ (⟨b, 0, none⟩ : Addr) h3).trans h1, (World.frozen?_of_block (w := w) (a := ⟨b, 0, none⟩) (Below.heap_alloc w o b h3)).trans h2, by simp; omega⟩
/-- a call of a function, as a step of a region that draws -/
theorem step_call {P : Program} {ops : Array Oper} {o : Oper} {a : Act} {w : World} {K : Act → World → Prop} {Q : Exit → Act → World → Prop} {E : Prop} (hgd : o.guard = none) (f : Nat) (x : Operand) (t : TypeId)
    (ho : o.op = .call { callee := .value (.func f), args := #[x], argTypes := #[t] }) (hcf : ∀ args w, (callFunc f args).run P w = .ok (.enter f args) w) (v : Value) (hv : a.eval x = v) (post : Ending → World → Prop)
    (hc : Calls P f #[v] w post)
    (h : ∀ e w', post e w' → ∃ v, e = .returned v ∧ K (a.put o.dst v) w') :
    if Region.wanted o (yielded ops a.tmps) = true then Oper.wp P o a w K Q else E := by
  have hw : Region.wanted o (yielded ops a.tmps) = true := by simp [Region.wanted, hgd]
  rw [if_pos hw]
  unfold Oper.wp
  have e1 : a.eval (Operand.func f) = .func (Fn.func f) #[] #[] := rfl
  have hrun : (execOp a.eval o).run P w = .ok (.enter f #[a.eval x]) w := by
    simp [execOp, ho, resolve, invoke, e1, Deferred.ofValue, hcf]
  rw [hrun, Oper.upon_enter, hv]
  refine hc.mono ?_
  intro e w' hp
  obtain ⟨v, rfl, hk⟩ := h e w' hp
  exact hk
theorem enter58 (args : Array Value) (w : World) : (callFunc 58 args).run Try.prog w = .ok (.enter 58 args) w := by kernel_rfl
/-- what found leaves -/
def Found (p : Pl) (w : World) (vl : Value) (cur : List Int) (outs : List (List Int)) (e : Ending) (w' : World) : Prop :=
  ∃ vo' vs', e = .returned (.tuple #[]) ∧ GS p w' vl cur vo' vs' (outs ++ [cur]) ∧ Below p.B w w'
set_option maxRecDepth 100000 in
set_option maxHeartbeats 2000000 in
theorem found_any (p : Pl) (hp : p.Ok) (vl : Value) (cur : List Int) (vo : Value) (vs : List Value) (outs : List (List Int)) (w : World) (h : GS p w vl cur vo vs outs) (hc : cur.length ≤ 1000) (hn : outs.length ≤ 100000) :
    Calls Try.prog 57 #[vl, .pointer (some ⟨p.o, 0, none⟩)] w (Found p w vl cur outs) := by
  have c0 := cellOf h.ho
  have l0 := ltOf h.ho
  have HI := Lib.hid (h.own.ints (by omega))
  have HG := Lib.hid h
  clear h
  go_enter Try.func57, Try.ntmps57
  go_wp2_with fail
  have HI2 := Lib.hid (show Ints w.drew vl cur from HI.out.keep (show Below w.heap.size w w.drew from below_drew (Below.refl _ _)))
  have f0 := freeOf HG.out.ho
  have no : vo.ownBlock ≠ some p.o := fun e => (HG.out.fo _ e).1 rfl
  have NO := Lib.hid no
  clear no
  go_region_law (first
    | (have hgate := hb1; clear hgate; refine step_row w1 rfl (.tmp 3) (.tmp 6) rfl p.B vo outs.length vs rfl (HG.out.keep hb1).row (.slice Ac nc cc) rfl rfl (by omega) (HG.out.keep hb1).hB ?_; intro g cap w2 hown2 hgrow2 hat2; have co2 := (hgrow2.cell_far (a := ⟨p.o, 0, none⟩) (by simpa using Nat.lt_succ_of_lt lo1) NO.out.symm).trans ((World.cell?_alloc_lt _ _ (⟨p.o, 0, none⟩ : Addr) lo1).trans co1); have fo2 := (hgrow2.frozen_far (a := ⟨p.o, 0, none⟩) (by simpa using Nat.lt_succ_of_lt lo1) NO.out.symm).trans ((World.frozen?_of_block (w := w1) (a := ⟨p.o, 0, none⟩) (Below.heap_alloc w1 _ p.o lo1)).trans fo1))
    | (refine step_call rfl 58 (.tmp 4) 53 rfl enter58 vl (by simp [Act.eval, Act.put]) _ (clonep_any vl cur _ HI2.out) ?_; rintro e w1 ⟨vc, rfl, hown1, hb0⟩; have hb1 : Below w.heap.size w w1 := (below_drew (Below.refl _ _)).trans hb0; clear hb0; have hown1 : Own w1 w.heap.size vc cur := hown1; obtain ⟨Ac, nc, cc, rfl⟩ := hown1.isSlice; have lo1 := Nat.lt_of_lt_of_le l0 hb1.size; have co1 := (hb1.cell (p := ⟨p.o, 0, none⟩) l0).trans c0; have fo1 := (hb1.frozen (p := ⟨p.o, 0, none⟩) l0).trans (f0 0); refine ⟨_, rfl, ?_⟩))
  all_goals
    obtain ⟨r1, r2⟩ := gs_append hp HG.out hb1 hown1 hc rfl hown2 hgrow2 hat2
    go_end0
    exact ⟨_, _, rfl, r1, r2⟩

/-- what grow leaves -/
def Grown (p : Pl) (w : World) (cur : List Int) (outs : List (List Int)) (e : Ending) (w' : World) : Prop :=
  ∃ vl' vo' vs', e = .returned (.tuple #[]) ∧ GS p w' vl' cur vo' vs' outs ∧ Below p.B w w'
theorem prt_length (f n most k : Nat) (h : k ≤ min n most) (hn : n ≠ 0) : (prtk f n k).length ≤ (prt (f + 1) n most).length := by
  rw [prt_pos f n most hn]
  unfold prtk
  obtain ⟨m, hm⟩ := Nat.exists_eq_add_of_le h
  rw [hm, List.range_add, List.flatMap_append, List.length_append]
  omega
set_option maxRecDepth 100000 in
set_option maxHeartbeats 4000000 in
theorem grow_zero (p : Pl) (hp : p.Ok) (f most : Nat) (vl : Value) (cur : List Int) (vo : Value) (vs : List Value) (outs : List (List Int)) (w : World) (h : GS p w vl cur vo vs outs) (hl : cur.length ≤ 200) (hlen : outs.length ≤ 99999) :
    Calls Try.prog 84 #[.int .i64 0, .int .i64 most, .pointer (some ⟨p.f, 0, none⟩), .pointer (some ⟨p.l, 0, none⟩), .pointer (some ⟨p.g, 0, none⟩)] w (Grown p w cur (outs ++ (prt f 0 most).map (cur ++ ·))) := by
  have HG := Lib.hid h
  have cf := cellOf h.hf
  have cl := cellOf h.hl
  unfold foundV at cf
  have HP := Lib.hid (prt_zero f most)
  clear h
  go_enter Try.func84, Try.ntmps84
  go_wp2_with fail
  refine (found_any p hp vl cur vo vs outs _ HG.out (by omega) (by omega)).mono ?_
  rintro e w1 ⟨vo', vs', rfl, hg1, hb1⟩
  have HG1 := Lib.hid hg1
  have HB1 := Lib.hid hb1
  clear hg1 hb1 cf cl
  go_wp2_with fail
  go_end0
  refine ⟨vl, vo', vs', rfl, ?_, HB1.out⟩
  rw [HP.out]
  simpa using HG1.out

/-- append(l, x): where the result lies -/
theorem wpList_push (w : World) {ops : Array Oper} {rest : List Oper} {o : Oper} {a : Act} {Q : Exit → Act → World → Prop} (hgd : o.guard = none) (s x : Operand) (t : TypeId)
    (ho : o.op = .call { callee := .builtin .append, args := #[s, x], argTypes := #[t, t] }) (ht : Try.prog.underlying t = some (.slice 3))
    (base : Nat) (v : Value) (xs : List Int) (hs : a.eval s = v) (hown : Own w base v xs)
    (u : Int) (hx : a.eval x = .slice (some ⟨w.heap.size, 0, none⟩) 1 1) (hn : xs.length ≤ 1000000) (hbase : base ≤ w.heap.size)
    (h : ∀ g cap w', Own w' base (.slice (some ⟨g, 0, none⟩) (xs.length + 1) cap) (xs ++ [u]) → (w.alloc (.cells #[.int .i64 u] 3)).grownBy w' v.ownBlock → (v.ownBlock = some g ∨ g = w.heap.size + 1) → wpList Try.prog ops Q rest (a.put o.dst (.slice (some ⟨g, 0, none⟩) (xs.length + 1) cap)) w') :
    wpList Try.prog ops Q (o :: rest) a (w.alloc (.cells #[.int .i64 u] 3)) := by
  obtain ⟨i0, hi, hz0, hz1, hz2⟩ := info_parts info3
  exact wpList_append_lies _ hgd s x t ho base 3 i0 (.int .i64 0) 1 8 ht hi hz0 hz1 hz2 rfl (by decide) v xs.length (xs.map (Value.int .i64)) hs (World.ownsRow.alloc hown _) ⟨w.heap.size, 0, none⟩ 1 1 [.int .i64 u] hx rfl
    (World.news_of_block (heap_alloc_new w _)) (by intro z hz; simp at hz; subst hz; rfl) (by omega) (by unfold maxLen; omega) (by omega) (by simp; omega) (w.heap.size + 1) (by simp)
    (fun g cap w' h2 h3 h4 _ => h g cap w' (by unfold Own; simpa using h2) h3 h4)
/-- l = append(l, x) -/
theorem gs_push {p : Pl} (hp : p.Ok) {w w2 : World} {vl vo : Value} {cur : List Int} {vs : List Value} {outs : List (List Int)} {g cap : Nat} {x : Int}
    (h : GS p w vl cur vo vs outs)
    (h2 : Own w2 p.B (.slice (some ⟨g, 0, none⟩) (cur.length + 1) cap) (cur ++ [x])) (hgr : (w.alloc (.cells #[.int .i64 x] 3)).grownBy w2 vl.ownBlock)
    (hat : vl.ownBlock = some g ∨ g = w.heap.size + 1) :
    GS p (w2.setCell ⟨p.l, 0, none⟩ (.slice (some ⟨g, 0, none⟩) (cur.length + 1) cap)) (.slice (some ⟨g, 0, none⟩) (cur.length + 1) cap) (cur ++ [x]) vo vs outs ∧
      Below p.B w (w2.setCell ⟨p.l, 0, none⟩ (.slice (some ⟨g, 0, none⟩) (cur.length + 1) cap)) ∧ w2.heap[p.l]? = some (.cells #[vl] 53 (0, 0)) ∧ w2.heap[p.g]? = some (.cells #[growV p] 76 (0, 0)) := by
  have hsz : w.heap.size + 1 ≤ w2.heap.size := by have := hgr.size; simpa using this
  have k0 : ∀ b, b < w.heap.size → vl.ownBlock ≠ some b → w2.heap[b]? = w.heap[b]? := fun b hlt hne =>
    (hgr.block b (by simp; omega) (fun e => hne e.symm)).trans (Below.heap_alloc w _ b hlt)
  have nl : ∀ b, ¬ p.Free b → vl.ownBlock ≠ some b := fun b hb e => hb (h.fl _ e).1
  have no := nl p.o (fun e => e.1 rfl)
  have nll := nl p.l (fun e => e.2.1 rfl)
  have ng := nl p.g (fun e => e.2.2.1 rfl)
  have nf := nl p.f (fun e => e.2.2.2 rfl)
  have f0 : ∀ b, b < w.heap.size → vl.ownBlock ≠ some b → b ≠ p.l → (w2.setCell ⟨p.l, 0, none⟩ (.slice (some ⟨g, 0, none⟩) (cur.length + 1) cap)).heap[b]? = w.heap[b]? := fun b hlt hne hbo =>
    (heap_setCell_ne _ _ _ b hbo).trans (k0 b hlt hne)
  have lo : ∀ b, vo.ownBlock = some b → b < w.heap.size := fun b e => (h.row.lt b e).2
  have gfree : p.Free g ∧ vo.ownBlock ≠ some g := by
    rcases hat with e | e
    · exact ⟨(h.fl _ e).1, (h.fl _ e).2⟩
    · subst e
      have a1 := ltOf h.ho
      have a2 := ltOf h.hl
      have a3 := ltOf h.hg
      have a4 := ltOf h.hf
      exact ⟨⟨by omega, by omega, by omega, by omega⟩, fun e => by have := lo _ e; omega⟩
  have ol : (w2.heap[p.l]? = some (.cells #[vl] 53 (0, 0))) := (k0 _ (ltOf h.hl) nll).trans h.hl
  refine ⟨⟨heap_setCell_one ol _, (f0 _ (ltOf h.ho) no hp.ol).trans h.ho, (f0 _ (ltOf h.hg) ng hp.lg.symm).trans h.hg, (f0 _ (ltOf h.hf) nf hp.lf.symm).trans h.hf, ?_, ?_, ?_, ?_, ?_, h.fo⟩, ?_, ol, (k0 _ (ltOf h.hg) ng).trans h.hg⟩
  · rw [size_setCell']; have := h.hB; omega
  · exact h2.same (fun b e _ => heap_setCell_ne _ _ _ b (by
      have : b = g := ownBlock_some e
      subst this
      exact gfree.1.2.1))
  · exact ownsRow_same h.row (fun b e hlt => f0 b hlt (fun e2 => (h.fl b e2).2 e) (h.fo b e).2.1)
  · refine h.elts.keep (by rw [size_setCell']; omega) (fun b hlt hB => f0 b hlt hB.2.1 hB.1.2.1) (fun b hlt hB => ⟨hB.1, fun e => ?_, hB.2.2⟩)
    have e' := ownBlock_some e
    simp only at e'
    subst e'
    rcases hat with e2 | e2
    · exact hB.2.1 e2
    · omega
  · intro b e
    have e' := ownBlock_some e
    simp only at e'
    subst e'
    exact gfree
  · refine Below.setCell ?_ hp.bl _
    refine ⟨hgr.os, hgr.tape, hgr.output, by omega, fun b hlt => k0 b (by have := h.hB; omega) (fun e => by have := (h.own.lt b e).1; omega)⟩
/-- l = l[:len(l)-1] -/
theorem gs_pop {p : Pl} (hp : p.Ok) {w : World} {vo : Value} {cur : List Int} {vs : List Value} {outs : List (List Int)} {g cap : Nat} {x : Int}
    (h : GS p w (.slice (some ⟨g, 0, none⟩) (cur.length + 1) cap) (cur ++ [x]) vo vs outs) :
    GS p (w.setCell ⟨p.l, 0, none⟩ (.slice (some ⟨g, 0, none⟩) cur.length cap)) (.slice (some ⟨g, 0, none⟩) cur.length cap) cur vo vs outs ∧ Below p.B w (w.setCell ⟨p.l, 0, none⟩ (.slice (some ⟨g, 0, none⟩) cur.length cap)) := by
  have f0 : ∀ b, b ≠ p.l → (w.setCell ⟨p.l, 0, none⟩ (.slice (some ⟨g, 0, none⟩) cur.length cap)).heap[b]? = w.heap[b]? := fun b hb => heap_setCell_ne _ _ _ b hb
  refine ⟨⟨heap_setCell_one h.hl _, (f0 _ hp.ol).trans h.ho, (f0 _ hp.lg.symm).trans h.hg, (f0 _ hp.lf.symm).trans h.hf, by rw [size_setCell']; exact h.hB, ?_, ?_, ?_, ?_, h.fo⟩, (Below.refl _ _).setCell hp.bl _⟩
  · exact (h.own.pop rfl).same (fun b e _ => f0 b (h.fl b e).1.2.1)
  · exact ownsRow_same h.row (fun b e _ => f0 b (h.fo b e).2.1)
  · exact h.elts.keep (by rw [size_setCell']; omega) (fun b _ hB => f0 b hB.1.2.1) (fun b _ hB => hB)
  · exact h.fl

theorem prt_next (f n k : Nat) (cur : List Int) (outs : List (List Int)) :
    outs ++ (prtk f n k).map (cur ++ ·) ++ (prt f (n - (k + 1)) (k + 1)).map ((cur ++ [(k : Int) + 1]) ++ ·) = outs ++ (prtk f n (k + 1)).map (cur ++ ·) := by
  rw [prtk_succ, List.map_append, List.map_map, List.append_assoc]
  congr 2
  apply List.map_congr_left
  intro a _
  simp
set_option maxRecDepth 100000 in
set_option maxHeartbeats 8000000 in
theorem grow_any (p : Pl) (hp : p.Ok) : ∀ (f n most : Nat), n ≤ f → n ≤ 100 → most ≤ 100 → ∀ (vl : Value) (cur : List Int) (vo : Value) (vs : List Value) (outs : List (List Int)) (w : World), GS p w vl cur vo vs outs → cur.length + n ≤ 200 → outs.length + (prt f n most).length ≤ 100000 →
    Calls Try.prog 84 #[.int .i64 n, .int .i64 most, .pointer (some ⟨p.f, 0, none⟩), .pointer (some ⟨p.l, 0, none⟩), .pointer (some ⟨p.g, 0, none⟩)] w (Grown p w cur (outs ++ (prt f n most).map (cur ++ ·))) := by
  intro f
  induction f with
  | zero =>
    intro n most hn _ _ vl cur vo vs outs w h hl hlen
    obtain rfl : n = 0 := by omega
    rw [prt_zero] at hlen
    simp only [List.length_cons, List.length_nil] at hlen
    exact grow_zero p hp 0 most vl cur vo vs outs w h (by omega) (by omega)
  | succ f ih =>
    intro n most hn hn100 hm100 vl cur vo vs outs w h hl hlen
    by_cases h0 : n = 0
    · subst h0
      rw [prt_zero] at hlen
      simp only [List.length_cons, List.length_nil] at hlen
      exact grow_zero p hp (f + 1) most vl cur vo vs outs w h (by omega) (by omega)
    · have HPL := Lib.hid (fun k hk => prt_length f n most k hk h0)
      have HPP := Lib.hid (prt_pos f n most h0)
      have HG := Lib.hid h
      have HIH := Lib.hid ih
      have hn0 : ((n : Int) == 0) = false := by rw [beq_eq_false_iff_ne]; omega
      have HP := Lib.hid hp
      have hplg := hp.lg
      have hplg' := hp.lg.symm
      clear h ih h0 hp
      obtain ⟨M, hM⟩ : ∃ M, M = min n most := ⟨_, rfl⟩
      have hM1 : M ≤ n := by omega
      have hM2 : M ≤ most := by omega
      have HMM := Lib.hid hM
      by_cases hmn : most < n
      · have hMe : M = most := by omega
        have HME := Lib.hid hMe
        clear hM hMe
        go_enter Try.func84, Try.ntmps84
        go_wp2_with fail
        go_loopw [7] (fun x wr => ∃ k : Nat, k ≤ M ∧ x = .int .i64 ((k : Int) + 1) ∧ (∃ vl vo vs, GS p wr vl cur vo vs (outs ++ (prtk f n k).map (cur ++ ·))) ∧ Below p.B w wr)
          (fun x _ => M + 1 - (intOf x).toNat)
        case atStart => exact ⟨0, by omega, rfl, ⟨vl, vo, vs, by rw [prtk_zero]; simpa using HG.out⟩, Below.refl _ _⟩
        case round =>
          obtain ⟨k, hk, rfl, hgs, hb⟩ := hrel
          clear HG
          obtain ⟨vl1, vo1, vs1, hgs⟩ := hgs
          by_cases hlt : k < M
          · have hk1 : k + 1 ≤ n := by omega
            have hk2 : k + 1 ≤ most := by omega
            have hk3 : (k : Int) + 1 ≤ n := by omega
            have hk4 : (k : Int) + 1 ≤ most := by omega
            have d1 : decide ((k : Int) + 1 ≤ most) = true := decide_eq_true (by omega)
            have d2 : decide (k + 1 ≤ most) = true := decide_eq_true (by omega)
            have cl := cellOf hgs.hl
            have HGS := Lib.hid hgs
            have HBW := Lib.hid hb
            have llw := ltOf hgs.hl
            clear hgs hb
            go_wp2_with (at_builtin; refine wpList_push _ rfl _ _ 53 rfl Try.underlying53 p.B vl1 cur rfl HGS.out.own ((k : Int) + 1) rfl (by omega) HGS.out.hB ?_; intro g cap w2 hown2 hgrow2 hat2; obtain ⟨r1, r2, r3, r4⟩ := gs_push HP.out HGS.out hown2 hgrow2 hat2; have cl2 := cellOf r3; have fl2 := freeOf r3; have ll2 := ltOf r3; have cg2 := cellOf r4; have R1 := Lib.hid r1; have R2 := Lib.hid r2; unfold growV at cg2; clear r1 r2 r3 r4 hown2 hgrow2 hat2 cl)
            have hrec := HIH.out (n - (k + 1)) (k + 1) (by omega) (by omega) (by omega) _ _ _ _ _ _ R1.out (by rw [List.length_append]; simp; omega) (by
              have h1 := HPL.out (k + 1) (by rw [← HMM.out]; omega)
              rw [prtk_succ, List.length_append, List.length_map] at h1
              rw [List.length_append, List.length_map]
              omega)
            rw [show ((n - (k + 1) : Nat) : Int) = (n : Int) - ((k : Int) + 1) by omega, show ((k + 1 : Nat) : Int) = (k : Int) + 1 by omega] at hrec
            have HREC := Lib.hid hrec
            clear hrec
            refine HREC.out.mono ?_
            rintro e w3 ⟨vl3, vo3, vs3, rfl, hg3, hb3⟩
            have cl3 := cellOf hg3.hl
            have fl3 := freeOf hg3.hl
            have ll3 := ltOf hg3.hl
            obtain ⟨g3, cap3, rfl, hcap3, hg31, hg32, _⟩ := hg3.own.seen (by simp)
            rw [List.length_append] at hcap3 cl3 hg3
            simp only [List.length_cons, List.length_nil, Nat.zero_add] at hcap3 cl3 hg3
            obtain ⟨q1, q2⟩ := gs_pop HP.out hg3
            have Q1 := Lib.hid q1
            have Q2 := Lib.hid q2
            have HB3 := Lib.hid hb3
            have hlc : ((cur.length : Int) + 1 - 1).toNat = cur.length := by omega
            clear q1 q2 hg3 hb3 cl2 fl2 cg2 HREC
            go_wp2_with fail
            go_roundw
            case rel =>
              have hq := Q1.out
              rw [prt_next] at hq
              exact ⟨k + 1, by omega, by go_num, ⟨_, _, _, hq⟩, HBW.out.trans (R2.out.trans (HB3.out.trans Q2.out))⟩
            case measure => simp [intOf]; omega
          · have hke : k = M := by omega
            have d1 : decide ((k : Int) + 1 ≤ most) = false := decide_eq_false (by have := HME.out; omega)
            have d2 : decide (k + 1 ≤ most) = false := decide_eq_false (by have := HME.out; omega)
            have HGS := Lib.hid hgs
            have HBW := Lib.hid hb
            have HKE := Lib.hid hke
            clear hgs hb hke
            go_wp2_with fail
            go_end0
            refine ⟨vl1, vo1, vs1, rfl, ?_, HBW.out⟩
            rw [HPP.out, ← HMM.out, ← HKE.out]
            exact HGS.out
      · have hMe : M = n := by omega
        have HME := Lib.hid hMe
        clear hM hMe
        go_enter Try.func84, Try.ntmps84
        go_wp2_with fail
        go_loopw [7] (fun x wr => ∃ k : Nat, k ≤ M ∧ x = .int .i64 ((k : Int) + 1) ∧ (∃ vl vo vs, GS p wr vl cur vo vs (outs ++ (prtk f n k).map (cur ++ ·))) ∧ Below p.B w wr)
          (fun x _ => M + 1 - (intOf x).toNat)
        case atStart => exact ⟨0, by omega, rfl, ⟨vl, vo, vs, by rw [prtk_zero]; simpa using HG.out⟩, Below.refl _ _⟩
        case round =>
          obtain ⟨k, hk, rfl, hgs, hb⟩ := hrel
          clear HG
          obtain ⟨vl1, vo1, vs1, hgs⟩ := hgs
          by_cases hlt : k < M
          · have hk1 : k + 1 ≤ n := by omega
            have hk2 : k + 1 ≤ most := by omega
            have hk3 : (k : Int) + 1 ≤ n := by omega
            have hk4 : (k : Int) + 1 ≤ most := by omega
            have d1 : decide ((k : Int) + 1 ≤ n) = true := decide_eq_true (by omega)
            have d2 : decide (k + 1 ≤ n) = true := decide_eq_true (by omega)
            have cl := cellOf hgs.hl
            have HGS := Lib.hid hgs
            have HBW := Lib.hid hb
            have llw := ltOf hgs.hl
            clear hgs hb
            go_wp2_with (at_builtin; refine wpList_push _ rfl _ _ 53 rfl Try.underlying53 p.B vl1 cur rfl HGS.out.own ((k : Int) + 1) rfl (by omega) HGS.out.hB ?_; intro g cap w2 hown2 hgrow2 hat2; obtain ⟨r1, r2, r3, r4⟩ := gs_push HP.out HGS.out hown2 hgrow2 hat2; have cl2 := cellOf r3; have fl2 := freeOf r3; have ll2 := ltOf r3; have cg2 := cellOf r4; have R1 := Lib.hid r1; have R2 := Lib.hid r2; unfold growV at cg2; clear r1 r2 r3 r4 hown2 hgrow2 hat2 cl)
            have hrec := HIH.out (n - (k + 1)) (k + 1) (by omega) (by omega) (by omega) _ _ _ _ _ _ R1.out (by rw [List.length_append]; simp; omega) (by
              have h1 := HPL.out (k + 1) (by rw [← HMM.out]; omega)
              rw [prtk_succ, List.length_append, List.length_map] at h1
              rw [List.length_append, List.length_map]
              omega)
            rw [show ((n - (k + 1) : Nat) : Int) = (n : Int) - ((k : Int) + 1) by omega, show ((k + 1 : Nat) : Int) = (k : Int) + 1 by omega] at hrec
            have HREC := Lib.hid hrec
            clear hrec
            refine HREC.out.mono ?_
            rintro e w3 ⟨vl3, vo3, vs3, rfl, hg3, hb3⟩
            have cl3 := cellOf hg3.hl
            have fl3 := freeOf hg3.hl
            have ll3 := ltOf hg3.hl
            obtain ⟨g3, cap3, rfl, hcap3, hg31, hg32, _⟩ := hg3.own.seen (by simp)
            rw [List.length_append] at hcap3 cl3 hg3
            simp only [List.length_cons, List.length_nil, Nat.zero_add] at hcap3 cl3 hg3
            obtain ⟨q1, q2⟩ := gs_pop HP.out hg3
            have Q1 := Lib.hid q1
            have Q2 := Lib.hid q2
            have HB3 := Lib.hid hb3
            have hlc : ((cur.length : Int) + 1 - 1).toNat = cur.length := by omega
            clear q1 q2 hg3 hb3 cl2 fl2 cg2 HREC
            go_wp2_with fail
            go_roundw
            case rel =>
              have hq := Q1.out
              rw [prt_next] at hq
              exact ⟨k + 1, by omega, by go_num, ⟨_, _, _, hq⟩, HBW.out.trans (R2.out.trans (HB3.out.trans Q2.out))⟩
            case measure => simp [intOf]; omega
          · have hke : k = M := by omega
            have d1 : decide ((k : Int) + 1 ≤ n) = false := decide_eq_false (by have := HME.out; omega)
            have d2 : decide (k + 1 ≤ n) = false := decide_eq_false (by have := HME.out; omega)
            have HGS := Lib.hid hgs
            have HBW := Lib.hid hb
            have HKE := Lib.hid hke
            clear hgs hb hke
            go_wp2_with fail
            go_end0
            refine ⟨vl1, vo1, vs1, rfl, ?_, HBW.out⟩
            rw [HPP.out, ← HMM.out, ← HKE.out]
            exact HGS.out
end Go.Proofs.Ytpgpkgnljoedaaa
