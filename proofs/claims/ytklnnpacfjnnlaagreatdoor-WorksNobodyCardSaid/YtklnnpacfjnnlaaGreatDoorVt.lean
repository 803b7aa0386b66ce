/- Vats: the change vat. -/
import Derived.Test.YtklnnpacfjnnlaaGreatDoorSy
import Derived.Deep.RegionLaw
namespace Go.Proofs.YtklnnpacfjnnlaaGreatDoor
open Go.RowKit
/-- a vat has a name -/
def named (nm : ByteArray) (v : Vat) : Bool := v.1.toList == nm.toList
theorem named_pred (q : Nat) (nm : ByteArray) (w : World) (hq : q < w.heap.size) (hc : w.cell? ⟨q, 0, none⟩ = some (.string nm)) :
    PredBelow Tryz.prog 203 #[.pointer (some ⟨q, 0, none⟩)] (fun x => .agg (vtEnc.enc x).toArray) (named nm) w := by
  intro W x hb
  obtain ⟨n, a, m⟩ := x
  have hc2 := (hb.cell (p := ⟨q, 0, none⟩) hq).trans hc
  have hs := hb.size
  change Calls Tryz.prog 203 #[.agg #[.string n, .int .i64 a, .int .i64 m], .pointer (some ⟨q, 0, none⟩)] W _
  clear hc
  have hq2 : q < W.heap.size := by omega
  go_enter Tryz.func203, Tryz.ntmps203
  go_wp2
  go_ret
  exact ⟨rfl, hb.alloc hs _⟩
set_option maxRecDepth 100000 in
set_option maxHeartbeats 1000000 in
theorem has_any (q X : Nat) (nm : ByteArray) (v : Value) (L : List Vat) (hl : L.length ≤ 100) (w : World) (hq : q < w.heap.size) (hc : w.cell? ⟨q, 0, none⟩ = some (.string nm)) (hv : Rw vtEnc 121 w X v L) :
    Calls Tryz.prog 202 #[v, .func (.func 203) #[] #[.pointer (some ⟨q, 0, none⟩)]] w fun e w' => e = .returned (.bool (L.any (named nm))) ∧ Below w.heap.size w w' := by
  by_cases h0 : L.length = 0
  · obtain rfl := List.eq_nil_of_length_eq_zero h0
    obtain ⟨A, c, rfl⟩ := hv.form
    clear hv hc
    go_enter Tryz.func202, Tryz.ntmps202
    go_wp2_with (go_at_call 209; go_in)
    go_loop [5, 8] (fun _ i => i = .int .i64 0) (fun _ _ => 0)
    case atStart => rfl
    case round =>
      subst hrel
      go_wp2
      go_ret
      exact ⟨rfl, Below.refl _ _⟩
  · obtain ⟨g, c, rfl, -, hg⟩ := hv.seen (by omega)
    refine (AnyQ.slices_ContainsFunc l202 3 Tryz.isAgg121 Tryz.sizeOf121 vtEnc.enc (fun _ => rfl) (named nm) 203 #[.pointer (some ⟨q, 0, none⟩)] (fun _ _ => rfl) g 0 L.length c L w (named_pred q nm w hq hc) (Nat.le_refl _) (by omega) hg (fun j hj i u hu => ?_)).mono ?_
    · have hj2 : L[j]? = some L[j]! := by rw [List.getElem!_eq_getElem?_getD, List.getElem?_eq_getElem hj]; rfl
      rw [Nat.zero_add]
      exact hv.cell hj2 hu
    · rintro e w' ⟨rfl, hb⟩
      rw [List.take_length]
      exact ⟨rfl, hb⟩
/-- append of one thing as a step of a region that draws its order, with what is left alone -/
theorem step_rw2 {α : Type} {k : Nat} {E : Enc α k} {t e : TypeId} {z : Value} {by' : Nat} (T : Elt E t e z by') (w : World) {ops : Array Oper} {o : Oper} {a : Act} {K : Act → World → Prop} {Q : Exit → Act → World → Prop} {EE : Prop} (hgd : o.guard = none) (s x : Operand)
    (ho : o.op = .call { callee := .builtin .append, args := #[s, x], argTypes := #[t, t] })
    (X : Nat) (v : Value) (L : List α) (hs : a.eval s = v) (h : Rw E e w X v L) (y : α) (cs : Array Value) (hcs : cs = (E.enc y).toArray)
    (hx : a.eval x = .slice (some ⟨w.heap.size, 0, none⟩) 1 1) (hn : L.length ≤ 1000000) (hX : X ≤ w.heap.size)
    (hK : ∀ g cap w', Rw E e w' X (.slice (some ⟨g, 0, none⟩) (L.length + 1) cap) (L ++ [y]) → Below X w w' → (∀ b, b < w.heap.size → v.ownBlock ≠ some b → w'.heap[b]? = w.heap[b]?) → (v.ownBlock = some g ∨ g = w.heap.size + 1) → w.heap.size ≤ w'.heap.size →
      K (a.put o.dst (.slice (some ⟨g, 0, none⟩) (L.length + 1) cap)) w') :
    if Region.wanted o (yielded ops a.tmps) = true then Oper.wp Tryz.prog o a (w.alloc (.cells cs e)) K Q else EE := by
  subst hcs
  obtain ⟨i0, hi, hz0, hz1, hz2⟩ := info_parts T.info
  have hb := T.hb
  refine step_append_lies _ hgd s x t ho X e i0 z k by' T.ht hi hz0 hz1 hz2 T.zc T.k0 v L.length _ hs (World.ownsRow.alloc h _) ⟨w.heap.size, 0, none⟩ 1 1 (E.enc y) hx (by rw [E.len]; omega)
    (World.news_of_block (heap_alloc_new w _)) (E.one y) (by omega) (by unfold maxLen; omega) ?_ (by simp; omega) (w.heap.size + 1) (by simp) ?_
  · have : (L.length + 1) * by' ≤ 1000001 * 1000 := Nat.mul_le_mul (by omega) hb
    omega
  · intro g cap w' r1 r2 r3 _
    have hbl : Below X w w' := ((Below.refl X w).alloc hX _).grown r2 (by simp; omega) (fun k e => (World.ownsRow.lt h k e).1)
    refine hK g cap w' ?_ hbl (fun b hb hne => ?_) r3 (by have := r2.size; simp at this; omega)
    · unfold Rw
      rw [List.length_append, List.flatMap_append]
      simpa using r1
    · exact (r2.block b (by simp; omega) (Ne.symm hne)).trans (Below.heap_alloc w _ b hb)
/-- what vat returns -/
def vatRes (L : List Vat) (x : Vat) : Int := if L.any (named x.1) then 5 else if L.length = 10 then 7 else if sysOk (sysOf (L ++ [x])) then 0 else 2
def vatWord (r : Int) : ByteArray := if r = 0 then ⟨#[118, 97, 116]⟩ else ⟨#[]⟩
def VatPost (w : World) (s B : Nat) (v : Value) (L : List Vat) (x : Vat) (e : Ending) (w' : World) : Prop :=
  Below B w w' ∧ (∀ b, b < w.heap.size → b ≠ s → v.ownBlock ≠ some b → w'.heap[b]? = w.heap[b]?) ∧
  e = .returned (.tuple #[.string (vatWord (vatRes L x)), .int .i64 (vatRes L x)]) ∧
  (vatRes L x = 0 → ∃ v', w'.cell? ⟨s, 0, none⟩ = some v' ∧ Rw vtEnc 121 w' B v' (L ++ [x]) ∧ v'.ownBlock ≠ some s ∧ (∀ j, w'.frozen? ⟨s, j, none⟩ = w.frozen? ⟨s, j, none⟩) ∧ ∀ j, 1 ≤ j → w'.cell? ⟨s, j, none⟩ = w.cell? ⟨s, j, none⟩)
set_option maxHeartbeats 4000000 in
set_option maxRecDepth 100000 in
theorem vat_any (s X Y B : Nat) (v l1 l2 : Value) (L : List Vat) (nm : ByteArray) (a m : Int) (w : World) (hB : B ≤ s) (hsz : s < w.heap.size) (hs : w.cell? ⟨s, 0, none⟩ = some v) (hf : w.frozen? ⟨s, 0, none⟩ = false) (hv : Rw vtEnc 121 w X v L) (hX : B ≤ X) (hsx : v.ownBlock ≠ some s)
    (hl1 : Rw stEnc 9 w Y l1 [nm]) (hl2 : Own w Y l2 [a, m]) (hl : L.length ≤ 10) :
    Calls Tryz.prog 156 #[.pointer (some ⟨s, 0, none⟩), .agg #[l1, l2]] w (VatPost w s B v L (nm, a, m)) := by
  obtain ⟨g1, k1, e1, -, b1⟩ := hl1.seen (by simp)
  obtain ⟨g2, k2, e2, -, -, b2, c2⟩ := hl2.seen (by simp)
  subst e1
  subst e2
  rw [show [a, m].length = 2 from rfl, show [nm].length = 1 from rfl]
  have n0 := hl1.cell (j := 0) (x := nm) rfl (i := 0) rfl
  have a0 := c2 0 a rfl
  have a1 := c2 1 m rfl
  rw [Nat.zero_mul, Nat.add_zero] at n0
  have HV := Lib.hid hv
  clear hv hl1 hl2 c2
  go_enter Tryz.func156, Tryz.ntmps156
  go_wp2_with fail
  go_region
  have bw : Below w.heap.size w ((w.alloc (.cells #[.slice (some ⟨g1, 0, none⟩) 1 k1, .slice (some ⟨g2, 0, none⟩) 2 k2] 149)).alloc (.cells #[.string nm, .int .i64 a, .int .i64 m] 121)).drew := (((Below.refl _ w).alloc (Nat.le_refl _) _).alloc (by simp) _).drew
  have bs : ((w.alloc (.cells #[.slice (some ⟨g1, 0, none⟩) 1 k1, .slice (some ⟨g2, 0, none⟩) 2 k2] 149)).alloc (.cells #[.string nm, .int .i64 a, .int .i64 m] 121)).drew.heap.size = w.heap.size + 2 := by simp [World.drew, -World.drew_eq]
  have y0 : ((w.alloc (.cells #[.slice (some ⟨g1, 0, none⟩) 1 k1, .slice (some ⟨g2, 0, none⟩) 2 k2] 149)).alloc (.cells #[.string nm, .int .i64 a, .int .i64 m] 121)).drew.cell? ⟨w.heap.size + 1, 0, none⟩ = some (.string nm) := by
    rw [World.cell?_drew, World.cell?_alloc_at _ _ _ _ (by simp)]; rfl
  have y1 : ((w.alloc (.cells #[.slice (some ⟨g1, 0, none⟩) 1 k1, .slice (some ⟨g2, 0, none⟩) 2 k2] 149)).alloc (.cells #[.string nm, .int .i64 a, .int .i64 m] 121)).drew.cell? ⟨w.heap.size + 1, 1, none⟩ = some (.int .i64 a) := by
    rw [World.cell?_drew, World.cell?_alloc_at _ _ _ _ (by simp)]; rfl
  have y2 : ((w.alloc (.cells #[.slice (some ⟨g1, 0, none⟩) 1 k1, .slice (some ⟨g2, 0, none⟩) 2 k2] 149)).alloc (.cells #[.string nm, .int .i64 a, .int .i64 m] 121)).drew.cell? ⟨w.heap.size + 1, 2, none⟩ = some (.int .i64 m) := by
    rw [World.cell?_drew, World.cell?_alloc_at _ _ _ _ (by simp)]; rfl
  generalize ((w.alloc (.cells #[.slice (some ⟨g1, 0, none⟩) 1 k1, .slice (some ⟨g2, 0, none⟩) 2 k2] 149)).alloc (.cells #[.string nm, .int .i64 a, .int .i64 m] 121)).drew = W at bw bs y0 y1 y2 ⊢
  have hs2 := (bw.cell (p := ⟨s, 0, none⟩) hsz).trans hs
  have hf2 := (bw.frozen (p := ⟨s, 0, none⟩) hsz).trans hf
  have hhas := has_any (w.heap.size + 1) X nm v L (by omega) W (by omega) y0 (HV.out.keep bw)
  have HH := Lib.hid hhas
  clear hhas n0 a0 a1
  cases hany : L.any (named nm) with
  | true =>
    have h5 : vatRes L (nm, a, m) = 5 := by unfold vatRes; rw [if_pos hany]
    have H5 := Lib.hid h5
    have HAN := Lib.hid hany
    clear h5 hany
    go_wp2_with (go_at_call 202; refine HH.out.mono ?_; rintro e w3 ⟨rfl, hb3⟩; rw [HAN.out])
    go_ret2
    refine ⟨(bw.mono (by omega)).trans (hb3.mono (by omega)), fun b hb _ _ => (hb3.block b (by omega)).trans (bw.block b hb), ?_, fun h => by rw [H5.out] at h; omega⟩
    rw [H5.out]; rfl
  | false =>
    obtain ⟨A, c, hform⟩ := HV.out.form
    subst hform
    by_cases h10 : L.length = 10
    · have h7 : vatRes L (nm, a, m) = 7 := by unfold vatRes; rw [if_neg (by rw [hany]; simp), if_pos h10]
      have H7 := Lib.hid h7
      have HAN := Lib.hid hany
      have hb10 : ((L.length : Int) == 10) = true := by simp [h10]
      clear h7 hany h10
      go_wp2_with (
        go_at_call 202
        refine HH.out.mono ?_
        rintro e w3 ⟨rfl, hb3⟩
        rw [HAN.out]
        have hs3 := (hb3.cell (p := ⟨s, 0, none⟩) (by show s < _; omega)).trans hs2)
      go_ret2
      refine ⟨(bw.mono (by omega)).trans (hb3.mono (by omega)), fun b hb _ _ => (hb3.block b (by omega)).trans (bw.block b hb), ?_, fun h => by rw [H7.out] at h; omega⟩
      rw [H7.out]; rfl
    · have hb10 : ((L.length : Int) == 10) = false := by simp; omega
      have hres : vatRes L (nm, a, m) = if sysOk (sysOf (L ++ [(nm, a, m)])) then 0 else 2 := by unfold vatRes; rw [if_neg (by rw [hany]; simp), if_neg h10]
      have HRES := Lib.hid hres
      have HAN := Lib.hid hany
      clear hres hany
      go_wp2_with (
        go_at_call 202
        refine HH.out.mono ?_
        rintro e w3 ⟨rfl, hb3⟩
        rw [HAN.out]
        have hs3 := (hb3.cell (p := ⟨s, 0, none⟩) (by show s < _; omega)).trans hs2
        have hf3 := (hb3.frozen (p := ⟨s, 0, none⟩) (by show s < _; omega)).trans hf2
        have z0 := (hb3.cell (p := ⟨w.heap.size + 1, 0, none⟩) (by show w.heap.size + 1 < _; omega)).trans y0
        have z1 := (hb3.cell (p := ⟨w.heap.size + 1, 1, none⟩) (by show w.heap.size + 1 < _; omega)).trans y1
        have z2 := (hb3.cell (p := ⟨w.heap.size + 1, 2, none⟩) (by show w.heap.size + 1 < _; omega)).trans y2
        have RV := Lib.hid (((HV.out.keep bw).keep hb3)))
      have hne : (Value.slice A L.length c).ownBlock ≠ some s := hsx
      have szb := hb3.size
      have sl3 : s < w3.heap.size := by omega
      have sB3 : B ≤ w3.heap.size := by omega
      have hs3a : (w3.drew.alloc (.cells #[.string nm, .int .i64 a, .int .i64 m] 121)).cell? ⟨s, 0, none⟩ = some (.slice A L.length c) := by
        rw [World.cell?_alloc_past _ _ _ (by exact sl3), World.cell?_drew]; exact hs3
      clear szb
      go_region_law (
        refine step_rw2 vtElt w3.drew rfl _ _ rfl B (.slice A L.length c) L rfl ((RV.out.keep (Below.refl _ _).drew).base hX) (nm, a, m) _ rfl rfl (by omega) sB3 ?_
        intro g4 c4 w4 r4 b4 o4 or4 sz4
        have hs4 := (World.cell?_of_block (w := w3) (a := ⟨s, 0, none⟩) (o4 s sl3 hne)).trans hs3
        have hf4 := (World.frozen?_of_block (w := w3) (a := ⟨s, 0, none⟩) (o4 s sl3 hne)).trans hf3)
      all_goals (
        have bel4 : Below B w w4 := ((bw.mono (by omega)).trans (hb3.mono (by omega))).trans ((Below.refl B w3).drew.trans b4)
        have oth4 : ∀ b, b < w.heap.size → (Value.slice A L.length c).ownBlock ≠ some b → w4.heap[b]? = w.heap[b]? := fun b hb hne2 => ((o4 b (by show b < w3.heap.size; have := hb3.size; omega) hne2).trans (hb3.block b (by omega))).trans (bw.block b hb)
        have ne4 : s ≠ g4 := fun e => by
          rcases or4 with h | h
          · rw [← e] at h; exact hne h
          · have h2 : g4 = w3.heap.size + 1 := h
            omega
        have sz5 : w3.heap.size ≤ w4.heap.size := sz4
        obtain ⟨w5, hw5⟩ : ∃ w5, w5 = w4.setCell ⟨s, 0, none⟩ (.slice (some ⟨g4, 0, none⟩) (L.length + 1) c4) := ⟨_, rfl⟩
        have s5 : w5.heap.size = w4.heap.size := by rw [hw5]; simp [World.setCell]
        have k5 : w5.cell? ⟨s, 0, none⟩ = some (.slice (some ⟨g4, 0, none⟩) (L.length + 1) c4) := by rw [hw5]; exact World.cell?_setCell_same _ _ _ hs4
        have h5 : ∀ b, b ≠ s → w5.heap[b]? = w4.heap[b]? := fun b hb => by rw [hw5]; exact heap_setCell_ne _ _ _ _ hb
        have R5 : Rw vtEnc 121 w5 B (.slice (some ⟨g4, 0, none⟩) (L.length + 1) c4) (L ++ [(nm, a, m)]) := r4.same fun b hb _ => h5 b fun e => ne4 (by simp [Value.ownBlock] at hb; omega)
        have bel5 : Below B w w5 := by rw [hw5]; exact bel4.setCell (p := ⟨s, 0, none⟩) hB _
        have fz5 : ∀ j, w5.frozen? ⟨s, j, none⟩ = w.frozen? ⟨s, j, none⟩ := fun j => by rw [hw5, World.frozen?_setCell]; exact World.frozen?_of_block (w := w) (a := ⟨s, j, none⟩) (oth4 s hsz hne)
        have ot5 : ∀ j, 1 ≤ j → w5.cell? ⟨s, j, none⟩ = w.cell? ⟨s, j, none⟩ := fun j hj => by
          rw [hw5, World.cell?_setCell_other _ _ _ _ (by first | (simp; done) | (simp; omega))]
          exact World.cell?_of_block (w := w) (a := ⟨s, j, none⟩) (oth4 s hsz hne)
        rw [← hw5]
        have HBEL := Lib.hid bel5
        have HO5 := Lib.hid (fun b hb h1 h2 => (h5 b h1).trans (oth4 b hb h2))
        have HR5 := Lib.hid R5
        have HFZ := Lib.hid fz5
        have HOT := Lib.hid ot5
        have s5B : w.heap.size + 2 ≤ w5.heap.size := by have := hb3.size; omega
        clear hw5 h5 R5 bel5 fz5 ot5 bel4 oth4 r4 o4 b4 hs3a hs4 hf4 hs3 hf3
        go_wp2_with (
            go_at_call 165; refine (system_any s B _ (L ++ [(nm, a, m)]) (by rw [List.length_append, List.length_singleton]; omega) _ k5 HR5.out).mono ?_; rintro e w6 ⟨u6, rfl, hR6, hb6⟩; have HR6 := Lib.hid hR6; clear hR6)
        refine (Share_any _ _ _ (by simp [sysOf]; omega) _ HR6.out).mono ?_
        rintro e w7 ⟨hb7, fa, fb, rfl⟩
        have hb7a := hb7.alloc hb7.size (.cells #[.int .i64 fa, .int .i64 fb] 237)
        have bel7 := (HBEL.out.trans (hb6.mono (by omega))).trans (hb7a.mono (by have := hb6.size; omega))
        have keep7 : ∀ b, b < w5.heap.size → (w7.alloc (.cells #[.int .i64 fa, .int .i64 fb] 237)).heap[b]? = w5.heap[b]? := fun b hb => (hb7a.block b (by have := hb6.size; omega)).trans (hb6.block b hb)
        have post : ∀ e, e = .returned (.tuple #[.string (vatWord (vatRes L (nm, a, m))), .int .i64 (vatRes L (nm, a, m))]) → VatPost w s B (.slice A L.length c) L (nm, a, m) e (w7.alloc (.cells #[.int .i64 fa, .int .i64 fb] 237)) := fun e he => by
          refine ⟨bel7, fun b hb h1 h2 => (keep7 b (by omega)).trans (HO5.out b hb h1 h2), he, fun _ => ⟨_, (World.cell?_of_block (w := w5) (a := ⟨s, 0, none⟩) (keep7 s (by omega))).trans k5, HR5.out.same fun b hb hlt => keep7 b hlt, fun e => ne4 (by simp [Value.ownBlock] at e; exact e.symm), fun j => (World.frozen?_of_block (w := w5) (a := ⟨s, j, none⟩) (keep7 s (by omega))).trans (HFZ.out j), fun j hj => (World.cell?_of_block (w := w5) (a := ⟨s, j, none⟩) (keep7 s (by omega))).trans (HOT.out j hj)⟩⟩
        have HPO := Lib.hid post
        clear post keep7 bel7
        cases hok : sysOk (sysOf (L ++ [(nm, a, m)])) with
        | true =>
          have h0 : vatRes L (nm, a, m) = 0 := by rw [HRES.out, hok]; rfl
          have H0 := Lib.hid h0
          rw [if_pos rfl]
          clear hok h0
          go_wp2_with fail
          go_ret2
          refine HPO.out _ ?_
          rw [H0.out]; rfl
        | false =>
          have h0 : vatRes L (nm, a, m) = 2 := by rw [HRES.out, hok]; rfl
          have H0 := Lib.hid h0
          rw [if_neg (by simp)]
          clear hok h0
          go_wp2_with fail
          go_ret2
          refine HPO.out _ ?_
          rw [H0.out]; rfl)
end Go.Proofs.YtklnnpacfjnnlaaGreatDoor
