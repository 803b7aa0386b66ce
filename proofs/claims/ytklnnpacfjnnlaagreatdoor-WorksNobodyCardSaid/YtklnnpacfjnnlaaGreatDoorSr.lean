/- stir. -/
import Derived.Test.YtklnnpacfjnnlaaGreatDoorSo
namespace Go.Proofs.YtklnnpacfjnnlaaGreatDoor
open Go.RowKit
/-- append(s, l...) of things that lie in a row -/
theorem wpList_rws {α : Type} {k : Nat} {E : Enc α k} {t e : TypeId} {z : Value} {by' : Nat} (T : Elt E t e z by') (w : World) {ops : Array Oper} {rest : List Oper} {o : Oper} {a : Act} {Q : Exit → Act → World → Prop} (hgd : o.guard = none) (s x : Operand)
    (ho : o.op = .call { callee := .builtin .append, args := #[s, x], argTypes := #[t, t] })
    (X : Nat) (v : Value) (L : List α) (hs : a.eval s = v) (h : Rw E e w X v L) (Y g2 c2 n m : Nat) (M : List α) (hnn : n = L.length) (hmm : m = M.length) (h2 : Rw E e w Y (.slice (some ⟨g2, 0, none⟩) m c2) M) (hM : 0 < m)
    (hx : a.eval x = .slice (some ⟨g2, 0, none⟩) m c2) (hn : n + m ≤ 1000000) (hX : X ≤ w.heap.size)
    (hK : ∀ g cap w', Rw E e w' X (.slice (some ⟨g, 0, none⟩) (n + m) cap) (L ++ M) → Below X w w' → wpList Tryz.prog ops Q rest (a.put o.dst (.slice (some ⟨g, 0, none⟩) (n + m) cap)) w') :
    wpList Tryz.prog ops Q (o :: rest) a w := by
  subst hnn
  subst hmm
  obtain ⟨i0, hi, hz0, hz1, hz2⟩ := info_parts T.info
  have hb := T.hb
  refine wpList_append_lies _ hgd s x t ho X e i0 z k by' T.ht hi hz0 hz1 hz2 T.zc T.k0 v L.length _ hs h ⟨g2, 0, none⟩ M.length c2 (M.flatMap E.enc) hx (enc_length E M)
    (fun j u hj => World.ownsRow.cells h2 (g := g2) rfl j u hj) (fun u hu => by obtain ⟨y, -, hy⟩ := List.mem_flatMap.1 hu; exact E.one y u hy) hM (by unfold maxLen; omega) ?_ hX w.heap.size rfl ?_
  · have : (L.length + M.length) * by' ≤ 1000000 * 1000 := Nat.mul_le_mul hn hb
    omega
  · intro g cap w' r1 r2 r3 _
    have hbl : Below X w w' := (Below.refl X w).grown r2 hX (fun k e => (World.ownsRow.lt h k e).1)
    refine hK g cap w' ?_ hbl
    unfold Rw
    rw [List.length_append, List.flatMap_append]
    exact r1
/-- the vats that are stirred on a day -/
def stirs (d : Int) (v : Vat) : Bool := decide ((d - v.2.1).tmod v.2.2 = 0)
def stirNames (L : List Vat) (d : Int) : List ByteArray := (L.filter (stirs d)).map fun v => v.1
def stirWord : ByteArray := ⟨#[115, 116, 105, 114]⟩
def stirRep (L : List Vat) (d : Int) : ByteArray := ⟨(Lib.join ((stirWord :: sortB (stirNames L d)).map (·.data.toList)) [32]).toArray⟩
/-- the vats are fit to be stirred -/
def Fit (L : List Vat) : Prop := L.length ≤ 100 ∧ ∀ v ∈ L, v.1.size ≤ 100 ∧ -10000000 ≤ v.2.1 ∧ v.2.1 ≤ 10000000 ∧ 1 ≤ v.2.2 ∧ v.2.2 ≤ 10000000
theorem stirNames_snoc (L : List Vat) (v : Vat) (d : Int) : stirNames (L ++ [v]) d = if stirs d v = true then stirNames L d ++ [v.1] else stirNames L d := by
  unfold stirNames
  rw [List.filter_append, List.map_append]
  cases h : stirs d v <;> simp [h]
theorem lit_str (w : World) (x : ByteArray) : Rw stEnc 9 (w.alloc (.cells #[.string x] 9)) w.heap.size (.slice (some ⟨w.heap.size, 0, none⟩) 1 1) [x] := by
  unfold Rw
  have h := World.ownsRow_lit (base := w.heap.size) (e := 9) (size := 1) w #[Value.string x] 1 (Nat.le_refl _) (by unfold maxLen; omega) (by simp)
  exact h
theorem lens_le (n : Nat) : ∀ xs : List (List UInt8), (∀ x ∈ xs, x.length ≤ n) → Lib.lens xs ≤ n * xs.length
  | [], _ => by simp [Lib.lens]
  | x :: xs, h => by
    have h1 := h x (by simp)
    have h2 := lens_le n xs (fun y hy => h y (by simp [hy]))
    have h3 : Lib.lens (x :: xs) = x.length + Lib.lens xs := by simp [Lib.lens]
    rw [h3, List.length_cons, Nat.mul_succ]
    omega
theorem sortB_le (n : Nat) (L : List ByteArray) (h : ∀ x ∈ L, x.size ≤ n) : ∀ x ∈ sortB L, x.data.toList.length ≤ n := by
  intro x hx
  unfold sortB at hx
  obtain ⟨y, hy, rfl⟩ := List.mem_map.1 hx
  obtain ⟨z, hz, rfl⟩ := List.mem_map.1 ((List.mergeSort_perm _ _).mem_iff.1 hy)
  exact h z hz
theorem stir_len (L : List Vat) (d : Int) (hL : Fit L) : (Lib.join ((stirWord :: sortB (stirNames L d)).map (·.data.toList)) [32]).length ≤ 100000000 := by
  rw [List.map_cons, Lib.join_length]
  have hn : (stirNames L d).length ≤ 100 := by unfold stirNames; rw [List.length_map]; exact Nat.le_trans (List.length_filter_le _ _) hL.1
  have h := lens_le 100 (stirWord.data.toList :: (sortB (stirNames L d)).map (·.data.toList)) (by
    intro x hx
    rcases List.mem_cons.1 hx with rfl | hx
    · decide
    · obtain ⟨y, hy, rfl⟩ := List.mem_map.1 hx
      refine sortB_le 100 _ (fun z hz => ?_) y hy
      obtain ⟨v, hv, rfl⟩ := List.mem_map.1 hz
      exact (hL.2 v (List.mem_filter.1 hv).1).1)
  rw [List.length_cons, List.length_map, sortB_length] at h
  rw [List.length_map, sortB_length]
  simp only [List.length_singleton]
  omega
set_option maxHeartbeats 4000000 in
set_option maxRecDepth 100000 in
theorem stir_any (s X Y : Nat) (v : Value) (B1 : Option Addr) (n1 k1 : Nat) (l2 : Value) (L : List Vat) (d : Int) (hd : -10000000 ≤ d ∧ d ≤ 10000000) (hL : Fit L) (w : World) (hs : w.cell? ⟨s, 0, none⟩ = some v) (hv : Rw vtEnc 121 w X v L) (hn : Own w Y l2 [d]) :
    Calls Tryz.prog 105 #[.pointer (some ⟨s, 0, none⟩), .agg #[.slice B1 n1 k1, l2]] w fun e w' => e = .returned (.tuple #[.string (stirRep L d), .int .i64 0]) ∧ Below w.heap.size w w' := by
  obtain ⟨A, c, hf⟩ := hv.form
  subst hf
  obtain ⟨g2, k2, e2, -, -, b2, c2⟩ := hn.seen (by simp)
  subst e2
  rw [show [d].length = 1 from rfl]
  have a0 := c2 0 d rfl
  have HV := Lib.hid hv
  have hsz := block_lt_of_cell hs
  have HS := Lib.hid hs
  have HL := Lib.hid hL
  clear hv hn c2 hL
  go_enter Tryz.func105, Tryz.ntmps105
  go_wp2_with fail
  go_loopw [6, 8, 14] (fun out _ i wr => ∃ k : Nat, k ≤ L.length ∧ i = .int .i64 k ∧ Rw stEnc 9 wr (w.heap.size + 1) out (stirNames (L.take k) d) ∧ (stirNames (L.take k) d = [] → out = .slice none 0 0) ∧ Below (w.heap.size + 1) (w.alloc (.cells #[.slice B1 n1 k1, .slice (some ⟨g2, 0, none⟩) 1 k2] 149)) wr) (fun _ _ i _ => L.length - (intOf i).toNat)
  case atStart => exact ⟨0, Nat.zero_le _, rfl, Rw.nil _ _, fun _ => rfl, Below.refl _ _⟩
  case round =>
    obtain ⟨k, hk, rfl, hR, hnil, hb⟩ := hrel
    have hal := alloc_two' w (.slice B1 n1 k1) (.slice (some ⟨g2, 0, none⟩) 1 k2) 149
    have hbw := alloc_plain' w (.cells #[.slice B1 n1 k1, .slice (some ⟨g2, 0, none⟩) 1 k2] 149)
    have szr := hb.size
    rw [hbw.2] at szr
    have x1 := (hb.cell (p := ⟨w.heap.size, 1, none⟩) (Nat.lt_succ_self _)).trans hal.2
    have x2 := (hb.cell (p := ⟨g2, 0, none⟩) (Nat.lt_succ_of_lt b2)).trans ((hbw.1.cell (p := ⟨g2, 0, none⟩) b2).trans a0)
    by_cases hlt : k < L.length
    · obtain ⟨p, hp⟩ : ∃ p, L[k]? = some p := ⟨_, List.getElem?_eq_getElem hlt⟩
      obtain ⟨g, c', he, -, hg⟩ := HV.out.seen (by omega)
      simp only [Value.slice.injEq] at he
      obtain ⟨rfl, -, rfl⟩ := he
      have hBw : Below w.heap.size w wr := hbw.1.trans (hb.mono (Nat.le_succ _))
      have hc0 := (hBw.cell (p := ⟨g, k * 3 + 0, none⟩) hg).trans (HV.out.cell hp (i := 0) rfl)
      have hc1 := (hBw.cell (p := ⟨g, k * 3 + 1, none⟩) hg).trans (HV.out.cell hp (i := 1) rfl)
      have hc2 := (hBw.cell (p := ⟨g, k * 3 + 2, none⟩) hg).trans (HV.out.cell hp (i := 2) rfl)
      have hfit := HL.out.2 p (List.mem_of_getElem? hp)
      have htk : L.take (k + 1) = L.take k ++ [p] := by rw [List.take_add_one, hp]; rfl
      have hsn : stirNames (L.take (k + 1)) d = if stirs d p = true then stirNames (L.take k) d ++ [p.1] else stirNames (L.take k) d := by rw [htk, stirNames_snoc]
      obtain ⟨nm, a, m⟩ := p
      obtain ⟨-, q1, q2, q3, q4⟩ := hfit
      dsimp only at hc0 hc1 hc2 hsn q1 q2 q3 q4
      rw [Nat.add_zero] at hc0
      have hlk : (stirNames (L.take k) d).length ≤ k := by unfold stirNames; rw [List.length_map]; exact Nat.le_trans (List.length_filter_le _ _) (by rw [List.length_take]; omega)
      have hL100 := HL.out.1
      have hz : decide (m = 0) = false := decide_eq_false (by omega)
      have hz2 : (m == 0) = false := by simp; omega
      have hw1 : IntKind.i64.wrap (d - a) = d - a := by rw [IntWalk.i64_in] <;> omega
      have hw2 : IntKind.i64.wrap ((d - a).tmod m) = (d - a).tmod m := by
        have e1 := Int.natAbs_tmod (d - a) m
        have e2 := Nat.mod_le (d - a).natAbs m.natAbs
        rw [IntWalk.i64_in] <;> omega
      have HSN := Lib.hid hsn
      have HNIL := Lib.hid hnil
      have HB := Lib.hid hb
      have HR := Lib.hid hR
      clear hp hsn hnil hb hR htk hal hbw hBw
      go_wp2_with fail
      have hbW : Below wr.heap.size wr (wr.alloc (.cells #[.string nm, .int .i64 a, .int .i64 m] 121)) := (Below.refl _ _).alloc (Nat.le_refl _) _
      have y0 : (wr.alloc (.cells #[.string nm, .int .i64 a, .int .i64 m] 121)).cell? ⟨wr.heap.size, 0, none⟩ = some (.string nm) := by rw [World.cell?_alloc_at _ _ _ _ (by simp)]; rfl
      have y1 : (wr.alloc (.cells #[.string nm, .int .i64 a, .int .i64 m] 121)).cell? ⟨wr.heap.size, 1, none⟩ = some (.int .i64 a) := by rw [World.cell?_alloc_at _ _ _ _ (by simp)]; rfl
      have y2 : (wr.alloc (.cells #[.string nm, .int .i64 a, .int .i64 m] 121)).cell? ⟨wr.heap.size, 2, none⟩ = some (.int .i64 m) := by rw [World.cell?_alloc_at _ _ _ _ (by simp)]; rfl
      have x1' := (hbW.cell (p := ⟨w.heap.size, 1, none⟩) (by show w.heap.size < _; omega)).trans x1
      have x2' := (hbW.cell (p := ⟨g2, 0, none⟩) (by show g2 < _; omega)).trans x2
      have zW : (wr.alloc (.cells #[.string nm, .int .i64 a, .int .i64 m] 121)).heap.size = wr.heap.size + 1 := by simp
      have HBW := Lib.hid hbW
      clear hbW
      generalize (wr.alloc (.cells #[.string nm, .int .i64 a, .int .i64 m] 121)) = W at HBW y0 y1 y2 x1' x2' zW ⊢
      clear hc0 hc1 hc2 x1 x2
      go_quiet (fail)
      have hsti : stirs d (nm, a, m) = ((d - a).tmod m == 0) := by
        unfold stirs
        by_cases h : (d - a).tmod m = 0 <;> simp [h]
      have HSI := Lib.hid hsti
      have y0' := y0
      rw [← World.cell?_drewN (w := W) (n := nq)] at y0'
      have bq : Below (w.heap.size + 1) (w.alloc (.cells #[.slice B1 n1 k1, .slice (some ⟨g2, 0, none⟩) 1 k2] 149)) (W.drewN nq) := below_drewN (HB.out.trans (HBW.out.mono (by omega))) nq
      have rq : Rw stEnc 9 (W.drewN nq) (w.heap.size + 1) u6 (stirNames (L.take k) d) := (HR.out.keep HBW.out).keep (below_drewN (Below.refl _ _) nq)
      have zq : (W.drewN nq).heap.size = wr.heap.size + 1 := zW
      have HBQ := Lib.hid bq
      have HRQ := Lib.hid rq
      clear hsti y0 y1 y2 x1' x2' bq rq
      generalize W.drewN nq = V at HBQ HRQ y0' zq ⊢
      cases ht : ((d - a).tmod m == 0) with
      | true =>
        have HTT := Lib.hid ht
        clear ht
        go_wp2_with (at_builtin; refine wpList_rw stElt V rfl _ _ rfl (w.heap.size + 1) u6 _ rfl HRQ.out nm _ rfl (by first | rfl | (rw [zq]; rfl)) (by omega) (by omega) ?_; intro g3 cap3 w3 r3 bel3)
        go_roundw
        case rel => exact ⟨k + 1, by omega, by go_num, by rw [HSN.out, HSI.out, HTT.out]; exact r3, by rw [HSN.out, HSI.out, HTT.out]; intro h; simp at h, HBQ.out.trans bel3⟩
        case measure => simp [intOf]; omega
      | false =>
        have HTT := Lib.hid ht
        clear ht
        go_wp2_with fail
        go_roundw
        case rel => exact ⟨k + 1, by omega, by go_num, by rw [HSN.out, HSI.out, HTT.out]; exact HRQ.out, by rw [HSN.out, HSI.out, HTT.out]; exact HNIL.out, HBQ.out⟩
        case measure => simp [intOf]; omega
    · obtain rfl : k = L.length := by omega
      rw [List.take_length] at hR hnil
      have hlen : (stirNames L d).length ≤ 100 := by unfold stirNames; rw [List.length_map]; exact Nat.le_trans (List.length_filter_le _ _) HL.out.1
      have HR := Lib.hid hR
      have HNIL := Lib.hid hnil
      have HB := Lib.hid (hbw.1.trans (hb.mono (Nat.le_succ _)))
      have hso := sort_any (w.heap.size + 1) _ _ wr (by omega) hR
      obtain ⟨A6, c6, e6⟩ := hR.form
      subst e6
      have HSO := Lib.hid hso
      clear hR hnil hb hso hal hbw x1 x2
      have hrep := stir_len L d HL.out
      have HREP := Lib.hid hrep
      have hsl := sortB_length (stirNames L d)
      have HSL := Lib.hid hsl
      clear hrep hsl
      by_cases h0 : stirNames L d = []
      · have e0 := HNIL.out h0
        simp only [Value.slice.injEq] at e0
        obtain ⟨rfl, -, rfl⟩ := e0
        have hs0 : sortB (stirNames L d) = [] := by simp [h0, sortB]
        have hl0 : (stirNames L d).length = 0 := by rw [h0]; rfl
        have HS0 := Lib.hid hs0
        rw [hl0] at HSO
        clear h0 hs0 HNIL
        go_wp2_with (first
          | (go_at_call 146; (with_reducible refine HSO.out.mono ?_); rintro e w4 ⟨rfl, hr4, hb4, hs4, -⟩; have HB4 := Lib.hid (HB.out.trans (hb4.mono (Nat.le_succ _))); clear hr4 hb4)
          | (go_at_call 30
             refine (join_any w4.heap.size _ [stirWord] ⟨#[32]⟩ _ (by decide) (lit_str w4 stirWord) (by decide) (by have := HREP.out; rw [HS0.out] at this; exact this)).mono ?_
             rintro e w5 ⟨rfl, hb5⟩
             have HB5 := Lib.hid (HB4.out.trans (((alloc_plain' w4 (.cells #[.string stirWord] 9)).1.mono HB4.out.size).trans (hb5.mono (by rw [(alloc_plain' w4 (.cells #[.string stirWord] 9)).2]; have := HB4.out.size; omega))))
             clear hb5))
        go_ret2
        exact ⟨by unfold stirRep; rw [HS0.out]; rfl, HB5.out⟩
      · have hpos : 0 < (stirNames L d).length := List.length_pos_iff.2 h0
        obtain ⟨g6, c6', e6, -, -⟩ := HR.out.seen hpos
        cases e6
        go_wp2_with (first
          | (go_at_call 146; (with_reducible refine HSO.out.mono ?_); rintro e w4 ⟨rfl, hr4, hb4, hs4, -⟩; have HR4 := Lib.hid hr4; have HB4 := Lib.hid (HB.out.trans (hb4.mono (Nat.le_succ _))); clear hr4 hb4)
          | (at_builtin
             refine wpList_rws stElt _ rfl _ _ rfl w4.heap.size (.slice (some ⟨w4.heap.size, 0, none⟩) 1 1) [stirWord] rfl (lit_str w4 stirWord) (w.heap.size + 1) g6 c6 1 (stirNames L d).length (sortB (stirNames L d)) rfl HSL.out.symm (HR4.out.alloc _) hpos rfl (by omega) (by simp) ?_
             intro g7 c7 w5 hr5 hb5
             have HR5 := Lib.hid hr5
             have HB5 := Lib.hid (HB4.out.trans (((alloc_plain' w4 (.cells #[.string stirWord] 9)).1.mono HB4.out.size).trans (hb5.mono HB4.out.size)))
             clear hr5 hb5)
          | (go_at_call 30
             refine (join_any w4.heap.size _ (stirWord :: sortB (stirNames L d)) ⟨#[32]⟩ _ (by rw [List.length_cons, HSL.out]; omega) HR5.out (by simp) HREP.out).mono ?_
             rintro e w6 ⟨rfl, hb6⟩
             have HB6 := Lib.hid (HB5.out.trans (hb6.mono HB5.out.size))
             clear hb6))
        go_ret2
        exact ⟨rfl, HB6.out⟩
end Go.Proofs.YtklnnpacfjnnlaaGreatDoor
