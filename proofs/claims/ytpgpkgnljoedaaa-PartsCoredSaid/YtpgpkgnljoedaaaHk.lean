/- Walks of hooks, and of the exported functions over checked. -/
import Derived.Test.YtpgpkgnljoedaaaSh
namespace Go.Proofs.Ytpgpkgnljoedaaa
open Go.RowKit

/-- the hook of a cell, the hooks of a row, of all rows -/
def hook (l : List Int) (i j : Nat) : Int := l.getD i 0 - j + ((cn l j l.length : Nat) : Int) - i - 1
def hkRow (l : List Int) (i k : Nat) : List Int := (List.range k).map (hook l i)
def hkAll (l : List Int) (m : Nat) : List (List Int) := (List.range m).map (fun i => hkRow l i (l.getD i 0).toNat)
def hooks (l : List Int) : List (List Int) := hkAll l l.length
theorem hkRow_succ (l : List Int) (i k : Nat) : hkRow l i (k + 1) = hkRow l i k ++ [hook l i k] := by simp [hkRow, List.range_succ]
theorem hkRow_length (l : List Int) (i k : Nat) : (hkRow l i k).length = k := by simp [hkRow]
theorem hkAll_succ (l : List Int) (m : Nat) : hkAll l (m + 1) = hkAll l m ++ [hkRow l m (l.getD m 0).toNat] := by simp [hkAll, List.range_succ]
theorem hkAll_length (l : List Int) (m : Nat) : (hkAll l m).length = m := by simp [hkAll]
theorem conj_get (l : List Int) (j : Nat) (h : (j : Int) < l.getD 0 0) : (conj l)[j]? = some ((cn l j l.length : Nat) : Int) := by
  unfold conj conjk
  rw [List.getElem?_map, List.getElem?_range (by omega)]
  rfl
theorem conj_length (l : List Int) : (conj l).length = (l.getD 0 0).toNat := conjk_length _ _
/-- one row more -/
theorem rows_one {w0 w w1 w3 : World} {out s : Value} {vs : List Value} {L : List (List Int)} {xs : List Int} {g cap n : Nat}
    (he : Elts w (fun b => w0.heap.size ≤ b ∧ out.ownBlock ≠ some b) vs L) (hout : ∀ b, out.ownBlock = some b → b < w.heap.size) (h01 : w0.heap.size ≤ w.heap.size) (h1 : Below w.heap.size w w1)
    (hv : Own w1 w.heap.size s xs) (hl : xs.length ≤ 1000000) (h3 : (w1.alloc (.cells #[s] 33)).grownBy w3 out.ownBlock) (hg : out.ownBlock = some g ∨ g = w1.heap.size + 1) :
    Elts w3 (fun b => w0.heap.size ≤ b ∧ (Value.slice (some ⟨g, 0, none⟩) n cap).ownBlock ≠ some b) (vs ++ [s]) (L ++ [xs]) := by
  have s1 := h1.size
  have s3 : w1.heap.size + 1 ≤ w3.heap.size := by have := h3.size; simpa using this
  have k1 : ∀ b, b < w1.heap.size → out.ownBlock ≠ some b → w3.heap[b]? = w1.heap[b]? := fun b hlt hne =>
    (h3.block b (by simp; omega) (fun e => hne e.symm)).trans (Below.heap_alloc w1 _ b hlt)
  have hgb : ∀ b, (Value.slice (some ⟨g, 0, none⟩) n cap).ownBlock = some b → b = g := fun b e => by have := ownBlock_some e; simpa using this
  refine Elts.append ?_ (Elts.one ((hv.ints (by omega)).same (by omega) (fun b e hlt => k1 b hlt (fun e2 => ?_))) (fun b e => ⟨?_, ?_, fun e2 => ?_⟩))
  · refine he.keep (by omega) (fun b hlt hB => (k1 b (by omega) hB.2).trans (h1.block b hlt)) (fun b hlt hB => ⟨hB.1, fun e => ?_⟩)
    have := hgb b e
    subst this
    rcases hg with e2 | e2
    · exact hB.2 e2
    · omega
  · have := hout b e2
    have := (hv.lt b e).1
    omega
  · have := (hv.lt b e).2; omega
  · have := (hv.lt b e).1; omega
  · have := hgb b e2
    subst this
    have := hv.lt b e
    rcases hg with e3 | e3
    · have := hout b e3; omega
    · omega

set_option maxRecDepth 100000 in
set_option maxHeartbeats 8000000 in
theorem hooks_any (v : Value) (l : List Int) (h : Part l) (w : World) (hv : Ints w v l) :
    Calls Try.prog 73 #[v] w fun e w' => ∃ v', e = .returned v' ∧ IntsL w' v' (hooks l) ∧ Below w.heap.size w w' := by
  have HV := Lib.hid hv
  have HP := Lib.hid h
  have hl30 := h.len
  obtain ⟨hlen, A, cp, rfl, hc, hcr⟩ := hv
  have HCR := Lib.hid hcr
  have HFB := Lib.hid (first_bd h)
  obtain ⟨f, hf⟩ := Int.eq_ofNat_of_zero_le (first_bd h).1
  have hff : (l.getD 0 0).toNat = f := by omega
  have hf30 : f ≤ 30 := by have := (first_bd h).2; omega
  have HFF := Lib.hid hf
  have HFT := Lib.hid hff
  clear hcr h hf hff
  go_enter Try.func73, Try.ntmps73
  go_wp2_with fail
  refine (conjugate_any _ l HP.out _ HV.out).mono ?_
  rintro e w1 ⟨vc, rfl, hcown, hb1⟩
  have hci := hcown.ints (by rw [conj_length]; have := HFB.out; omega)
  obtain ⟨hlenc, Ac, cc, rfl, hcc, hccr⟩ := hci
  have HCC := Lib.hid hccr
  rw [conj_length, HFT.out] at hlenc hcc HCC ⊢
  clear hccr hcown
  go_wp2_with fail
  go_loopw [4, 13] (fun o i wr => ∃ m : Nat, m ≤ l.length ∧ i = .int .i64 m ∧ (∃ vs, wr.ownsRow w1.heap.size 33 1 o m vs ∧ Elts wr (fun b => w.heap.size ≤ b ∧ o.ownBlock ≠ some b) vs (hkAll l m)) ∧ Below w1.heap.size w1 wr ∧ Below w.heap.size w wr)
    (fun _ i _ => l.length - (intOf i).toNat)
  case atStart => exact ⟨0, Nat.zero_le _, rfl, ⟨[], World.ownsRow_nil _ _ _ _, Elts.nil _ _⟩, Below.refl _ _, hb1⟩
  case round =>
    obtain ⟨m, hm, rfl, hrow, hbr, hb0⟩ := hrel
    obtain ⟨vs, hrow, helt⟩ := hrow
    by_cases hlt : m < l.length
    · obtain ⟨ad, rfl, hbl, hcell⟩ := HCR.out (by omega)
      have hcx := (hb0.cell (p := ad.add m) (by rw [addr_block]; exact hbl)).trans (hcell m _ (getD_get l m hlt))
      have hfall := HP.out.fall 0 m (by omega) hlt
      have hpos := (HP.out.at m hlt).1
      rw [HFF.out] at hfall
      obtain ⟨x, hx⟩ := Int.eq_ofNat_of_zero_le (show 0 ≤ l.getD m 0 by omega)
      have HX := Lib.hid hx
      have hxf : x ≤ f := by omega
      have hf1 : 0 < f := by omega
      rw [hx] at hcx
      obtain ⟨adc, rfl, hblc, hcellc⟩ := HCC.out hf1
      have HCC2 := Lib.hid (fun j (hj : j < f) => hcellc j _ (conj_get l j (by rw [HFF.out]; omega)))
      have HROW := Lib.hid hrow
      have HELT := Lib.hid helt
      have HB0 := Lib.hid hb0
      have HBR := Lib.hid hbr
      clear hrow helt hb0 hbr hcell hcellc hx hfall hpos
      go_wp2_with fail
      obtain ⟨wo, rfl⟩ : ∃ wo : World, wo = wr := ⟨_, rfl⟩
      go_loopw [7, 19] (fun hh j wi => ∃ k : Nat, k ≤ x ∧ j = .int .i64 k ∧ Own wi wo.heap.size hh (hkRow l m k) ∧ Below wo.heap.size wo wi)
        (fun _ j _ => x - (intOf j).toNat)
      case atStart => exact ⟨0, Nat.zero_le _, rfl, Own.nil _ _, Below.refl _ _⟩
      case round =>
        obtain ⟨k, hk, rfl, hown, hbi⟩ := hrel
        clear hcx
        by_cases hkx : k < x
        · have hcc2 := (hbi.cell (p := adc.add k) (by rw [addr_block]; exact Nat.lt_of_lt_of_le hblc HBR.out.size)).trans ((HBR.out.cell (p := adc.add k) (by rw [addr_block]; exact hblc)).trans (HCC2.out k (by omega)))
          have hcl := cn_le l k l.length
          have HH := Lib.hid (show hook l m k = (x : Int) - k + ((cn l k l.length : Nat) : Int) - m - 1 from by unfold hook; rw [HX.out])
          have HRS := Lib.hid (hkRow_succ l m k)
          generalize cn l k l.length = n at *
          go_wp2_with (at_builtin; refine wpList_append_new _ rfl _ _ 33 rfl Try.underlying33 wo.heap.size u7 (hkRow l m k) rfl hown ((x : Int) - k + n - m - 1) rfl (by rw [hkRow_length]; omega) hbi.size ?_; intro v' w4 hown4 _ hb4)
          go_roundw
          case rel => exact ⟨k + 1, by omega, by go_num, by rw [HRS.out, HH.out]; exact hown4, hbi.trans hb4⟩
          case measure => simp [intOf]; omega
        · obtain rfl : k = x := by omega
          obtain ⟨Ah, nh, ch, rfl⟩ := hown.isSlice
          have hrow1 := ownsRow_same HROW.out (fun b _ hlt => hbi.block b hlt)
          have hsz := hbi.size
          have hsz0 := HB0.out.size
          have hsz1 := HBR.out.size
          have HR1 := Lib.hid hrow1
          have HOWN := Lib.hid hown
          have HBI := Lib.hid hbi
          clear hrow1 hown hbi
          go_wp2_with (at_builtin; refine wpList_row _ rfl _ _ rfl w1.heap.size u4 m vs rfl HR1.out (.slice Ah nh ch) rfl rfl (by omega) (by omega) ?_; intro g cap w5 hown5 hgrow5 hat5)
          have helt5 := rows_one (n := m + 1) (cap := cap) HELT.out (fun b e => (HROW.out.lt b e).2) hsz0 HBI.out HOWN.out (by rw [hkRow_length]; omega) hgrow5 hat5
          have hs5 := hgrow5.size
          have HO5 := Lib.hid hown5
          have HE5 := Lib.hid helt5
          have HG5 := Lib.hid hgrow5
          have HAS := Lib.hid (hkAll_succ l m)
          have htn : (l.getD m 0).toNat = k := by rw [HX.out]; omega
          have HTN := Lib.hid htn
          have hbw5 : Below wo.heap.size wo w5 ∨ True := .inr trivial
          have hblow : ∀ B, B ≤ wo.heap.size → (∀ b, (u4).ownBlock = some b → B ≤ b) → ∀ W, Below B W wo → Below B W w5 := fun B hB hown W hW =>
            ((hW.trans (HBI.out.mono hB)).alloc (by omega) _).grown HG5.out (by simp; omega) hown
          have HBLOW := Lib.hid hblow
          clear hown5 helt5 hgrow5 hat5 htn hblow hbw5
          go_roundw
          case rel =>
            refine ⟨m + 1, by omega, by go_num, ⟨vs ++ [.slice Ah nh ch], HO5.out, ?_⟩, ?_, ?_⟩
            · rw [HAS.out, HTN.out]; exact HE5.out
            · exact HBLOW.out _ HBR.out.size (fun b e => (HROW.out.lt b e).1) _ HBR.out
            · exact HBLOW.out _ hsz0 (fun b e => Nat.le_trans hb1.size (HROW.out.lt b e).1) _ HB0.out
          case measure => simp [intOf]; omega
    · obtain rfl : m = l.length := by omega
      have hi := intsL_of_own (show wr.ownsRow w1.heap.size 33 1 u4 (hkAll l l.length).length vs by rw [hkAll_length]; exact hrow) helt (by rw [hkAll_length]; omega)
      have HI := Lib.hid hi
      clear hi hrow helt
      go_wp2_with fail
      go_ret
      exact ⟨_, rfl, HI.out, hb0⟩

set_option maxRecDepth 100000 in
set_option maxHeartbeats 8000000 in
theorem rHooks_any (v : Value) (l : List Int) (h : Part l) (w : World) (hv : Ints w v l) :
    Calls Try.prog 40 #[v] w fun e w' => ∃ v', e = .returned v' ∧ IntsL w' v' (hooks l) ∧ Below w.heap.size w w' := by
  have HV := Lib.hid hv
  have HP := Lib.hid h
  have hl30 := h.len
  obtain ⟨hlen, A, cp, rfl, hc, hcr⟩ := hv
  have HCR := Lib.hid hcr
  have HFB := Lib.hid (first_bd h)
  obtain ⟨f, hf⟩ := Int.eq_ofNat_of_zero_le (first_bd h).1
  have hff : (l.getD 0 0).toNat = f := by omega
  have hf30 : f ≤ 30 := by have := (first_bd h).2; omega
  have HFF := Lib.hid hf
  have HFT := Lib.hid hff
  clear hcr h hf hff
  go_enter Try.func40, Try.ntmps40
  go_wp2_with fail
  refine (rConjugate_any _ l HP.out _ HV.out).mono ?_
  rintro e w1 ⟨vc, rfl, hcown, hb1⟩
  have hci := hcown.ints (by rw [conj_length]; have := HFB.out; omega)
  obtain ⟨hlenc, Ac, cc, rfl, hcc, hccr⟩ := hci
  have HCC := Lib.hid hccr
  rw [conj_length, HFT.out] at hlenc hcc HCC ⊢
  clear hccr hcown
  go_wp2_with fail
  go_loopw [3, 13] (fun o i wr => ∃ m : Nat, m ≤ l.length ∧ i = .int .i64 m ∧ (∃ vs, wr.ownsRow w1.heap.size 33 1 o m vs ∧ Elts wr (fun b => w.heap.size ≤ b ∧ o.ownBlock ≠ some b) vs (hkAll l m)) ∧ Below w1.heap.size w1 wr ∧ Below w.heap.size w wr)
    (fun _ i _ => l.length - (intOf i).toNat)
  case atStart => exact ⟨0, Nat.zero_le _, rfl, ⟨[], World.ownsRow_nil _ _ _ _, Elts.nil _ _⟩, Below.refl _ _, hb1⟩
  case round =>
    obtain ⟨m, hm, rfl, hrow, hbr, hb0⟩ := hrel
    obtain ⟨vs, hrow, helt⟩ := hrow
    by_cases hlt : m < l.length
    · obtain ⟨ad, rfl, hbl, hcell⟩ := HCR.out (by omega)
      have hcx := (hb0.cell (p := ad.add m) (by rw [addr_block]; exact hbl)).trans (hcell m _ (getD_get l m hlt))
      have hfall := HP.out.fall 0 m (by omega) hlt
      have hpos := (HP.out.at m hlt).1
      rw [HFF.out] at hfall
      obtain ⟨x, hx⟩ := Int.eq_ofNat_of_zero_le (show 0 ≤ l.getD m 0 by omega)
      have HX := Lib.hid hx
      have hxf : x ≤ f := by omega
      have hf1 : 0 < f := by omega
      rw [hx] at hcx
      obtain ⟨adc, rfl, hblc, hcellc⟩ := HCC.out hf1
      have HCC2 := Lib.hid (fun j (hj : j < f) => hcellc j _ (conj_get l j (by rw [HFF.out]; omega)))
      have HROW := Lib.hid hrow
      have HELT := Lib.hid helt
      have HB0 := Lib.hid hb0
      have HBR := Lib.hid hbr
      clear hrow helt hb0 hbr hcell hcellc hx hfall hpos
      go_wp2_with fail
      obtain ⟨wo, rfl⟩ : ∃ wo : World, wo = wr := ⟨_, rfl⟩
      go_loopw [7, 19] (fun hh j wi => ∃ k : Nat, k ≤ x ∧ j = .int .i64 k ∧ Own wi wo.heap.size hh (hkRow l m k) ∧ Below wo.heap.size wo wi)
        (fun _ j _ => x - (intOf j).toNat)
      case atStart => exact ⟨0, Nat.zero_le _, rfl, Own.nil _ _, Below.refl _ _⟩
      case round =>
        obtain ⟨k, hk, rfl, hown, hbi⟩ := hrel
        clear hcx
        by_cases hkx : k < x
        · have hcc2 := (hbi.cell (p := adc.add k) (by rw [addr_block]; exact Nat.lt_of_lt_of_le hblc HBR.out.size)).trans ((HBR.out.cell (p := adc.add k) (by rw [addr_block]; exact hblc)).trans (HCC2.out k (by omega)))
          have hcl := cn_le l k l.length
          have HH := Lib.hid (show hook l m k = (x : Int) - k + ((cn l k l.length : Nat) : Int) - m - 1 from by unfold hook; rw [HX.out])
          have HRS := Lib.hid (hkRow_succ l m k)
          generalize cn l k l.length = n at *
          go_wp2_with (at_builtin; refine wpList_append_new _ rfl _ _ 33 rfl Try.underlying33 wo.heap.size u7 (hkRow l m k) rfl hown ((x : Int) - k + n - m - 1) rfl (by rw [hkRow_length]; omega) hbi.size ?_; intro v' w4 hown4 _ hb4)
          go_roundw
          case rel => exact ⟨k + 1, by omega, by go_num, by rw [HRS.out, HH.out]; exact hown4, hbi.trans hb4⟩
          case measure => simp [intOf]; omega
        · obtain rfl : k = x := by omega
          obtain ⟨Ah, nh, ch, rfl⟩ := hown.isSlice
          have hrow1 := ownsRow_same HROW.out (fun b _ hlt => hbi.block b hlt)
          have hsz := hbi.size
          have hsz0 := HB0.out.size
          have hsz1 := HBR.out.size
          have HR1 := Lib.hid hrow1
          have HOWN := Lib.hid hown
          have HBI := Lib.hid hbi
          clear hrow1 hown hbi
          go_wp2_with (at_builtin; refine wpList_row _ rfl _ _ rfl w1.heap.size u3 m vs rfl HR1.out (.slice Ah nh ch) rfl rfl (by omega) (by omega) ?_; intro g cap w5 hown5 hgrow5 hat5)
          have helt5 := rows_one (n := m + 1) (cap := cap) HELT.out (fun b e => (HROW.out.lt b e).2) hsz0 HBI.out HOWN.out (by rw [hkRow_length]; omega) hgrow5 hat5
          have hs5 := hgrow5.size
          have HO5 := Lib.hid hown5
          have HE5 := Lib.hid helt5
          have HG5 := Lib.hid hgrow5
          have HAS := Lib.hid (hkAll_succ l m)
          have htn : (l.getD m 0).toNat = k := by rw [HX.out]; omega
          have HTN := Lib.hid htn
          have hbw5 : Below wo.heap.size wo w5 ∨ True := .inr trivial
          have hblow : ∀ B, B ≤ wo.heap.size → (∀ b, (u3).ownBlock = some b → B ≤ b) → ∀ W, Below B W wo → Below B W w5 := fun B hB hown W hW =>
            ((hW.trans (HBI.out.mono hB)).alloc (by omega) _).grown HG5.out (by simp; omega) hown
          have HBLOW := Lib.hid hblow
          clear hown5 helt5 hgrow5 hat5 htn hblow hbw5
          go_roundw
          case rel =>
            refine ⟨m + 1, by omega, by go_num, ⟨vs ++ [.slice Ah nh ch], HO5.out, ?_⟩, ?_, ?_⟩
            · rw [HAS.out, HTN.out]; exact HE5.out
            · exact HBLOW.out _ HBR.out.size (fun b e => (HROW.out.lt b e).1) _ HBR.out
            · exact HBLOW.out _ hsz0 (fun b e => Nat.le_trans hb1.size (HROW.out.lt b e).1) _ HB0.out
          case measure => simp [intOf]; omega
    · obtain rfl : m = l.length := by omega
      have hi := intsL_of_own (show wr.ownsRow w1.heap.size 33 1 u3 (hkAll l l.length).length vs by rw [hkAll_length]; exact hrow) helt (by rw [hkAll_length]; omega)
      have HI := Lib.hid hi
      clear hi hrow helt
      go_wp2_with fail
      go_ret
      exact ⟨_, rfl, HI.out, hb0⟩

set_option maxHeartbeats 2000000 in
theorem Conjugate_no (v : Value) (l : List Int) (h : ¬ Part l) (w : World) (hv : Ints w v l) :
    Calls Try.prog 33 #[v] w fun e w' => e = .returned (.tuple #[.slice none 0 0, .int .i64 2]) ∧ w = w' := by
  have HP := Lib.hid h
  have HV := Lib.hid hv
  obtain ⟨_, A, cp, rfl, _, _⟩ := hv
  have hch : ∀ W, Ints W (.slice A l.length cp) l → Calls Try.prog 67 #[.slice A l.length cp, .func (Fn.func 68) #[] #[]] W fun e w' => e = .returned (.tuple #[.slice none 0 0, .int .i64 2]) ∧ W = w' := by
    intro W hW
    have HW := Lib.hid hW
    clear hW HV h
    go_enter Try.func67, Try.ntmps67
    go_wp2_with fail
    refine (valid_no _ l HP.out _ HW.out).mono ?_
    rintro e _ ⟨rfl, rfl⟩
    go_wp2_with fail
    go_ret2
    exact ⟨rfl, rfl⟩
  have HCH := Lib.hid hch
  clear hch h
  go_enter Try.func33, Try.ntmps33
  go_wp2_with fail
  refine (HCH.out _ HV.out).mono ?_
  rintro e _ ⟨rfl, rfl⟩
  go_wp2_with fail
  go_ret2
  exact ⟨rfl, rfl⟩
set_option maxHeartbeats 2000000 in
theorem Conjugate_yes (v : Value) (l : List Int) (h : Part l) (w : World) (hv : Ints w v l) :
    Calls Try.prog 33 #[v] w fun e w' => ∃ v', e = .returned (.tuple #[v', .int .i64 0]) ∧ Ints w' v' (conj l) ∧ Below w.heap.size w w' := by
  have HP := Lib.hid h
  have HV := Lib.hid hv
  have HCC := Lib.hid (fun V hV => conjugate_any v l h V hV)
  obtain ⟨_, A, cp, rfl, _, _⟩ := hv
  have hch : ∀ W, Ints W (.slice A l.length cp) l → Calls Try.prog 67 #[.slice A l.length cp, .func (Fn.func 68) #[] #[]] W fun e w' => ∃ v', e = .returned (.tuple #[v', .int .i64 0]) ∧ Ints w' v' (conj l) ∧ Below W.heap.size W w' := by
    intro W hW
    have HW := Lib.hid hW
    clear hW HV h
    go_enter Try.func67, Try.ntmps67
    go_wp2_with fail
    refine (valid_yes _ l HP.out _ HW.out).mono ?_
    rintro e _ ⟨rfl, rfl⟩
    go_wp2_with fail
    refine (HCC.out _ HW.out).mono ?_
    rintro e w1 ⟨v', rfl, ho, hb⟩
    have HI := Lib.hid (ho.ints (by rw [conj_length]; have := first_bd HP.out; omega))
    obtain ⟨_, Ar, cr, rfl, _, _⟩ := HI.out
    go_wp2_with fail
    go_ret2
    exact ⟨_, rfl, HI.out, hb⟩
  have HCH := Lib.hid hch
  clear hch h
  go_enter Try.func33, Try.ntmps33
  go_wp2_with fail
  refine (HCH.out _ HV.out).mono ?_
  rintro e w1 ⟨v', rfl, hi, hb⟩
  have HI := Lib.hid hi
  obtain ⟨_, Ar, cr, rfl, _, _⟩ := hi
  go_wp2_with fail
  go_ret2
  exact ⟨_, rfl, HI.out, hb⟩
set_option maxHeartbeats 2000000 in
theorem Square_no (v : Value) (l : List Int) (h : ¬ Part l) (w : World) (hv : Ints w v l) :
    Calls Try.prog 35 #[v] w fun e w' => e = .returned (.tuple #[.int .i64 0, .int .i64 2]) ∧ w = w' := by
  have HP := Lib.hid h
  have HV := Lib.hid hv
  obtain ⟨_, A, cp, rfl, _, _⟩ := hv
  have hch : ∀ W, Ints W (.slice A l.length cp) l → Calls Try.prog 69 #[.slice A l.length cp, .func (Fn.func 70) #[] #[]] W fun e w' => e = .returned (.tuple #[.int .i64 0, .int .i64 2]) ∧ W = w' := by
    intro W hW
    have HW := Lib.hid hW
    clear hW HV h
    go_enter Try.func69, Try.ntmps69
    go_wp2_with fail
    refine (valid_no _ l HP.out _ HW.out).mono ?_
    rintro e _ ⟨rfl, rfl⟩
    go_wp2_with fail
    go_ret2
    exact ⟨rfl, rfl⟩
  have HCH := Lib.hid hch
  clear hch h
  go_enter Try.func35, Try.ntmps35
  go_wp2_with fail
  refine (HCH.out _ HV.out).mono ?_
  rintro e _ ⟨rfl, rfl⟩
  go_wp2_with fail
  go_ret2
  exact ⟨rfl, rfl⟩
set_option maxHeartbeats 2000000 in
theorem Square_yes (v : Value) (l : List Int) (h : Part l) (q : Nat) (hq : IsSq l q) (hq2 : q ≤ 100) (w : World) (hv : Ints w v l) :
    Calls Try.prog 35 #[v] w fun e w' => e = .returned (.tuple #[.int .i64 ((q : Int)), .int .i64 0]) ∧ w = w' := by
  have HP := Lib.hid h
  have HV := Lib.hid hv
  have HCC := Lib.hid (fun V hV => square_any v l q hq hq2 V hV)
  obtain ⟨_, A, cp, rfl, _, _⟩ := hv
  have hch : ∀ W, Ints W (.slice A l.length cp) l → Calls Try.prog 69 #[.slice A l.length cp, .func (Fn.func 70) #[] #[]] W fun e w' => e = .returned (.tuple #[.int .i64 ((q : Int)), .int .i64 0]) ∧ W = w' := by
    intro W hW
    have HW := Lib.hid hW
    clear hW HV h
    go_enter Try.func69, Try.ntmps69
    go_wp2_with fail
    refine (valid_yes _ l HP.out _ HW.out).mono ?_
    rintro e _ ⟨rfl, rfl⟩
    go_wp2_with fail
    refine (HCC.out _ HW.out).mono ?_
    rintro e _ ⟨rfl, rfl⟩
    go_wp2_with fail
    go_ret2
    exact ⟨rfl, rfl⟩
  have HCH := Lib.hid hch
  clear hch h
  go_enter Try.func35, Try.ntmps35
  go_wp2_with fail
  refine (HCH.out _ HV.out).mono ?_
  rintro e _ ⟨rfl, rfl⟩
  go_wp2_with fail
  go_ret2
  exact ⟨rfl, rfl⟩
set_option maxHeartbeats 2000000 in
theorem Rank_no (v : Value) (l : List Int) (h : ¬ Part l) (w : World) (hv : Ints w v l) :
    Calls Try.prog 36 #[v] w fun e w' => e = .returned (.tuple #[.int .i64 0, .int .i64 2]) ∧ w = w' := by
  have HP := Lib.hid h
  have HV := Lib.hid hv
  obtain ⟨_, A, cp, rfl, _, _⟩ := hv
  have hch : ∀ W, Ints W (.slice A l.length cp) l → Calls Try.prog 69 #[.slice A l.length cp, .func (Fn.func 71) #[] #[]] W fun e w' => e = .returned (.tuple #[.int .i64 0, .int .i64 2]) ∧ W = w' := by
    intro W hW
    have HW := Lib.hid hW
    clear hW HV h
    go_enter Try.func69, Try.ntmps69
    go_wp2_with fail
    refine (valid_no _ l HP.out _ HW.out).mono ?_
    rintro e _ ⟨rfl, rfl⟩
    go_wp2_with fail
    go_ret2
    exact ⟨rfl, rfl⟩
  have HCH := Lib.hid hch
  clear hch h
  go_enter Try.func36, Try.ntmps36
  go_wp2_with fail
  refine (HCH.out _ HV.out).mono ?_
  rintro e _ ⟨rfl, rfl⟩
  go_wp2_with fail
  go_ret2
  exact ⟨rfl, rfl⟩
set_option maxHeartbeats 2000000 in
theorem Rank_yes (v : Value) (l : List Int) (h : Part l) (w : World) (hv : Ints w v l) :
    Calls Try.prog 36 #[v] w fun e w' => e = .returned (.tuple #[.int .i64 (rk l), .int .i64 0]) ∧ w = w' := by
  have HP := Lib.hid h
  have HV := Lib.hid hv
  have HCC := Lib.hid (fun V hV => rank_any v l h V hV)
  obtain ⟨_, A, cp, rfl, _, _⟩ := hv
  have hch : ∀ W, Ints W (.slice A l.length cp) l → Calls Try.prog 69 #[.slice A l.length cp, .func (Fn.func 71) #[] #[]] W fun e w' => e = .returned (.tuple #[.int .i64 (rk l), .int .i64 0]) ∧ W = w' := by
    intro W hW
    have HW := Lib.hid hW
    clear hW HV h
    go_enter Try.func69, Try.ntmps69
    go_wp2_with fail
    refine (valid_yes _ l HP.out _ HW.out).mono ?_
    rintro e _ ⟨rfl, rfl⟩
    go_wp2_with fail
    refine (HCC.out _ HW.out).mono ?_
    rintro e _ ⟨rfl, rfl⟩
    go_wp2_with fail
    go_ret2
    exact ⟨rfl, rfl⟩
  have HCH := Lib.hid hch
  clear hch h
  go_enter Try.func36, Try.ntmps36
  go_wp2_with fail
  refine (HCH.out _ HV.out).mono ?_
  rintro e _ ⟨rfl, rfl⟩
  go_wp2_with fail
  go_ret2
  exact ⟨rfl, rfl⟩
set_option maxHeartbeats 2000000 in
theorem Crank_no (v : Value) (l : List Int) (h : ¬ Part l) (w : World) (hv : Ints w v l) :
    Calls Try.prog 38 #[v] w fun e w' => e = .returned (.tuple #[.int .i64 0, .int .i64 2]) ∧ w = w' := by
  have HP := Lib.hid h
  have HV := Lib.hid hv
  obtain ⟨_, A, cp, rfl, _, _⟩ := hv
  have hch : ∀ W, Ints W (.slice A l.length cp) l → Calls Try.prog 69 #[.slice A l.length cp, .func (Fn.func 74) #[] #[]] W fun e w' => e = .returned (.tuple #[.int .i64 0, .int .i64 2]) ∧ W = w' := by
    intro W hW
    have HW := Lib.hid hW
    clear hW HV h
    go_enter Try.func69, Try.ntmps69
    go_wp2_with fail
    refine (valid_no _ l HP.out _ HW.out).mono ?_
    rintro e _ ⟨rfl, rfl⟩
    go_wp2_with fail
    go_ret2
    exact ⟨rfl, rfl⟩
  have HCH := Lib.hid hch
  clear hch h
  go_enter Try.func38, Try.ntmps38
  go_wp2_with fail
  refine (HCH.out _ HV.out).mono ?_
  rintro e _ ⟨rfl, rfl⟩
  go_wp2_with fail
  go_ret2
  exact ⟨rfl, rfl⟩
set_option maxHeartbeats 2000000 in
theorem Crank_yes (v : Value) (l : List Int) (h : Part l) (w : World) (hv : Ints w v l) :
    Calls Try.prog 38 #[v] w fun e w' => e = .returned (.tuple #[.int .i64 (crk l), .int .i64 0]) ∧ w = w' := by
  have HP := Lib.hid h
  have HV := Lib.hid hv
  have HCC := Lib.hid (fun V hV => crank_any v l h V hV)
  obtain ⟨_, A, cp, rfl, _, _⟩ := hv
  have hch : ∀ W, Ints W (.slice A l.length cp) l → Calls Try.prog 69 #[.slice A l.length cp, .func (Fn.func 74) #[] #[]] W fun e w' => e = .returned (.tuple #[.int .i64 (crk l), .int .i64 0]) ∧ W = w' := by
    intro W hW
    have HW := Lib.hid hW
    clear hW HV h
    go_enter Try.func69, Try.ntmps69
    go_wp2_with fail
    refine (valid_yes _ l HP.out _ HW.out).mono ?_
    rintro e _ ⟨rfl, rfl⟩
    go_wp2_with fail
    refine (HCC.out _ HW.out).mono ?_
    rintro e _ ⟨rfl, rfl⟩
    go_wp2_with fail
    go_ret2
    exact ⟨rfl, rfl⟩
  have HCH := Lib.hid hch
  clear hch h
  go_enter Try.func38, Try.ntmps38
  go_wp2_with fail
  refine (HCH.out _ HV.out).mono ?_
  rintro e _ ⟨rfl, rfl⟩
  go_wp2_with fail
  go_ret2
  exact ⟨rfl, rfl⟩
set_option maxHeartbeats 2000000 in
theorem Hooks_no (v : Value) (l : List Int) (h : ¬ Part l) (w : World) (hv : Ints w v l) :
    Calls Try.prog 37 #[v] w fun e w' => e = .returned (.tuple #[.slice none 0 0, .int .i64 2]) ∧ w = w' := by
  have HP := Lib.hid h
  have HV := Lib.hid hv
  obtain ⟨_, A, cp, rfl, _, _⟩ := hv
  have hch : ∀ W, Ints W (.slice A l.length cp) l → Calls Try.prog 72 #[.slice A l.length cp, .func (Fn.func 73) #[] #[]] W fun e w' => e = .returned (.tuple #[.slice none 0 0, .int .i64 2]) ∧ W = w' := by
    intro W hW
    have HW := Lib.hid hW
    clear hW HV h
    go_enter Try.func72, Try.ntmps72
    go_wp2_with fail
    refine (valid_no _ l HP.out _ HW.out).mono ?_
    rintro e _ ⟨rfl, rfl⟩
    go_wp2_with fail
    go_ret2
    exact ⟨rfl, rfl⟩
  have HCH := Lib.hid hch
  clear hch h
  go_enter Try.func37, Try.ntmps37
  go_wp2_with fail
  refine (HCH.out _ HV.out).mono ?_
  rintro e _ ⟨rfl, rfl⟩
  go_wp2_with fail
  go_ret2
  exact ⟨rfl, rfl⟩
set_option maxHeartbeats 2000000 in
theorem Hooks_yes (v : Value) (l : List Int) (h : Part l) (w : World) (hv : Ints w v l) :
    Calls Try.prog 37 #[v] w fun e w' => ∃ v', e = .returned (.tuple #[v', .int .i64 0]) ∧ IntsL w' v' (hooks l) ∧ Below w.heap.size w w' := by
  have HP := Lib.hid h
  have HV := Lib.hid hv
  have HCC := Lib.hid (fun V hV => hooks_any v l h V hV)
  obtain ⟨_, A, cp, rfl, _, _⟩ := hv
  have hch : ∀ W, Ints W (.slice A l.length cp) l → Calls Try.prog 72 #[.slice A l.length cp, .func (Fn.func 73) #[] #[]] W fun e w' => ∃ v', e = .returned (.tuple #[v', .int .i64 0]) ∧ IntsL w' v' (hooks l) ∧ Below W.heap.size W w' := by
    intro W hW
    have HW := Lib.hid hW
    clear hW HV h
    go_enter Try.func72, Try.ntmps72
    go_wp2_with fail
    refine (valid_yes _ l HP.out _ HW.out).mono ?_
    rintro e _ ⟨rfl, rfl⟩
    go_wp2_with fail
    refine (HCC.out _ HW.out).mono ?_
    rintro e w1 ⟨v', rfl, hi, hb⟩
    have HI := Lib.hid hi
    obtain ⟨_, Ar, cr, vr, rfl, _⟩ := hi
    go_wp2_with fail
    go_ret2
    exact ⟨_, rfl, HI.out, hb⟩
  have HCH := Lib.hid hch
  clear hch h
  go_enter Try.func37, Try.ntmps37
  go_wp2_with fail
  refine (HCH.out _ HV.out).mono ?_
  rintro e w1 ⟨v', rfl, hi, hb⟩
  have HI := Lib.hid hi
  obtain ⟨_, Ar, cr, vr, rfl, _⟩ := hi
  go_wp2_with fail
  go_ret2
  exact ⟨_, rfl, HI.out, hb⟩
end Go.Proofs.Ytpgpkgnljoedaaa
