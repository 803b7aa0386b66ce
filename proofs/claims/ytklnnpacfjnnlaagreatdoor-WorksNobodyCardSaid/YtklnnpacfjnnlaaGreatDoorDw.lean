/- The reference's disk: Sync, Crash; touched, same. -/
import Derived.Test.YtklnnpacfjnnlaaGreatDoorDr
import Derived.Test.YtklnnpacfjnnlaaGreatDoorSr
namespace Go.Proofs.YtklnnpacfjnnlaaGreatDoor
open Go.RowKit
theorem RDsk.setSafe {w : World} {X r p q : Nat} {D : Rk} (h : RDsk w X r p q D) (q' k' n : Nat) (S : List ByteArray) (hn : n = S.length) (hS : Rw stEnc 9 w X (.slice (some ⟨q', 0, none⟩) n k') S) (hl : D.pages.length = S.length) (h1 : r ≠ q') (h2 : p ≠ q') :
    RDsk (w.setCell ⟨r, 1, none⟩ (.slice (some ⟨q', 0, none⟩) n k')) X r p q' { D with safe := S } := by
  subst hn
  obtain ⟨k, a0, a1⟩ := h.row
  obtain ⟨l, b0, b1⟩ := h.row1
  refine ⟨⟨k, by rw [World.cell?_setCell_other _ _ _ _ (by simp)]; exact a0, a1.same fun y hy _ => ?_⟩, ⟨k', World.cell?_setCell_same _ _ _ b0, hS.same fun y hy _ => ?_⟩, by rw [World.cell?_setCell_other _ _ _ _ (by simp)]; exact h.dark, by rw [World.cell?_setCell_other _ _ _ _ (by simp)]; exact h.left, fun j => by rw [World.frozen?_setCell]; exact h.fr j, h.ne1, h1, h2, h.low, hl, h.pos0, h.most, h.lo, h.hi⟩
  · simp [Value.ownBlock] at hy
    subst hy
    exact heap_setCell_ne _ _ _ _ (Ne.symm h.ne1)
  · simp [Value.ownBlock] at hy
    subst hy
    exact heap_setCell_ne _ _ _ _ (Ne.symm h1)
/-- the reference's disk, with what is safe at an old block or a new one -/
def RNew (w w' : World) (X r p q : Nat) (D : Rk) : Prop := ∃ q', (q' = q ∨ w.heap.size ≤ q') ∧ RDsk w' X r p q' D
theorem rk_sync (D : Dk) (h : D.spend.2 = 0) : rk D.sync.1 = { rk D.spend.1 with safe := (rk D.spend.1).pages } := by
  unfold Dk.sync
  rw [if_pos h]
  simp [rk, rk_spend_pages]
theorem empty_row (w : World) : Rw stEnc 9 (w.alloc (.cells #[] 9)) w.heap.size (.slice (some ⟨w.heap.size, 0, none⟩) 0 0) [] := World.ownsRow_lit w #[] 0 (Nat.le_refl _) (by simp [maxLen]) (by simp)
theorem lit_cell (w : World) (b j : Nat) (h : b < w.heap.size) : (w.alloc (.cells #[] 9)).cell? ⟨b, j, none⟩ = w.cell? ⟨b, j, none⟩ := ((Below.refl _ w).alloc (Nat.le_refl _) _).cell (p := ⟨b, j, none⟩) h
theorem lit_frozen (w : World) (b j : Nat) (h : b < w.heap.size) : (w.alloc (.cells #[] 9)).frozen? ⟨b, j, none⟩ = w.frozen? ⟨b, j, none⟩ := ((Below.refl _ w).alloc (Nat.le_refl _) _).frozen (p := ⟨b, j, none⟩) h
set_option maxHeartbeats 4000000 in
set_option maxRecDepth 100000 in
theorem rsync_any (X r p q : Nat) (D : Dk) (w : World) (h : RDsk w X r p q (rk D)) :
    Calls Tryz.prog 56 #[.pointer (some ⟨r, 0, none⟩)] w fun e w' => e = .returned (.int .i64 D.sync.2) ∧ RNew w w' X r p q (rk D.sync.1) ∧ Oth [r] w w' := by
  have HS := Lib.hid (rdone_any X r p q D w h)
  have hX := h.low
  have hXr := h.ltr
  have hm : (rk D).pages.length ≤ 200 := h.most
  have hpos : 0 < (rk D).pages.length := h.pos0
  have hlen : (rk D).pages.length = D.pages.length := by simp [rk]
  by_cases hs : D.spend.2 = 0
  · have e := rk_sync D hs
    have e2 : D.sync.2 = 0 := by unfold Dk.sync; rw [if_pos hs]
    have hq : decide (D.spend.2 = 0) = true := decide_eq_true hs
    rw [hq] at HS
    rw [e, e2]
    clear hs hq
    have HSP := Lib.hid (rk_spend_pages D)
    clear h e e2
    go_enter Tryz.func56, Tryz.ntmps56
    go_wp2_with (first
      | (go_at_call 84
         refine HS.out.mono ?_
         rintro e w2 ⟨rfl, hd2, ho2⟩
         obtain ⟨k2, c0, hr2⟩ := hd2.row
         obtain ⟨k3, c1, hr3⟩ := hd2.row1
         rw [show (rk D.spend.1).pages.length = D.pages.length from by simp [rk, HSP.out]] at c0 hr2
         have hfr := hd2.fr 1
         have HD2 := Lib.hid hd2
         have HO2 := Lib.hid ho2
         have HR2 := Lib.hid hr2
         have hlt2 : r < w2.heap.size := hd2.ltr
         have c0a := (lit_cell w2 r 0 hlt2).trans c0
         clear hd2 ho2 hr2 hr3)
      | (at_builtin
         refine wpList_rws stElt _ rfl _ _ rfl w2.heap.size _ [] rfl (empty_row w2) X p k2 0 D.pages.length (rk D.spend.1).pages rfl (by simp [rk, HSP.out]) (HR2.out.alloc _) (by omega) rfl (by omega) (by simp) ?_
         intro g3 k4 w3 r3 b3
         have c3 := (b3.cell (p := ⟨r, 1, none⟩) hlt2).trans ((lit_cell w2 r 1 hlt2).trans c1)
         have f3 := (b3.frozen (p := ⟨r, 1, none⟩) hlt2).trans ((lit_frozen w2 r 1 hlt2).trans hfr)))
    go_ret
    have bel : Below w2.heap.size w2 w3 := ((Below.refl _ w2).alloc (Nat.le_refl _) _).trans b3
    have hg3 : w2.heap.size ≤ g3 := (World.ownsRow.lt r3 g3 rfl).1
    have hsz : w.heap.size ≤ w2.heap.size := HO2.out.size
    have hp2 := HD2.out.ltp
    refine ⟨rfl, ⟨g3, .inr (by omega), ?_⟩, (HO2.out.trans (Oth.of bel _)).trans (Oth.setCell _ _ _ _ (by simp))⟩
    rw [List.nil_append, Nat.zero_add] at r3
    exact (HD2.out.keep bel).setSafe g3 k4 _ _ (by simp [rk, HSP.out]) (r3.base (by omega)) rfl (by omega) (by omega)
  · have e : D.sync = D.spend := by unfold Dk.sync; rw [if_neg hs]
    have e8 : D.spend.2 = 8 := by
      unfold Dk.spend at hs ⊢
      split
      · rfl
      · rename_i hn; rw [if_neg hn] at hs; exact absurd rfl hs
    have hq : decide (D.spend.2 = 0) = false := decide_eq_false hs
    rw [hq] at HS
    rw [e, e8]
    clear h e hs e8 hq
    go_enter Tryz.func56, Tryz.ntmps56
    go_wp2_with (
      go_at_call 84
      refine HS.out.mono ?_
      rintro e w2 ⟨rfl, hd2, ho2⟩
      have HD2 := Lib.hid hd2
      have HO2 := Lib.hid ho2
      clear hd2 ho2)
    go_ret
    exact ⟨rfl, ⟨q, .inl rfl, HD2.out⟩, HO2.out⟩
/-- the pages behind a beginning of Crash -/
def crP (keep : List Int) (D : Dk) (i : Nat) : List ByteArray := (((D.pages.take i).mapIdx (kept keep)) ++ D.pages.drop i).map Prod.fst
theorem crP_len (keep : List Int) (D : Dk) (i : Nat) (h : i ≤ D.pages.length) : (crP keep D i).length = D.pages.length := by
  unfold crP; rw [List.length_map, crash_len keep D.pages i h]
theorem crP_get (keep : List Int) (D : Dk) (i : Nat) (p : ByteArray × ByteArray) (h : D.pages[i]? = some p) : (crP keep D i)[i]? = some p.1 := by
  unfold crP; rw [List.getElem?_map, crash_get keep D.pages i p h]; rfl
theorem crP_step (keep : List Int) (D : Dk) (i : Nat) (p : ByteArray × ByteArray) (h : D.pages[i]? = some p) : (crP keep D i).set i (kept keep i p).1 = crP keep D (i + 1) := by
  unfold crP; rw [← crash_list keep D.pages i p h, List.map_set]
theorem crP_end (keep : List Int) (D : Dk) : crP keep D D.pages.length = (rk (D.crash keep)).pages := by
  unfold crP rk Dk.crash; rw [List.take_length, List.drop_length, List.append_nil]
theorem crP_snd (keep : List Int) (D : Dk) : (rk (D.crash keep)).safe = (rk (D.crash keep)).pages := by
  unfold rk Dk.crash
  apply List.ext_getElem?
  intro i
  simp only [List.getElem?_map, List.getElem?_mapIdx]
  cases D.pages[i]? with
  | none => rfl
  | some p => simp only [Option.map_some]; unfold kept; split <;> rfl
def anyK (keep : List Int) (m : Nat) (i : Int) : Bool := (keep.take m).contains i
theorem anyK_step (keep : List Int) (m : Nat) (i x : Int) (h : keep[m]? = some x) : anyK keep (m + 1) i = (anyK keep m i || (x == i)) := by
  unfold anyK
  rw [List.take_add_one, h]
  simp [Bool.beq_eq_decide_eq, eq_comm]
set_option maxHeartbeats 4000000 in
set_option maxRecDepth 100000 in
theorem rcrash_any (X Y r p q : Nat) (D : Dk) (kv : Value) (keep : List Int) (hkl : keep.length ≤ 1000) (w : World) (h : RDsk w X r p q (rk D)) (hk : Own w Y kv keep) (hkr : kv.ownBlock ≠ some r) (hkp : kv.ownBlock ≠ some p) :
    Calls Tryz.prog 54 #[.pointer (some ⟨r, 0, none⟩), kv] w fun e w' => e = .returned (.tuple #[]) ∧ RNew w w' X r p q (rk (D.crash keep)) ∧ Oth [r, p] w w' := by
  have HD := Lib.hid h
  have hX := h.low
  have hXr := h.ltr
  have h200 : (rk D).pages.length ≤ 200 := h.most
  have hpos : 0 < (rk D).pages.length := h.pos0
  have hlen : (rk D).pages.length = D.pages.length := by simp [rk]
  rw [hlen] at h200 hpos
  obtain ⟨k0, c00, hr0⟩ := h.row
  rw [hlen] at c00
  obtain ⟨A0, n0, kk0, e0⟩ := hk.isSlice
  subst e0
  have hn0 : n0 = keep.length := by
    rcases hk.2 with ⟨he, hl⟩ | ⟨g', cap', cur, hv, _⟩
    · simp only [Value.slice.injEq] at he; omega
    · simp only [Value.slice.injEq] at hv; exact hv.2.1
  subst hn0
  have hcellK : ∀ m x, keep[m]? = some x → ∃ a, A0 = some a ∧ w.cell? (a.add m) = some (.int .i64 x) := by
    intro m x hx
    obtain ⟨g, c, e, -, -, hg, hc⟩ := hk.seen (by have := (List.getElem?_eq_some_iff.1 hx).1; omega)
    simp only [Value.slice.injEq] at e
    obtain ⟨rfl, -, rfl⟩ := e
    exact ⟨_, rfl, by rw [addr_head]; exact hc m x hx⟩
  have HK := Lib.hid hk
  have HKR := Lib.hid hkr
  have HKP := Lib.hid hkp
  have crp0 : crP keep D 0 = (rk D).pages := by unfold crP rk; simp
  have HC0 := Lib.hid crp0
  clear h hk hkr hkp hr0 hlen hcellK crp0
  go_enter Tryz.func54, Tryz.ntmps54
  go_wp2_with fail
  go_loopw [4, 5, 13] (fun _ _ i wr => ∃ m : Nat, m ≤ D.pages.length ∧ i = .int .i64 m ∧ RDsk wr X r p q { rk D with pages := crP keep D m } ∧ Oth [r, p] w wr) (fun _ _ i _ => D.pages.length - (intOf i).toNat)
  case atStart => exact ⟨0, Nat.zero_le _, rfl, by rw [HC0.out]; exact HD.out, Oth.refl _ _⟩
  case round =>
    obtain ⟨m, hm, rfl, hd, hoth⟩ := hrel
    by_cases hlt : m < D.pages.length
    · obtain ⟨pp, hp⟩ : ∃ pp, D.pages[m]? = some pp := ⟨_, List.getElem?_eq_getElem hlt⟩
      have hst := crP_step keep D m pp hp
      have hgt := crP_get keep D m pp hp
      have hln := crP_len keep D m hm
      have hkw : Own wr Y (.slice A0 keep.length kk0) keep := HK.out.same fun b hb hlt => hoth.block b hlt (by rintro hm; rcases List.mem_cons.1 hm with rfl | hm; exact HKR.out hb; rcases List.mem_cons.1 hm with rfl | hm; exact HKP.out hb; cases hm)
      have hcellK : ∀ m x, keep[m]? = some x → ∃ a, A0 = some a ∧ wr.cell? (a.add m) = some (.int .i64 x) := by
        intro m x hx
        obtain ⟨g, c, e, -, -, hg, hc⟩ := hkw.seen (by have := (List.getElem?_eq_some_iff.1 hx).1; omega)
        simp only [Value.slice.injEq] at e
        obtain ⟨rfl, -, rfl⟩ := e
        exact ⟨_, rfl, by rw [addr_head]; exact hc m x hx⟩
      have HCK := Lib.hid hcellK
      have HDD := Lib.hid hd
      have HOO := Lib.hid hoth
      have HST := Lib.hid hst
      have HGT := Lib.hid hgt
      have HPP := Lib.hid hp
      obtain ⟨ka, c0, hra⟩ := hd.row
      obtain ⟨kb, c1, hrb⟩ := hd.row1
      dsimp only at c0 c1 hra hrb
      have hsl : (rk D).safe.length = D.pages.length := by simp [rk]
      rw [hln] at c0 hra
      rw [hsl] at c1 hrb
      have hfr := hra.free m
      have cp := hra.cell hgt (i := 0) rfl
      rw [Nat.mul_one, Nat.add_zero] at cp
      have cs := hrb.cell (j := m) (x := pp.2) (by unfold rk; rw [List.getElem?_map, hp]; rfl) (i := 0) rfl
      rw [Nat.mul_one, Nat.add_zero] at cs
      clear hd hoth hst hgt hln hp hkw hcellK hra hrb hsl
      go_wp2_with fail
      go_loopw [5, 7, 18] (fun kb _ i wr2 => ∃ x : Nat, x ≤ keep.length ∧ i = .int .i64 x ∧ kb = .bool (anyK keep x m) ∧ wr2 = wr) (fun _ _ i _ => keep.length - (intOf i).toNat)
      case atStart => exact ⟨0, Nat.zero_le _, rfl, rfl, rfl⟩
      case round =>
        obtain ⟨x, hx, rfl, rfl, rfl⟩ := hrel
        by_cases hlx : x < keep.length
        · obtain ⟨y, hy⟩ : ∃ y, keep[x]? = some y := ⟨_, List.getElem?_eq_getElem hlx⟩
          obtain ⟨a, rfl, hca⟩ := HCK.out x y hy
          have hstep := anyK_step keep x m y hy
          have HSTEP := Lib.hid hstep
          clear hy hstep
          cases hak : anyK keep x m with
          | true =>
            rw [hak] at HSTEP
            go_wp2_with fail
            go_roundw
            case rel => exact ⟨x + 1, by omega, by go_num, by rw [HSTEP.out]; rfl, by first | trivial | rfl⟩
            case measure => simp [intOf]; omega
          | false =>
            rw [hak] at HSTEP
            go_wp2_with fail
            go_roundw
            case rel => exact ⟨x + 1, by omega, by go_num, by rw [HSTEP.out]; simp, by first | trivial | rfl⟩
            case measure => simp [intOf]; omega
        · obtain rfl : x = keep.length := by omega
          have hak : anyK keep keep.length m = keep.contains (m : Int) := by unfold anyK; rw [List.take_length]
          rw [hak]
          cases hcon : keep.contains (m : Int) with
          | true =>
            have hkp : kept keep m pp = (pp.1, pp.1) := by unfold kept; rw [if_pos hcon]
            rw [hkp] at HST
            have hsame : crP keep D (m + 1) = crP keep D m := by
              rw [← HST.out]
              apply List.ext_getElem?
              intro j
              rw [List.getElem?_set]
              split
              · rename_i e; subst e; rw [HGT.out]; split
                · rfl
                · rename_i hn; exact absurd ((List.getElem?_eq_some_iff.1 HGT.out).1) hn
              · rfl
            have HSM := Lib.hid hsame
            clear hcon hak hkp hsame
            go_wp2_with fail
            go_roundw
            case rel => exact ⟨m + 1, by omega, by go_num, by rw [HSM.out]; exact HDD.out, HOO.out⟩
            case measure => simp [intOf]; omega
          | false =>
            have hkp : kept keep m pp = (pp.2, pp.2) := by unfold kept; rw [if_neg (by rw [hcon]; simp)]
            rw [hkp] at HST
            clear hcon hak hkp
            go_wp2_with fail
            go_region
            all_goals (
              have hd3 := (HDD.out.setPage m (by show m < (crP keep D m).length; rw [crP_len keep D m (by omega)]; exact hlt) pp.2)
              dsimp only at hd3
              rw [show (crP keep D m).set m pp.2 = crP keep D (m + 1) from HST.out] at hd3
              have hd4 := hd3.same (w' := (wr.setCell ⟨p, m, none⟩ (.string pp.2)).drew) rfl rfl rfl
              have ho4 : Oth [r, p] w (wr.setCell ⟨p, m, none⟩ (.string pp.2)).drew := HOO.out.trans ((Oth.setCell [r, p] wr ⟨p, m, none⟩ (.string pp.2) (by simp)).trans (Oth.of (Below.refl _ _).drew _))
              have HD4 := Lib.hid hd4
              have HO4 := Lib.hid ho4
              clear hd3 hd4 ho4
              generalize (wr.setCell ⟨p, m, none⟩ (.string pp.2)).drew = W at HD4 HO4 ⊢
              go_wp2_with fail
              go_roundw
              case rel => exact ⟨m + 1, by omega, by go_num, HD4.out, HO4.out⟩
              case measure => simp [intOf]; omega)
    · obtain rfl : m = D.pages.length := by omega
      have HDD := Lib.hid hd
      have HOO := Lib.hid hoth
      rw [crP_end] at HDD
      obtain ⟨ka, c0, hra⟩ := HDD.out.row
      obtain ⟨kb, c1, hrb⟩ := HDD.out.row1
      dsimp only at c0 hra
      have hpl : (rk (D.crash keep)).pages.length = D.pages.length := by simp [rk, Dk.crash]
      rw [hpl] at c0 hra
      have hlt2 : r < wr.heap.size := HDD.out.ltr
      have f1 := HDD.out.fr 1
      have f2 := HDD.out.fr 2
      have f3 := HDD.out.fr 3
      have d2 := HDD.out.dark
      have d3 := HDD.out.left
      have HRA := Lib.hid hra
      have HPL := Lib.hid hpl
      have c0a := (lit_cell wr r 0 hlt2).trans c0
      clear hd hoth hra hrb hpl
      go_wp2_with (at_builtin
                   refine wpList_rws stElt _ rfl _ _ rfl wr.heap.size _ [] rfl (empty_row wr) X p ka 0 D.pages.length (rk (D.crash keep)).pages rfl (by rw [HPL.out]) (HRA.out.alloc _) (by omega) rfl (by omega) (by simp) ?_
                   intro g3 k4 w3 r3 b3
                   have c3 := (b3.cell (p := ⟨r, 1, none⟩) hlt2).trans ((lit_cell wr r 1 hlt2).trans c1)
                   have g1 := (b3.frozen (p := ⟨r, 1, none⟩) hlt2).trans ((lit_frozen wr r 1 hlt2).trans f1)
                   have g2 := (b3.frozen (p := ⟨r, 2, none⟩) hlt2).trans ((lit_frozen wr r 2 hlt2).trans f2)
                   have g4 := (b3.frozen (p := ⟨r, 3, none⟩) hlt2).trans ((lit_frozen wr r 3 hlt2).trans f3)
                   have c4 := (b3.cell (p := ⟨r, 2, none⟩) hlt2).trans ((lit_cell wr r 2 hlt2).trans d2)
                   have c5 := (b3.cell (p := ⟨r, 3, none⟩) hlt2).trans ((lit_cell wr r 3 hlt2).trans d3))
      go_end0
      have bel : Below wr.heap.size wr w3 := ((Below.refl _ wr).alloc (Nat.le_refl _) _).trans b3
      have hg3 : wr.heap.size ≤ g3 := (World.ownsRow.lt r3 g3 rfl).1
      have hsz : w.heap.size ≤ wr.heap.size := HOO.out.size
      have hp2 := HDD.out.ltp
      rw [List.nil_append, Nat.zero_add] at r3
      have fin := (((HDD.out.keep bel).setSafe g3 k4 _ (rk (D.crash keep)).pages (by rw [HPL.out]) (r3.base (by omega)) rfl (by omega) (by omega)).setDark false).setLeft (-1) (by omega) (by omega)
      refine ⟨rfl, ⟨g3, .inr (by omega), ?_⟩, (HOO.out.trans (Oth.of bel _)).trans (((Oth.setCell _ _ _ _ (by simp)).trans (Oth.setCell _ _ _ _ (by simp))).trans (Oth.setCell _ _ _ _ (by simp)))⟩
      have e : rk (D.crash keep) = { { { { rk D with pages := (rk (D.crash keep)).pages } with safe := (rk (D.crash keep)).pages } with dark := false } with left := -1 } := by
        have := crP_snd keep D
        unfold rk Dk.crash at *
        simp only [Rk.mk.injEq, true_and, and_true] at *
        exact this
      rw [e]
      exact fin
end Go.Proofs.YtklnnpacfjnnlaaGreatDoor
