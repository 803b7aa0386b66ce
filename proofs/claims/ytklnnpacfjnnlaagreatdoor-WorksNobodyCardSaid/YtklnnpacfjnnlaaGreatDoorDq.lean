/- Disks: Sync, Fuse, Crash, NewDisk; slices of numbers: Clone, list, Contains. -/
import Derived.Test.YtklnnpacfjnnlaaGreatDoorDk
import Derived.Test.YtklnnpacfjnnlaaGreatDoorShn
namespace Go.Proofs.YtklnnpacfjnnlaaGreatDoor
open Go.RowKit
set_option maxHeartbeats 1000000 in
theorem cloneI_any (v : Value) (xs : List Int) (w : World) (h : Ints w v xs) :
    Calls Tryz.prog 73 #[v] w fun e w' => ∃ v', e = .returned v' ∧ Own w' w.heap.size v' xs ∧ Below w.heap.size w w' := by
  obtain ⟨hlen, A, c, rfl, hc, hr⟩ := h
  cases A with
  | none =>
    have hx : xs = [] := by
      rcases Nat.eq_zero_or_pos xs.length with h0 | h0
      · exact List.eq_nil_of_length_eq_zero h0
      · obtain ⟨ad, h, _⟩ := hr h0; cases h
    subst hx
    have he := fun (W : World) => Lib.run_eql_slice_nil (P := Tryz.prog) W 41
    go_enter Tryz.func73, Tryz.ntmps73
    go_wp2
    go_ret
    exact ⟨_, rfl, Own.nil _ _, Below.refl _ _⟩
  | some ad =>
    have he := fun (W : World) (n c n' c' : Nat) => Lib.run_eql_slice_nil (P := Tryz.prog) W 41 3 (some ad) n c n' c' Tryz.underlying41
    have hcell : ∀ j u, xs[j]? = some u → w.cell? (ad.add j) = some (.int .i64 u) := by
      intro j u hu
      obtain ⟨ad', e, _, hcell⟩ := hr (by have := (List.getElem?_eq_some_iff.1 hu).1; omega)
      cases e
      exact hcell j u hu
    have hbl : 0 < xs.length → ad.block < w.heap.size := by
      intro h0
      obtain ⟨ad', e, hb, _⟩ := hr h0
      cases e
      exact hb
    clear hr
    have HC := Lib.hid hcell; clear hcell
    go_enter Tryz.func73, Tryz.ntmps73
    go_wp2_with (at_builtin; refine wpList_append_ints _ rfl _ _ 41 rfl Tryz.underlying41 w.heap.size _ [] rfl (World.ownsRow_lit w #[] 0 (Nat.le_refl _) (by simp [maxLen]) (by simp)) ad xs c rfl ?_ (by simp; omega) (by simp) ?_)
    · intro j u hu
      refine (World.cell?_alloc_lt w _ (ad.add j) ?_).trans (HC.out j u hu)
      rw [addr_block]
      exact hbl (by have := (List.getElem?_eq_some_iff.1 hu).1; omega)
    · intro v' w' hown hg
      go_wp2
      go_ret
      refine ⟨v', rfl, by simpa using hown, ((Below.refl _ _).alloc (Nat.le_refl _) _).grown hg (by simp) (fun k hk => ?_)⟩
      simp [Value.ownBlock] at hk
      omega
set_option maxHeartbeats 1000000 in
set_option maxRecDepth 100000 in
theorem list_any (v : Value) (xs : List Int) (w : World) (h : Ints w v xs) :
    Calls Tryz.prog 42 #[v] w fun e w' => ∃ v', e = .returned v' ∧ Own w' w.heap.size v' (xs.take 40) ∧ Below w.heap.size w w' := by
  have h0 := h
  obtain ⟨hlen, A, c, rfl, hc, hr⟩ := h
  clear hr
  by_cases h40 : xs.length ≤ 40
  · rw [List.take_of_length_le h40]
    have hm : (min (xs.length : Int) 40).toNat = xs.length := by omega
    have H := Lib.hid h0; clear h0
    go_enter Tryz.func42, Tryz.ntmps42
    go_wp2_with (go_at_call 73; (with_reducible refine (cloneI_any _ _ _ H.out).mono ?_); rintro e w' ⟨v', rfl, hown, hb⟩)
    go_ret
    exact ⟨v', rfl, hown, hb⟩
  · have h1 := h0.take 40 (by omega)
    clear h0
    have hm : (min (xs.length : Int) 40).toNat = 40 := by omega
    have H := Lib.hid h1; clear h1
    go_enter Tryz.func42, Tryz.ntmps42
    go_wp2_with (go_at_call 73; (with_reducible refine (cloneI_any _ _ _ H.out).mono ?_); rintro e w' ⟨v', rfl, hown, hb⟩)
    go_ret
    exact ⟨v', rfl, hown, hb⟩

theorem contI_any (X : Nat) (v : Value) (xs : List Int) (x : Int) (w : World) (h : Own w X v xs) (hl : xs.length ≤ 1000000) :
    Calls Tryz.prog 72 #[v, .int .i64 x] w fun e w' => e = .returned (.bool (xs.contains x)) ∧ w' = w := by
  by_cases h0 : xs.length = 0
  · obtain rfl := List.eq_nil_of_length_eq_zero h0
    obtain ⟨A, n, c, rfl⟩ := h.isSlice
    have hn : n = 0 := by
      rcases h.2 with ⟨he, _⟩ | ⟨g', cap', cur, hv, _⟩
      · simp only [Value.slice.injEq] at he; exact he.2.1
      · simp only [Value.slice.injEq] at hv; exact hv.2.1
    subst hn
    exact (Any.slices_Contains_int_empty l72 A c x w).mono fun e w' h => h
  · obtain ⟨g, c, rfl, -, -, hg, hc⟩ := h.seen (by omega)
    refine (Any.slices_Contains_int l72 g 0 xs.length c xs x w (Nat.le_refl _) (by omega) (fun j hj => ?_)).mono ?_
    · have := hc j xs[j] (List.getElem?_eq_getElem hj)
      rw [Nat.zero_add, List.getD_eq_getElem?_getD, List.getElem?_eq_getElem hj]
      exact this
    · rintro e w' ⟨rfl, rfl⟩
      rw [List.take_length]
      exact ⟨rfl, rfl⟩
/-- Fuse, Sync, Crash -/
def Dk.fused (D : Dk) (k : Int) : Dk := if D.off = true then D else { D with fuse := max k (-1) }
def Dk.sync (D : Dk) : Dk × Int := if D.spend.2 = 0 then ({ D.spend.1 with pages := D.pages.map fun p => (p.1, p.1) }, 0) else D.spend
def kept (keep : List Int) (j : Nat) (p : ByteArray × ByteArray) : ByteArray × ByteArray := if keep.contains (j : Int) = true then (p.1, p.1) else (p.2, p.2)
def Dk.crash (D : Dk) (keep : List Int) : Dk := ⟨D.pages.mapIdx (kept keep), false, -1⟩
set_option maxHeartbeats 4000000 in
set_option maxRecDepth 100000 in
theorem dfuse_any (X d pg : Nat) (D : Dk) (k : Int) (hk0 : -9223372036854775808 ≤ k) (hk : k ≤ 9223372036854775807) (w : World) (h : Dsk w X d pg D) :
    Calls Tryz.prog 40 #[.pointer (some ⟨d, 0, none⟩), .int .i64 k] w fun e w' => e = .returned (.tuple #[]) ∧ Dsk w' X d pg (D.fused k) ∧ Oth [d] w w' := by
  have HN := Lib.hid (dnone_any X d pg D w h)
  have HD := Lib.hid h
  have ho := h.off
  have hf := h.fuse
  have f2 := h.fr 2
  cases hoff : D.off with
  | true =>
    have e : D.fused k = D := by unfold Dk.fused; rw [if_pos hoff]
    rw [e]
    rw [hoff] at ho
    clear h
    go_enter Tryz.func40, Tryz.ntmps40
    go_wp2_with (go_at_call 68; refine HN.out.mono ?_; rintro e w1 ⟨rfl, rfl⟩)
    go_end0
    exact ⟨rfl, HD.out, Oth.refl _ _⟩
  | false =>
    have e : D.fused k = { D with fuse := max k (-1) } := by unfold Dk.fused; rw [if_neg (by simp [hoff])]
    rw [e]
    rw [hoff] at ho
    clear h
    go_enter Tryz.func40, Tryz.ntmps40
    go_wp2_with (go_at_call 68; refine HN.out.mono ?_; rintro e w1 ⟨rfl, rfl⟩)
    go_end0
    exact ⟨rfl, HD.out.setFuse _ (by omega) (by omega), Oth.setCell _ _ _ _ (by simp)⟩
theorem step_list {α : Type} (f : α → α) (l : List α) (q : Nat) (p : α) (h : l[q]? = some p) : ((l.take q).map f ++ l.drop q).set q (f p) = (l.take (q + 1)).map f ++ l.drop (q + 1) := by
  have hlt := (List.getElem?_eq_some_iff.1 h).1
  have hd : l.drop q = p :: l.drop (q + 1) := by rw [List.drop_eq_getElem_cons hlt]; rw [List.getElem?_eq_getElem hlt] at h; cases h; rfl
  rw [hd, List.take_add_one, h, List.set_append_right _ _ (by simp only [List.length_map, List.length_take]; omega), show q - ((l.take q).map f).length = 0 by simp only [List.length_map, List.length_take]; omega]
  simp
theorem step_get {α : Type} (f : α → α) (l : List α) (q : Nat) (p : α) (h : l[q]? = some p) : ((l.take q).map f ++ l.drop q)[q]? = some p := by
  have hlt := (List.getElem?_eq_some_iff.1 h).1
  rw [List.getElem?_append_right (by simp only [List.length_map, List.length_take]; omega), show q - ((l.take q).map f).length = 0 by simp only [List.length_map, List.length_take]; omega]
  simpa using h
theorem step_len {α : Type} (f : α → α) (l : List α) (q : Nat) (h : q ≤ l.length) : ((l.take q).map f ++ l.drop q).length = l.length := by simp only [List.length_append, List.length_map, List.length_take, List.length_drop]; omega
set_option maxHeartbeats 4000000 in
set_option maxRecDepth 100000 in
theorem dsync_any (X d pg : Nat) (D : Dk) (w : World) (h : Dsk w X d pg D) :
    Calls Tryz.prog 44 #[.pointer (some ⟨d, 0, none⟩)] w fun e w' => e = .returned (.int .i64 D.sync.2) ∧ Dsk w' X d pg D.sync.1 ∧ Oth [d, pg] w w' := by
  have HN := Lib.hid (dnone_any X d pg D w h)
  have HS := Lib.hid (spend_any X d pg D w h)
  have HD := Lib.hid h
  have hlen : D.spend.1.pages = D.pages := by unfold Dk.spend; split <;> rfl
  by_cases hs : D.spend.2 = 0
  · have e : D.sync = ({ D.spend.1 with pages := D.pages.map fun p => (p.1, p.1) }, 0) := by unfold Dk.sync; rw [if_pos hs]
    rw [e]
    rw [hs] at HS
    have h200 := h.most
    clear h e
    have HLEN := Lib.hid hlen
    clear hlen
    go_enter Tryz.func44, Tryz.ntmps44
    go_wp2_with (first
      | (go_at_call 68; refine HN.out.mono ?_; rintro e w1 ⟨rfl, rfl⟩)
      | (go_at_call 74
         refine HS.out.mono ?_
         rintro e w2 ⟨rfl, hd2, ho2⟩
         obtain ⟨k, c0, hr⟩ := hd2.row
         rw [HLEN.out] at c0
         have HD2 := Lib.hid hd2
         have HO2 := Lib.hid ho2
         clear hd2 ho2 hr))
    go_loopw [4, 17] (fun _ i wr => ∃ q : Nat, q ≤ D.pages.length ∧ i = .int .i64 q ∧ Dsk wr X d pg { D.spend.1 with pages := ((D.pages.take q).map fun p => (p.1, p.1)) ++ D.pages.drop q } ∧ Oth [d, pg] w2 wr) (fun _ i _ => D.pages.length - (intOf i).toNat)
    case atStart => exact ⟨0, Nat.zero_le _, rfl, by simpa [← HLEN.out] using HD2.out, Oth.refl _ _⟩
    case round =>
      obtain ⟨q, hq, rfl, hd, hoth⟩ := hrel
      by_cases hlt : q < D.pages.length
      · obtain ⟨p, hp⟩ : ∃ p, D.pages[q]? = some p := ⟨_, List.getElem?_eq_getElem hlt⟩
        have hst := step_list (fun p : ByteArray × ByteArray => (p.1, p.1)) D.pages q p hp
        have hgq := step_get (fun p : ByteArray × ByteArray => (p.1, p.1)) D.pages q p hp
        have hln := step_len (fun p : ByteArray × ByteArray => (p.1, p.1)) D.pages q hq
        obtain ⟨k, c1, hr⟩ := hd.row
        dsimp only at c1 hr
        rw [hln] at c1 hr
        have hc := hr.cell hgq (i := 0) rfl
        rw [Nat.add_zero] at hc
        have hc1 := hr.cell hgq (i := 1) rfl
        have hfr := hr.free (q * 2 + 1)
        have HDD := Lib.hid hd
        have HOO := Lib.hid hoth
        have HST := Lib.hid hst
        have HGQ := Lib.hid hgq
        clear hd hoth hr hst hgq hln hp
        go_wp2_with fail
        go_region
        have hd3 := ((HDD.out.setPage q p (p.1, p.1) HGQ.out 1 (by omega) (.string p.1) rfl (q * 2 + 1) (by omega)).same (w' := (wr.setCell ⟨pg, q * 2 + 1, none⟩ (.string p.1)).drew) rfl rfl)
        dsimp only at hd3
        rw [HST.out] at hd3
        have ho3 : Oth [d, pg] w2 (wr.setCell ⟨pg, q * 2 + 1, none⟩ (.string p.1)).drew := HOO.out.trans ((Oth.setCell [d, pg] wr ⟨pg, q * 2 + 1, none⟩ (.string p.1) (by simp)).trans (Oth.of (Below.refl _ _).drew _))
        have HD3 := Lib.hid hd3
        have HO3 := Lib.hid ho3
        clear hd3 ho3
        generalize (wr.setCell ⟨pg, q * 2 + 1, none⟩ (.string p.1)).drew = W at HD3 HO3 ⊢
        go_wp2_with fail
        go_roundw
        case rel => exact ⟨q + 1, by omega, by go_num, HD3.out, HO3.out⟩
        case measure => simp [intOf]; omega
      · obtain rfl : q = D.pages.length := by omega
        rw [List.take_length, List.drop_length, List.append_nil] at hd
        have HDD := Lib.hid hd
        have HOO := Lib.hid hoth
        clear hd hoth
        go_wp2_with fail
        go_ret
        exact ⟨rfl, HDD.out, (HO2.out.more (by simp)).trans HOO.out⟩
  · have e : D.sync = D.spend := by unfold Dk.sync; rw [if_neg hs]
    rw [e]
    have hq : (D.spend.2 == 0) = false := beq_eq_false_iff_ne.2 hs
    clear h e hs hlen
    go_enter Tryz.func44, Tryz.ntmps44
    go_wp2_with (first
      | (go_at_call 68; refine HN.out.mono ?_; rintro e w1 ⟨rfl, rfl⟩)
      | (go_at_call 74
         refine HS.out.mono ?_
         rintro e w2 ⟨rfl, hd2, ho2⟩
         have HD2 := Lib.hid hd2
         have HO2 := Lib.hid ho2
         clear hd2 ho2))
    go_ret
    exact ⟨rfl, HD2.out, HO2.out.more (by simp)⟩
theorem crash_list (keep : List Int) (l : List (ByteArray × ByteArray)) (q : Nat) (p : ByteArray × ByteArray) (h : l[q]? = some p) : (((l.take q).mapIdx (kept keep)) ++ l.drop q).set q (kept keep q p) = ((l.take (q + 1)).mapIdx (kept keep)) ++ l.drop (q + 1) := by
  have hlt := (List.getElem?_eq_some_iff.1 h).1
  have hd : l.drop q = p :: l.drop (q + 1) := by rw [List.drop_eq_getElem_cons hlt]; rw [List.getElem?_eq_getElem hlt] at h; cases h; rfl
  have hl : ((l.take q).mapIdx (kept keep)).length = q := by rw [List.length_mapIdx, List.length_take]; omega
  rw [hd, List.take_add_one, h, List.set_append_right _ _ (by omega), hl, Nat.sub_self, List.set_cons_zero]
  simp only [Option.toList_some, List.mapIdx_append, List.length_take, Nat.min_eq_left (Nat.le_of_lt hlt), List.append_assoc]
  simp
theorem crash_get (keep : List Int) (l : List (ByteArray × ByteArray)) (q : Nat) (p : ByteArray × ByteArray) (h : l[q]? = some p) : (((l.take q).mapIdx (kept keep)) ++ l.drop q)[q]? = some p := by
  have hlt := (List.getElem?_eq_some_iff.1 h).1
  have hl : ((l.take q).mapIdx (kept keep)).length = q := by rw [List.length_mapIdx, List.length_take]; omega
  rw [List.getElem?_append_right (by omega), hl, Nat.sub_self]
  simpa using h
theorem crash_len (keep : List Int) (l : List (ByteArray × ByteArray)) (q : Nat) (h : q ≤ l.length) : (((l.take q).mapIdx (kept keep)) ++ l.drop q).length = l.length := by
  simp only [List.length_append, List.length_mapIdx, List.length_take, List.length_drop]; omega
set_option maxHeartbeats 4000000 in
set_option maxRecDepth 100000 in
theorem dcrash_any (X Y d pg : Nat) (D : Dk) (kv : Value) (keep : List Int) (hkl : keep.length ≤ 1000) (w : World) (h : Dsk w X d pg D) (hk : Own w Y kv keep) (hkd : kv.ownBlock ≠ some d) (hkp : kv.ownBlock ≠ some pg) :
    Calls Tryz.prog 41 #[.pointer (some ⟨d, 0, none⟩), kv] w fun e w' => e = .returned (.tuple #[]) ∧ Dsk w' X d pg (D.crash keep) ∧ Oth [d, pg] w w' := by
  have HN := Lib.hid (dnone_any X d pg D w h)
  have HD := Lib.hid h
  have h200 := h.most
  obtain ⟨A0, n0, k0, e0⟩ := hk.isSlice
  subst e0
  have HK := Lib.hid hk
  have HKD := Lib.hid hkd
  have HKP := Lib.hid hkp
  obtain ⟨k, c0, hr⟩ := h.row
  clear h hk hkd hkp hr
  go_enter Tryz.func41, Tryz.ntmps41
  go_wp2_with (go_at_call 68; refine HN.out.mono ?_; rintro e w1 ⟨rfl, hw⟩; rw [hw]; clear hw w1)
  go_loopw [4, 5, 13] (fun _ _ i wr => ∃ q : Nat, q ≤ D.pages.length ∧ i = .int .i64 q ∧ Dsk wr X d pg { D with pages := ((D.pages.take q).mapIdx (kept keep)) ++ D.pages.drop q } ∧ Oth [d, pg] w wr) (fun _ _ i _ => D.pages.length - (intOf i).toNat)
  case atStart => exact ⟨0, Nat.zero_le _, rfl, by simpa using HD.out, Oth.refl _ _⟩
  case round =>
    obtain ⟨q, hq, rfl, hd, hoth⟩ := hrel
    by_cases hlt : q < D.pages.length
    · obtain ⟨p, hp⟩ : ∃ p, D.pages[q]? = some p := ⟨_, List.getElem?_eq_getElem hlt⟩
      have hst := crash_list keep D.pages q p hp
      have hgq := crash_get keep D.pages q p hp
      have hln := crash_len keep D.pages q hq
      obtain ⟨k, c1, hr⟩ := hd.row
      dsimp only at c1 hr
      rw [hln] at c1 hr
      have hc := hr.cell hgq (i := 0) rfl
      rw [Nat.add_zero] at hc
      have hc1 := hr.cell hgq (i := 1) rfl
      have hfr := hr.free (q * 2 + 1)
      have hfr0 := hr.free (q * 2)
      have HDD := Lib.hid hd
      have HOO := Lib.hid hoth
      have HST := Lib.hid hst
      have HGQ := Lib.hid hgq
      have hkw : Own wr Y (.slice A0 n0 k0) keep := HK.out.same fun b hb hlt => hoth.block b hlt (by rintro hm; rcases List.mem_cons.1 hm with rfl | hm; exact HKD.out hb; rcases List.mem_cons.1 hm with rfl | hm; exact HKP.out hb; cases hm)
      have HC := Lib.hid (contI_any Y _ keep q wr hkw (by omega))
      clear hd hoth hr hst hgq hln hp hkw
      cases hcon : keep.contains (q : Int) with
      | true =>
        have hkp : kept keep q p = (p.1, p.1) := by unfold kept; rw [if_pos hcon]
        rw [hkp] at HST
        rw [hcon] at HC
        clear hcon hkp
        go_wp2_with (go_at_call 72; refine HC.out.mono ?_; rintro e w3 ⟨rfl, hw⟩; rw [hw]; clear hw w3)
        have hd1 := HDD.out.setPage q p (p.1, p.1) HGQ.out 1 (by omega) (.string p.1) rfl (q * 2 + 1) (by omega)
        dsimp only at hd1
        rw [HST.out] at hd1
        have hln2 := crash_len keep D.pages (q + 1) (by omega)
        have hgq2 : (((D.pages.take (q + 1)).mapIdx (kept keep)) ++ D.pages.drop (q + 1))[q]? = some (p.1, p.1) := by
          rw [← HST.out, List.getElem?_set_self (by rw [crash_len keep D.pages q hq]; exact hlt)]
        have hd2 := hd1.setPage q (p.1, p.1) (p.1, p.1) hgq2 0 (by omega) (.string p.1) rfl (q * 2) (by omega)
        dsimp only at hd2
        rw [← HST.out, List.set_set, HST.out] at hd2
        refine ⟨⟨q + 1, by omega, by simp, hd2, HOO.out.trans ((Oth.setCell _ _ _ _ (by simp)).trans (Oth.setCell _ _ _ _ (by simp)))⟩, ?_⟩
        simp [intOf]; omega
      | false =>
        have hkp : kept keep q p = (p.2, p.2) := by unfold kept; rw [if_neg (by rw [hcon]; simp)]
        rw [hkp] at HST
        rw [hcon] at HC
        clear hcon hkp
        go_wp2_with (go_at_call 72; refine HC.out.mono ?_; rintro e w3 ⟨rfl, hw⟩; rw [hw]; clear hw w3)
        have hd1 := HDD.out.setPage q p (p.2, p.2) HGQ.out 0 (by omega) (.string p.2) rfl (q * 2) (by omega)
        dsimp only at hd1
        rw [HST.out] at hd1
        refine ⟨⟨q + 1, by omega, by simp, hd1, HOO.out.trans (Oth.setCell _ _ _ _ (by simp))⟩, ?_⟩
        simp [intOf]; omega
    · obtain rfl : q = D.pages.length := by omega
      rw [List.take_length, List.drop_length, List.append_nil] at hd
      have HDD := Lib.hid hd
      have HOO := Lib.hid hoth
      have e1 := hd.off
      have e2 := hd.fuse
      have e3 := hd.fr 1
      have e4 := hd.fr 2
      clear hd hoth
      go_wp2_with fail
      go_end0
      exact ⟨rfl, (HDD.out.setOff false).setFuse (-1) (by omega) (by omega), HOO.out.trans ((Oth.setCell _ _ _ _ (by simp)).trans (Oth.setCell _ _ _ _ (by simp)))⟩
end Go.Proofs.YtklnnpacfjnnlaaGreatDoor
