/- touched. -/
import Derived.Test.YtklnnpacfjnnlaaGreatDoorTd
import Derived.Deep.RegionHeld3
namespace Go.Proofs.YtklnnpacfjnnlaaGreatDoor
open Go.RowKit
/-- v reads as xs, however long -/
def IntsX (w : World) (v : Value) (xs : List Int) : Prop :=
  ∃ (A : Option Addr) (c : Nat), v = .slice A xs.length c ∧ xs.length ≤ c ∧
    (0 < xs.length → ∃ ad, A = some ad ∧ ad.block < w.heap.size ∧ ∀ j u, xs[j]? = some u → w.cell? (ad.add j) = some (.int .i64 u))
theorem IntsX.keep {w w' : World} {v : Value} {xs : List Int} (h : IntsX w v xs) (hb : Below w.heap.size w w') : IntsX w' v xs := by
  obtain ⟨A, c, rfl, hc, hr⟩ := h
  refine ⟨A, c, rfl, hc, fun h0 => ?_⟩
  obtain ⟨ad, rfl, hbl, hcell⟩ := hr h0
  exact ⟨ad, rfl, Nat.lt_of_lt_of_le hbl hb.size, fun j u hu => (hb.cell (by rw [addr_block]; exact hbl)).trans (hcell j u hu)⟩
theorem IntsX.same {w w' : World} {v : Value} {xs : List Int} (h : IntsX w v xs) (hs : w.heap.size ≤ w'.heap.size) (hb : 0 < xs.length → ∀ b, v.ownBlock = some b → b < w.heap.size → w'.heap[b]? = w.heap[b]?) : IntsX w' v xs := by
  obtain ⟨A, c, rfl, hc, hr⟩ := h
  refine ⟨A, c, rfl, hc, fun h0 => ?_⟩
  obtain ⟨ad, rfl, hbl, hcell⟩ := hr h0
  refine ⟨ad, rfl, Nat.lt_of_lt_of_le hbl hs, fun j u hu => ?_⟩
  have := hb h0 ad.block rfl hbl
  rw [← hcell j u hu]
  exact World.cell?_of_block (by rw [addr_block]; exact this)
theorem IntsX.lt {w : World} {v : Value} {xs : List Int} (h : IntsX w v xs) (h0 : 0 < xs.length) (b : Nat) (hb : v.ownBlock = some b) : b < w.heap.size := by
  obtain ⟨A, c, rfl, hc, hr⟩ := h
  obtain ⟨ad, rfl, hbl, -⟩ := hr h0
  simp [Value.ownBlock] at hb
  omega
theorem IntsX.few {w : World} {A : Option Addr} {c : Nat} {xs : List Int} (h : IntsX w (.slice A xs.length c) xs) (k : Nat) (hk : k ≤ xs.length) (hk2 : k ≤ 1000) : Ints w (.slice A k c) (xs.take k) := by
  obtain ⟨A', c', e, hc, hr⟩ := h
  cases e
  have hl : (xs.take k).length = k := by rw [List.length_take]; omega
  refine ⟨by omega, A, c, by rw [hl], by omega, fun h0 => ?_⟩
  obtain ⟨ad, e, hb, hcell⟩ := hr (by omega)
  refine ⟨ad, e, hb, fun j u hu => hcell j u ?_⟩
  rw [List.getElem?_take] at hu
  split at hu
  · exact hu
  · cases hu
set_option maxHeartbeats 1000000 in
set_option maxRecDepth 100000 in
theorem listX_any (v : Value) (xs : List Int) (w : World) (h : IntsX w v xs) :
    Calls Tryz.prog 42 #[v] w fun e w' => ∃ v', e = .returned v' ∧ Own w' w.heap.size v' (xs.take 40) ∧ Below w.heap.size w w' := by
  obtain ⟨A, c, rfl, hc, -⟩ := id h
  obtain ⟨K, hK⟩ : ∃ K : Nat, K = min xs.length 40 := ⟨_, rfl⟩
  have h1 := h.few K (by omega) (by omega)
  have e : xs.take K = xs.take 40 := by
    rw [hK]
    by_cases h40 : xs.length ≤ 40
    · rw [Nat.min_eq_left h40, List.take_length, List.take_of_length_le h40]
    · rw [Nat.min_eq_right (by omega)]
  rw [e] at h1
  have hm : (min (xs.length : Int) 40).toNat = K := by omega
  have hKc : K ≤ c := by omega
  have H := Lib.hid h1
  clear h1 h hK e
  go_enter Tryz.func42, Tryz.ntmps42
  go_wp2_with (go_at_call 73; (with_reducible refine (cloneI_any _ _ _ H.out).mono ?_); rintro e w' ⟨v', rfl, hown, hb⟩)
  go_ret
  exact ⟨v', rfl, hown, hb⟩
/-- what touched gives -/
def TouchPost (w : World) (X d pg r p : Nat) (D : Dk) (e : Ending) (w' : World) : Prop :=
  e = .returned (.bool true) ∧ Two w' X d pg r p D ∧ Oth [d, pg, r, p] w w'
theorem Two.lt {w : World} {X d pg r p : Nat} {D : Dk} (h : Two w X d pg r p D) : d < w.heap.size ∧ pg < w.heap.size ∧ r < w.heap.size ∧ p < w.heap.size := by
  obtain ⟨q, a, b, -⟩ := h
  exact ⟨a.ltd, a.ltp, b.ltr, b.ltp⟩
theorem box_lt (w : World) (o : Obj) : Below w.heap.size w (w.alloc o) ∧ (w.alloc o).heap.size = w.heap.size + 1 := ⟨(Below.refl _ _).alloc (Nat.le_refl _) _, World.size_alloc _ _⟩
theorem two_mk {w1 w2 : World} {X d pg r p q : Nat} {D' : Dk} (c : d < r ∧ pg < r ∧ d < p ∧ pg < p ∧ d < q ∧ pg < q) (h1 : Dsk w1 X d pg D') (hn : RNew w1 w2 X r p q (rk D')) (o2 : Oth [r, p] w1 w2) : Two w2 X d pg r p D' := by
  obtain ⟨q', hq, hr⟩ := hn
  obtain ⟨c1, c2, c3, c4, c5, c6⟩ := c
  have l1 := h1.ltd
  have l2 := h1.ltp
  exact ⟨q', h1.same (o2.block d l1 (by simp; omega)) (o2.block pg l2 (by simp; omega)), hr, c1, c2, c3, c4, by rcases hq with rfl | hq <;> omega, by rcases hq with rfl | hq <;> omega⟩
theorem rdsk_go {w w1 : World} {X d pg r p q : Nat} {D : Rk} (c : d < r ∧ pg < r ∧ d < p ∧ pg < p ∧ d < q ∧ pg < q) (h : RDsk w X r p q D) (o : Oth [d, pg] w w1) : RDsk w1 X r p q D :=
  h.same (o.block r h.ltr (by simp; omega)) (o.block p h.ltp (by simp; omega)) (o.block q h.ltq (by simp; omega))
theorem rnew_same {w w' : World} {X r p q : Nat} {D : Rk} (h : RDsk w' X r p q D) : RNew w w' X r p q D := ⟨q, .inl rfl, h⟩
theorem oth4 {a b c e : World} {d pg r p : Nat} (h0 : Below a.heap.size a b) (h1 : Oth [d, pg] b c) (h2 : Oth [r, p] c e) : Oth [d, pg, r, p] a e :=
  (Oth.of h0 _).trans ((h1.more (T := [d, pg, r, p]) fun b hb => by simp at hb ⊢; omega).trans (h2.more (T := [d, pg, r, p]) fun b hb => by simp at hb ⊢; omega))
set_option maxHeartbeats 4000000 in
set_option maxRecDepth 100000 in
theorem touched_any (X d pg r p : Nat) (D : Dk) (a : AcT) (kv : Value) (hn0 : -9223372036854775808 ≤ a.n) (hn1 : a.n ≤ 9223372036854775807) (w : World) (h : Two w X d pg r p D) (hk : IntsX w kv a.keep) (hka : 0 < a.keep.length → ∀ b, kv.ownBlock = some b → b ≠ d ∧ b ≠ pg ∧ b ≠ r ∧ b ≠ p) :
    Calls Tryz.prog 23 #[.pointer (some ⟨d, 0, none⟩), .pointer (some ⟨r, 0, none⟩), .agg #[.int .i64 a.kind, .int .i64 a.n, .string a.line, kv]] w (TouchPost w X d pg r p (a.on D)) := by
  obtain ⟨ki, n, line, keep⟩ := a
  dsimp only at *
  obtain ⟨l1, l2, l3, l4⟩ := h.lt
  have hbx := box_lt w (.cells #[.int .i64 ki, .int .i64 n, .string line, kv] 43)
  have HBX := Lib.hid hbx
  have HK := Lib.hid hk
  obtain ⟨q, hd, hr, hc⟩ := h.keep hbx.1
  have HD := Lib.hid hd
  have HR := Lib.hid hr
  have HC := Lib.hid hc
  obtain ⟨A0, n0, e0⟩ : ∃ A n c, kv = Value.slice A n c := by obtain ⟨A, c, e, _⟩ := hk; exact ⟨_, _, _, e⟩
  obtain ⟨k0, e0⟩ := e0
  subst e0
  have HNA := Lib.hid hka
  clear hka
  by_cases h3 : ki = 3
  · have ha : AcT.on ⟨ki, n, line, keep⟩ D = D.fused n := by unfold AcT.on; rw [if_pos h3]
    rw [ha]
    have hq : (ki == 3) = true := by simp [h3]
    clear h hk hbx ha h3 hd hr hc
    go_enter Tryz.func23, Tryz.ntmps23
    go_wp2_with (first
      | (go_at_call 40
         refine (dfuse_any X d pg D n hn0 hn1 _ HD.out).mono ?_
         rintro e w1 ⟨rfl, hd1, ho1⟩
         have HD1 := Lib.hid hd1
         have HO1 := Lib.hid (ho1.more (T := [d, pg]) (by simp))
         have cc := (HO1.out.cell ⟨w.heap.size, 1, none⟩ (by show w.heap.size < _; rw [HBX.out.2]; omega) (by simp; omega)).trans (show (w.alloc (.cells #[.int .i64 ki, .int .i64 n, .string line, .slice A0 n0 k0] 43)).cell? ⟨w.heap.size, 1, none⟩ = some (.int .i64 n) by simp)
         clear hd1 ho1)
      | (go_at_call 53
         refine (rfuse_any X r p q D n hn0 hn1 _ (rdsk_go HC.out HR.out HO1.out)).mono ?_
         rintro e w2 ⟨rfl, hr2, ho2⟩
         have HT2 := Lib.hid (two_mk HC.out HD1.out (rnew_same (w := w1) hr2) (ho2.more (T := [r, p]) (by simp)))
         have HO2 := Lib.hid (ho2.more (T := [r, p]) (by simp))
         clear hr2 ho2))
    go_ret
    exact ⟨rfl, HT2.out, oth4 HBX.out.1 HO1.out HO2.out⟩
  · have hq3 : (ki == 3) = false := by simp [h3]
    by_cases h4 : ki = 4
    · have ha : AcT.on ⟨ki, n, line, keep⟩ D = D.crash (keep.take 40) := by unfold AcT.on; rw [if_neg h3, if_pos h4]
      rw [ha]
      have hq : (ki == 4) = true := by simp [h4]
      have hkl : (keep.take 40).length ≤ 1000 := by rw [List.length_take]; omega
      clear h hk hbx ha h4 h3 hd hr hc
      go_enter Tryz.func23, Tryz.ntmps23
      go_wp2_with (first
        | (go_at_call 42
           (with_reducible refine (listX_any _ keep (w.alloc (.cells #[.int .i64 ki, .int .i64 n, .string line, .slice A0 n0 k0] 43)) (HK.out.keep HBX.out.1)).mono ?_)
           rintro e w1 ⟨v1, rfl, hv1, hb1⟩
           obtain ⟨A1, n1, k1, e1⟩ := hv1.isSlice
           subst e1
           have HV1 := Lib.hid hv1
           have hb01 := HBX.out.1.trans (hb1.mono (by rw [HBX.out.2]; omega))
           have HB1 := Lib.hid hb1
           have HB01 := Lib.hid hb01
           have hown1 : ∀ b, (Value.slice A1 n1 k1).ownBlock = some b → w.heap.size < b := fun b hb => by
             rcases hv1.2 with ⟨he, _⟩ | ⟨g, cap, cur, he, hg, _⟩
             · rw [he] at hb; simp [Value.ownBlock] at hb
             · rw [he] at hb; simp [Value.ownBlock] at hb; rw [HBX.out.2] at hg; omega
           have HOW1 := Lib.hid hown1
           clear hv1 hb1 hb01 hown1)
        | (go_at_call 41
           (with_reducible refine (dcrash_any X _ d pg D _ (keep.take 40) hkl w1 (HD.out.keep HB1.out) HV1.out (fun e => by have := HOW1.out d e; omega) (fun e => by have := HOW1.out pg e; omega)).mono ?_)
           rintro e w2 ⟨rfl, hd2, ho2⟩
           have HD2 := Lib.hid hd2
           have HO2 := Lib.hid ho2
           have HR2 := Lib.hid (rdsk_go HC.out (HR.out.keep HB1.out) ho2)
           have hz2 : w.heap.size < w2.heap.size := by have := ho2.size; have := HB1.out.size; rw [HBX.out.2] at this; omega
           have cc := ((ho2.cell ⟨w.heap.size, 3, none⟩ (by show w.heap.size < _; have := HB1.out.size; rw [HBX.out.2] at this; omega) (by simp; omega)).trans (HB1.out.cell (p := ⟨w.heap.size, 3, none⟩) (by show w.heap.size < _; rw [HBX.out.2]; omega))).trans (show (w.alloc (.cells #[.int .i64 ki, .int .i64 n, .string line, .slice A0 n0 k0] 43)).cell? ⟨w.heap.size, 3, none⟩ = some (.slice A0 n0 k0) by simp)
           have hk2 : IntsX w2 (.slice A0 n0 k0) keep := (HK.out.keep HB01.out).same ho2.size fun h0 b hb hlt => ho2.block b hlt (by
             have h1 := HNA.out h0 b hb
             simp [h1])
           have HK2 := Lib.hid hk2
           clear hd2 ho2 hk2)
        | (go_at_call 42
           (with_reducible refine (listX_any _ keep w2 HK2.out).mono ?_)
           rintro e w3 ⟨v3, rfl, hv3, hb3⟩
           obtain ⟨A3, n3, k3, e3⟩ := hv3.isSlice
           subst e3
           have HV3 := Lib.hid hv3
           have HB3 := Lib.hid hb3
           have hown3 : ∀ b, (Value.slice A3 n3 k3).ownBlock = some b → w2.heap.size ≤ b := fun b hb => by
             rcases hv3.2 with ⟨he, _⟩ | ⟨g, cap, cur, he, hg, _⟩
             · rw [he] at hb; simp [Value.ownBlock] at hb
             · rw [he] at hb; simp [Value.ownBlock] at hb; omega
           have HOW3 := Lib.hid hown3
           clear hv3 hb3 hown3)
        | (go_at_call 54
           (with_reducible refine (rcrash_any X _ r p q D _ (keep.take 40) hkl w3 (HR2.out.keep HB3.out) HV3.out (fun e => by have := HOW3.out r e; omega) (fun e => by have := HOW3.out p e; omega)).mono ?_)
           rintro e w4 ⟨rfl, hr4, ho4⟩
           have HT4 := Lib.hid (two_mk HC.out (HD2.out.keep HB3.out) hr4 ho4)
           have HO4 := Lib.hid ho4
           clear hr4 ho4))
      go_ret
      exact ⟨rfl, HT4.out, oth4 HB01.out (HO2.out.trans (Oth.of HB3.out _)) HO4.out⟩
    · have hq4 : (ki == 4) = false := by simp [h4]
      by_cases h6 : ki = 6
      · have ha : AcT.on ⟨ki, n, line, keep⟩ D = (D.write n line).1 := by unfold AcT.on; rw [if_neg h3, if_neg h4, if_pos h6]
        rw [ha]
        have hq : (ki == 6) = true := by simp [h6]
        have z1 : (w.alloc (.cells #[.int .i64 ki, .int .i64 n, .string line, .slice A0 n0 k0] 43)).cell? ⟨w.heap.size, 1, none⟩ = some (.int .i64 n) := by simp
        have z2 : (w.alloc (.cells #[.int .i64 ki, .int .i64 n, .string line, .slice A0 n0 k0] 43)).cell? ⟨w.heap.size, 2, none⟩ = some (.string line) := by simp
        clear h hk hbx ha h4 h3 h6 hd hr hc
        go_enter Tryz.func23, Tryz.ntmps23
        go_wp2_with fail
        obtain ⟨W, hW⟩ : ∃ W, W = w.alloc (.cells #[.int .i64 ki, .int .i64 n, .string line, .slice A0 n0 k0] 43) := ⟨_, rfl⟩
        rw [← hW] at HBX HD HR z1 z2
        rw [← hW]
        clear hW
        have hwl : w.heap.size < W.heap.size := by rw [HBX.out.2]; omega
        go_region_held3 (fun w' => w'.cell? ⟨w.heap.size, 1, none⟩ = some (.int .i64 n) ∧ w'.cell? ⟨w.heap.size, 2, none⟩ = some (.string line))
          (first | exact ⟨y1, y2⟩ | exact ⟨x1, x2⟩ | exact ⟨z1, z2⟩)
          (first
            | (go_at_call 43
               ((with_reducible refine (dwrite_any X d pg D n line _ (HD.out.keep (Below.refl _ _).drew)).mono ?_); rintro e w1 ⟨rfl, hd1, ho1⟩)
               have ho1' : Oth [d, pg] W w1 := (Oth.of (Below.refl _ W).drew _).trans ho1
               have x1 := (ho1'.cell ⟨w.heap.size, 1, none⟩ hwl (by simp; omega)).trans z1
               have x2 := (ho1'.cell ⟨w.heap.size, 2, none⟩ hwl (by simp; omega)).trans z2)
            | (go_at_call 55
               ((with_reducible refine (rwrite_any X r p q D n line w1 (rdsk_go HC.out HR.out ho1')).mono ?_); rintro e w2 ⟨rfl, hr2, ho2⟩)
               have y1 := (ho2.cell ⟨w.heap.size, 1, none⟩ (Nat.lt_of_lt_of_le hwl ho1'.size) (by simp; omega)).trans x1
               have y2 := (ho2.cell ⟨w.heap.size, 2, none⟩ (Nat.lt_of_lt_of_le hwl ho1'.size) (by simp; omega)).trans x2))
        have HT2 := Lib.hid (two_mk HC.out hd1 (rnew_same (w := w1) hr2) ho2)
        have HO2 := Lib.hid (oth4 HBX.out.1 ho1' ho2)
        clear hd1 ho1 ho1' hr2 ho2 x1 x2 y1 y2
        go_wp2_with fail
        go_ret
        exact ⟨by simp, HT2.out, HO2.out⟩
      · have hq6 : (ki == 6) = false := by simp [h6]
        by_cases h7 : ki = 7
        · have ha : AcT.on ⟨ki, n, line, keep⟩ D = D.sync.1 := by unfold AcT.on; rw [if_neg h3, if_neg h4, if_neg h6, if_pos h7]
          rw [ha]
          have hq : (ki == 7) = true := by simp [h7]
          clear h hk hbx ha h4 h3 h6 h7 hd hr hc
          go_enter Tryz.func23, Tryz.ntmps23
          go_wp2_with (first
            | (go_at_call 44
               refine (dsync_any X d pg D _ HD.out).mono ?_
               rintro e w1 ⟨rfl, hd1, ho1⟩
               have HD1 := Lib.hid hd1
               have HO1 := Lib.hid ho1
               clear hd1 ho1)
            | (go_at_call 56
               refine (rsync_any X r p q D _ (rdsk_go HC.out HR.out HO1.out)).mono ?_
               rintro e w2 ⟨rfl, hr2, ho2⟩
               have HO2 := Lib.hid (ho2.more (T := [r, p]) (by simp))
               have HT2 := Lib.hid (two_mk HC.out HD1.out hr2 HO2.out)
               clear hr2 ho2))
          go_ret
          exact ⟨by simp, HT2.out, oth4 HBX.out.1 HO1.out HO2.out⟩
        · have hq7 : (ki == 7) = false := by simp [h7]
          have ha : AcT.on ⟨ki, n, line, keep⟩ D = D := by unfold AcT.on; rw [if_neg h3, if_neg h4, if_neg h6, if_neg h7]
          rw [ha]
          have HT := Lib.hid (h.keep hbx.1)
          clear h hk hbx ha h4 h3 h6 h7 hd hr hc
          go_enter Tryz.func23, Tryz.ntmps23
          go_wp2_with fail
          go_ret
          exact ⟨rfl, HT.out, Oth.of HBX.out.1 _⟩
end Go.Proofs.YtklnnpacfjnnlaaGreatDoor
