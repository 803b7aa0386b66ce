/- WorksDisks: the walk. -/
import Derived.Test.YtklnnpacfjnnlaaGreatDoorTu
import Derived.Test.YtklnnpacfjnnlaaGreatDoorWa
namespace Go.Proofs.YtklnnpacfjnnlaaGreatDoor
open Go.RowKit
/-- v reads as the acts L -/
def Acts (w : World) (v : Value) (L : List AcT) : Prop :=
  L.length ≤ 17592186043904 ∧ ∃ (A : Option Addr) (c : Nat), v = .slice A L.length c ∧ L.length ≤ c ∧
    ∀ (j : Nat) (a : AcT), L[j]? = some a → -9223372036854775808 ≤ a.n ∧ a.n ≤ 9223372036854775807 ∧ ∃ ad kv, A = some ad ∧ ad.block < w.heap.size ∧
      w.cell? (ad.add (j * 4)) = some (.int .i64 a.kind) ∧ w.cell? (ad.add (j * 4 + 1)) = some (.int .i64 a.n) ∧ w.cell? (ad.add (j * 4 + 2)) = some (.string a.line) ∧ w.cell? (ad.add (j * 4 + 3)) = some kv ∧
      IntsX w kv a.keep
theorem addr_off (a : Addr) (i j : Nat) (h : 0 < j) : a.add (i + j) = ⟨(a.add i).block, (a.add i).off + j, none⟩ := by
  rw [← addr_add]
  generalize a.add i = b
  unfold Addr.add
  rw [if_neg (by omega)]
set_option maxHeartbeats 4000000 in
set_option maxRecDepth 100000 in
theorem disks_yes (n : Nat) (h1 : 1 ≤ n) (h2 : n ≤ 200) (v : Value) (L : List AcT) (w : World) (hg : Glob w) (hv : Acts w v L) :
    Calls Tryz.prog 4 #[.int .i64 n, v] w fun e w' => e = .returned (.bool true) ∧ Below w.heap.size w w' := by
  have HD := Lib.hid (disks_any n h1 h2 w)
  have HG := Lib.hid hg
  have HV := Lib.hid hv
  obtain ⟨hlen, A, c, rfl, hc, hr⟩ := hv
  obtain ⟨K, hK⟩ : ∃ K : Nat, K = min L.length 50 := ⟨_, rfl⟩
  have hm : (min (L.length : Int) 50).toNat = K := by omega
  have hm2 : K ≤ c := by omega
  have hm3 : K ≤ 50 := by omega
  have hm4 : K ≤ L.length := by omega
  clear hK
  have HR := Lib.hid hr
  clear hr hg
  go_enter Tryz.func4, Tryz.ntmps4
  go_wp2_with fail
  refine HD.out.mono ?_
  rintro e w1 ⟨d, pg, r, p, q, rfl, hd, hr, s1, s2, s3, s4, s5, s6, hb1⟩
  have hx1 := hd.low
  have hx2 := hd.lowp
  have hx3 := hr.low
  have hx4 := hr.lowp
  have hT : Two w1 w.heap.size d pg r p (newDk n) := ⟨q, hd, by rw [rk_new]; exact hr, s1, s6, s4, s2, s5, s3⟩
  have HT := Lib.hid hT
  have HB1 := Lib.hid hb1
  clear hd hr hT hb1
  go_wp2_with fail
  go_loopw [9, 10, 11, 34] (fun _ _ _ i wr => ∃ (m : Nat) (D : Dk), m ≤ K ∧ i = .int .i64 m ∧ Two wr w.heap.size d pg r p D ∧ Below w.heap.size w wr) (fun _ _ _ i _ => K - (intOf i).toNat)
  case atStart => exact ⟨0, _, by omega, rfl, HT.out, HB1.out⟩
  case round =>
    obtain ⟨m, D, hmk, rfl, hT, hB⟩ := hrel
    by_cases hlt : m < K
    · obtain ⟨a, ha⟩ : ∃ a, L[m]? = some a := ⟨_, List.getElem?_eq_getElem (by omega)⟩
      obtain ⟨n0, n1, ad, kv, rfl, hbl, k0, k1, k2, k3, hk⟩ := HR.out m a ha
      have hkb := hk.lt
      obtain ⟨A0, kn, kc, e0⟩ : ∃ A n c, kv = Value.slice A n c := by obtain ⟨A, c, e, _⟩ := hk; exact ⟨_, _, _, e⟩
      subst e0
      rw [addr_off _ _ 1 (by omega)] at k1
      rw [addr_off _ _ 2 (by omega)] at k2
      rw [addr_off _ _ 3 (by omega)] at k3
      have q0 := (hB.cell (p := ad.add (m * 4)) (by rw [addr_block]; exact hbl)).trans k0
      have q1 := (hB.cell (p := ⟨(ad.add (m * 4)).block, (ad.add (m * 4)).off + 1, none⟩) (by show (ad.add (m * 4)).block < _; rw [addr_block]; exact hbl)).trans k1
      have q2 := (hB.cell (p := ⟨(ad.add (m * 4)).block, (ad.add (m * 4)).off + 2, none⟩) (by show (ad.add (m * 4)).block < _; rw [addr_block]; exact hbl)).trans k2
      have q3 := (hB.cell (p := ⟨(ad.add (m * 4)).block, (ad.add (m * 4)).off + 3, none⟩) (by show (ad.add (m * 4)).block < _; rw [addr_block]; exact hbl)).trans k3
      have HT1 := Lib.hid hT
      have hB3 := Lib.hid (show Below w.heap.size w wr from hB)
      have HB2 := Lib.hid hB
      have HK := Lib.hid hk
      have HKB := Lib.hid hkb
      clear k0 k1 k2 k3 hT hB hk hkb ha
      obtain ⟨W, hW⟩ : ∃ W, W = wr.alloc (.cells #[.int .i64 a.kind, .int .i64 a.n, .string a.line, .slice A0 kn kc] 43) := ⟨_, rfl⟩
      have hbW : Below wr.heap.size wr W := by rw [hW]; exact (Below.refl _ wr).alloc (Nat.le_refl _) _
      have hzW : W.heap.size = wr.heap.size + 1 := by rw [hW]; simp
      have hcW : W.cell? ⟨wr.heap.size, 1, none⟩ = some (.int .i64 a.n) := by rw [hW]; simp
      obtain ⟨l1, l2, l3, l4⟩ := HT1.out.lt
      have hto := touched_any w.heap.size d pg r p D a (.slice A0 kn kc) n0 n1 W (HT1.out.keep hbW) (HK.out.keep (hB3.out.trans (hbW.mono hB3.out.size))) (fun h0 b hb => by have := HKB.out h0 b hb; omega)
      rw [hW] at hto
      have HTO := Lib.hid hto
      clear hto
      go_wp2_with (first
        | (go_at_call 23
           refine HTO.out.mono ?_
           rintro e w2 ⟨rfl, hT2, hO2⟩
           rw [← hW] at hO2
           have hc2 := (hO2.cell ⟨wr.heap.size, 1, none⟩ (by show wr.heap.size < _; omega) (by simp; omega)).trans hcW
           have HT2 := Lib.hid hT2
           have HO2 := Lib.hid hO2
           have HB3 := Lib.hid (HB2.out.trans ((hbW.mono HB2.out.size).trans (hO2.below (by have := HB2.out.size; omega) (by simp; omega))))
           clear hT2 hO2)
        | (go_at_call 24
           refine (same_any _ _ _ _ _ _ _ HT2.out).mono ?_
           rintro e w3 ⟨rfl, hw⟩
           rw [hw]
           clear hw w3
           obtain ⟨q2, hd2, hr2, -⟩ := HT2.out
           obtain ⟨kk, c02, -⟩ := hr2.row
           rw [show (rk (a.on D)).pages.length = (a.on D).pages.length from by simp [rk]] at c02
           have HD2 := Lib.hid hd2
           clear hd2 hr2)
        | (go_at_call 25
           refine (dread_any _ _ _ _ a.n _ HD2.out).mono ?_
           rintro e w3 ⟨rfl, hw⟩
           rw [hw]
           clear hw w3))
      by_cases hh : (a.on D).has a.n
      · have g1 : decide (a.n < 0) = false := decide_eq_false (by have := hh.1; omega)
        have g2 : decide (((a.on D).pages.length : Int) ≤ a.n) = false := decide_eq_false (by have := hh.2; omega)
        clear hh
        go_region
        go_wp2_with fail
        go_roundw
        case rel => exact ⟨m + 1, a.on D, by omega, by go_num, HT2.out.keep (Below.refl _ _).drew, HB3.out.drew⟩
        case measure => simp [intOf]; omega
      · have hrd : (a.on D).read a.n = (⟨#[]⟩, 2) := by unfold Dk.read; rw [if_pos hh]
        rw [hrd]
        by_cases hn : a.n < 0
        · have g1 : decide (a.n < 0) = true := decide_eq_true hn
          clear hh hrd
          go_region
          go_wp2_with fail
          go_roundw
          case rel => exact ⟨m + 1, a.on D, by omega, by go_num, HT2.out.keep (Below.refl _ _).drew, HB3.out.drew⟩
          case measure => simp [intOf]; omega
        · have g1 : decide (a.n < 0) = false := decide_eq_false hn
          have g2 : decide (((a.on D).pages.length : Int) ≤ a.n) = true := decide_eq_true (by unfold Dk.has at hh; omega)
          clear hh hrd
          go_region
          go_wp2_with fail
          go_roundw
          case rel => exact ⟨m + 1, a.on D, by omega, by go_num, HT2.out.keep (Below.refl _ _).drew, HB3.out.drew⟩
          case measure => simp [intOf]; omega
    · obtain rfl : m = K := by omega
      have HBB := Lib.hid hB
      clear hT hB
      go_wp2_with (go_at_call 21; refine (awake_any _ (HG.out.next HBB.out)).mono ?_; rintro e w2 ⟨rfl, hb2⟩)
      go_ret
      exact ⟨rfl, HBB.out.trans (hb2.mono HBB.out.size)⟩
set_option maxHeartbeats 4000000 in
set_option maxRecDepth 100000 in
theorem disks_no (n : Int) (h : n < 1 ∨ 200 < n) (v : Value) (L : List AcT) (w : World) (hg : Glob w) (hv : Acts w v L) :
    Calls Tryz.prog 4 #[.int .i64 n, v] w fun e w' => e = .returned (.bool true) ∧ Below w.heap.size w w' := by
  have HD := Lib.hid (disks_bad n h w)
  have HG := Lib.hid hg
  obtain ⟨hlen, A, c, rfl, hc, hr⟩ := hv
  clear hr hg h
  go_enter Tryz.func4, Tryz.ntmps4
  go_wp2_with (first
    | (go_at_call 22
       refine HD.out.mono ?_
       rintro e w1 ⟨rfl, hw⟩
       rw [hw]
       clear hw w1)
    | (go_at_call 21; refine (awake_any _ HG.out).mono ?_; rintro e w2 ⟨rfl, hb2⟩))
  go_ret
  exact ⟨rfl, hb2⟩
theorem worksDisks_walk (w : World) (n : Int) (v : Value) (L : List AcT) (hg : Glob w) (hv : Acts w v L) :
    Calls Tryz.prog 4 #[.int .i64 n, v] w fun e w' => e = .returned (.bool true) ∧ Below w.heap.size w w' := by
  by_cases h : n < 1 ∨ 200 < n
  · exact disks_no n h v L w hg hv
  · obtain ⟨m, rfl⟩ := Int.eq_ofNat_of_zero_le (show 0 ≤ n by omega)
    exact disks_yes m (by omega) (by omega) v L w hg hv
end Go.Proofs.YtklnnpacfjnnlaaGreatDoor
