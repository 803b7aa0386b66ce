/- Days: covers.read, covers.Share. -/
import Derived.Test.YtklnnpacfjnnlaaGreatDoorCv
namespace Go.Proofs.YtklnnpacfjnnlaaGreatDoor
open Go.RowKit
theorem prElt : Elt prEnc 246 309 (.agg #[.int .i64 0, .int .i64 0]) 16 := ⟨by kernel_rfl, rfl, by omega, Tryz.underlying246, by omega⟩
/-- a pair may be one of a system -/
def okp (p : Int × Int) : Bool := decide (1 ≤ p.2) && decide (p.2 ≤ 60) && decide (0 ≤ p.1) && decide (p.1 < p.2)
theorem okp_iff (p : Int × Int) : okp p = true ↔ 1 ≤ p.2 ∧ p.2 ≤ 60 ∧ 0 ≤ p.1 ∧ p.1 < p.2 := by
  unfold okp; simp only [Bool.and_eq_true, decide_eq_true_eq]; omega
/-- the shape of a system -/
def shp (L : List (Int × Int)) : Bool := decide (1 ≤ L.length) && decide (L.length ≤ 10) && L.all okp
theorem shp_sys (L : List (Int × Int)) (h : shp L = true) : Sys L := by
  unfold shp at h
  simp only [Bool.and_eq_true, decide_eq_true_eq] at h
  refine ⟨h.1.2, fun p hp => ?_⟩
  have := (okp_iff p).1 (List.all_eq_true.1 h.2 p hp)
  omega
def ReadPost (w : World) (L : List (Int × Int)) (e : Ending) (w' : World) : Prop :=
  Below w.heap.size w w' ∧ if shp L then ∃ v, e = .returned (.tuple #[v, .bool (decide (whole L ≤ 10080))]) ∧ Rw prEnc 309 w' w.heap.size v L
    else e = .returned (.tuple #[.slice none 0 0, .bool false])
set_option maxHeartbeats 4000000 in
set_option maxRecDepth 100000 in
theorem read_any (X : Nat) (v : Value) (L : List (Int × Int)) (hbig : L.length ≤ 1000000) (w : World) (hv : Rw prEnc 119 w X v L) :
    Calls Tryz.prog 212 #[v] w (ReadPost w L) := by
  obtain ⟨A, c, hf⟩ := hv.form
  subst hf
  by_cases hlen : 1 ≤ L.length ∧ L.length ≤ 10
  · obtain ⟨l1, l2⟩ := hlen
    obtain ⟨g, c', he, -, hg⟩ := hv.seen (by omega)
    simp only [Value.slice.injEq] at he
    obtain ⟨rfl, -, rfl⟩ := he
    have HV := Lib.hid hv
    clear hv
    go_enter Tryz.func212, Tryz.ntmps212
    go_wp2_with fail
    go_loopw [4, 6, 17] (fun out _ i wr => ∃ k : Nat, k ≤ L.length ∧ i = .int .i64 k ∧ Lib.Kept ((L.take k).all okp = true) ∧ Rw prEnc 309 wr w.heap.size out (L.take k) ∧ Below w.heap.size w wr) (fun _ _ i _ => L.length - (intOf i).toNat)
    case atStart => exact ⟨0, Nat.zero_le _, rfl, rfl, Rw.nil _ _, Below.refl _ _⟩
    case round =>
      obtain ⟨k, hk, rfl, hall, hR, hb⟩ := hrel
      by_cases hlt : k < L.length
      · obtain ⟨p, hp⟩ : ∃ p, L[k]? = some p := ⟨_, List.getElem?_eq_getElem hlt⟩
        have hc0 := (hb.cell (p := ⟨g, k * 2 + 0, none⟩) hg).trans (HV.out.cell hp (i := 0) rfl)
        have hc1 := (hb.cell (p := ⟨g, k * 2 + 1, none⟩) hg).trans (HV.out.cell hp (i := 1) rfl)
        have htk : L.take (k + 1) = L.take k ++ [p] := by rw [List.take_add_one, hp]; rfl
        have hbad : okp p = false → shp L = false := fun h => by
          unfold shp
          have : L.all okp = false := List.all_eq_false.2 ⟨p, List.mem_of_getElem? hp, by rw [h]; simp⟩
          rw [this]; simp
        obtain ⟨a, m⟩ := p
        dsimp only at hc0 hc1
        rw [Nat.add_zero] at hc0
        have HTK := Lib.hid htk
        have HBAD := Lib.hid hbad
        clear hp htk hbad
        by_cases hok : 1 ≤ m ∧ m ≤ 60 ∧ 0 ≤ a ∧ a < m
        · have hokp := (okp_iff (a, m)).2 hok
          obtain ⟨o1, o2, o3, o4⟩ := hok
          have hall2 : Lib.Kept ((L.take (k + 1)).all okp = true) := by
            show (L.take (k + 1)).all okp = true
            rw [HTK.out, List.all_append, show (L.take k).all okp = true from hall]
            simpa using hokp
          have hRa := hR.alloc (.cells #[.int .i64 a, .int .i64 m] 119)
          have hlk : (L.take k).length = k := by rw [List.length_take]; omega
          clear hall hokp
          go_wp2_with (at_builtin; refine wpList_rw prElt (wr.alloc (.cells #[.int .i64 a, .int .i64 m] 119)) rfl _ _ rfl w.heap.size u4 _ rfl hRa (a, m) _ rfl (by rw [show (wr.alloc (.cells #[.int .i64 a, .int .i64 m] 119)).heap.size = wr.heap.size + 1 from by simp]; rfl) (by omega) (by have := hb.size; simp; omega) ?_; intro g2 cap2 w3 r2 bel2)
          go_roundw
          case rel => exact ⟨k + 1, by omega, by go_num, hall2, by rw [HTK.out]; rw [hlk] at r2; exact r2, (hb.alloc hb.size _).trans bel2⟩
          case measure => simp [intOf]; omega
        · have hokp : okp (a, m) = false := by
            rw [Bool.eq_false_iff]; intro h; exact hok ((okp_iff (a, m)).1 h)
          have hno := HBAD.out hokp
          have HN := Lib.hid hno
          clear hall hokp hno
          have hpost : ∀ w', Below w.heap.size w w' → ReadPost w L (.returned (.tuple #[.slice none 0 0, .bool false])) w' := fun w' hb' => ⟨hb', by rw [HN.out]; rfl⟩
          have HP := Lib.hid hpost
          clear hpost
          by_cases c1 : m < 1
          · go_wp2_with fail
            go_ret2
            exact HP.out _ (hb.alloc hb.size _)
          · by_cases c2 : 60 < m
            · go_wp2_with fail
              go_ret2
              exact HP.out _ (hb.alloc hb.size _)
            · by_cases c3 : a < 0
              · go_wp2_with fail
                go_ret2
                exact HP.out _ (hb.alloc hb.size _)
              · have c4 : m ≤ a := by omega
                go_wp2_with fail
                go_ret2
                exact HP.out _ (hb.alloc hb.size _)
      · obtain rfl : k = L.length := by omega
        have hs : shp L = true := by
          have h : (L.take L.length).all okp = true := hall
          rw [List.take_length] at h
          unfold shp
          rw [h]; simp [l1, l2]
        have hR2 : Rw prEnc 309 wr w.heap.size u4 L := by have h := hR; rw [List.take_length] at h; exact h
        have HS := Lib.hid hs
        have hsy := shp_sys L hs
        have hwc := whole_any _ _ L hsy wr hR2
        have HWC := Lib.hid hwc
        have HR2 := Lib.hid hR2
        clear hs hall hR hsy hwc hR2
        go_wp2_with (go_at_call 267; refine HWC.out.mono ?_; rintro e w3 ⟨rfl, hb3⟩)
        go_ret2
        refine ⟨hb.trans (hb3.mono hb.size), ?_⟩
        rw [HS.out]
        exact ⟨_, rfl, HR2.out.keep hb3⟩
  · have hs : shp L = false := by unfold shp; rw [Bool.eq_false_iff]; intro h; simp only [Bool.and_eq_true, decide_eq_true_eq] at h; exact hlen h.1
    have hpost : ∀ w', Below w.heap.size w w' → ReadPost w L (.returned (.tuple #[.slice none 0 0, .bool false])) w' := fun w' hb' => ⟨hb', by rw [hs]; rfl⟩
    have HP := Lib.hid hpost
    clear hpost hs hv
    by_cases c1 : L.length < 1
    · have hd : decide ((L.length : Int) < 1) = true := decide_eq_true (by omega)
      go_enter Tryz.func212, Tryz.ntmps212
      go_wp2_with fail
      go_ret2
      exact HP.out _ (Below.refl _ _)
    · have hd : decide ((L.length : Int) < 1) = false := decide_eq_false (by omega)
      have hd2 : decide ((10 : Int) < (L.length : Int)) = true := decide_eq_true (by omega)
      go_enter Tryz.func212, Tryz.ntmps212
      go_wp2_with fail
      go_ret2
      exact HP.out _ (Below.refl _ _)
theorem whF_pos : ∀ (L : List (Int × Int)) (o : Int), 1 ≤ o → (∀ p ∈ L, 1 ≤ p.2) → 1 ≤ whF L o
  | [], o, h, _ => h
  | p :: l, o, h, hp => by
    have h1 := next_pos o p.2 h (hp p (List.mem_cons_self ..))
    have h2 := hp p (List.mem_cons_self ..)
    have h3 : 1 ≤ o / (Int.gcd o p.2 : Nat) * p.2 := by
      have : 1 * 1 ≤ o / (Int.gcd o p.2 : Nat) * p.2 := Int.mul_le_mul h1.1 h2 (by omega) (by omega)
      omega
    rw [whF]
    split
    · exact h3
    · exact whF_pos l _ h3 fun q hq => hp q (List.mem_cons_of_mem _ hq)
theorem whole_pos (L : List (Int × Int)) (h : Sys L) : 1 ≤ whole L := whF_pos L 1 (by omega) fun p hp => (h.2 p hp).2.2.1
/-- a system of days -/
def sysOk (L : List (Int × Int)) : Bool := shp L && decide (whole L ≤ 10080)
/-- Share: which error -/
def SharePost (w : World) (L : List (Int × Int)) (e : Ending) (w' : World) : Prop :=
  Below w.heap.size w w' ∧ ∃ a b : Int, e = .returned (.tuple #[.agg #[.int .i64 a, .int .i64 b], .int .i64 (if sysOk L then 0 else 2)])
set_option maxHeartbeats 4000000 in
set_option maxRecDepth 100000 in
theorem Share_any (X : Nat) (v : Value) (L : List (Int × Int)) (hbig : L.length ≤ 1000000) (w : World) (hv : Rw prEnc 119 w X v L) :
    Calls Tryz.prog 204 #[v] w (SharePost w L) := by
  have hv0 := hv.alloc (.cells #[.int .i64 0, .int .i64 0] 237)
  have hrd := read_any X v L hbig _ hv0
  have HRD := Lib.hid hrd
  have z0 : (w.alloc (.cells #[.int .i64 0, .int .i64 0] 237)).cell? ⟨w.heap.size, 0, none⟩ = some (.int .i64 0) := by simp
  have z1 : (w.alloc (.cells #[.int .i64 0, .int .i64 0] 237)).cell? ⟨w.heap.size, 1, none⟩ = some (.int .i64 0) := by simp
  have g0 : (w.alloc (.cells #[.int .i64 0, .int .i64 0] 237)).frozen? ⟨w.heap.size, 0, none⟩ = false := by simp
  have g1 : (w.alloc (.cells #[.int .i64 0, .int .i64 0] 237)).frozen? ⟨w.heap.size, 1, none⟩ = false := by simp
  clear hrd hv0 hv
  cases hs : shp L with
  | false =>
    have hsy : sysOk L = false := by unfold sysOk; rw [hs]; rfl
    have HS := Lib.hid hs
    have HSY := Lib.hid hsy
    clear hs hsy
    go_enter Tryz.func204, Tryz.ntmps204
    go_wp2_with (go_at_call 212; refine HRD.out.mono ?_; rintro e w3 ⟨hb3, he⟩; rw [HS.out] at he; simp only [Bool.false_eq_true, if_false] at he; subst he; have q0 := (hb3.cell (p := ⟨w.heap.size, 0, none⟩) (by simp)).trans z0; have q1 := (hb3.cell (p := ⟨w.heap.size, 1, none⟩) (by simp)).trans z1; have f0 := (hb3.frozen (p := ⟨w.heap.size, 0, none⟩) (by simp)).trans g0; have f1 := (hb3.frozen (p := ⟨w.heap.size, 1, none⟩) (by simp)).trans g1; have bel := ((Below.refl _ w).alloc (Nat.le_refl _) (.cells #[.int .i64 0, .int .i64 0] 237)).trans (hb3.mono (by simp)); have big3 := hb3.size; simp only [World.size_alloc] at big3)
    refine bodyPost_ret (v := .tuple #[.agg #[.int .i64 0, .int .i64 0], .int .i64 2]) (by simp [results, Tryz.results204, go_sem, q0, q1]) rfl ⟨?_, 0, 0, ?_⟩
    · exact (bel.setCell (p := ⟨w.heap.size, 0, none⟩) (Nat.le_refl _) _).setCell (p := ⟨w.heap.size, 1, none⟩) (Nat.le_refl _) _
    · rw [HSY.out]; rfl
  | true =>
    have hsy := shp_sys L hs
    have hwp := whole_pos L hsy
    have HSYS := Lib.hid hsy
    have HS := Lib.hid hs
    by_cases hw : whole L ≤ 10080
    · have hsk : sysOk L = true := by unfold sysOk; rw [hs]; simp [hw]
      have HSY := Lib.hid hsk
      clear hsk hsy hs
      obtain ⟨W, hWe⟩ : ∃ W, W = whole L := ⟨_, rfl⟩
      rw [← hWe] at hw hwp
      have hdw : decide (W ≤ 10080) = true := decide_eq_true hw
      obtain ⟨Wn, rfl⟩ := Int.eq_ofNat_of_zero_le (show 0 ≤ W by omega)
      have HW := Lib.hid hWe
      clear hWe
      go_enter Tryz.func204, Tryz.ntmps204
      go_wp2_with (first
        | (go_at_call 212; refine HRD.out.mono ?_; rintro e w3 ⟨hb3, he⟩; rw [HS.out] at he; simp only [if_true] at he; obtain ⟨v3, he2, hR3⟩ := he; subst he2; rw [← HW.out, hdw]; have q0 := (hb3.cell (p := ⟨w.heap.size, 0, none⟩) (by simp)).trans z0; have q1 := (hb3.cell (p := ⟨w.heap.size, 1, none⟩) (by simp)).trans z1; have f0 := (hb3.frozen (p := ⟨w.heap.size, 0, none⟩) (by simp)).trans g0; have f1 := (hb3.frozen (p := ⟨w.heap.size, 1, none⟩) (by simp)).trans g1; have bel := ((Below.refl _ w).alloc (Nat.le_refl _) (.cells #[.int .i64 0, .int .i64 0] 237)).trans (hb3.mono (by simp)); have big3 := hb3.size; simp only [World.size_alloc] at big3; have HR3 := Lib.hid hR3; clear hR3)
        | (go_at_call 267; refine (whole_any _ _ L HSYS.out _ HR3.out).mono ?_; rintro e w4 ⟨rfl, hb4⟩; rw [← HW.out]))
      have sz3 : w.heap.size < w3.heap.size := by have := hb3.size; simp at this; omega
      have sz4 := hb4.size
      have s0 := (hb4.cell (p := ⟨w.heap.size, 0, none⟩) sz3).trans q0
      have s1 := (hb4.cell (p := ⟨w.heap.size, 1, none⟩) sz3).trans q1
      have t0 := (hb4.frozen (p := ⟨w.heap.size, 0, none⟩) sz3).trans f0
      have t1 := (hb4.frozen (p := ⟨w.heap.size, 1, none⟩) sz3).trans f1
      have HR4 := Lib.hid (HR3.out.keep hb4)
      have BEL := Lib.hid (bel.trans (hb4.mono (Nat.le_of_lt sz3)))
      have HPRS := Lib.hid HSYS.out.prs
      clear q0 q1 f0 f1 bel
      go_loopw [6, 8, 21] (fun n _ i wr => ∃ (j : Nat) (x : Int), j ≤ Wn ∧ i = .int .i64 j ∧ n = .int .i64 x ∧ 0 ≤ x ∧ x ≤ j ∧ Below w4.heap.size w4 wr) (fun _ _ i _ => Wn - (intOf i).toNat)
      case atStart => exact ⟨0, 0, Nat.zero_le _, rfl, rfl, by omega, by omega, Below.refl _ _⟩
      case round =>
        obtain ⟨j, x, hj, rfl, rfl, hx0, hx1, hb5⟩ := hrel
        have szr := hb5.size
        by_cases hlt : j < Wn
        · obtain ⟨C, hC⟩ : ∃ C, C = cnt L j := ⟨_, rfl⟩
          have hcc := count_any _ _ L (j : Int) HPRS.out ⟨by omega, by omega⟩ wr (HR4.out.keep hb5)
          rw [← hC] at hcc
          have HCC := Lib.hid hcc
          clear hcc hC
          go_wp2_with (go_at_call 268; refine HCC.out.mono ?_; rintro e w6 ⟨rfl, hb6⟩)
          go_roundw
          case rel => exact ⟨j + 1, x + min (C : Int) 1, by omega, by go_num, by first | rfl | (go_num), by omega, by omega, hb5.trans (hb6.mono szr)⟩
          case measure => simp [intOf]; omega
        · obtain rfl : j = Wn := by omega
          have r0 := (hb5.cell (p := ⟨w.heap.size, 0, none⟩) (by show w.heap.size < _; omega)).trans s0
          have r1 := (hb5.cell (p := ⟨w.heap.size, 1, none⟩) (by show w.heap.size < _; omega)).trans s1
          have u0 := (hb5.frozen (p := ⟨w.heap.size, 0, none⟩) (by show w.heap.size < _; omega)).trans t0
          have u1 := (hb5.frozen (p := ⟨w.heap.size, 1, none⟩) (by show w.heap.size < _; omega)).trans t1
          have hgp : 0 < Int.gcd x (j : Int) := Int.gcd_pos_of_ne_zero_right _ (by omega)
          obtain ⟨G, hG⟩ : ∃ G, G = Int.gcd x (j : Int) := ⟨_, rfl⟩
          have hgc := gcd_any x j hx0 (by omega) (by omega) (by omega) wr
          rw [← hG] at hgc hgp
          have HGC := Lib.hid hgc
          have hG0 : ((G : Int) == 0) = false := by rw [beq_eq_false_iff_ne]; omega
          clear hgc hG
          go_wp2_with (go_at_call 269; refine HGC.out.mono ?_; rintro e w6 ⟨rfl, q6, rfl⟩)
          go_region
          go_wp2_with fail
          refine bodyPost_ret (v := .tuple #[.agg #[.int .i64 (x / G), .int .i64 (wrap64 (j / G))], .int .i64 0]) (by simp [results, Tryz.results204, go_sem, r0, r1]) rfl ⟨?_, x / (G : Int), wrap64 ((j : Int) / (G : Int)), ?_⟩
          · exact ((below_drewN (BEL.out.trans (hb5.mono (by omega))) _).setCell (p := ⟨w.heap.size, 0, none⟩) (Nat.le_refl _) _).setCell (p := ⟨w.heap.size, 1, none⟩) (Nat.le_refl _) _
          · rw [HSY.out]; rfl
    · have hsk : sysOk L = false := by unfold sysOk; simp [hw]
      have hdw : decide (whole L ≤ 10080) = false := decide_eq_false hw
      have HSY := Lib.hid hsk
      clear hsk hsy hs
      go_enter Tryz.func204, Tryz.ntmps204
      go_wp2_with (go_at_call 212; refine HRD.out.mono ?_; rintro e w3 ⟨hb3, he⟩; rw [HS.out] at he; simp only [if_true] at he; obtain ⟨v3, he2, hR3⟩ := he; subst he2; rw [hdw]; have q0 := (hb3.cell (p := ⟨w.heap.size, 0, none⟩) (by simp)).trans z0; have q1 := (hb3.cell (p := ⟨w.heap.size, 1, none⟩) (by simp)).trans z1; have f0 := (hb3.frozen (p := ⟨w.heap.size, 0, none⟩) (by simp)).trans g0; have f1 := (hb3.frozen (p := ⟨w.heap.size, 1, none⟩) (by simp)).trans g1; have bel := ((Below.refl _ w).alloc (Nat.le_refl _) (.cells #[.int .i64 0, .int .i64 0] 237)).trans (hb3.mono (by simp)); have big3 := hb3.size; simp only [World.size_alloc] at big3)
      refine bodyPost_ret (v := .tuple #[.agg #[.int .i64 0, .int .i64 0], .int .i64 2]) (by simp [results, Tryz.results204, go_sem, q0, q1]) rfl ⟨?_, 0, 0, ?_⟩
      · exact (bel.setCell (p := ⟨w.heap.size, 0, none⟩) (Nat.le_refl _) _).setCell (p := ⟨w.heap.size, 1, none⟩) (Nat.le_refl _) _
      · rw [HSY.out]; rfl
end Go.Proofs.YtklnnpacfjnnlaaGreatDoor
