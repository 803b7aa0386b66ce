/- Walks: the law's own; Slopes and Pure of the reference; Pure of lift; less. -/
import Derived.Test.YtdkobkghhnccgaaNg
namespace Go.Proofs.Ytdkobkghhnccgaa
open Go.RowKit
open Np (frc Red ord Prm fle flt cf nz od Sides Sd Pg slopes)
set_option maxRecDepth 100000 in
set_option maxHeartbeats 8000000 in
theorem own_any (base : Nat) (v : Value) (L : List Sd) (hl : L.length ≤ 1000) (w : World) (hv : Rw ES 71 w base v L) :
    Calls Try.prog 41 #[v] w fun e w' => ∃ v', e = .returned v' ∧ Rw ES 66 w' w.heap.size v' L ∧ Below w.heap.size w w' := by
  have HR := Lib.hid hv
  obtain ⟨A2, c2, rfl⟩ := hv.form
  clear hv
  go_enter Try.func41, Try.ntmps41
  go_wp2_with fail
  go_loopw [3, 8] (fun o i wr => ∃ m : Nat, m ≤ L.length ∧ i = .int .i64 m ∧ Rw ES 66 wr w.heap.size o (L.take m) ∧ Below w.heap.size w wr) (fun _ i _ => L.length - (intOf i).toNat)
  case atStart => exact ⟨0, by omega, rfl, Rw.nil _ _, Below.refl _ _⟩
  case round =>
    obtain ⟨m, hm, rfl, ho, hb⟩ := hrel
    have HO := Lib.hid ho
    obtain ⟨Ao, co, rfl⟩ := ho.form
    have hlen : (L.take m).length ≤ 1000 := by rw [List.length_take]; omega
    clear ho
    by_cases hlt : m < L.length
    · obtain ⟨g2, c3, hfm, hg1, hg2⟩ := HR.out.seen (by omega)
      simp only [Value.slice.injEq] at hfm
      obtain ⟨rfl, _, rfl⟩ := hfm
      obtain ⟨q1, q2, q3, q4⟩ := (HR.out.keep hb).side hlt
      have HST := Lib.hid (List.take_succ_eq_append_getElem hlt)
      generalize L[m] = s at *
      obtain ⟨x1, x2, x3, x4⟩ := s
      simp only at q1 q2 q3 q4
      have hmX : (m : Int) < (L.length : Int) := by omega
      have hbx := hb.size
      generalize L.take m = T at *
      have hbr2 := ((Below.refl wr.heap.size wr).alloc (Nat.le_refl _) (.cells #[.int .i64 x1, .int .i64 x2, .int .i64 x3, .int .i64 x4] 71))
      have HO2 := Lib.hid (HO.out.keep hbr2)
      have HBR := Lib.hid hbr2
      clear hbr2
      go_wp2_with (at_builtin; refine wpList_rw elt66 _ rfl _ _ rfl w.heap.size _ _ rfl HO2.out ((x1, x2, x3, x4) : Sd) _ rfl (by simp; rfl) (by omega) (by simp; omega) ?_; intro ga ca wa ha hba)
      have HA := Lib.hid ha
      have HBB := Lib.hid (Below.trans hb ((HBR.out.mono hbx).trans hba))
      clear ha hba
      go_roundw
      case rel => exact ⟨m + 1, by omega, by go_num, by rw [HST.out]; exact HA.out, HBB.out⟩
      case measure => simp [intOf]; omega
    · obtain rfl : m = L.length := by omega
      rw [List.take_length] at HO ⊢
      go_wp2_with fail
      go_ret
      exact ⟨_, rfl, HO.out, hb⟩
set_option maxRecDepth 100000 in
set_option maxHeartbeats 8000000 in
theorem rSlopes_any (v : Value) (f : List Int) (hf : Poly f) (P : Nat) (hP : isP P) (w : World) (hv : Ints w v f) :
    Calls Try.prog 44 #[v, .int .i64 P] w fun e w' => ∃ v' L, e = .returned v' ∧ Rw EQ 64 w' w.heap.size v' (slopes L) ∧ Pg P f L ∧ Below w.heap.size w w' := by
  have HPY := Lib.hid (rPolygon_any v f hf P hP w hv)
  have hl7 := hf.2.2.1
  have HF := Lib.hid hf
  obtain ⟨_, A, c, rfl, _, _⟩ := hv
  go_enter Try.func44, Try.ntmps44
  go_wp2_with fail
  with_reducible refine (HPY.out).mono ?_
  rintro e w1 ⟨v', L, rfl, hr, hpg, hb⟩
  have HR := Lib.hid hr
  have HPG := Lib.hid hpg
  have HBD := Lib.hid (pg_bd hP HF.out hpg)
  have hll := pg_len hpg
  have HB := Lib.hid hb
  obtain ⟨A2, c2, rfl⟩ := hr.form
  clear hr hpg hb
  go_wp2_with fail
  go_loopw [5, 12] (fun o i wr => ∃ m : Nat, m ≤ L.length ∧ i = .int .i64 m ∧ Rw EQ 64 wr w1.heap.size o (slopes (L.take m)) ∧ Below w1.heap.size w1 wr) (fun _ i _ => L.length - (intOf i).toNat)
  case atStart => exact ⟨0, by omega, rfl, Rw.nil _ _, Below.refl _ _⟩
  case round =>
    obtain ⟨m, hm, rfl, ho, hb⟩ := hrel
    have HO := Lib.hid ho
    have hsl := slopes_le (fun s hs => (HBD.out s hs).2.1) m hm
    obtain ⟨Ao, co, rfl⟩ := ho.form
    clear ho
    by_cases hlt : m < L.length
    · have hsd := HBD.out L[m] (List.getElem_mem hlt)
      have HST := Lib.hid (slopes_take L m hlt)
      obtain ⟨g2, c3, hfm, hg1, hg2⟩ := HR.out.seen (by omega)
      simp only [Value.slice.injEq] at hfm
      obtain ⟨rfl, _, rfl⟩ := hfm
      obtain ⟨q1, q2, q3, q4⟩ := (HR.out.keep hb).side hlt
      generalize L[m] = s at *
      obtain ⟨x1, x2, x3, x4⟩ := s
      simp only at q1 q2 q3 q4 hsd HST
      have hmX : (m : Int) < (L.length : Int) := by omega
      have hbx := hb.size
      obtain ⟨n, hn⟩ : ∃ n, n = x2 - x1 := ⟨_, rfl⟩
      rw [← hn] at HST
      have hn1 : 1 ≤ n := by omega
      have hn6 : n ≤ 6 := by omega
      have hnx : (n : Int) = (x2 : Int) - x1 := by omega
      have HNX := Lib.hid hnx
      clear hn hnx
      go_wp2_with fail
      rw [← HNX.out]
      generalize slopes (L.take m) = T at *
      have hbn := ((Below.refl wr.heap.size wr).alloc (Nat.le_refl _) (.cells #[.int .i64 x1, .int .i64 x2, .int .i64 x3, .int .i64 x4] 66))
      have hB4 := Box4.new wr 66 x1 x2 x3 x4
      have HO2 := Lib.hid (HO.out.keep hbn)
      have HNB := Lib.hid (show (Value.slice Ao T.length co).ownBlock ≠ some wr.heap.size from fun e => by have := (World.ownsRow.lt HO.out _ e).2; omega)
      have hbm := Below.trans hb (hbn.mono hbx)
      generalize hgs : wr.heap.size = gs at *
      generalize wr.alloc (Obj.cells #[Value.int IntKind.i64 x1, Value.int IntKind.i64 x2, Value.int IntKind.i64 x3, Value.int IntKind.i64 x4] 66) = W2 at *
      have HW2 := Lib.hid hbm
      have HGS := Lib.hid (show w1.heap.size ≤ gs from hbx)
      have HB4 := Lib.hid hB4
      clear hbn hB4 hbm hgs q1 q2 q3 q4
      go_loopw [5, 21] (fun o i wq => ∃ k : Nat, k ≤ n ∧ i = .int .i64 k ∧ Rw EQ 64 wq w1.heap.size o (T ++ List.replicate k (x3, x4)) ∧ Below w1.heap.size w1 wq ∧ Box4 wq gs 66 x1 x2 x3 x4 ∧ o.ownBlock ≠ some gs) (fun _ i _ => n - (intOf i).toNat)
      case atStart => exact ⟨0, by omega, rfl, by simpa using HO2.out, HW2.out, HB4.out, HNB.out⟩
      case round =>
        obtain ⟨k, hk, rfl, ho, hbk, hbx4, hnb⟩ := hrel
        have HO3 := Lib.hid ho
        obtain ⟨Ak, ck, rfl⟩ := ho.form
        have hlk : (T ++ List.replicate k (x3, x4)).length ≤ 1000 := by rw [List.length_append, List.length_replicate]; omega
        have HSK := Lib.hid (show T ++ List.replicate (k + 1) (x3, x4) = (T ++ List.replicate k (x3, x4)) ++ [(x3, x4)] by rw [List.replicate_succ', List.append_assoc])
        clear ho
        by_cases hkn : k < n
        · obtain ⟨r1, r2, r3, r4⟩ := hbx4.cc
          have hlgs := hbx4.lt
          have hbks := hbk.size
          generalize T ++ List.replicate k (x3, x4) = T2 at *
          go_wp2_with (at_builtin; refine wpList_rw2 elt64 _ rfl _ _ rfl w1.heap.size _ _ rfl HO3.out (x3, x4) _ rfl rfl (by omega) (by omega) ?_; intro ga ca wa ha hba hbo hga hsz)
          have HA := Lib.hid ha
          have HBB := Lib.hid (Below.trans hbk hba)
          have HX4 := Lib.hid (show Box4 wa gs 66 x1 x2 x3 x4 from (hbo gs hlgs hnb).trans hbx4)
          have HNB2 := Lib.hid (show (Value.slice (some ⟨ga, 0, none⟩) (T2.length + 1) ca).ownBlock ≠ some gs from fun e => by
            simp [Value.ownBlock] at e
            rcases hga with h | h
            · rw [e] at h; exact hnb h
            · omega)
          clear ha hba hbo hga
          go_roundw
          case rel => exact ⟨k + 1, by omega, by go_num, by rw [HSK.out]; exact HA.out, HBB.out, HX4.out, HNB2.out⟩
          case measure => simp [intOf]; omega
        · obtain rfl : k = n := by omega
          go_wp2_with fail
          go_roundw
          case rel => exact ⟨m + 1, by omega, by go_num, by rw [HST.out]; exact HO3.out, hbk⟩
          case measure => simp [intOf]; omega
    · obtain rfl : m = L.length := by omega
      rw [List.take_length] at HO ⊢
      go_wp2_with fail
      go_ret
      exact ⟨_, L, rfl, HO.out.base HB.out.size, HPG.out, HB.out.trans (hb.mono HB.out.size)⟩
/-- one side of the whole degree in lowest terms -/
def pureB (f : List Int) (L : List Sd) : Bool := match L with | [s] => decide (f.getD 0 0 ≠ 0) && decide (s.2.2.2 = (f.length : Int) - 1) | _ => false
theorem pureB_zero {f : List Int} {L : List Sd} (h : f.getD 0 0 = 0) : pureB f L = false := by
  unfold pureB; split
  · rw [decide_eq_false (fun e => e h), Bool.false_and]
  · rfl
theorem pureB_len {f : List Int} {L : List Sd} (h : L.length ≠ 1) : pureB f L = false := by
  unfold pureB; split
  · simp at h
  · rfl
theorem pureB_one {f : List Int} {L : List Sd} (h : f.getD 0 0 ≠ 0) (hl : L.length = 1) (h0 : 0 < L.length) : pureB f L = (L[0].2.2.2 == (f.length : Int) - 1) := by
  match L, hl with
  | [s], _ =>
    show (decide (f.getD 0 0 ≠ 0) && decide (s.2.2.2 = (f.length : Int) - 1)) = _
    rw [decide_eq_true h, Bool.true_and]
    rfl
set_option maxHeartbeats 8000000 in
theorem rPure_any (v : Value) (f : List Int) (hf : Poly f) (P : Nat) (hP : isP P) (w : World) (hv : Ints w v f) :
    Calls Try.prog 45 #[v, .int .i64 P] w fun e w' => (∃ L, e = .returned (.bool (pureB f L)) ∧ Pg P f L) ∧ Below w.heap.size w w' := by
  have HPY := Lib.hid (rPolygon_any v f hf P hP w hv)
  have hl7 := hf.2.2.1
  have hl2 := hf.2.1
  have HF := Lib.hid hf
  obtain ⟨_, A, c, rfl, hcap, hr⟩ := hv
  obtain ⟨ad, rfl, hbl, hcl⟩ := hr (by omega)
  have HCF := Lib.hid (fun W (hb : Below w.heap.size w W) => show W.cell? ad = some (.int .i64 (f.getD 0 0)) by
    have := (hb.cell (p := ad.add 0) (by rw [addr_block]; exact hbl)).trans (hcl 0 (f.getD 0 0) (by rw [List.getD_eq_getElem?_getD, List.getElem?_eq_getElem (show 0 < f.length by omega)]; rfl))
    simpa [Addr.add] using this)
  clear hr hcl
  go_enter Try.func45, Try.ntmps45
  go_wp2_with fail
  with_reducible refine (HPY.out).mono ?_
  rintro e w1 ⟨v', L, rfl, hr, hpg, hb⟩
  have HR := Lib.hid hr
  have HPG := Lib.hid hpg
  have HBD := Lib.hid (pg_bd hP HF.out hpg)
  have hll := pg_len hpg
  have HBW := Lib.hid hb
  obtain ⟨A2, c2, rfl⟩ := hr.form
  clear hr hpg hb
  have hcF := HCF.out _ HBW.out
  by_cases hz : f.getD 0 0 = 0
  · have e1 : (f.getD 0 0 != 0) = false := by rw [bne_eq_false_iff_eq]; exact hz
    have HPB := Lib.hid (pureB_zero (L := L) hz)
    obtain ⟨c0, hc0⟩ : ∃ c0, c0 = f.getD 0 0 := ⟨_, rfl⟩
    rw [← hc0] at hcF e1
    clear hz hc0
    go_wp2_with fail
    go_ret
    exact ⟨⟨L, by rw [HPB.out]; rfl, HPG.out⟩, HBW.out⟩
  · have e1 : (f.getD 0 0 != 0) = true := by rw [bne_iff_ne]; exact hz
    by_cases hl1 : L.length = 1
    · have HPB := Lib.hid (pureB_one hz hl1 (by omega))
      obtain ⟨g2, c3, hfm, hg1, hg2⟩ := HR.out.seen (by omega)
      simp only [Value.slice.injEq] at hfm
      obtain ⟨rfl, _, rfl⟩ := hfm
      obtain ⟨q1, q2, q3, q4⟩ := HR.out.side (j := 0) (by omega)
      have hq := (HBD.out L[0] (List.getElem_mem _))
      rw [hl1]
      have e2 : ((1 : Int) == 1) = true := rfl
      obtain ⟨c0, hc0⟩ : ∃ c0, c0 = f.getD 0 0 := ⟨_, rfl⟩
      rw [← hc0] at hcF e1
      obtain ⟨d, hd⟩ : ∃ d, d = L[0].2.2.2 := ⟨_, rfl⟩
      rw [← hd] at q4 HPB
      rw [Nat.zero_mul, Nat.zero_add] at q4
      clear hz hc0 hl1 q1 q2 q3 hq hd
      by_cases hdd : d = (f.length : Int) - 1
      · have e3 : (d == (f.length : Int) - 1) = true := by rw [beq_iff_eq]; exact hdd
        have HPB := Lib.hid (HPB.out.trans e3)
        clear hdd
        go_wp2_with fail
        go_ret
        exact ⟨⟨L, by rw [HPB.out]; rfl, HPG.out⟩, HBW.out⟩
      · have e3 : (d == (f.length : Int) - 1) = false := by rw [beq_eq_false_iff_ne]; exact hdd
        have HPB := Lib.hid (HPB.out.trans e3)
        clear hdd
        go_wp2_with fail
        go_ret
        exact ⟨⟨L, by rw [HPB.out]; rfl, HPG.out⟩, HBW.out⟩
    · have HPB := Lib.hid (pureB_len (f := f) hl1)
      have e2 : ((L.length : Int) == 1) = false := by rw [beq_eq_false_iff_ne]; omega
      obtain ⟨c0, hc0⟩ : ∃ c0, c0 = f.getD 0 0 := ⟨_, rfl⟩
      rw [← hc0] at hcF e1
      clear hz hc0 hl1
      go_wp2_with fail
      go_ret
      exact ⟨⟨L, by rw [HPB.out]; rfl, HPG.out⟩, HBW.out⟩
set_option maxHeartbeats 8000000 in
theorem Pure_yes (base : Nat) (v : Value) (f : List Int) (hf : Poly f) (P : Nat) (hP : isP P) (w : World) (hv : Own w base v f) :
    Calls Try.prog 36 #[v, .int .i64 P] w fun e w' => (∃ L, e = .returned (.tuple #[.bool (pureB f L), .int .i64 0]) ∧ Pg P f L) ∧ Below w.heap.size w w' := by
  have HPY := Lib.hid (Polygon_yes base v f hf P hP w hv)
  have hl7 := hf.2.2.1
  have hl2 := hf.2.1
  have HF := Lib.hid hf
  obtain ⟨ga, ca, rfl, hcap, hga1, hga2, hcl⟩ := hv.seen (by omega)
  have HCF := Lib.hid (fun W (hb : Below w.heap.size w W) => show W.cell? ⟨ga, 0, none⟩ = some (.int .i64 (f.getD 0 0)) from
    (hb.cell (p := ⟨ga, 0, none⟩) hga2).trans (hcl 0 (f.getD 0 0) (by rw [List.getD_eq_getElem?_getD, List.getElem?_eq_getElem (show 0 < f.length by omega)]; rfl)))
  clear hcl
  go_enter Try.func36, Try.ntmps36
  go_wp2_with fail
  with_reducible refine (HPY.out).mono ?_
  rintro e w1 ⟨v', L, rfl, hr, hpg, hb⟩
  have HR := Lib.hid hr
  have HPG := Lib.hid hpg
  have HBD := Lib.hid (pg_bd hP HF.out hpg)
  have hll := pg_len hpg
  have HBW := Lib.hid hb
  obtain ⟨A2, c2, rfl⟩ := hr.form
  clear hr hpg hb
  have hcF := HCF.out _ HBW.out
  by_cases hz : f.getD 0 0 = 0
  · have e1 : (f.getD 0 0 != 0) = false := by rw [bne_eq_false_iff_eq]; exact hz
    have HPB := Lib.hid (pureB_zero (L := L) hz)
    obtain ⟨c0, hc0⟩ : ∃ c0, c0 = f.getD 0 0 := ⟨_, rfl⟩
    rw [← hc0] at hcF e1
    clear hz hc0
    go_wp2_with fail
    go_ret2
    exact ⟨⟨L, by rw [HPB.out]; rfl, HPG.out⟩, HBW.out⟩
  · have e1 : (f.getD 0 0 != 0) = true := by rw [bne_iff_ne]; exact hz
    by_cases hl1 : L.length = 1
    · have HPB := Lib.hid (pureB_one hz hl1 (by omega))
      obtain ⟨g2, c3, hfm, hg1, hg2⟩ := HR.out.seen (by omega)
      simp only [Value.slice.injEq] at hfm
      obtain ⟨rfl, _, rfl⟩ := hfm
      obtain ⟨q1, q2, q3, q4⟩ := HR.out.side (j := 0) (by omega)
      have hq := (HBD.out L[0] (List.getElem_mem _))
      rw [hl1]
      have e2 : ((1 : Int) == 1) = true := rfl
      obtain ⟨c0, hc0⟩ : ∃ c0, c0 = f.getD 0 0 := ⟨_, rfl⟩
      rw [← hc0] at hcF e1
      obtain ⟨d, hd⟩ : ∃ d, d = L[0].2.2.2 := ⟨_, rfl⟩
      rw [← hd] at q4 HPB
      rw [Nat.zero_mul, Nat.zero_add] at q4
      clear hz hc0 hl1 q1 q2 q3 hq hd
      by_cases hdd : d = (f.length : Int) - 1
      · have e3 : (d == (f.length : Int) - 1) = true := by rw [beq_iff_eq]; exact hdd
        have HPB := Lib.hid (HPB.out.trans e3)
        clear hdd
        go_wp2_with fail
        go_ret2
        exact ⟨⟨L, by rw [HPB.out]; rfl, HPG.out⟩, HBW.out⟩
      · have e3 : (d == (f.length : Int) - 1) = false := by rw [beq_eq_false_iff_ne]; exact hdd
        have HPB := Lib.hid (HPB.out.trans e3)
        clear hdd
        go_wp2_with fail
        go_ret2
        exact ⟨⟨L, by rw [HPB.out]; rfl, HPG.out⟩, HBW.out⟩
    · have HPB := Lib.hid (pureB_len (f := f) hl1)
      have e2 : ((L.length : Int) == 1) = false := by rw [beq_eq_false_iff_ne]; omega
      obtain ⟨c0, hc0⟩ : ∃ c0, c0 = f.getD 0 0 := ⟨_, rfl⟩
      rw [← hc0] at hcF e1
      clear hz hc0 hl1
      go_wp2_with fail
      go_ret2
      exact ⟨⟨L, by rw [HPB.out]; rfl, HPG.out⟩, HBW.out⟩
set_option maxHeartbeats 4000000 in
theorem Pure_no (base : Nat) (v : Value) (f : List Int) (p : Int) (h : ¬ (Poly f ∧ PrimeI p)) (w : World) (hv : Own w base v f) :
    Calls Try.prog 36 #[v, .int .i64 p] w fun e w' => e = .returned (.tuple #[.bool false, .int .i64 2]) ∧ Below w.heap.size w w' := by
  have HPN := Lib.hid (Polygon_no base v f p h w hv)
  clear h
  go_enter Try.func36, Try.ntmps36
  go_wp2_with fail
  with_reducible refine (HPN.out).mono ?_
  rintro e w1 ⟨rfl, hb⟩
  have HB := Lib.hid hb
  clear hb
  go_wp2_with fail
  go_ret2
  exact ⟨rfl, HB.out⟩
set_option maxHeartbeats 4000000 in
theorem less_any (q r : Int × Int) (h1 : q.1.natAbs ≤ 1000000) (h2 : q.2.natAbs ≤ 1000000) (h3 : r.1.natAbs ≤ 1000000) (h4 : r.2.natAbs ≤ 1000000) (w : World) :
    Calls Try.prog 46 #[.agg #[.int .i64 q.1, .int .i64 q.2], .agg #[.int .i64 r.1, .int .i64 r.2]] w fun e w' => e = .returned (.bool (decide (q.1 * r.2 < r.1 * q.2))) ∧ Below w.heap.size w w' := by
  have p1 := natAbs_mul_le h1 h4
  have p2 := natAbs_mul_le h3 h2
  go_enter Try.func46, Try.ntmps46
  go_wp2_with fail
  go_ret
  exact ⟨rfl, (((Below.refl _ _).alloc (Nat.le_refl _) _).alloc (by simp) _)⟩
end Go.Proofs.Ytdkobkghhnccgaa
