/- Walk of LiftFactors, where the product is not valid. -/
import Derived.Test.YtdkobkghhnccgaaNm
namespace Go.Proofs.Ytdkobkghhnccgaa
open Go.RowKit
open Np (frc Red ord Prm fle flt cf nz od Sides Sd Pg slopes)
set_option maxRecDepth 100000 in
set_option maxHeartbeats 32000000 in
theorem factors_not (v1 v2 : Value) (f g : List Int) (P : Nat) (by' : Int) (w : World) (hvf : Ints w v1 f) (hvg : Ints w v2 g) (hf : Poly f) (hP : isP P) (hg : Poly g) (ht : ¬ Poly (times f g)) :
    Calls Try.prog 13 #[v1, v2, .int .i64 P, .int .i64 by'] w fun e w' => e = .returned (.bool true) ∧ Below w.heap.size w w' := by
  have HVf := Lib.hid hvf
  have HVg := Lib.hid hvg
  obtain ⟨Af, cf', hvv⟩ : ∃ A c, v1 = .slice A f.length c := by obtain ⟨_, A, c, h, _⟩ := hvf; exact ⟨A, c, h⟩
  obtain ⟨Ag, cg', hvv2⟩ : ∃ A c, v2 = .slice A g.length c := by obtain ⟨_, A, c, h, _⟩ := hvg; exact ⟨A, c, h⟩
  subst hvv hvv2
  clear hvf hvg
  have HB := Lib.hid (Below.refl w.heap.size w)
  have HTf := Lib.hid (show f.take 9 = f from List.take_of_length_le (by have := hf.2.2.1; omega))
  have HTg := Lib.hid (show g.take 9 = g from List.take_of_length_le (by have := hg.2.2.1; omega))
  have HF := Lib.hid hf
  have HG := Lib.hid hg
  have HT := Lib.hid ht
  have hf7 := hf.2.2.1
  have hg7 := hg.2.2.1
  have HPR := Lib.hid (fun W => rPrime_any (P : Int) true (by simp [isP_int, hP]) W)
  have h2P := hP.pos
  have h13 := leP hP
  clear hf hg ht
  go_enter Try.func13, Try.ntmps13
  go_wp2_with fail
  with_reducible refine (list_any _ f _ HVf.out).mono ?_
  rintro e w1 ⟨va, rfl, ho, hb⟩
  have HS := Lib.hid hb
  have HB := Lib.hid (HB.out.trans (hb.mono HB.out.size))
  have HVf := Lib.hid (HVf.out.keep HS.out)
  have HVg := Lib.hid (HVg.out.keep HS.out)
  have HO := Lib.hid (show Own w1 _ _ f by have := ho; rwa [HTf.out] at this)
  obtain ⟨A1, n1, c1, rfl⟩ := ho.isSlice
  clear hb ho
  go_wp2_with fail
  with_reducible refine (Polygon_yes _ _ f HF.out P hP _ HO.out).mono ?_
  rintro e w2 ⟨v2, L, rfl, hr, hpg, hb⟩
  have HS := Lib.hid hb
  have HB := Lib.hid (HB.out.trans (hb.mono HB.out.size))
  have HVf := Lib.hid (HVf.out.keep HS.out)
  have HVg := Lib.hid (HVg.out.keep HS.out)
  have HPG := Lib.hid hpg
  have hll := pg_len hpg
  have HR := Lib.hid hr
  obtain ⟨A2, c2, rfl⟩ := hr.form
  clear hb hr hpg
  go_wp2_with fail
  with_reducible refine (list_any _ f _ HVf.out).mono ?_
  rintro e w3 ⟨va, rfl, ho, hb⟩
  have HS := Lib.hid hb
  have HB := Lib.hid (HB.out.trans (hb.mono HB.out.size))
  have HVf := Lib.hid (HVf.out.keep HS.out)
  have HVg := Lib.hid (HVg.out.keep HS.out)
  have HR := Lib.hid (HR.out.keep HS.out)
  have HO := Lib.hid (show Own w3 _ _ f by have := ho; rwa [HTf.out] at this)
  obtain ⟨A3, n3, c3, rfl⟩ := ho.isSlice
  clear hb ho
  go_wp2_with fail
  with_reducible refine (Slopes_yes _ _ f HF.out P hP _ HO.out).mono ?_
  rintro e w4 ⟨v4, L', rfl, hr, hpg, hb⟩
  have HS := Lib.hid hb
  have HB := Lib.hid (HB.out.trans (hb.mono HB.out.size))
  have HVf := Lib.hid (HVf.out.keep HS.out)
  have HVg := Lib.hid (HVg.out.keep HS.out)
  have HR := Lib.hid (HR.out.keep HS.out)
  obtain rfl : L' = L := hpg.eq HPG.out
  have HSA := Lib.hid hr
  obtain ⟨A4, c4, rfl⟩ := hr.form
  clear hb hr hpg
  go_wp2_with fail
  with_reducible refine (list_any _ g _ HVg.out).mono ?_
  rintro e w5 ⟨va, rfl, ho, hb⟩
  have HS := Lib.hid hb
  have HB := Lib.hid (HB.out.trans (hb.mono HB.out.size))
  have HVf := Lib.hid (HVf.out.keep HS.out)
  have HVg := Lib.hid (HVg.out.keep HS.out)
  have HR := Lib.hid (HR.out.keep HS.out)
  have HSA := Lib.hid (HSA.out.keep HS.out)
  have HO := Lib.hid (show Own w5 _ _ g by have := ho; rwa [HTg.out] at this)
  obtain ⟨A5, n5, c5, rfl⟩ := ho.isSlice
  clear hb ho
  go_wp2_with fail
  with_reducible refine (Slopes_yes _ _ g HG.out P hP _ HO.out).mono ?_
  rintro e w6 ⟨v6, M, rfl, hr, hpg, hb⟩
  have HS := Lib.hid hb
  have HB := Lib.hid (HB.out.trans (hb.mono HB.out.size))
  have HVf := Lib.hid (HVf.out.keep HS.out)
  have HVg := Lib.hid (HVg.out.keep HS.out)
  have HR := Lib.hid (HR.out.keep HS.out)
  have HSA := Lib.hid (HSA.out.keep HS.out)
  have HPM := Lib.hid hpg
  have hlm := pg_len hpg
  have HSB := Lib.hid hr
  obtain ⟨A6, c6, rfl⟩ := hr.form
  clear hb hr hpg
  go_wp2_with fail
  with_reducible refine (HPR.out _).mono ?_
  rintro e _ ⟨rfl, rfl⟩
  have HBD := Lib.hid (pg_bd hP HF.out HPG.out)
  have HCH := Lib.hid (pg_chain HPG.out)
  go_wp2_with fail
  go_loopw [79] (fun i wr => ∃ m : Nat, m ≤ L'.length ∧ i = .int .i64 m ∧ Below w6.heap.size w6 wr) (fun i _ => L'.length - (intOf i).toNat)
  case atStart => exact ⟨0, by omega, rfl, Below.refl _ _⟩
  case round =>
    obtain ⟨m, hm, rfl, hb⟩ := hrel
    by_cases hlt : m < L'.length
    · have hsd := HBD.out L'[m] (List.getElem_mem hlt)
      obtain ⟨g2, c3, hfm, hg1, hg2⟩ := HR.out.seen (by omega)
      simp only [Value.slice.injEq] at hfm
      obtain ⟨rfl, _, rfl⟩ := hfm
      obtain ⟨q1, q2, q3, q4⟩ := (HR.out.keep hb).side hlt
      have hmX : (m : Int) < (L'.length : Int) := by omega
      have hbx := hb.size
      match m, hlt with
      | 0, hlt =>
        generalize L'[0] = s at *
        obtain ⟨x1, x2, x3, x4⟩ := s
        simp only at q1 q2 q3 q4 hsd
        rw [Nat.zero_mul, Nat.zero_add] at *
        have d1 : decide (x4 < 1) = false := decide_eq_false (by omega)
        have d2 : decide (6 < x4) = false := decide_eq_false (by omega)
        have d3 : decide (x3 < -60) = false := decide_eq_false (by omega)
        have d4 : decide (60 < x3) = false := decide_eq_false (by omega)
        have d5 : decide (x2 ≤ x1) = false := decide_eq_false (by omega)
        go_wp2_with fail
        go_quiet (fail)
        go_wp2_with fail
        go_roundw
        case rel => exact ⟨1, by omega, rfl, below_drewN (hb.alloc hbx _) _⟩
        case measure => simp [intOf]; omega
      | k + 1, hlt =>
        have hlk : k < L'.length := by omega
        have hsk := HBD.out L'[k] (List.getElem_mem hlk)
        obtain ⟨p1, p2, p3, p4⟩ := (HR.out.keep hb).side hlk
        have hch := HCH.out k hlt
        have HLS := Lib.hid (fun W => less_any L'[k].2.2 L'[k + 1].2.2 (by omega) (by omega) (by omega) (by omega) W)
        rw [show decide (L'[k].2.2.1 * L'[k + 1].2.2.2 < L'[k + 1].2.2.1 * L'[k].2.2.2) = true from decide_eq_true hch.2] at HLS
        have hc1 := hch.1
        clear hch p1
        generalize L'[k] = s' at *
        generalize L'[k + 1] = s at *
        obtain ⟨x1, x2, x3, x4⟩ := s
        obtain ⟨y1, y2, y3, y4⟩ := s'
        simp only at q1 q2 q3 q4 hsd p2 p3 p4 hsk hc1 HLS
        subst hc1
        have d1 : decide (x4 < 1) = false := decide_eq_false (by omega)
        have d2 : decide (6 < x4) = false := decide_eq_false (by omega)
        have d3 : decide (x3 < -60) = false := decide_eq_false (by omega)
        have d4 : decide (60 < x3) = false := decide_eq_false (by omega)
        have d5 : decide (x2 ≤ y2) = false := decide_eq_false (by omega)
        have hkX : (k : Int) < (L'.length : Int) := by omega
        have wk : IntKind.i64.wrap ((k : Int) + 1 - 1) = k := by rw [show (k : Int) + 1 - 1 = k by omega]; exact IntWalk.i64_in _ (by omega)
        have wk2 : IntKind.i64.wrap (k : Int) = k := IntWalk.i64_in _ (by omega)
        have k0 : (0 : Int) ≤ (k : Int) := by omega
        have d6 : decide ((0 : Int) < (k : Int) + 1) = true := decide_eq_true (by omega)
        go_wp2_with fail
        have hbn := (hb.alloc hbx (.cells #[.int .i64 y2, .int .i64 x2, .int .i64 x3, .int .i64 x4] 71))
        have hal := ((Below.refl wr.heap.size wr).alloc (Nat.le_refl _) (.cells #[.int .i64 y2, .int .i64 x2, .int .i64 x3, .int .i64 x4] 71))
        have hB4 := Box4.new wr 71 y2 x2 x3 x4
        have r2 := (hal.cell (p := ⟨g2, k * 4 + 1, none⟩) (by show g2 < wr.heap.size; omega)).trans p2
        have r3 := (hal.cell (p := ⟨g2, k * 4 + 2, none⟩) (by show g2 < wr.heap.size; omega)).trans p3
        have r4 := (hal.cell (p := ⟨g2, k * 4 + 3, none⟩) (by show g2 < wr.heap.size; omega)).trans p4
        have hgW : g2 < (wr.alloc (.cells #[.int .i64 y2, .int .i64 x2, .int .i64 x3, .int .i64 x4] 71)).heap.size := by simp; omega
        clear q1 q2 q3 q4 p2 p3 p4 hal
        generalize hgs : wr.heap.size = gs at *
        generalize wr.alloc (Obj.cells #[Value.int IntKind.i64 y2, Value.int IntKind.i64 x2, Value.int IntKind.i64 x3, Value.int IntKind.i64 x4] 71) = WW at *
        clear hgs
        have hgb := hB4.lt
        obtain ⟨c0, c1, c2', c3'⟩ := hB4.cc
        go_region_held3 (fun w' => (w'.cell? ⟨gs, 0, none⟩ = some (.int .i64 y2) ∧ w'.cell? ⟨gs, 1, none⟩ = some (.int .i64 x2) ∧ w'.cell? ⟨gs, 2, none⟩ = some (.int .i64 x3) ∧ w'.cell? ⟨gs, 3, none⟩ = some (.int .i64 x4)) ∧ (w'.cell? ⟨g2, k * 4 + 1, none⟩ = some (.int .i64 y2) ∧ w'.cell? ⟨g2, k * 4 + 2, none⟩ = some (.int .i64 y3) ∧ w'.cell? ⟨g2, k * 4 + 3, none⟩ = some (.int .i64 y4)) ∧ Below WW.heap.size WW w')
          (first
            | exact ⟨⟨c0, c1, c2', c3'⟩, ⟨r2, r3, r4⟩, (Below.refl _ _).drew⟩
            | exact (fun HZ : Below WW.heap.size WW _ => ⟨⟨(HZ.cell (p := ⟨gs, 0, none⟩) hgb).trans c0, (HZ.cell (p := ⟨gs, 1, none⟩) hgb).trans c1, (HZ.cell (p := ⟨gs, 2, none⟩) hgb).trans c2', (HZ.cell (p := ⟨gs, 3, none⟩) hgb).trans c3'⟩, ⟨(HZ.cell (p := ⟨g2, k * 4 + 1, none⟩) hgW).trans r2, (HZ.cell (p := ⟨g2, k * 4 + 2, none⟩) hgW).trans r3, (HZ.cell (p := ⟨g2, k * 4 + 3, none⟩) hgW).trans r4⟩, HZ⟩) (((Below.refl _ _).drew).trans hb1))
          (first
            | (go_at_call 46; ((with_reducible refine (HLS.out _).mono ?_); rintro e w1 ⟨rfl, hb1⟩)))
        have hheld : (w1.cell? ⟨gs, 0, none⟩ = some (.int .i64 y2) ∧ w1.cell? ⟨gs, 1, none⟩ = some (.int .i64 x2) ∧ w1.cell? ⟨gs, 2, none⟩ = some (.int .i64 x3) ∧ w1.cell? ⟨gs, 3, none⟩ = some (.int .i64 x4)) ∧ (w1.cell? ⟨g2, k * 4 + 1, none⟩ = some (.int .i64 y2) ∧ w1.cell? ⟨g2, k * 4 + 2, none⟩ = some (.int .i64 y3) ∧ w1.cell? ⟨g2, k * 4 + 3, none⟩ = some (.int .i64 y4)) ∧ Below WW.heap.size WW w1 := by assumption
        have hfin := hbn.trans (hheld.2.2.mono hbn.size)
        clear hheld
        go_wp2_with fail
        go_roundw
        case rel => exact ⟨k + 2, by omega, by go_num, hfin⟩
        case measure => simp [intOf]; omega
    · obtain rfl : m = L'.length := by omega
      have HVf := Lib.hid (HVf.out.keep hb)
      have HVg := Lib.hid (HVg.out.keep hb)
      have HR := Lib.hid (HR.out.keep hb)
      have HSA := Lib.hid (HSA.out.keep hb)
      have HSB := Lib.hid (HSB.out.keep hb)
      have HB := Lib.hid (HB.out.trans (hb.mono HB.out.size))
      clear hb
      go_wp2_with fail
      with_reducible refine (list_any _ f _ HVf.out).mono ?_
      rintro e w21 ⟨va, rfl, ho, hb⟩
      have HS := Lib.hid hb
      have HB := Lib.hid (HB.out.trans (hb.mono HB.out.size))
      have HVf := Lib.hid (HVf.out.keep HS.out)
      have HVg := Lib.hid (HVg.out.keep HS.out)
      have HR := Lib.hid (HR.out.keep HS.out)
      have HSA := Lib.hid (HSA.out.keep HS.out)
      have HSB := Lib.hid (HSB.out.keep HS.out)
      have HO := Lib.hid (show Own w21 _ _ f by have := ho; rwa [HTf.out] at this)
      obtain ⟨A21, n21, c21, rfl⟩ := ho.isSlice
      clear hb ho
      have HOf := HO
      go_wp2_with fail
      with_reducible refine (list_any _ g _ HVg.out).mono ?_
      rintro e w22 ⟨va, rfl, ho, hb⟩
      have HS := Lib.hid hb
      have HB := Lib.hid (HB.out.trans (hb.mono HB.out.size))
      have HVf := Lib.hid (HVf.out.keep HS.out)
      have HVg := Lib.hid (HVg.out.keep HS.out)
      have HR := Lib.hid (HR.out.keep HS.out)
      have HSA := Lib.hid (HSA.out.keep HS.out)
      have HSB := Lib.hid (HSB.out.keep HS.out)
      have HOf := Lib.hid (HOf.out.keep HS.out)
      have HO := Lib.hid (show Own w22 _ _ g by have := ho; rwa [HTg.out] at this)
      obtain ⟨A22, n22, c22, rfl⟩ := ho.isSlice
      clear hb ho
      have HOg := HO
      go_wp2_with fail
      with_reducible refine (Times_no _ _ _ _ f g HF.out HG.out HT.out _ HOf.out HOg.out).mono ?_
      rintro e w23 ⟨rfl, hb⟩
      have HS := Lib.hid hb
      have HB := Lib.hid (HB.out.trans (hb.mono HB.out.size))
      have HVf := Lib.hid (HVf.out.keep HS.out)
      have HR := Lib.hid (HR.out.keep HS.out)
      clear hb
      obtain ⟨B, hB1, hB9, hBy⟩ : ∃ B : Nat, 1 ≤ B ∧ B ≤ 9 ∧ wrap64 (1 + wrap64 ((IntKind.u64.wrap by').tmod 9)) = B := ⟨byB by', by_any by'⟩
      have HBF := HB
      go_wp2_with fail
      with_reducible refine (list_any _ f _ HVf.out).mono ?_
      rintro e wl ⟨va, rfl, ho, hb⟩
      have HO := Lib.hid (show Own wl _ _ f by have := ho; rwa [HTf.out] at this)
      have HSL := Lib.hid hb
      have HB := Lib.hid (HB.out.trans (hb.mono HB.out.size))
      obtain ⟨gm, cm, rfl, _, _, _, _⟩ := HO.out.seen (by have := HF.out.2.1; omega)
      have hbls := hb.size
      clear hb ho
      go_wp2_with fail
      clear hBy
      obtain ⟨XM, hXM⟩ : ∃ x, x = w23.heap.size := ⟨_, rfl⟩
      have HXM := Lib.hid hXM
      rw [← hXM] at HO hbls
      have HWL := Lib.hid (show XM ≤ wl.heap.size from hbls)
      clear hXM hbls
      go_loopw [231] (fun i wr => ∃ m : Nat, m ≤ f.length ∧ i = .int .i64 m ∧ Own wr XM (.slice (some ⟨gm, 0, none⟩) f.length cm) (mulk f B m) ∧ Below XM wl wr) (fun i _ => f.length - (intOf i).toNat)
      case atStart => exact ⟨0, by omega, rfl, by rw [mulk_zero]; exact HO.out, Below.refl _ _⟩
      case round =>
        obtain ⟨m, hm, rfl, ho, hbm⟩ := hrel
        have HOM := Lib.hid ho
        by_cases hmf : m < f.length
        · have hml := mulk_length f B m
          have hc := Own.cells ho m (by rw [hml]; exact hmf)
          rw [mulk_get f B m hmf] at hc
          have hfr := ho.free m
          have hcb := HF.out.1 m hmf
          have HPUT := Lib.hid (show Own (wr.setCell ⟨gm, m, none⟩ (.int .i64 (f.getD m 0 * B))) XM _ (mulk f B (m + 1)) by
            have := ho.put (by rw [hml]) m (f.getD m 0 * B)
            rwa [mulk_step f B m hmf] at this)
          have hbase : XM ≤ gm := (World.ownsRow.lt ho gm rfl).1
          have HBM := Lib.hid (show Below XM wl (wr.setCell ⟨gm, m, none⟩ (.int .i64 (f.getD m 0 * B))) from hbm.setCell hbase _)
          have hp := natAbs_mul_le (a := f.getD m 0) (b := (B : Int)) (A := 1000) (B := 9) (by omega) (by omega)
          have hmX : (m : Int) < (f.length : Int) := by omega
          clear ho hml hbm hbase
          obtain ⟨ck, hck⟩ : ∃ ck, ck = f.getD m 0 := ⟨_, rfl⟩
          rw [← hck] at hc hcb hp HPUT HBM
          clear hck
          go_wp2_with fail
          go_roundw
          case rel => exact ⟨m + 1, by omega, by go_num, HPUT.out, HBM.out⟩
          case measure => simp [intOf]; omega
        · obtain rfl : m = f.length := by omega
          have HMA := Lib.hid (mulk_all f B)
          have HML := Lib.hid (mulk_length f B f.length)
          have HZM := Lib.hid (show Below w23.heap.size w23 wr from HSL.out.trans (by rw [← HXM.out]; exact hbm))
          have HR := Lib.hid (HR.out.keep HZM.out)
          have HB := Lib.hid (HBF.out.trans (HZM.out.mono HBF.out.size))
          have HBW := Lib.hid (show w23.heap.size ≤ wr.heap.size from HZM.out.size)
          generalize mulk f B f.length = mf at *
          by_cases hmfp : Poly mf
          · have HMF := Lib.hid hmfp
            clear hmfp
            go_wp2_with fail
            with_reducible refine (Polygon_yes _ _ mf HMF.out P hP _ HOM.out).mono ?_
            rintro e wg ⟨vg, Q, rfl, hr, hpg, hb⟩
            have HPQ := Lib.hid hpg
            have HQR := Lib.hid hr
            have HR := Lib.hid (HR.out.keep hb)
            have HB := Lib.hid (HB.out.trans (hb.mono HB.out.size))
            obtain ⟨Aq, cq, rfl⟩ := hr.form
            clear hr hpg hb
            by_cases hdv : (P : Int) ∣ (B : Int)
            · have e1 : ((B : Int) % (P : Int) == 0) = true := by rw [beq_iff_eq]; exact Int.emod_eq_zero_of_dvd hdv
              clear hdv
              go_wp2_with fail
              with_reducible refine (awake_any _).mono ?_
              rintro e wz ⟨rfl, hbz⟩
              go_wp2_with fail
              go_ret
              exact ⟨rfl, HB.out.trans (hbz.mono HB.out.size)⟩
            · have e1 : ((B : Int) % (P : Int) == 0) = false := by rw [beq_eq_false_iff_ne]; exact fun h => hdv (Int.dvd_of_emod_eq_zero h)
              obtain rfl : Q = L' := HPQ.out.eq (Np.Pg.mul hP.prm hdv HML.out HMA.out HPG.out)
              clear hdv
              go_wp2_with fail
              with_reducible refine (equal48_yes _ _ _ _ Q (by omega) _ HQR.out HR.out).mono ?_
              rintro e wh ⟨rfl, hb⟩
              have HB := Lib.hid (HB.out.trans (hb.mono HB.out.size))
              clear hb
              go_wp2_with fail
              with_reducible refine (awake_any _).mono ?_
              rintro e wz ⟨rfl, hbz⟩
              go_wp2_with fail
              go_ret
              exact ⟨rfl, HB.out.trans (hbz.mono HB.out.size)⟩
          · have HNO := Lib.hid (show ¬ (Poly mf ∧ PrimeI (P : Int)) from fun e => hmfp e.1)
            clear hmfp
            go_wp2_with fail
            with_reducible refine (Polygon_no _ _ mf P HNO.out _ HOM.out).mono ?_
            rintro e wg ⟨rfl, hb⟩
            have HB := Lib.hid (HB.out.trans (hb.mono HB.out.size))
            clear hb
            by_cases hdv : (P : Int) ∣ (B : Int)
            · have e1 : ((B : Int) % (P : Int) == 0) = true := by rw [beq_iff_eq]; exact Int.emod_eq_zero_of_dvd hdv
              clear hdv
              go_wp2_with fail
              with_reducible refine (awake_any _).mono ?_
              rintro e wz ⟨rfl, hbz⟩
              go_wp2_with fail
              go_ret
              exact ⟨rfl, HB.out.trans (hbz.mono HB.out.size)⟩
            · have e1 : ((B : Int) % (P : Int) == 0) = false := by rw [beq_eq_false_iff_ne]; exact fun h => hdv (Int.dvd_of_emod_eq_zero h)
              clear hdv
              go_wp2_with fail
              with_reducible refine (awake_any _).mono ?_
              rintro e wz ⟨rfl, hbz⟩
              go_wp2_with fail
              go_ret
              exact ⟨rfl, HB.out.trans (hbz.mono HB.out.size)⟩
end Go.Proofs.Ytdkobkghhnccgaa
