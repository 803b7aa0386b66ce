/- The walk of PartsResidues. -/
import Derived.Test.YtpgpkgnljoedaaaRo
import Derived.Test.YtpgpkgnljoedaaaHk
import Derived.Test.YtpgpkgnljoedaaaCn
import Derived.Test.YtpgpkgnljoedaaaOs
namespace Go.Proofs.Ytpgpkgnljoedaaa
open Go.RowKit

set_option maxRecDepth 100000 in
theorem index5 (w : World) : (Instr.index 44 (Value.agg #[.int .i64 0, .int .i64 0, .int .i64 0, .int .i64 0, .int .i64 0, .int .i64 4, .int .i64 0, .int .i64 5, .int .i64 0, .int .i64 0, .int .i64 0, .int .i64 6]) (.int .i64 5)).run Try.prog w = .ok (.int .i64 4) w := by rfl

set_option maxRecDepth 100000 in
theorem index7 (w : World) : (Instr.index 44 (Value.agg #[.int .i64 0, .int .i64 0, .int .i64 0, .int .i64 0, .int .i64 0, .int .i64 4, .int .i64 0, .int .i64 5, .int .i64 0, .int .i64 0, .int .i64 0, .int .i64 6]) (.int .i64 7)).run Try.prog w = .ok (.int .i64 5) w := by rfl

set_option maxRecDepth 100000 in
theorem index11 (w : World) : (Instr.index 44 (Value.agg #[.int .i64 0, .int .i64 0, .int .i64 0, .int .i64 0, .int .i64 0, .int .i64 4, .int .i64 0, .int .i64 5, .int .i64 0, .int .i64 0, .int .i64 0, .int .i64 6]) (.int .i64 11)).run Try.prog w = .ok (.int .i64 6) w := by rfl

set_option maxRecDepth 100000 in
set_option maxHeartbeats 4000000 in
theorem partsResidues_no (n : Int) (h : ¬ (0 ≤ n ∧ n ≤ 20)) (w : World) :
    Calls Try.prog 8 #[.int .i64 n] w fun e w' => e = .returned (.bool true) ∧ Below w.heap.size w w' := by
  go_enter Try.func8, Try.ntmps8
  go_wp2_with fail
  refine (List_no n (by omega) _).mono ?_
  rintro e _ ⟨rfl, rfl⟩
  go_wp2_with fail
  (with_reducible refine (awake_any _).mono ?_)
  rintro e wz ⟨rfl, bz⟩
  go_wp2_with fail
  go_ret
  exact ⟨rfl, bz⟩

set_option maxRecDepth 1000000 in
set_option maxHeartbeats 64000000 in
theorem partsResidues_yes (n : Nat) (h : n ≤ 20) (w : World) :
    Calls Try.prog 8 #[.int .i64 n] w fun e w' => e = .returned (.bool true) ∧ Below w.heap.size w w' := by
  go_enter Try.func8, Try.ntmps8
  go_wp2_with fail
  refine (List_ok n h _).mono ?_
  rintro e w1 ⟨v1, rfl, i1, b1⟩
  have HI := Lib.hid i1
  obtain ⟨_, Ax, cx, vsx, rfl, _, _, _⟩ := i1
  have TT := b1
  clear b1
  go_wp2_with fail
  have hc : ∀ j : Nat, j < 3 → (w1.alloc (Obj.cells #[Value.int IntKind.i64 5, Value.int IntKind.i64 7, Value.int IntKind.i64 11] 3)).heap[w1.heap.size]? = some (.cells #[Value.int IntKind.i64 5, Value.int IntKind.i64 7, Value.int IntKind.i64 11] 3) := fun _ _ => heap_alloc_new _ _
  have hsz : (w1.alloc (Obj.cells #[Value.int IntKind.i64 5, Value.int IntKind.i64 7, Value.int IntKind.i64 11] 3)).heap.size = w1.heap.size + 1 := Array.size_push _
  have TT2 := Lib.hid ((Below.refl w1.heap.size w1).alloc (Nat.le_refl _) (Obj.cells #[Value.int IntKind.i64 5, Value.int IntKind.i64 7, Value.int IntKind.i64 11] 3))
  have TT3 := Lib.hid (TT.trans (TT2.out.mono TT.size))
  clear TT
  generalize hw2 : w1.alloc (Obj.cells #[Value.int IntKind.i64 5, Value.int IntKind.i64 7, Value.int IntKind.i64 11] 3) = w2 at *
  have HC := Lib.hid (hc 0 (by omega))
  have HSZ := Lib.hid hsz
  clear hc hsz hw2
  have HPA := Lib.hid (allp_part20 n h)
  have hpl : (allp n).length ≤ 1000 := prt_size n h
  have HV := Lib.hid (V_allp n h)
  generalize hL : allp n = L at *
  have HL := Lib.hid hL
  clear hL
  go_loopw [31] (fun i wr => ∃ k : Int, 0 ≤ k ∧ k ≤ 3 ∧ i = .int .i64 k ∧ Below w2.heap.size w2 wr) (fun i _ => 3 - (intOf i).toNat)
  case atStart => exact ⟨0, by omega, by omega, rfl, Below.refl _ _⟩
  case round =>
    obtain ⟨k, hk0, hk, rfl, hb⟩ := hrel
    have hcell : wr.heap[w1.heap.size]? = some (.cells #[Value.int IntKind.i64 5, Value.int IntKind.i64 7, Value.int IntKind.i64 11] 3) := by
      rw [hb.block _ (by rw [HSZ.out]; omega)]; exact HC.out
    rcases (by omega : k = 0 ∨ k = 1 ∨ k = 2 ∨ k = 3) with rfl | rfl | rfl | rfl
    · have hx : wr.cell? ⟨w1.heap.size, 0, none⟩ = some (.int .i64 5) := by simp [World.cell?, hcell]
      clear hcell
      by_cases h5 : (n : Int).tmod 5 = 4
      · have e5 : ((n : Int).tmod 5 == 4) = true := by rw [h5]; rfl
        have hix := index5
        go_wp2_with fail
        go_quiet (fail)
        have hbr := hb
        have hb := below_drewN hb nq
        go_wp2_with fail
        have mk : ∀ W : World, (Instr.makeSlice 33 (.int .i64 5) (.int .i64 5)).run Try.prog W = .ok (.slice (some ⟨W.heap.size, 0, none⟩) 5 5) (W.alloc (.cells (madeCells #[.int .i64 0] 5) 3)) := fun W => make33 4 (by omega) W
        go_region
        · go_wp2_with fail
          clear mk hix
          have hbn : Below w2.heap.size w2 (((wr.drewN (nq + 1)).alloc (Obj.cells (madeCells #[Value.int IntKind.i64 0] 5) 3)).alloc (Obj.cells (madeCells #[Value.int IntKind.i64 0] 5) 3)) := ((below_drewN hbr (nq + 1)).alloc (by simpa using hbr.size) _).alloc (by have := hbr.size; simp; omega) _
          have O1 : Own (((wr.drewN (nq + 1)).alloc (Obj.cells (madeCells #[Value.int IntKind.i64 0] 5) 3)).alloc (Obj.cells (madeCells #[Value.int IntKind.i64 0] 5) 3)) w2.heap.size (.slice (some ⟨wr.heap.size, 0, none⟩) 5 5) (List.replicate 5 0) :=
            (Own.lit (wr.drewN (nq + 1)) w2.heap.size (by simpa using hbr.size) _ (List.replicate 5 0) 5 (by simp) (made_lit _) (by simp)).alloc _
          have O2 : Own (((wr.drewN (nq + 1)).alloc (Obj.cells (madeCells #[Value.int IntKind.i64 0] 5) 3)).alloc (Obj.cells (madeCells #[Value.int IntKind.i64 0] 5) 3)) w2.heap.size (.slice (some ⟨wr.heap.size + 1, 0, none⟩) 5 5) (List.replicate 5 0) := by
            have := Own.lit ((wr.drewN (nq + 1)).alloc (Obj.cells (madeCells #[Value.int IntKind.i64 0] 5) 3)) w2.heap.size (by have := hbr.size; simp; omega) (madeCells #[Value.int IntKind.i64 0] 5) (List.replicate 5 0) 5 (by simp) (made_lit _) (by simp)
            simpa using this
          generalize ((wr.drewN (nq + 1)).alloc (Obj.cells (madeCells #[Value.int IntKind.i64 0] 5) 3)).alloc (Obj.cells (madeCells #[Value.int IntKind.i64 0] 5) 3) = wn at *
          have hgh : wr.heap.size + 1 ≠ wr.heap.size := by omega
          generalize wr.heap.size + 1 = g2 at *
          generalize wr.heap.size = g1 at *
          have HGH := Lib.hid hgh
          have HR0 := Lib.hid (show Own wn w2.heap.size (.slice (some ⟨g1, 0, none⟩) 5 5) (cntL rk (L.take 0) 5) from by rw [cntL_zero]; exact O1)
          have HC0 := Lib.hid (show Own wn w2.heap.size (.slice (some ⟨g2, 0, none⟩) 5 5) (cntL crk (L.take 0) 5) from by rw [cntL_zero]; exact O2)
          have HBN := Lib.hid hbn
          clear O1 O2 hgh hbn hb hbr
          have HRES := Lib.hid (HL.out ▸ res5 n h (by
            have : (n : Int).tmod 5 = 4 := h5
            rw [Int.tmod_eq_emod_of_nonneg (by omega)] at this
            omega))
          go_loopw [48] (fun i wi => ∃ k : Nat, k ≤ L.length ∧ i = .int .i64 k ∧ Own wi w2.heap.size (.slice (some ⟨g1, 0, none⟩) 5 5) (cntL rk (L.take k) 5) ∧ Own wi w2.heap.size (.slice (some ⟨g2, 0, none⟩) 5 5) (cntL crk (L.take k) 5) ∧ Below w2.heap.size w2 wi) (fun i _ => L.length - (intOf i).toNat)
          case atStart => exact ⟨0, by omega, rfl, HR0.out, HC0.out, HBN.out⟩
          case round =>
            obtain ⟨k, hk, rfl, hoR, hoC, hbi⟩ := hrel
            have HOR := Lib.hid hoR
            have HOC := Lib.hid hoC
            clear hoR hoC
            by_cases hlt : k < L.length
            · have hixw := HI.out.keep (TT2.out.trans (hbi.mono TT2.out.size))
              obtain ⟨_, A0, c0, vs0, e0x, _, hel, hrl⟩ := hixw
              simp only [Value.slice.injEq] at e0x
              obtain ⟨rfl, _, rfl⟩ := e0x
              obtain ⟨adx, rfl, hblx, hcellx⟩ := hrl (by omega)
              have lk : k < vs0.length := by rw [hel.1]; exact hlt
              have gk := List.getElem?_eq_getElem lk
              have hcs := hcellx k _ gk
              have hip := (hel.2 k _ _ gk (List.getElem?_eq_getElem hlt)).1
              have hpp := (HPA.out L[k] (List.getElem_mem hlt)).1
              have HS1 := Lib.hid (fun (q : Nat) (hq : rk L[k] % ((5 : Nat) : Int) = q) (hm : q < 5) => cntL_step rk L 5 k hlt (rk L[k]) rfl q hq hm)
              have HS2 := Lib.hid (fun (q : Nat) (hq : crk L[k] % ((5 : Nat) : Int) = q) (hm : q < 5) => cntL_step crk L 5 k hlt (crk L[k]) rfl q hq hm)
              generalize vs0[k] = sv at *
              generalize L[k] = p at *
              have HIP := Lib.hid hip
              have HPP := Lib.hid hpp
              have HRY := Lib.hid (fun v W hW => Rank_yes v p hpp W hW)
              have HCY := Lib.hid (fun v W hW => Crank_yes v p hpp W hW)
              obtain ⟨_, Ap, cp2, rfl, _, _⟩ := hip
              have b1 := tmod_bd (rk p) 5 (by omega)
              have b2 := tmod_bd (crk p) 5 (by omega)
              have e1 := tmod_pos (rk p) 5 (by omega)
              have e2 := tmod_pos (crk p) 5 (by omega)
              simp only [Int.cast_ofNat_Int] at b1 b2 e1 e2
              generalize rk p = x at *
              generalize crk p = y at *
              obtain ⟨q1, hq1⟩ : ∃ q1 : Nat, x % 5 = q1 := ⟨(x % 5).toNat, by omega⟩
              obtain ⟨q2, hq2⟩ : ∃ q2 : Nat, y % 5 = q2 := ⟨(y % 5).toNat, by omega⟩
              have l1 : q1 < 5 := by omega
              have l2 : q2 < 5 := by omega
              have HQ1 := Lib.hid (HS1.out q1 (by simpa using hq1) l1)
              have HQ2 := Lib.hid (HS2.out q2 (by simpa using hq2) l2)
              have HE1 := Lib.hid (show (x.tmod 5 + 5) % 5 = (q1 : Int) by omega)
              have HE2 := Lib.hid (show (y.tmod 5 + 5) % 5 = (q2 : Int) by omega)
              have x1 := b1.1
              have x2 := b1.2
              have y1 := b2.1
              have y2 := b2.2
              clear hel hrl gk lk hcellx hpp b1 b2 e1 e2 hq1 hq2
              go_wp2_with fail
              refine (clone_any _ p _ HIP.out).mono ?_
              rintro e wa ⟨va, rfl, oa, ba⟩
              have HIA := Lib.hid (oa.ints (by have := HPP.out.len; omega))
              have HBA := Lib.hid ba
              clear oa ba hcs
              go_wp2_with fail
              refine (HRY.out _ _ HIA.out).mono ?_
              rintro e _ ⟨rfl, rfl⟩
              go_wp2_with fail
              refine (clone_any _ p _ (HIP.out.keep HBA.out)).mono ?_
              rintro e wb ⟨vb, rfl, ob, bb⟩
              have HIB := Lib.hid (ob.ints (by have := HPP.out.len; omega))
              have HBB := Lib.hid (HBA.out.trans (bb.mono HBA.out.size))
              clear ob bb
              have HBX := Lib.hid (hbi.trans (HBB.out.mono hbi.size))
              have HO1 := Lib.hid (HOR.out.same (fun b _ hlt => HBB.out.block b hlt))
              have HO2 := Lib.hid (HOC.out.same (fun b _ hlt => HBB.out.block b hlt))
              obtain ⟨gz, cz, ez, _, hzb, _, hzc⟩ := HO1.out.seen (by rw [cntL_length]; omega)
              simp only [Value.slice.injEq, Option.some.injEq, Addr.mk.injEq, and_true] at ez
              obtain ⟨rfl, ezl, rfl⟩ := ez
              clear ezl
              have c1 := hzc q1 _ (cntL_get rk (L.take k) 5 q1 l1)
              have hf1 := HO1.out.free
              obtain ⟨gz, cz, ez, _, hzb2, _, hzc2⟩ := HO2.out.seen (by rw [cntL_length]; omega)
              simp only [Value.slice.injEq, Option.some.injEq, Addr.mk.injEq, and_true] at ez
              obtain ⟨rfl, ezl, rfl⟩ := ez
              clear ezl
              have c2 := hzc2 q2 _ (cntL_get crk (L.take k) 5 q2 l2)
              have hf2 := HO2.out.free
              have HN1 := Lib.hid (HO1.out.put (cntL_length _ _ _).symm q1 (((cntR ((L.take k).map rk) 5 q1 : Nat) : Int) + 1))
              have HZ1 := Lib.hid hzb
              have HZ2 := Lib.hid hzb2
              have k1 : cntR ((L.take k).map rk) 5 q1 ≤ 1000 := Nat.le_trans (cntR_le _ _ _) (by rw [List.length_map, List.length_take]; omega)
              have k2 : cntR ((L.take k).map crk) 5 q2 ≤ 1000 := Nat.le_trans (cntR_le _ _ _) (by rw [List.length_map, List.length_take]; omega)
              generalize cntR ((L.take k).map rk) 5 q1 = n1 at *
              generalize cntR ((L.take k).map crk) 5 q2 = n2 at *
              have HN2 := Lib.hid ((HO2.out.same (w' := wb.setCell ⟨g1, q1, none⟩ (.int .i64 ((n1 : Int) + 1))) (fun b hb _ => heap_setCell_ne _ _ _ _ (by
                simp only [Value.ownBlock, Option.some.injEq] at hb
                subst hb
                first | exact HGH.out | exact fun e => HGH.out e.symm))).put (cntL_length _ _ _).symm q2 ((n2 : Int) + 1))
              have HN3 := Lib.hid ((HN1.out.same (w' := (wb.setCell ⟨g1, q1, none⟩ (.int .i64 ((n1 : Int) + 1))).setCell ⟨g2, q2, none⟩ (.int .i64 ((n2 : Int) + 1))) (fun b hb _ => heap_setCell_ne _ _ _ _ (by
                simp only [Value.ownBlock, Option.some.injEq] at hb
                subst hb
                first | exact HGH.out | exact fun e => HGH.out e.symm))))
              have HBZ := Lib.hid ((HBX.out.setCell (p := ⟨g1, q1, none⟩) HZ1.out (.int .i64 ((n1 : Int) + 1))).setCell (p := ⟨g2, q2, none⟩) HZ2.out (.int .i64 ((n2 : Int) + 1)))
              have hne : (g1 = g2) = False := by simp only [eq_iff_iff, iff_false]; first | exact HGH.out | exact fun e => HGH.out e.symm
              have c2' : (wb.setCell ⟨g1, q1, none⟩ (.int .i64 ((n1 : Int) + 1))).cell? ⟨g2, q2, none⟩ = some (.int .i64 (n2 : Int)) := by
                rw [← c2]; unfold World.cell?; rw [heap_setCell_ne _ _ _ _ (by first | exact HGH.out | exact fun e => HGH.out e.symm)]
              clear hzc hzc2 hne hzb hzb2
              have r1 := HE1.out
              have r2 := HE2.out
              go_wp2_with fail
              refine (HCY.out _ _ HIB.out).mono ?_
              rintro e _ ⟨rfl, rfl⟩
              go_wp2_with fail
              go_roundw
              case rel => exact ⟨k + 1, by omega, by go_num, (by rw [HQ1.out]; exact HN3.out), (by rw [HQ2.out]; exact HN2.out), HBZ.out⟩
              case measure => simp [intOf]; omega
            · obtain rfl : k = L.length := by omega
              rw [List.take_length] at HOR HOC
              go_wp2_with fail
              have HE := Lib.hid (res_of HRES.out)
              go_loopw [96] (fun i wi => ∃ j : Nat, j ≤ 5 ∧ i = .int .i64 j ∧ Own wi w2.heap.size (.slice (some ⟨g1, 0, none⟩) 5 5) (cntL rk L 5) ∧ Own wi w2.heap.size (.slice (some ⟨g2, 0, none⟩) 5 5) (cntL crk L 5) ∧ Below w2.heap.size w2 wi) (fun i _ => 5 - (intOf i).toNat)
              case atStart => exact ⟨0, by omega, rfl, HOR.out, HOC.out, hbi⟩
              case round =>
                clear HOR HOC hbi
                obtain ⟨j, hj, rfl, hoR, hoC, hbi⟩ := hrel
                have HOR := Lib.hid hoR
                have HOC := Lib.hid hoC
                clear hoR hoC
                by_cases hlt : j < 5
                · obtain ⟨gz, cz, ez, _, hzb, _, hzc⟩ := HOR.out.seen (by rw [cntL_length]; omega)
                  simp only [Value.slice.injEq, Option.some.injEq, Addr.mk.injEq, and_true] at ez
                  obtain ⟨rfl, ezl, rfl⟩ := ez
                  clear ezl
                  have c1 := hzc j _ (cntL_get rk L 5 j hlt)
                  have c10 := hzc 0 _ (cntL_get rk L 5 0 (by omega))
                  have hf1 := HOR.out.free
                  obtain ⟨gz, cz, ez, _, hzb2, _, hzc2⟩ := HOC.out.seen (by rw [cntL_length]; omega)
                  simp only [Value.slice.injEq, Option.some.injEq, Addr.mk.injEq, and_true] at ez
                  obtain ⟨rfl, ezl, rfl⟩ := ez
                  clear ezl
                  have c2 := hzc2 j _ (cntL_get crk L 5 j hlt)
                  have c20 := hzc2 0 _ (cntL_get crk L 5 0 (by omega))
                  have hf2 := HOC.out.free
                  have he := HE.out j hlt
                  rw [he.1] at c2
                  rw [he.2 rfl] at c1
                  simp only [Int.cast_ofNat_Int] at c1 c2 c10 c20
                  clear he hzc hzc2
                  generalize cntR (L.map rk) 5 0 = n1 at *
                  generalize cntR (L.map crk) 5 0 = n2 at *
                  have hji : (j : Int) < 5 := by omega
                  go_wp2_with fail
                  go_quiet (fail)
                  go_wp2_with fail
                  go_roundw
                  case rel => exact ⟨j + 1, by omega, by go_num, HOR.out.same (fun _ _ _ => rfl), HOC.out.same (fun _ _ _ => rfl), below_drewN hbi _⟩
                  case measure => simp [intOf]; omega
                · obtain rfl : j = 5 := by omega
                  go_wp2_with fail
                  go_roundw
                  case rel => exact ⟨1, by omega, by omega, by go_num, hbi⟩
                  case measure => simp [intOf]
        · go_wp2_with fail
          clear mk hix
          have hbn : Below w2.heap.size w2 (((wr.drewN (nq + 1)).alloc (Obj.cells (madeCells #[Value.int IntKind.i64 0] 5) 3)).alloc (Obj.cells (madeCells #[Value.int IntKind.i64 0] 5) 3)) := ((below_drewN hbr (nq + 1)).alloc (by simpa using hbr.size) _).alloc (by have := hbr.size; simp; omega) _
          have O1 : Own (((wr.drewN (nq + 1)).alloc (Obj.cells (madeCells #[Value.int IntKind.i64 0] 5) 3)).alloc (Obj.cells (madeCells #[Value.int IntKind.i64 0] 5) 3)) w2.heap.size (.slice (some ⟨wr.heap.size, 0, none⟩) 5 5) (List.replicate 5 0) :=
            (Own.lit (wr.drewN (nq + 1)) w2.heap.size (by simpa using hbr.size) _ (List.replicate 5 0) 5 (by simp) (made_lit _) (by simp)).alloc _
          have O2 : Own (((wr.drewN (nq + 1)).alloc (Obj.cells (madeCells #[Value.int IntKind.i64 0] 5) 3)).alloc (Obj.cells (madeCells #[Value.int IntKind.i64 0] 5) 3)) w2.heap.size (.slice (some ⟨wr.heap.size + 1, 0, none⟩) 5 5) (List.replicate 5 0) := by
            have := Own.lit ((wr.drewN (nq + 1)).alloc (Obj.cells (madeCells #[Value.int IntKind.i64 0] 5) 3)) w2.heap.size (by have := hbr.size; simp; omega) (madeCells #[Value.int IntKind.i64 0] 5) (List.replicate 5 0) 5 (by simp) (made_lit _) (by simp)
            simpa using this
          generalize ((wr.drewN (nq + 1)).alloc (Obj.cells (madeCells #[Value.int IntKind.i64 0] 5) 3)).alloc (Obj.cells (madeCells #[Value.int IntKind.i64 0] 5) 3) = wn at *
          have hgh : wr.heap.size + 1 ≠ wr.heap.size := by omega
          generalize wr.heap.size + 1 = g2 at *
          generalize wr.heap.size = g1 at *
          have HGH := Lib.hid hgh
          have HR0 := Lib.hid (show Own wn w2.heap.size (.slice (some ⟨g2, 0, none⟩) 5 5) (cntL rk (L.take 0) 5) from by rw [cntL_zero]; exact O2)
          have HC0 := Lib.hid (show Own wn w2.heap.size (.slice (some ⟨g1, 0, none⟩) 5 5) (cntL crk (L.take 0) 5) from by rw [cntL_zero]; exact O1)
          have HBN := Lib.hid hbn
          clear O1 O2 hgh hbn hb hbr
          have HRES := Lib.hid (HL.out ▸ res5 n h (by
            have : (n : Int).tmod 5 = 4 := h5
            rw [Int.tmod_eq_emod_of_nonneg (by omega)] at this
            omega))
          go_loopw [48] (fun i wi => ∃ k : Nat, k ≤ L.length ∧ i = .int .i64 k ∧ Own wi w2.heap.size (.slice (some ⟨g2, 0, none⟩) 5 5) (cntL rk (L.take k) 5) ∧ Own wi w2.heap.size (.slice (some ⟨g1, 0, none⟩) 5 5) (cntL crk (L.take k) 5) ∧ Below w2.heap.size w2 wi) (fun i _ => L.length - (intOf i).toNat)
          case atStart => exact ⟨0, by omega, rfl, HR0.out, HC0.out, HBN.out⟩
          case round =>
            obtain ⟨k, hk, rfl, hoR, hoC, hbi⟩ := hrel
            have HOR := Lib.hid hoR
            have HOC := Lib.hid hoC
            clear hoR hoC
            by_cases hlt : k < L.length
            · have hixw := HI.out.keep (TT2.out.trans (hbi.mono TT2.out.size))
              obtain ⟨_, A0, c0, vs0, e0x, _, hel, hrl⟩ := hixw
              simp only [Value.slice.injEq] at e0x
              obtain ⟨rfl, _, rfl⟩ := e0x
              obtain ⟨adx, rfl, hblx, hcellx⟩ := hrl (by omega)
              have lk : k < vs0.length := by rw [hel.1]; exact hlt
              have gk := List.getElem?_eq_getElem lk
              have hcs := hcellx k _ gk
              have hip := (hel.2 k _ _ gk (List.getElem?_eq_getElem hlt)).1
              have hpp := (HPA.out L[k] (List.getElem_mem hlt)).1
              have HS1 := Lib.hid (fun (q : Nat) (hq : rk L[k] % ((5 : Nat) : Int) = q) (hm : q < 5) => cntL_step rk L 5 k hlt (rk L[k]) rfl q hq hm)
              have HS2 := Lib.hid (fun (q : Nat) (hq : crk L[k] % ((5 : Nat) : Int) = q) (hm : q < 5) => cntL_step crk L 5 k hlt (crk L[k]) rfl q hq hm)
              generalize vs0[k] = sv at *
              generalize L[k] = p at *
              have HIP := Lib.hid hip
              have HPP := Lib.hid hpp
              have HRY := Lib.hid (fun v W hW => Rank_yes v p hpp W hW)
              have HCY := Lib.hid (fun v W hW => Crank_yes v p hpp W hW)
              obtain ⟨_, Ap, cp2, rfl, _, _⟩ := hip
              have b1 := tmod_bd (rk p) 5 (by omega)
              have b2 := tmod_bd (crk p) 5 (by omega)
              have e1 := tmod_pos (rk p) 5 (by omega)
              have e2 := tmod_pos (crk p) 5 (by omega)
              simp only [Int.cast_ofNat_Int] at b1 b2 e1 e2
              generalize rk p = x at *
              generalize crk p = y at *
              obtain ⟨q1, hq1⟩ : ∃ q1 : Nat, x % 5 = q1 := ⟨(x % 5).toNat, by omega⟩
              obtain ⟨q2, hq2⟩ : ∃ q2 : Nat, y % 5 = q2 := ⟨(y % 5).toNat, by omega⟩
              have l1 : q1 < 5 := by omega
              have l2 : q2 < 5 := by omega
              have HQ1 := Lib.hid (HS1.out q1 (by simpa using hq1) l1)
              have HQ2 := Lib.hid (HS2.out q2 (by simpa using hq2) l2)
              have HE1 := Lib.hid (show (x.tmod 5 + 5) % 5 = (q1 : Int) by omega)
              have HE2 := Lib.hid (show (y.tmod 5 + 5) % 5 = (q2 : Int) by omega)
              have x1 := b1.1
              have x2 := b1.2
              have y1 := b2.1
              have y2 := b2.2
              clear hel hrl gk lk hcellx hpp b1 b2 e1 e2 hq1 hq2
              go_wp2_with fail
              refine (clone_any _ p _ HIP.out).mono ?_
              rintro e wa ⟨va, rfl, oa, ba⟩
              have HIA := Lib.hid (oa.ints (by have := HPP.out.len; omega))
              have HBA := Lib.hid ba
              clear oa ba hcs
              go_wp2_with fail
              refine (HRY.out _ _ HIA.out).mono ?_
              rintro e _ ⟨rfl, rfl⟩
              go_wp2_with fail
              refine (clone_any _ p _ (HIP.out.keep HBA.out)).mono ?_
              rintro e wb ⟨vb, rfl, ob, bb⟩
              have HIB := Lib.hid (ob.ints (by have := HPP.out.len; omega))
              have HBB := Lib.hid (HBA.out.trans (bb.mono HBA.out.size))
              clear ob bb
              have HBX := Lib.hid (hbi.trans (HBB.out.mono hbi.size))
              have HO1 := Lib.hid (HOR.out.same (fun b _ hlt => HBB.out.block b hlt))
              have HO2 := Lib.hid (HOC.out.same (fun b _ hlt => HBB.out.block b hlt))
              obtain ⟨gz, cz, ez, _, hzb, _, hzc⟩ := HO1.out.seen (by rw [cntL_length]; omega)
              simp only [Value.slice.injEq, Option.some.injEq, Addr.mk.injEq, and_true] at ez
              obtain ⟨rfl, ezl, rfl⟩ := ez
              clear ezl
              have c1 := hzc q1 _ (cntL_get rk (L.take k) 5 q1 l1)
              have hf1 := HO1.out.free
              obtain ⟨gz, cz, ez, _, hzb2, _, hzc2⟩ := HO2.out.seen (by rw [cntL_length]; omega)
              simp only [Value.slice.injEq, Option.some.injEq, Addr.mk.injEq, and_true] at ez
              obtain ⟨rfl, ezl, rfl⟩ := ez
              clear ezl
              have c2 := hzc2 q2 _ (cntL_get crk (L.take k) 5 q2 l2)
              have hf2 := HO2.out.free
              have HN1 := Lib.hid (HO1.out.put (cntL_length _ _ _).symm q1 (((cntR ((L.take k).map rk) 5 q1 : Nat) : Int) + 1))
              have HZ1 := Lib.hid hzb
              have HZ2 := Lib.hid hzb2
              have k1 : cntR ((L.take k).map rk) 5 q1 ≤ 1000 := Nat.le_trans (cntR_le _ _ _) (by rw [List.length_map, List.length_take]; omega)
              have k2 : cntR ((L.take k).map crk) 5 q2 ≤ 1000 := Nat.le_trans (cntR_le _ _ _) (by rw [List.length_map, List.length_take]; omega)
              generalize cntR ((L.take k).map rk) 5 q1 = n1 at *
              generalize cntR ((L.take k).map crk) 5 q2 = n2 at *
              have HN2 := Lib.hid ((HO2.out.same (w' := wb.setCell ⟨g2, q1, none⟩ (.int .i64 ((n1 : Int) + 1))) (fun b hb _ => heap_setCell_ne _ _ _ _ (by
                simp only [Value.ownBlock, Option.some.injEq] at hb
                subst hb
                first | exact HGH.out | exact fun e => HGH.out e.symm))).put (cntL_length _ _ _).symm q2 ((n2 : Int) + 1))
              have HN3 := Lib.hid ((HN1.out.same (w' := (wb.setCell ⟨g2, q1, none⟩ (.int .i64 ((n1 : Int) + 1))).setCell ⟨g1, q2, none⟩ (.int .i64 ((n2 : Int) + 1))) (fun b hb _ => heap_setCell_ne _ _ _ _ (by
                simp only [Value.ownBlock, Option.some.injEq] at hb
                subst hb
                first | exact HGH.out | exact fun e => HGH.out e.symm))))
              have HBZ := Lib.hid ((HBX.out.setCell (p := ⟨g2, q1, none⟩) HZ1.out (.int .i64 ((n1 : Int) + 1))).setCell (p := ⟨g1, q2, none⟩) HZ2.out (.int .i64 ((n2 : Int) + 1)))
              have hne : (g2 = g1) = False := by simp only [eq_iff_iff, iff_false]; first | exact HGH.out | exact fun e => HGH.out e.symm
              have c2' : (wb.setCell ⟨g2, q1, none⟩ (.int .i64 ((n1 : Int) + 1))).cell? ⟨g1, q2, none⟩ = some (.int .i64 (n2 : Int)) := by
                rw [← c2]; unfold World.cell?; rw [heap_setCell_ne _ _ _ _ (by first | exact HGH.out | exact fun e => HGH.out e.symm)]
              clear hzc hzc2 hne hzb hzb2
              have r1 := HE1.out
              have r2 := HE2.out
              go_wp2_with fail
              refine (HCY.out _ _ HIB.out).mono ?_
              rintro e _ ⟨rfl, rfl⟩
              go_wp2_with fail
              go_roundw
              case rel => exact ⟨k + 1, by omega, by go_num, (by rw [HQ1.out]; exact HN3.out), (by rw [HQ2.out]; exact HN2.out), HBZ.out⟩
              case measure => simp [intOf]; omega
            · obtain rfl : k = L.length := by omega
              rw [List.take_length] at HOR HOC
              go_wp2_with fail
              have HE := Lib.hid (res_of HRES.out)
              go_loopw [96] (fun i wi => ∃ j : Nat, j ≤ 5 ∧ i = .int .i64 j ∧ Own wi w2.heap.size (.slice (some ⟨g2, 0, none⟩) 5 5) (cntL rk L 5) ∧ Own wi w2.heap.size (.slice (some ⟨g1, 0, none⟩) 5 5) (cntL crk L 5) ∧ Below w2.heap.size w2 wi) (fun i _ => 5 - (intOf i).toNat)
              case atStart => exact ⟨0, by omega, rfl, HOR.out, HOC.out, hbi⟩
              case round =>
                clear HOR HOC hbi
                obtain ⟨j, hj, rfl, hoR, hoC, hbi⟩ := hrel
                have HOR := Lib.hid hoR
                have HOC := Lib.hid hoC
                clear hoR hoC
                by_cases hlt : j < 5
                · obtain ⟨gz, cz, ez, _, hzb, _, hzc⟩ := HOR.out.seen (by rw [cntL_length]; omega)
                  simp only [Value.slice.injEq, Option.some.injEq, Addr.mk.injEq, and_true] at ez
                  obtain ⟨rfl, ezl, rfl⟩ := ez
                  clear ezl
                  have c1 := hzc j _ (cntL_get rk L 5 j hlt)
                  have c10 := hzc 0 _ (cntL_get rk L 5 0 (by omega))
                  have hf1 := HOR.out.free
                  obtain ⟨gz, cz, ez, _, hzb2, _, hzc2⟩ := HOC.out.seen (by rw [cntL_length]; omega)
                  simp only [Value.slice.injEq, Option.some.injEq, Addr.mk.injEq, and_true] at ez
                  obtain ⟨rfl, ezl, rfl⟩ := ez
                  clear ezl
                  have c2 := hzc2 j _ (cntL_get crk L 5 j hlt)
                  have c20 := hzc2 0 _ (cntL_get crk L 5 0 (by omega))
                  have hf2 := HOC.out.free
                  have he := HE.out j hlt
                  rw [he.1] at c2
                  rw [he.2 rfl] at c1
                  simp only [Int.cast_ofNat_Int] at c1 c2 c10 c20
                  clear he hzc hzc2
                  generalize cntR (L.map rk) 5 0 = n1 at *
                  generalize cntR (L.map crk) 5 0 = n2 at *
                  have hji : (j : Int) < 5 := by omega
                  go_wp2_with fail
                  go_quiet (fail)
                  go_wp2_with fail
                  go_roundw
                  case rel => exact ⟨j + 1, by omega, by go_num, HOR.out.same (fun _ _ _ => rfl), HOC.out.same (fun _ _ _ => rfl), below_drewN hbi _⟩
                  case measure => simp [intOf]; omega
                · obtain rfl : j = 5 := by omega
                  go_wp2_with fail
                  go_roundw
                  case rel => exact ⟨1, by omega, by omega, by go_num, hbi⟩
                  case measure => simp [intOf]
      · have e5 : ((n : Int).tmod 5 == 4) = false := by rw [beq_eq_false_iff_ne]; exact h5
        have e6 : ((n : Int) % 5 != 4) = true := by
          rw [bne_iff_ne]; rw [Int.tmod_eq_emod_of_nonneg (by omega)] at h5; exact h5
        have hix := index5
        go_wp2_with fail
        go_quiet (fail)
        have hb := below_drewN hb nq
        go_wp2_with fail
        go_roundw
        case rel => exact ⟨1, by omega, by omega, by go_num, hb⟩
        case measure => simp [intOf]
    · have hx : wr.cell? ⟨w1.heap.size, 1, none⟩ = some (.int .i64 7) := by simp [World.cell?, hcell]
      clear hcell
      by_cases h5 : (n : Int).tmod 7 = 5
      · have e5 : ((n : Int).tmod 7 == 5) = true := by rw [h5]; rfl
        have hix := index7
        go_wp2_with fail
        go_quiet (fail)
        have hbr := hb
        have hb := below_drewN hb nq
        go_wp2_with fail
        have mk : ∀ W : World, (Instr.makeSlice 33 (.int .i64 7) (.int .i64 7)).run Try.prog W = .ok (.slice (some ⟨W.heap.size, 0, none⟩) 7 7) (W.alloc (.cells (madeCells #[.int .i64 0] 7) 3)) := fun W => make33 6 (by omega) W
        go_region
        · go_wp2_with fail
          clear mk hix
          have hbn : Below w2.heap.size w2 (((wr.drewN (nq + 1)).alloc (Obj.cells (madeCells #[Value.int IntKind.i64 0] 7) 3)).alloc (Obj.cells (madeCells #[Value.int IntKind.i64 0] 7) 3)) := ((below_drewN hbr (nq + 1)).alloc (by simpa using hbr.size) _).alloc (by have := hbr.size; simp; omega) _
          have O1 : Own (((wr.drewN (nq + 1)).alloc (Obj.cells (madeCells #[Value.int IntKind.i64 0] 7) 3)).alloc (Obj.cells (madeCells #[Value.int IntKind.i64 0] 7) 3)) w2.heap.size (.slice (some ⟨wr.heap.size, 0, none⟩) 7 7) (List.replicate 7 0) :=
            (Own.lit (wr.drewN (nq + 1)) w2.heap.size (by simpa using hbr.size) _ (List.replicate 7 0) 7 (by simp) (made_lit _) (by simp)).alloc _
          have O2 : Own (((wr.drewN (nq + 1)).alloc (Obj.cells (madeCells #[Value.int IntKind.i64 0] 7) 3)).alloc (Obj.cells (madeCells #[Value.int IntKind.i64 0] 7) 3)) w2.heap.size (.slice (some ⟨wr.heap.size + 1, 0, none⟩) 7 7) (List.replicate 7 0) := by
            have := Own.lit ((wr.drewN (nq + 1)).alloc (Obj.cells (madeCells #[Value.int IntKind.i64 0] 7) 3)) w2.heap.size (by have := hbr.size; simp; omega) (madeCells #[Value.int IntKind.i64 0] 7) (List.replicate 7 0) 7 (by simp) (made_lit _) (by simp)
            simpa using this
          generalize ((wr.drewN (nq + 1)).alloc (Obj.cells (madeCells #[Value.int IntKind.i64 0] 7) 3)).alloc (Obj.cells (madeCells #[Value.int IntKind.i64 0] 7) 3) = wn at *
          have hgh : wr.heap.size + 1 ≠ wr.heap.size := by omega
          generalize wr.heap.size + 1 = g2 at *
          generalize wr.heap.size = g1 at *
          have HGH := Lib.hid hgh
          have HR0 := Lib.hid (show Own wn w2.heap.size (.slice (some ⟨g1, 0, none⟩) 7 7) (cntL rk (L.take 0) 7) from by rw [cntL_zero]; exact O1)
          have HC0 := Lib.hid (show Own wn w2.heap.size (.slice (some ⟨g2, 0, none⟩) 7 7) (cntL crk (L.take 0) 7) from by rw [cntL_zero]; exact O2)
          have HBN := Lib.hid hbn
          clear O1 O2 hgh hbn hb hbr
          have HRES := Lib.hid (HL.out ▸ res7 n h (by
            have : (n : Int).tmod 7 = 5 := h5
            rw [Int.tmod_eq_emod_of_nonneg (by omega)] at this
            omega))
          go_loopw [48] (fun i wi => ∃ k : Nat, k ≤ L.length ∧ i = .int .i64 k ∧ Own wi w2.heap.size (.slice (some ⟨g1, 0, none⟩) 7 7) (cntL rk (L.take k) 7) ∧ Own wi w2.heap.size (.slice (some ⟨g2, 0, none⟩) 7 7) (cntL crk (L.take k) 7) ∧ Below w2.heap.size w2 wi) (fun i _ => L.length - (intOf i).toNat)
          case atStart => exact ⟨0, by omega, rfl, HR0.out, HC0.out, HBN.out⟩
          case round =>
            obtain ⟨k, hk, rfl, hoR, hoC, hbi⟩ := hrel
            have HOR := Lib.hid hoR
            have HOC := Lib.hid hoC
            clear hoR hoC
            by_cases hlt : k < L.length
            · have hixw := HI.out.keep (TT2.out.trans (hbi.mono TT2.out.size))
              obtain ⟨_, A0, c0, vs0, e0x, _, hel, hrl⟩ := hixw
              simp only [Value.slice.injEq] at e0x
              obtain ⟨rfl, _, rfl⟩ := e0x
              obtain ⟨adx, rfl, hblx, hcellx⟩ := hrl (by omega)
              have lk : k < vs0.length := by rw [hel.1]; exact hlt
              have gk := List.getElem?_eq_getElem lk
              have hcs := hcellx k _ gk
              have hip := (hel.2 k _ _ gk (List.getElem?_eq_getElem hlt)).1
              have hpp := (HPA.out L[k] (List.getElem_mem hlt)).1
              have HS1 := Lib.hid (fun (q : Nat) (hq : rk L[k] % ((7 : Nat) : Int) = q) (hm : q < 7) => cntL_step rk L 7 k hlt (rk L[k]) rfl q hq hm)
              have HS2 := Lib.hid (fun (q : Nat) (hq : crk L[k] % ((7 : Nat) : Int) = q) (hm : q < 7) => cntL_step crk L 7 k hlt (crk L[k]) rfl q hq hm)
              generalize vs0[k] = sv at *
              generalize L[k] = p at *
              have HIP := Lib.hid hip
              have HPP := Lib.hid hpp
              have HRY := Lib.hid (fun v W hW => Rank_yes v p hpp W hW)
              have HCY := Lib.hid (fun v W hW => Crank_yes v p hpp W hW)
              obtain ⟨_, Ap, cp2, rfl, _, _⟩ := hip
              have b1 := tmod_bd (rk p) 7 (by omega)
              have b2 := tmod_bd (crk p) 7 (by omega)
              have e1 := tmod_pos (rk p) 7 (by omega)
              have e2 := tmod_pos (crk p) 7 (by omega)
              simp only [Int.cast_ofNat_Int] at b1 b2 e1 e2
              generalize rk p = x at *
              generalize crk p = y at *
              obtain ⟨q1, hq1⟩ : ∃ q1 : Nat, x % 7 = q1 := ⟨(x % 7).toNat, by omega⟩
              obtain ⟨q2, hq2⟩ : ∃ q2 : Nat, y % 7 = q2 := ⟨(y % 7).toNat, by omega⟩
              have l1 : q1 < 7 := by omega
              have l2 : q2 < 7 := by omega
              have HQ1 := Lib.hid (HS1.out q1 (by simpa using hq1) l1)
              have HQ2 := Lib.hid (HS2.out q2 (by simpa using hq2) l2)
              have HE1 := Lib.hid (show (x.tmod 7 + 7) % 7 = (q1 : Int) by omega)
              have HE2 := Lib.hid (show (y.tmod 7 + 7) % 7 = (q2 : Int) by omega)
              have x1 := b1.1
              have x2 := b1.2
              have y1 := b2.1
              have y2 := b2.2
              clear hel hrl gk lk hcellx hpp b1 b2 e1 e2 hq1 hq2
              go_wp2_with fail
              refine (clone_any _ p _ HIP.out).mono ?_
              rintro e wa ⟨va, rfl, oa, ba⟩
              have HIA := Lib.hid (oa.ints (by have := HPP.out.len; omega))
              have HBA := Lib.hid ba
              clear oa ba hcs
              go_wp2_with fail
              refine (HRY.out _ _ HIA.out).mono ?_
              rintro e _ ⟨rfl, rfl⟩
              go_wp2_with fail
              refine (clone_any _ p _ (HIP.out.keep HBA.out)).mono ?_
              rintro e wb ⟨vb, rfl, ob, bb⟩
              have HIB := Lib.hid (ob.ints (by have := HPP.out.len; omega))
              have HBB := Lib.hid (HBA.out.trans (bb.mono HBA.out.size))
              clear ob bb
              have HBX := Lib.hid (hbi.trans (HBB.out.mono hbi.size))
              have HO1 := Lib.hid (HOR.out.same (fun b _ hlt => HBB.out.block b hlt))
              have HO2 := Lib.hid (HOC.out.same (fun b _ hlt => HBB.out.block b hlt))
              obtain ⟨gz, cz, ez, _, hzb, _, hzc⟩ := HO1.out.seen (by rw [cntL_length]; omega)
              simp only [Value.slice.injEq, Option.some.injEq, Addr.mk.injEq, and_true] at ez
              obtain ⟨rfl, ezl, rfl⟩ := ez
              clear ezl
              have c1 := hzc q1 _ (cntL_get rk (L.take k) 7 q1 l1)
              have hf1 := HO1.out.free
              obtain ⟨gz, cz, ez, _, hzb2, _, hzc2⟩ := HO2.out.seen (by rw [cntL_length]; omega)
              simp only [Value.slice.injEq, Option.some.injEq, Addr.mk.injEq, and_true] at ez
              obtain ⟨rfl, ezl, rfl⟩ := ez
              clear ezl
              have c2 := hzc2 q2 _ (cntL_get crk (L.take k) 7 q2 l2)
              have hf2 := HO2.out.free
              have HN1 := Lib.hid (HO1.out.put (cntL_length _ _ _).symm q1 (((cntR ((L.take k).map rk) 7 q1 : Nat) : Int) + 1))
              have HZ1 := Lib.hid hzb
              have HZ2 := Lib.hid hzb2
              have k1 : cntR ((L.take k).map rk) 7 q1 ≤ 1000 := Nat.le_trans (cntR_le _ _ _) (by rw [List.length_map, List.length_take]; omega)
              have k2 : cntR ((L.take k).map crk) 7 q2 ≤ 1000 := Nat.le_trans (cntR_le _ _ _) (by rw [List.length_map, List.length_take]; omega)
              generalize cntR ((L.take k).map rk) 7 q1 = n1 at *
              generalize cntR ((L.take k).map crk) 7 q2 = n2 at *
              have HN2 := Lib.hid ((HO2.out.same (w' := wb.setCell ⟨g1, q1, none⟩ (.int .i64 ((n1 : Int) + 1))) (fun b hb _ => heap_setCell_ne _ _ _ _ (by
                simp only [Value.ownBlock, Option.some.injEq] at hb
                subst hb
                first | exact HGH.out | exact fun e => HGH.out e.symm))).put (cntL_length _ _ _).symm q2 ((n2 : Int) + 1))
              have HN3 := Lib.hid ((HN1.out.same (w' := (wb.setCell ⟨g1, q1, none⟩ (.int .i64 ((n1 : Int) + 1))).setCell ⟨g2, q2, none⟩ (.int .i64 ((n2 : Int) + 1))) (fun b hb _ => heap_setCell_ne _ _ _ _ (by
                simp only [Value.ownBlock, Option.some.injEq] at hb
                subst hb
                first | exact HGH.out | exact fun e => HGH.out e.symm))))
              have HBZ := Lib.hid ((HBX.out.setCell (p := ⟨g1, q1, none⟩) HZ1.out (.int .i64 ((n1 : Int) + 1))).setCell (p := ⟨g2, q2, none⟩) HZ2.out (.int .i64 ((n2 : Int) + 1)))
              have hne : (g1 = g2) = False := by simp only [eq_iff_iff, iff_false]; first | exact HGH.out | exact fun e => HGH.out e.symm
              have c2' : (wb.setCell ⟨g1, q1, none⟩ (.int .i64 ((n1 : Int) + 1))).cell? ⟨g2, q2, none⟩ = some (.int .i64 (n2 : Int)) := by
                rw [← c2]; unfold World.cell?; rw [heap_setCell_ne _ _ _ _ (by first | exact HGH.out | exact fun e => HGH.out e.symm)]
              clear hzc hzc2 hne hzb hzb2
              have r1 := HE1.out
              have r2 := HE2.out
              go_wp2_with fail
              refine (HCY.out _ _ HIB.out).mono ?_
              rintro e _ ⟨rfl, rfl⟩
              go_wp2_with fail
              go_roundw
              case rel => exact ⟨k + 1, by omega, by go_num, (by rw [HQ1.out]; exact HN3.out), (by rw [HQ2.out]; exact HN2.out), HBZ.out⟩
              case measure => simp [intOf]; omega
            · obtain rfl : k = L.length := by omega
              rw [List.take_length] at HOR HOC
              go_wp2_with fail
              have HE := Lib.hid (res_of HRES.out)
              go_loopw [96] (fun i wi => ∃ j : Nat, j ≤ 7 ∧ i = .int .i64 j ∧ Own wi w2.heap.size (.slice (some ⟨g1, 0, none⟩) 7 7) (cntL rk L 7) ∧ Own wi w2.heap.size (.slice (some ⟨g2, 0, none⟩) 7 7) (cntL crk L 7) ∧ Below w2.heap.size w2 wi) (fun i _ => 7 - (intOf i).toNat)
              case atStart => exact ⟨0, by omega, rfl, HOR.out, HOC.out, hbi⟩
              case round =>
                clear HOR HOC hbi
                obtain ⟨j, hj, rfl, hoR, hoC, hbi⟩ := hrel
                have HOR := Lib.hid hoR
                have HOC := Lib.hid hoC
                clear hoR hoC
                by_cases hlt : j < 7
                · obtain ⟨gz, cz, ez, _, hzb, _, hzc⟩ := HOR.out.seen (by rw [cntL_length]; omega)
                  simp only [Value.slice.injEq, Option.some.injEq, Addr.mk.injEq, and_true] at ez
                  obtain ⟨rfl, ezl, rfl⟩ := ez
                  clear ezl
                  have c1 := hzc j _ (cntL_get rk L 7 j hlt)
                  have c10 := hzc 0 _ (cntL_get rk L 7 0 (by omega))
                  have hf1 := HOR.out.free
                  obtain ⟨gz, cz, ez, _, hzb2, _, hzc2⟩ := HOC.out.seen (by rw [cntL_length]; omega)
                  simp only [Value.slice.injEq, Option.some.injEq, Addr.mk.injEq, and_true] at ez
                  obtain ⟨rfl, ezl, rfl⟩ := ez
                  clear ezl
                  have c2 := hzc2 j _ (cntL_get crk L 7 j hlt)
                  have c20 := hzc2 0 _ (cntL_get crk L 7 0 (by omega))
                  have hf2 := HOC.out.free
                  have he := HE.out j hlt
                  rw [he.1] at c2
                  skip
                  simp only [Int.cast_ofNat_Int] at c1 c2 c10 c20
                  clear he hzc hzc2
                  generalize cntR (L.map rk) 7 0 = n1 at *
                  generalize cntR (L.map crk) 7 0 = n2 at *
                  have hji : (j : Int) < 7 := by omega
                  go_wp2_with fail
                  go_quiet (fail)
                  go_wp2_with fail
                  go_roundw
                  case rel => exact ⟨j + 1, by omega, by go_num, HOR.out.same (fun _ _ _ => rfl), HOC.out.same (fun _ _ _ => rfl), below_drewN hbi _⟩
                  case measure => simp [intOf]; omega
                · obtain rfl : j = 7 := by omega
                  go_wp2_with fail
                  go_roundw
                  case rel => exact ⟨2, by omega, by omega, by go_num, hbi⟩
                  case measure => simp [intOf]
        · go_wp2_with fail
          clear mk hix
          have hbn : Below w2.heap.size w2 (((wr.drewN (nq + 1)).alloc (Obj.cells (madeCells #[Value.int IntKind.i64 0] 7) 3)).alloc (Obj.cells (madeCells #[Value.int IntKind.i64 0] 7) 3)) := ((below_drewN hbr (nq + 1)).alloc (by simpa using hbr.size) _).alloc (by have := hbr.size; simp; omega) _
          have O1 : Own (((wr.drewN (nq + 1)).alloc (Obj.cells (madeCells #[Value.int IntKind.i64 0] 7) 3)).alloc (Obj.cells (madeCells #[Value.int IntKind.i64 0] 7) 3)) w2.heap.size (.slice (some ⟨wr.heap.size, 0, none⟩) 7 7) (List.replicate 7 0) :=
            (Own.lit (wr.drewN (nq + 1)) w2.heap.size (by simpa using hbr.size) _ (List.replicate 7 0) 7 (by simp) (made_lit _) (by simp)).alloc _
          have O2 : Own (((wr.drewN (nq + 1)).alloc (Obj.cells (madeCells #[Value.int IntKind.i64 0] 7) 3)).alloc (Obj.cells (madeCells #[Value.int IntKind.i64 0] 7) 3)) w2.heap.size (.slice (some ⟨wr.heap.size + 1, 0, none⟩) 7 7) (List.replicate 7 0) := by
            have := Own.lit ((wr.drewN (nq + 1)).alloc (Obj.cells (madeCells #[Value.int IntKind.i64 0] 7) 3)) w2.heap.size (by have := hbr.size; simp; omega) (madeCells #[Value.int IntKind.i64 0] 7) (List.replicate 7 0) 7 (by simp) (made_lit _) (by simp)
            simpa using this
          generalize ((wr.drewN (nq + 1)).alloc (Obj.cells (madeCells #[Value.int IntKind.i64 0] 7) 3)).alloc (Obj.cells (madeCells #[Value.int IntKind.i64 0] 7) 3) = wn at *
          have hgh : wr.heap.size + 1 ≠ wr.heap.size := by omega
          generalize wr.heap.size + 1 = g2 at *
          generalize wr.heap.size = g1 at *
          have HGH := Lib.hid hgh
          have HR0 := Lib.hid (show Own wn w2.heap.size (.slice (some ⟨g2, 0, none⟩) 7 7) (cntL rk (L.take 0) 7) from by rw [cntL_zero]; exact O2)
          have HC0 := Lib.hid (show Own wn w2.heap.size (.slice (some ⟨g1, 0, none⟩) 7 7) (cntL crk (L.take 0) 7) from by rw [cntL_zero]; exact O1)
          have HBN := Lib.hid hbn
          clear O1 O2 hgh hbn hb hbr
          have HRES := Lib.hid (HL.out ▸ res7 n h (by
            have : (n : Int).tmod 7 = 5 := h5
            rw [Int.tmod_eq_emod_of_nonneg (by omega)] at this
            omega))
          go_loopw [48] (fun i wi => ∃ k : Nat, k ≤ L.length ∧ i = .int .i64 k ∧ Own wi w2.heap.size (.slice (some ⟨g2, 0, none⟩) 7 7) (cntL rk (L.take k) 7) ∧ Own wi w2.heap.size (.slice (some ⟨g1, 0, none⟩) 7 7) (cntL crk (L.take k) 7) ∧ Below w2.heap.size w2 wi) (fun i _ => L.length - (intOf i).toNat)
          case atStart => exact ⟨0, by omega, rfl, HR0.out, HC0.out, HBN.out⟩
          case round =>
            obtain ⟨k, hk, rfl, hoR, hoC, hbi⟩ := hrel
            have HOR := Lib.hid hoR
            have HOC := Lib.hid hoC
            clear hoR hoC
            by_cases hlt : k < L.length
            · have hixw := HI.out.keep (TT2.out.trans (hbi.mono TT2.out.size))
              obtain ⟨_, A0, c0, vs0, e0x, _, hel, hrl⟩ := hixw
              simp only [Value.slice.injEq] at e0x
              obtain ⟨rfl, _, rfl⟩ := e0x
              obtain ⟨adx, rfl, hblx, hcellx⟩ := hrl (by omega)
              have lk : k < vs0.length := by rw [hel.1]; exact hlt
              have gk := List.getElem?_eq_getElem lk
              have hcs := hcellx k _ gk
              have hip := (hel.2 k _ _ gk (List.getElem?_eq_getElem hlt)).1
              have hpp := (HPA.out L[k] (List.getElem_mem hlt)).1
              have HS1 := Lib.hid (fun (q : Nat) (hq : rk L[k] % ((7 : Nat) : Int) = q) (hm : q < 7) => cntL_step rk L 7 k hlt (rk L[k]) rfl q hq hm)
              have HS2 := Lib.hid (fun (q : Nat) (hq : crk L[k] % ((7 : Nat) : Int) = q) (hm : q < 7) => cntL_step crk L 7 k hlt (crk L[k]) rfl q hq hm)
              generalize vs0[k] = sv at *
              generalize L[k] = p at *
              have HIP := Lib.hid hip
              have HPP := Lib.hid hpp
              have HRY := Lib.hid (fun v W hW => Rank_yes v p hpp W hW)
              have HCY := Lib.hid (fun v W hW => Crank_yes v p hpp W hW)
              obtain ⟨_, Ap, cp2, rfl, _, _⟩ := hip
              have b1 := tmod_bd (rk p) 7 (by omega)
              have b2 := tmod_bd (crk p) 7 (by omega)
              have e1 := tmod_pos (rk p) 7 (by omega)
              have e2 := tmod_pos (crk p) 7 (by omega)
              simp only [Int.cast_ofNat_Int] at b1 b2 e1 e2
              generalize rk p = x at *
              generalize crk p = y at *
              obtain ⟨q1, hq1⟩ : ∃ q1 : Nat, x % 7 = q1 := ⟨(x % 7).toNat, by omega⟩
              obtain ⟨q2, hq2⟩ : ∃ q2 : Nat, y % 7 = q2 := ⟨(y % 7).toNat, by omega⟩
              have l1 : q1 < 7 := by omega
              have l2 : q2 < 7 := by omega
              have HQ1 := Lib.hid (HS1.out q1 (by simpa using hq1) l1)
              have HQ2 := Lib.hid (HS2.out q2 (by simpa using hq2) l2)
              have HE1 := Lib.hid (show (x.tmod 7 + 7) % 7 = (q1 : Int) by omega)
              have HE2 := Lib.hid (show (y.tmod 7 + 7) % 7 = (q2 : Int) by omega)
              have x1 := b1.1
              have x2 := b1.2
              have y1 := b2.1
              have y2 := b2.2
              clear hel hrl gk lk hcellx hpp b1 b2 e1 e2 hq1 hq2
              go_wp2_with fail
              refine (clone_any _ p _ HIP.out).mono ?_
              rintro e wa ⟨va, rfl, oa, ba⟩
              have HIA := Lib.hid (oa.ints (by have := HPP.out.len; omega))
              have HBA := Lib.hid ba
              clear oa ba hcs
              go_wp2_with fail
              refine (HRY.out _ _ HIA.out).mono ?_
              rintro e _ ⟨rfl, rfl⟩
              go_wp2_with fail
              refine (clone_any _ p _ (HIP.out.keep HBA.out)).mono ?_
              rintro e wb ⟨vb, rfl, ob, bb⟩
              have HIB := Lib.hid (ob.ints (by have := HPP.out.len; omega))
              have HBB := Lib.hid (HBA.out.trans (bb.mono HBA.out.size))
              clear ob bb
              have HBX := Lib.hid (hbi.trans (HBB.out.mono hbi.size))
              have HO1 := Lib.hid (HOR.out.same (fun b _ hlt => HBB.out.block b hlt))
              have HO2 := Lib.hid (HOC.out.same (fun b _ hlt => HBB.out.block b hlt))
              obtain ⟨gz, cz, ez, _, hzb, _, hzc⟩ := HO1.out.seen (by rw [cntL_length]; omega)
              simp only [Value.slice.injEq, Option.some.injEq, Addr.mk.injEq, and_true] at ez
              obtain ⟨rfl, ezl, rfl⟩ := ez
              clear ezl
              have c1 := hzc q1 _ (cntL_get rk (L.take k) 7 q1 l1)
              have hf1 := HO1.out.free
              obtain ⟨gz, cz, ez, _, hzb2, _, hzc2⟩ := HO2.out.seen (by rw [cntL_length]; omega)
              simp only [Value.slice.injEq, Option.some.injEq, Addr.mk.injEq, and_true] at ez
              obtain ⟨rfl, ezl, rfl⟩ := ez
              clear ezl
              have c2 := hzc2 q2 _ (cntL_get crk (L.take k) 7 q2 l2)
              have hf2 := HO2.out.free
              have HN1 := Lib.hid (HO1.out.put (cntL_length _ _ _).symm q1 (((cntR ((L.take k).map rk) 7 q1 : Nat) : Int) + 1))
              have HZ1 := Lib.hid hzb
              have HZ2 := Lib.hid hzb2
              have k1 : cntR ((L.take k).map rk) 7 q1 ≤ 1000 := Nat.le_trans (cntR_le _ _ _) (by rw [List.length_map, List.length_take]; omega)
              have k2 : cntR ((L.take k).map crk) 7 q2 ≤ 1000 := Nat.le_trans (cntR_le _ _ _) (by rw [List.length_map, List.length_take]; omega)
              generalize cntR ((L.take k).map rk) 7 q1 = n1 at *
              generalize cntR ((L.take k).map crk) 7 q2 = n2 at *
              have HN2 := Lib.hid ((HO2.out.same (w' := wb.setCell ⟨g2, q1, none⟩ (.int .i64 ((n1 : Int) + 1))) (fun b hb _ => heap_setCell_ne _ _ _ _ (by
                simp only [Value.ownBlock, Option.some.injEq] at hb
                subst hb
                first | exact HGH.out | exact fun e => HGH.out e.symm))).put (cntL_length _ _ _).symm q2 ((n2 : Int) + 1))
              have HN3 := Lib.hid ((HN1.out.same (w' := (wb.setCell ⟨g2, q1, none⟩ (.int .i64 ((n1 : Int) + 1))).setCell ⟨g1, q2, none⟩ (.int .i64 ((n2 : Int) + 1))) (fun b hb _ => heap_setCell_ne _ _ _ _ (by
                simp only [Value.ownBlock, Option.some.injEq] at hb
                subst hb
                first | exact HGH.out | exact fun e => HGH.out e.symm))))
              have HBZ := Lib.hid ((HBX.out.setCell (p := ⟨g2, q1, none⟩) HZ1.out (.int .i64 ((n1 : Int) + 1))).setCell (p := ⟨g1, q2, none⟩) HZ2.out (.int .i64 ((n2 : Int) + 1)))
              have hne : (g2 = g1) = False := by simp only [eq_iff_iff, iff_false]; first | exact HGH.out | exact fun e => HGH.out e.symm
              have c2' : (wb.setCell ⟨g2, q1, none⟩ (.int .i64 ((n1 : Int) + 1))).cell? ⟨g1, q2, none⟩ = some (.int .i64 (n2 : Int)) := by
                rw [← c2]; unfold World.cell?; rw [heap_setCell_ne _ _ _ _ (by first | exact HGH.out | exact fun e => HGH.out e.symm)]
              clear hzc hzc2 hne hzb hzb2
              have r1 := HE1.out
              have r2 := HE2.out
              go_wp2_with fail
              refine (HCY.out _ _ HIB.out).mono ?_
              rintro e _ ⟨rfl, rfl⟩
              go_wp2_with fail
              go_roundw
              case rel => exact ⟨k + 1, by omega, by go_num, (by rw [HQ1.out]; exact HN3.out), (by rw [HQ2.out]; exact HN2.out), HBZ.out⟩
              case measure => simp [intOf]; omega
            · obtain rfl : k = L.length := by omega
              rw [List.take_length] at HOR HOC
              go_wp2_with fail
              have HE := Lib.hid (res_of HRES.out)
              go_loopw [96] (fun i wi => ∃ j : Nat, j ≤ 7 ∧ i = .int .i64 j ∧ Own wi w2.heap.size (.slice (some ⟨g2, 0, none⟩) 7 7) (cntL rk L 7) ∧ Own wi w2.heap.size (.slice (some ⟨g1, 0, none⟩) 7 7) (cntL crk L 7) ∧ Below w2.heap.size w2 wi) (fun i _ => 7 - (intOf i).toNat)
              case atStart => exact ⟨0, by omega, rfl, HOR.out, HOC.out, hbi⟩
              case round =>
                clear HOR HOC hbi
                obtain ⟨j, hj, rfl, hoR, hoC, hbi⟩ := hrel
                have HOR := Lib.hid hoR
                have HOC := Lib.hid hoC
                clear hoR hoC
                by_cases hlt : j < 7
                · obtain ⟨gz, cz, ez, _, hzb, _, hzc⟩ := HOR.out.seen (by rw [cntL_length]; omega)
                  simp only [Value.slice.injEq, Option.some.injEq, Addr.mk.injEq, and_true] at ez
                  obtain ⟨rfl, ezl, rfl⟩ := ez
                  clear ezl
                  have c1 := hzc j _ (cntL_get rk L 7 j hlt)
                  have c10 := hzc 0 _ (cntL_get rk L 7 0 (by omega))
                  have hf1 := HOR.out.free
                  obtain ⟨gz, cz, ez, _, hzb2, _, hzc2⟩ := HOC.out.seen (by rw [cntL_length]; omega)
                  simp only [Value.slice.injEq, Option.some.injEq, Addr.mk.injEq, and_true] at ez
                  obtain ⟨rfl, ezl, rfl⟩ := ez
                  clear ezl
                  have c2 := hzc2 j _ (cntL_get crk L 7 j hlt)
                  have c20 := hzc2 0 _ (cntL_get crk L 7 0 (by omega))
                  have hf2 := HOC.out.free
                  have he := HE.out j hlt
                  rw [he.1] at c2
                  skip
                  simp only [Int.cast_ofNat_Int] at c1 c2 c10 c20
                  clear he hzc hzc2
                  generalize cntR (L.map rk) 7 0 = n1 at *
                  generalize cntR (L.map crk) 7 0 = n2 at *
                  have hji : (j : Int) < 7 := by omega
                  go_wp2_with fail
                  go_quiet (fail)
                  go_wp2_with fail
                  go_roundw
                  case rel => exact ⟨j + 1, by omega, by go_num, HOR.out.same (fun _ _ _ => rfl), HOC.out.same (fun _ _ _ => rfl), below_drewN hbi _⟩
                  case measure => simp [intOf]; omega
                · obtain rfl : j = 7 := by omega
                  go_wp2_with fail
                  go_roundw
                  case rel => exact ⟨2, by omega, by omega, by go_num, hbi⟩
                  case measure => simp [intOf]
      · have e5 : ((n : Int).tmod 7 == 5) = false := by rw [beq_eq_false_iff_ne]; exact h5
        have e6 : ((n : Int) % 7 != 5) = true := by
          rw [bne_iff_ne]; rw [Int.tmod_eq_emod_of_nonneg (by omega)] at h5; exact h5
        have hix := index7
        go_wp2_with fail
        go_quiet (fail)
        have hb := below_drewN hb nq
        go_wp2_with fail
        go_roundw
        case rel => exact ⟨2, by omega, by omega, by go_num, hb⟩
        case measure => simp [intOf]
    · have hx : wr.cell? ⟨w1.heap.size, 2, none⟩ = some (.int .i64 11) := by simp [World.cell?, hcell]
      clear hcell
      by_cases h5 : (n : Int).tmod 11 = 6
      · have e5 : ((n : Int).tmod 11 == 6) = true := by rw [h5]; rfl
        have hix := index11
        go_wp2_with fail
        go_quiet (fail)
        have hbr := hb
        have hb := below_drewN hb nq
        go_wp2_with fail
        have mk : ∀ W : World, (Instr.makeSlice 33 (.int .i64 11) (.int .i64 11)).run Try.prog W = .ok (.slice (some ⟨W.heap.size, 0, none⟩) 11 11) (W.alloc (.cells (madeCells #[.int .i64 0] 11) 3)) := fun W => make33 10 (by omega) W
        go_region
        · go_wp2_with fail
          clear mk hix
          have hbn : Below w2.heap.size w2 (((wr.drewN (nq + 1)).alloc (Obj.cells (madeCells #[Value.int IntKind.i64 0] 11) 3)).alloc (Obj.cells (madeCells #[Value.int IntKind.i64 0] 11) 3)) := ((below_drewN hbr (nq + 1)).alloc (by simpa using hbr.size) _).alloc (by have := hbr.size; simp; omega) _
          have O1 : Own (((wr.drewN (nq + 1)).alloc (Obj.cells (madeCells #[Value.int IntKind.i64 0] 11) 3)).alloc (Obj.cells (madeCells #[Value.int IntKind.i64 0] 11) 3)) w2.heap.size (.slice (some ⟨wr.heap.size, 0, none⟩) 11 11) (List.replicate 11 0) :=
            (Own.lit (wr.drewN (nq + 1)) w2.heap.size (by simpa using hbr.size) _ (List.replicate 11 0) 11 (by simp) (made_lit _) (by simp)).alloc _
          have O2 : Own (((wr.drewN (nq + 1)).alloc (Obj.cells (madeCells #[Value.int IntKind.i64 0] 11) 3)).alloc (Obj.cells (madeCells #[Value.int IntKind.i64 0] 11) 3)) w2.heap.size (.slice (some ⟨wr.heap.size + 1, 0, none⟩) 11 11) (List.replicate 11 0) := by
            have := Own.lit ((wr.drewN (nq + 1)).alloc (Obj.cells (madeCells #[Value.int IntKind.i64 0] 11) 3)) w2.heap.size (by have := hbr.size; simp; omega) (madeCells #[Value.int IntKind.i64 0] 11) (List.replicate 11 0) 11 (by simp) (made_lit _) (by simp)
            simpa using this
          generalize ((wr.drewN (nq + 1)).alloc (Obj.cells (madeCells #[Value.int IntKind.i64 0] 11) 3)).alloc (Obj.cells (madeCells #[Value.int IntKind.i64 0] 11) 3) = wn at *
          have hgh : wr.heap.size + 1 ≠ wr.heap.size := by omega
          generalize wr.heap.size + 1 = g2 at *
          generalize wr.heap.size = g1 at *
          have HGH := Lib.hid hgh
          have HR0 := Lib.hid (show Own wn w2.heap.size (.slice (some ⟨g1, 0, none⟩) 11 11) (cntL rk (L.take 0) 11) from by rw [cntL_zero]; exact O1)
          have HC0 := Lib.hid (show Own wn w2.heap.size (.slice (some ⟨g2, 0, none⟩) 11 11) (cntL crk (L.take 0) 11) from by rw [cntL_zero]; exact O2)
          have HBN := Lib.hid hbn
          clear O1 O2 hgh hbn hb hbr
          have HRES := Lib.hid (HL.out ▸ res11 n h (by
            have : (n : Int).tmod 11 = 6 := h5
            rw [Int.tmod_eq_emod_of_nonneg (by omega)] at this
            omega))
          go_loopw [48] (fun i wi => ∃ k : Nat, k ≤ L.length ∧ i = .int .i64 k ∧ Own wi w2.heap.size (.slice (some ⟨g1, 0, none⟩) 11 11) (cntL rk (L.take k) 11) ∧ Own wi w2.heap.size (.slice (some ⟨g2, 0, none⟩) 11 11) (cntL crk (L.take k) 11) ∧ Below w2.heap.size w2 wi) (fun i _ => L.length - (intOf i).toNat)
          case atStart => exact ⟨0, by omega, rfl, HR0.out, HC0.out, HBN.out⟩
          case round =>
            obtain ⟨k, hk, rfl, hoR, hoC, hbi⟩ := hrel
            have HOR := Lib.hid hoR
            have HOC := Lib.hid hoC
            clear hoR hoC
            by_cases hlt : k < L.length
            · have hixw := HI.out.keep (TT2.out.trans (hbi.mono TT2.out.size))
              obtain ⟨_, A0, c0, vs0, e0x, _, hel, hrl⟩ := hixw
              simp only [Value.slice.injEq] at e0x
              obtain ⟨rfl, _, rfl⟩ := e0x
              obtain ⟨adx, rfl, hblx, hcellx⟩ := hrl (by omega)
              have lk : k < vs0.length := by rw [hel.1]; exact hlt
              have gk := List.getElem?_eq_getElem lk
              have hcs := hcellx k _ gk
              have hip := (hel.2 k _ _ gk (List.getElem?_eq_getElem hlt)).1
              have hpp := (HPA.out L[k] (List.getElem_mem hlt)).1
              have HS1 := Lib.hid (fun (q : Nat) (hq : rk L[k] % ((11 : Nat) : Int) = q) (hm : q < 11) => cntL_step rk L 11 k hlt (rk L[k]) rfl q hq hm)
              have HS2 := Lib.hid (fun (q : Nat) (hq : crk L[k] % ((11 : Nat) : Int) = q) (hm : q < 11) => cntL_step crk L 11 k hlt (crk L[k]) rfl q hq hm)
              generalize vs0[k] = sv at *
              generalize L[k] = p at *
              have HIP := Lib.hid hip
              have HPP := Lib.hid hpp
              have HRY := Lib.hid (fun v W hW => Rank_yes v p hpp W hW)
              have HCY := Lib.hid (fun v W hW => Crank_yes v p hpp W hW)
              obtain ⟨_, Ap, cp2, rfl, _, _⟩ := hip
              have b1 := tmod_bd (rk p) 11 (by omega)
              have b2 := tmod_bd (crk p) 11 (by omega)
              have e1 := tmod_pos (rk p) 11 (by omega)
              have e2 := tmod_pos (crk p) 11 (by omega)
              simp only [Int.cast_ofNat_Int] at b1 b2 e1 e2
              generalize rk p = x at *
              generalize crk p = y at *
              obtain ⟨q1, hq1⟩ : ∃ q1 : Nat, x % 11 = q1 := ⟨(x % 11).toNat, by omega⟩
              obtain ⟨q2, hq2⟩ : ∃ q2 : Nat, y % 11 = q2 := ⟨(y % 11).toNat, by omega⟩
              have l1 : q1 < 11 := by omega
              have l2 : q2 < 11 := by omega
              have HQ1 := Lib.hid (HS1.out q1 (by simpa using hq1) l1)
              have HQ2 := Lib.hid (HS2.out q2 (by simpa using hq2) l2)
              have HE1 := Lib.hid (show (x.tmod 11 + 11) % 11 = (q1 : Int) by omega)
              have HE2 := Lib.hid (show (y.tmod 11 + 11) % 11 = (q2 : Int) by omega)
              have x1 := b1.1
              have x2 := b1.2
              have y1 := b2.1
              have y2 := b2.2
              clear hel hrl gk lk hcellx hpp b1 b2 e1 e2 hq1 hq2
              go_wp2_with fail
              refine (clone_any _ p _ HIP.out).mono ?_
              rintro e wa ⟨va, rfl, oa, ba⟩
              have HIA := Lib.hid (oa.ints (by have := HPP.out.len; omega))
              have HBA := Lib.hid ba
              clear oa ba hcs
              go_wp2_with fail
              refine (HRY.out _ _ HIA.out).mono ?_
              rintro e _ ⟨rfl, rfl⟩
              go_wp2_with fail
              refine (clone_any _ p _ (HIP.out.keep HBA.out)).mono ?_
              rintro e wb ⟨vb, rfl, ob, bb⟩
              have HIB := Lib.hid (ob.ints (by have := HPP.out.len; omega))
              have HBB := Lib.hid (HBA.out.trans (bb.mono HBA.out.size))
              clear ob bb
              have HBX := Lib.hid (hbi.trans (HBB.out.mono hbi.size))
              have HO1 := Lib.hid (HOR.out.same (fun b _ hlt => HBB.out.block b hlt))
              have HO2 := Lib.hid (HOC.out.same (fun b _ hlt => HBB.out.block b hlt))
              obtain ⟨gz, cz, ez, _, hzb, _, hzc⟩ := HO1.out.seen (by rw [cntL_length]; omega)
              simp only [Value.slice.injEq, Option.some.injEq, Addr.mk.injEq, and_true] at ez
              obtain ⟨rfl, ezl, rfl⟩ := ez
              clear ezl
              have c1 := hzc q1 _ (cntL_get rk (L.take k) 11 q1 l1)
              have hf1 := HO1.out.free
              obtain ⟨gz, cz, ez, _, hzb2, _, hzc2⟩ := HO2.out.seen (by rw [cntL_length]; omega)
              simp only [Value.slice.injEq, Option.some.injEq, Addr.mk.injEq, and_true] at ez
              obtain ⟨rfl, ezl, rfl⟩ := ez
              clear ezl
              have c2 := hzc2 q2 _ (cntL_get crk (L.take k) 11 q2 l2)
              have hf2 := HO2.out.free
              have HN1 := Lib.hid (HO1.out.put (cntL_length _ _ _).symm q1 (((cntR ((L.take k).map rk) 11 q1 : Nat) : Int) + 1))
              have HZ1 := Lib.hid hzb
              have HZ2 := Lib.hid hzb2
              have k1 : cntR ((L.take k).map rk) 11 q1 ≤ 1000 := Nat.le_trans (cntR_le _ _ _) (by rw [List.length_map, List.length_take]; omega)
              have k2 : cntR ((L.take k).map crk) 11 q2 ≤ 1000 := Nat.le_trans (cntR_le _ _ _) (by rw [List.length_map, List.length_take]; omega)
              generalize cntR ((L.take k).map rk) 11 q1 = n1 at *
              generalize cntR ((L.take k).map crk) 11 q2 = n2 at *
              have HN2 := Lib.hid ((HO2.out.same (w' := wb.setCell ⟨g1, q1, none⟩ (.int .i64 ((n1 : Int) + 1))) (fun b hb _ => heap_setCell_ne _ _ _ _ (by
                simp only [Value.ownBlock, Option.some.injEq] at hb
                subst hb
                first | exact HGH.out | exact fun e => HGH.out e.symm))).put (cntL_length _ _ _).symm q2 ((n2 : Int) + 1))
              have HN3 := Lib.hid ((HN1.out.same (w' := (wb.setCell ⟨g1, q1, none⟩ (.int .i64 ((n1 : Int) + 1))).setCell ⟨g2, q2, none⟩ (.int .i64 ((n2 : Int) + 1))) (fun b hb _ => heap_setCell_ne _ _ _ _ (by
                simp only [Value.ownBlock, Option.some.injEq] at hb
                subst hb
                first | exact HGH.out | exact fun e => HGH.out e.symm))))
              have HBZ := Lib.hid ((HBX.out.setCell (p := ⟨g1, q1, none⟩) HZ1.out (.int .i64 ((n1 : Int) + 1))).setCell (p := ⟨g2, q2, none⟩) HZ2.out (.int .i64 ((n2 : Int) + 1)))
              have hne : (g1 = g2) = False := by simp only [eq_iff_iff, iff_false]; first | exact HGH.out | exact fun e => HGH.out e.symm
              have c2' : (wb.setCell ⟨g1, q1, none⟩ (.int .i64 ((n1 : Int) + 1))).cell? ⟨g2, q2, none⟩ = some (.int .i64 (n2 : Int)) := by
                rw [← c2]; unfold World.cell?; rw [heap_setCell_ne _ _ _ _ (by first | exact HGH.out | exact fun e => HGH.out e.symm)]
              clear hzc hzc2 hne hzb hzb2
              have r1 := HE1.out
              have r2 := HE2.out
              go_wp2_with fail
              refine (HCY.out _ _ HIB.out).mono ?_
              rintro e _ ⟨rfl, rfl⟩
              go_wp2_with fail
              go_roundw
              case rel => exact ⟨k + 1, by omega, by go_num, (by rw [HQ1.out]; exact HN3.out), (by rw [HQ2.out]; exact HN2.out), HBZ.out⟩
              case measure => simp [intOf]; omega
            · obtain rfl : k = L.length := by omega
              rw [List.take_length] at HOR HOC
              go_wp2_with fail
              have HE := Lib.hid (res_of HRES.out)
              go_loopw [96] (fun i wi => ∃ j : Nat, j ≤ 11 ∧ i = .int .i64 j ∧ Own wi w2.heap.size (.slice (some ⟨g1, 0, none⟩) 11 11) (cntL rk L 11) ∧ Own wi w2.heap.size (.slice (some ⟨g2, 0, none⟩) 11 11) (cntL crk L 11) ∧ Below w2.heap.size w2 wi) (fun i _ => 11 - (intOf i).toNat)
              case atStart => exact ⟨0, by omega, rfl, HOR.out, HOC.out, hbi⟩
              case round =>
                clear HOR HOC hbi
                obtain ⟨j, hj, rfl, hoR, hoC, hbi⟩ := hrel
                have HOR := Lib.hid hoR
                have HOC := Lib.hid hoC
                clear hoR hoC
                by_cases hlt : j < 11
                · obtain ⟨gz, cz, ez, _, hzb, _, hzc⟩ := HOR.out.seen (by rw [cntL_length]; omega)
                  simp only [Value.slice.injEq, Option.some.injEq, Addr.mk.injEq, and_true] at ez
                  obtain ⟨rfl, ezl, rfl⟩ := ez
                  clear ezl
                  have c1 := hzc j _ (cntL_get rk L 11 j hlt)
                  have c10 := hzc 0 _ (cntL_get rk L 11 0 (by omega))
                  have hf1 := HOR.out.free
                  obtain ⟨gz, cz, ez, _, hzb2, _, hzc2⟩ := HOC.out.seen (by rw [cntL_length]; omega)
                  simp only [Value.slice.injEq, Option.some.injEq, Addr.mk.injEq, and_true] at ez
                  obtain ⟨rfl, ezl, rfl⟩ := ez
                  clear ezl
                  have c2 := hzc2 j _ (cntL_get crk L 11 j hlt)
                  have c20 := hzc2 0 _ (cntL_get crk L 11 0 (by omega))
                  have hf2 := HOC.out.free
                  have he := HE.out j hlt
                  rw [he.1] at c2
                  skip
                  simp only [Int.cast_ofNat_Int] at c1 c2 c10 c20
                  clear he hzc hzc2
                  generalize cntR (L.map rk) 11 0 = n1 at *
                  generalize cntR (L.map crk) 11 0 = n2 at *
                  have hji : (j : Int) < 11 := by omega
                  go_wp2_with fail
                  go_quiet (fail)
                  go_wp2_with fail
                  go_roundw
                  case rel => exact ⟨j + 1, by omega, by go_num, HOR.out.same (fun _ _ _ => rfl), HOC.out.same (fun _ _ _ => rfl), below_drewN hbi _⟩
                  case measure => simp [intOf]; omega
                · obtain rfl : j = 11 := by omega
                  go_wp2_with fail
                  go_roundw
                  case rel => exact ⟨3, by omega, by omega, by go_num, hbi⟩
                  case measure => simp [intOf]
        · go_wp2_with fail
          clear mk hix
          have hbn : Below w2.heap.size w2 (((wr.drewN (nq + 1)).alloc (Obj.cells (madeCells #[Value.int IntKind.i64 0] 11) 3)).alloc (Obj.cells (madeCells #[Value.int IntKind.i64 0] 11) 3)) := ((below_drewN hbr (nq + 1)).alloc (by simpa using hbr.size) _).alloc (by have := hbr.size; simp; omega) _
          have O1 : Own (((wr.drewN (nq + 1)).alloc (Obj.cells (madeCells #[Value.int IntKind.i64 0] 11) 3)).alloc (Obj.cells (madeCells #[Value.int IntKind.i64 0] 11) 3)) w2.heap.size (.slice (some ⟨wr.heap.size, 0, none⟩) 11 11) (List.replicate 11 0) :=
            (Own.lit (wr.drewN (nq + 1)) w2.heap.size (by simpa using hbr.size) _ (List.replicate 11 0) 11 (by simp) (made_lit _) (by simp)).alloc _
          have O2 : Own (((wr.drewN (nq + 1)).alloc (Obj.cells (madeCells #[Value.int IntKind.i64 0] 11) 3)).alloc (Obj.cells (madeCells #[Value.int IntKind.i64 0] 11) 3)) w2.heap.size (.slice (some ⟨wr.heap.size + 1, 0, none⟩) 11 11) (List.replicate 11 0) := by
            have := Own.lit ((wr.drewN (nq + 1)).alloc (Obj.cells (madeCells #[Value.int IntKind.i64 0] 11) 3)) w2.heap.size (by have := hbr.size; simp; omega) (madeCells #[Value.int IntKind.i64 0] 11) (List.replicate 11 0) 11 (by simp) (made_lit _) (by simp)
            simpa using this
          generalize ((wr.drewN (nq + 1)).alloc (Obj.cells (madeCells #[Value.int IntKind.i64 0] 11) 3)).alloc (Obj.cells (madeCells #[Value.int IntKind.i64 0] 11) 3) = wn at *
          have hgh : wr.heap.size + 1 ≠ wr.heap.size := by omega
          generalize wr.heap.size + 1 = g2 at *
          generalize wr.heap.size = g1 at *
          have HGH := Lib.hid hgh
          have HR0 := Lib.hid (show Own wn w2.heap.size (.slice (some ⟨g2, 0, none⟩) 11 11) (cntL rk (L.take 0) 11) from by rw [cntL_zero]; exact O2)
          have HC0 := Lib.hid (show Own wn w2.heap.size (.slice (some ⟨g1, 0, none⟩) 11 11) (cntL crk (L.take 0) 11) from by rw [cntL_zero]; exact O1)
          have HBN := Lib.hid hbn
          clear O1 O2 hgh hbn hb hbr
          have HRES := Lib.hid (HL.out ▸ res11 n h (by
            have : (n : Int).tmod 11 = 6 := h5
            rw [Int.tmod_eq_emod_of_nonneg (by omega)] at this
            omega))
          go_loopw [48] (fun i wi => ∃ k : Nat, k ≤ L.length ∧ i = .int .i64 k ∧ Own wi w2.heap.size (.slice (some ⟨g2, 0, none⟩) 11 11) (cntL rk (L.take k) 11) ∧ Own wi w2.heap.size (.slice (some ⟨g1, 0, none⟩) 11 11) (cntL crk (L.take k) 11) ∧ Below w2.heap.size w2 wi) (fun i _ => L.length - (intOf i).toNat)
          case atStart => exact ⟨0, by omega, rfl, HR0.out, HC0.out, HBN.out⟩
          case round =>
            obtain ⟨k, hk, rfl, hoR, hoC, hbi⟩ := hrel
            have HOR := Lib.hid hoR
            have HOC := Lib.hid hoC
            clear hoR hoC
            by_cases hlt : k < L.length
            · have hixw := HI.out.keep (TT2.out.trans (hbi.mono TT2.out.size))
              obtain ⟨_, A0, c0, vs0, e0x, _, hel, hrl⟩ := hixw
              simp only [Value.slice.injEq] at e0x
              obtain ⟨rfl, _, rfl⟩ := e0x
              obtain ⟨adx, rfl, hblx, hcellx⟩ := hrl (by omega)
              have lk : k < vs0.length := by rw [hel.1]; exact hlt
              have gk := List.getElem?_eq_getElem lk
              have hcs := hcellx k _ gk
              have hip := (hel.2 k _ _ gk (List.getElem?_eq_getElem hlt)).1
              have hpp := (HPA.out L[k] (List.getElem_mem hlt)).1
              have HS1 := Lib.hid (fun (q : Nat) (hq : rk L[k] % ((11 : Nat) : Int) = q) (hm : q < 11) => cntL_step rk L 11 k hlt (rk L[k]) rfl q hq hm)
              have HS2 := Lib.hid (fun (q : Nat) (hq : crk L[k] % ((11 : Nat) : Int) = q) (hm : q < 11) => cntL_step crk L 11 k hlt (crk L[k]) rfl q hq hm)
              generalize vs0[k] = sv at *
              generalize L[k] = p at *
              have HIP := Lib.hid hip
              have HPP := Lib.hid hpp
              have HRY := Lib.hid (fun v W hW => Rank_yes v p hpp W hW)
              have HCY := Lib.hid (fun v W hW => Crank_yes v p hpp W hW)
              obtain ⟨_, Ap, cp2, rfl, _, _⟩ := hip
              have b1 := tmod_bd (rk p) 11 (by omega)
              have b2 := tmod_bd (crk p) 11 (by omega)
              have e1 := tmod_pos (rk p) 11 (by omega)
              have e2 := tmod_pos (crk p) 11 (by omega)
              simp only [Int.cast_ofNat_Int] at b1 b2 e1 e2
              generalize rk p = x at *
              generalize crk p = y at *
              obtain ⟨q1, hq1⟩ : ∃ q1 : Nat, x % 11 = q1 := ⟨(x % 11).toNat, by omega⟩
              obtain ⟨q2, hq2⟩ : ∃ q2 : Nat, y % 11 = q2 := ⟨(y % 11).toNat, by omega⟩
              have l1 : q1 < 11 := by omega
              have l2 : q2 < 11 := by omega
              have HQ1 := Lib.hid (HS1.out q1 (by simpa using hq1) l1)
              have HQ2 := Lib.hid (HS2.out q2 (by simpa using hq2) l2)
              have HE1 := Lib.hid (show (x.tmod 11 + 11) % 11 = (q1 : Int) by omega)
              have HE2 := Lib.hid (show (y.tmod 11 + 11) % 11 = (q2 : Int) by omega)
              have x1 := b1.1
              have x2 := b1.2
              have y1 := b2.1
              have y2 := b2.2
              clear hel hrl gk lk hcellx hpp b1 b2 e1 e2 hq1 hq2
              go_wp2_with fail
              refine (clone_any _ p _ HIP.out).mono ?_
              rintro e wa ⟨va, rfl, oa, ba⟩
              have HIA := Lib.hid (oa.ints (by have := HPP.out.len; omega))
              have HBA := Lib.hid ba
              clear oa ba hcs
              go_wp2_with fail
              refine (HRY.out _ _ HIA.out).mono ?_
              rintro e _ ⟨rfl, rfl⟩
              go_wp2_with fail
              refine (clone_any _ p _ (HIP.out.keep HBA.out)).mono ?_
              rintro e wb ⟨vb, rfl, ob, bb⟩
              have HIB := Lib.hid (ob.ints (by have := HPP.out.len; omega))
              have HBB := Lib.hid (HBA.out.trans (bb.mono HBA.out.size))
              clear ob bb
              have HBX := Lib.hid (hbi.trans (HBB.out.mono hbi.size))
              have HO1 := Lib.hid (HOR.out.same (fun b _ hlt => HBB.out.block b hlt))
              have HO2 := Lib.hid (HOC.out.same (fun b _ hlt => HBB.out.block b hlt))
              obtain ⟨gz, cz, ez, _, hzb, _, hzc⟩ := HO1.out.seen (by rw [cntL_length]; omega)
              simp only [Value.slice.injEq, Option.some.injEq, Addr.mk.injEq, and_true] at ez
              obtain ⟨rfl, ezl, rfl⟩ := ez
              clear ezl
              have c1 := hzc q1 _ (cntL_get rk (L.take k) 11 q1 l1)
              have hf1 := HO1.out.free
              obtain ⟨gz, cz, ez, _, hzb2, _, hzc2⟩ := HO2.out.seen (by rw [cntL_length]; omega)
              simp only [Value.slice.injEq, Option.some.injEq, Addr.mk.injEq, and_true] at ez
              obtain ⟨rfl, ezl, rfl⟩ := ez
              clear ezl
              have c2 := hzc2 q2 _ (cntL_get crk (L.take k) 11 q2 l2)
              have hf2 := HO2.out.free
              have HN1 := Lib.hid (HO1.out.put (cntL_length _ _ _).symm q1 (((cntR ((L.take k).map rk) 11 q1 : Nat) : Int) + 1))
              have HZ1 := Lib.hid hzb
              have HZ2 := Lib.hid hzb2
              have k1 : cntR ((L.take k).map rk) 11 q1 ≤ 1000 := Nat.le_trans (cntR_le _ _ _) (by rw [List.length_map, List.length_take]; omega)
              have k2 : cntR ((L.take k).map crk) 11 q2 ≤ 1000 := Nat.le_trans (cntR_le _ _ _) (by rw [List.length_map, List.length_take]; omega)
              generalize cntR ((L.take k).map rk) 11 q1 = n1 at *
              generalize cntR ((L.take k).map crk) 11 q2 = n2 at *
              have HN2 := Lib.hid ((HO2.out.same (w' := wb.setCell ⟨g2, q1, none⟩ (.int .i64 ((n1 : Int) + 1))) (fun b hb _ => heap_setCell_ne _ _ _ _ (by
                simp only [Value.ownBlock, Option.some.injEq] at hb
                subst hb
                first | exact HGH.out | exact fun e => HGH.out e.symm))).put (cntL_length _ _ _).symm q2 ((n2 : Int) + 1))
              have HN3 := Lib.hid ((HN1.out.same (w' := (wb.setCell ⟨g2, q1, none⟩ (.int .i64 ((n1 : Int) + 1))).setCell ⟨g1, q2, none⟩ (.int .i64 ((n2 : Int) + 1))) (fun b hb _ => heap_setCell_ne _ _ _ _ (by
                simp only [Value.ownBlock, Option.some.injEq] at hb
                subst hb
                first | exact HGH.out | exact fun e => HGH.out e.symm))))
              have HBZ := Lib.hid ((HBX.out.setCell (p := ⟨g2, q1, none⟩) HZ1.out (.int .i64 ((n1 : Int) + 1))).setCell (p := ⟨g1, q2, none⟩) HZ2.out (.int .i64 ((n2 : Int) + 1)))
              have hne : (g2 = g1) = False := by simp only [eq_iff_iff, iff_false]; first | exact HGH.out | exact fun e => HGH.out e.symm
              have c2' : (wb.setCell ⟨g2, q1, none⟩ (.int .i64 ((n1 : Int) + 1))).cell? ⟨g1, q2, none⟩ = some (.int .i64 (n2 : Int)) := by
                rw [← c2]; unfold World.cell?; rw [heap_setCell_ne _ _ _ _ (by first | exact HGH.out | exact fun e => HGH.out e.symm)]
              clear hzc hzc2 hne hzb hzb2
              have r1 := HE1.out
              have r2 := HE2.out
              go_wp2_with fail
              refine (HCY.out _ _ HIB.out).mono ?_
              rintro e _ ⟨rfl, rfl⟩
              go_wp2_with fail
              go_roundw
              case rel => exact ⟨k + 1, by omega, by go_num, (by rw [HQ1.out]; exact HN3.out), (by rw [HQ2.out]; exact HN2.out), HBZ.out⟩
              case measure => simp [intOf]; omega
            · obtain rfl : k = L.length := by omega
              rw [List.take_length] at HOR HOC
              go_wp2_with fail
              have HE := Lib.hid (res_of HRES.out)
              go_loopw [96] (fun i wi => ∃ j : Nat, j ≤ 11 ∧ i = .int .i64 j ∧ Own wi w2.heap.size (.slice (some ⟨g2, 0, none⟩) 11 11) (cntL rk L 11) ∧ Own wi w2.heap.size (.slice (some ⟨g1, 0, none⟩) 11 11) (cntL crk L 11) ∧ Below w2.heap.size w2 wi) (fun i _ => 11 - (intOf i).toNat)
              case atStart => exact ⟨0, by omega, rfl, HOR.out, HOC.out, hbi⟩
              case round =>
                clear HOR HOC hbi
                obtain ⟨j, hj, rfl, hoR, hoC, hbi⟩ := hrel
                have HOR := Lib.hid hoR
                have HOC := Lib.hid hoC
                clear hoR hoC
                by_cases hlt : j < 11
                · obtain ⟨gz, cz, ez, _, hzb, _, hzc⟩ := HOR.out.seen (by rw [cntL_length]; omega)
                  simp only [Value.slice.injEq, Option.some.injEq, Addr.mk.injEq, and_true] at ez
                  obtain ⟨rfl, ezl, rfl⟩ := ez
                  clear ezl
                  have c1 := hzc j _ (cntL_get rk L 11 j hlt)
                  have c10 := hzc 0 _ (cntL_get rk L 11 0 (by omega))
                  have hf1 := HOR.out.free
                  obtain ⟨gz, cz, ez, _, hzb2, _, hzc2⟩ := HOC.out.seen (by rw [cntL_length]; omega)
                  simp only [Value.slice.injEq, Option.some.injEq, Addr.mk.injEq, and_true] at ez
                  obtain ⟨rfl, ezl, rfl⟩ := ez
                  clear ezl
                  have c2 := hzc2 j _ (cntL_get crk L 11 j hlt)
                  have c20 := hzc2 0 _ (cntL_get crk L 11 0 (by omega))
                  have hf2 := HOC.out.free
                  have he := HE.out j hlt
                  rw [he.1] at c2
                  skip
                  simp only [Int.cast_ofNat_Int] at c1 c2 c10 c20
                  clear he hzc hzc2
                  generalize cntR (L.map rk) 11 0 = n1 at *
                  generalize cntR (L.map crk) 11 0 = n2 at *
                  have hji : (j : Int) < 11 := by omega
                  go_wp2_with fail
                  go_quiet (fail)
                  go_wp2_with fail
                  go_roundw
                  case rel => exact ⟨j + 1, by omega, by go_num, HOR.out.same (fun _ _ _ => rfl), HOC.out.same (fun _ _ _ => rfl), below_drewN hbi _⟩
                  case measure => simp [intOf]; omega
                · obtain rfl : j = 11 := by omega
                  go_wp2_with fail
                  go_roundw
                  case rel => exact ⟨3, by omega, by omega, by go_num, hbi⟩
                  case measure => simp [intOf]
      · have e5 : ((n : Int).tmod 11 == 6) = false := by rw [beq_eq_false_iff_ne]; exact h5
        have e6 : ((n : Int) % 11 != 6) = true := by
          rw [bne_iff_ne]; rw [Int.tmod_eq_emod_of_nonneg (by omega)] at h5; exact h5
        have hix := index11
        go_wp2_with fail
        go_quiet (fail)
        have hb := below_drewN hb nq
        go_wp2_with fail
        go_roundw
        case rel => exact ⟨3, by omega, by omega, by go_num, hb⟩
        case measure => simp [intOf]
    · clear hcell
      go_wp2_with fail
      refine (Count_ok n (by omega) _).mono ?_
      rintro e wc ⟨rfl, bc⟩
      rw [HV.out]
      have hbc := hb.trans (bc.mono hb.size)
      clear bc
      go_wp2_with fail
      (with_reducible refine (awake_any _).mono ?_)
      rintro e wz ⟨rfl, bz⟩
      have hbz := hbc.trans (bz.mono hbc.size)
      go_wp2_with fail
      go_ret
      exact ⟨rfl, TT3.out.trans (hbz.mono TT3.out.size)⟩
theorem partsResidues_walk (w : World) (n : Int) (_ : -9223372036854775808 ≤ n ∧ n ≤ 9223372036854775807) :
    Calls Try.prog 8 #[.int .i64 n] w fun e w' => e = .returned (.bool true) ∧ Below w.heap.size w w' := by
  by_cases h : 0 ≤ n ∧ n ≤ 20
  · obtain ⟨k, rfl⟩ := Int.eq_ofNat_of_zero_le h.1
    exact partsResidues_yes k (by omega) w
  · exact partsResidues_no n h w
end Go.Proofs.Ytpgpkgnljoedaaa
