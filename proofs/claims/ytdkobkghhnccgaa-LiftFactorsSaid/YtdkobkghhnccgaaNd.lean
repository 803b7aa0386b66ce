/- Walk: the Newton polygon of lift. -/
import Derived.Test.YtdkobkghhnccgaaNe
namespace Go.Proofs.Ytdkobkghhnccgaa
open Go.RowKit
open Np (frc Red ord Prm fle flt cf nz od Sides Sd Pg)
theorem field71_2 (a b c d : Int) (w : World) : (Instr.field 71 (.agg #[.int .i64 a, .int .i64 b, .int .i64 c, .int .i64 d]) 2).run Try.prog w = .ok (.agg #[.int .i64 c, .int .i64 d]) w := by kernel_rfl
def cmpF (a b c d : Int) : Int := cmpI ((frc a b).1 * (frc c d).2) ((frc c d).1 * (frc a b).2)
theorem cmpF_le (a b c d : Int) (hb : 0 < b) (hd : 0 < d) : cmpF a b c d ≤ 0 ↔ a * d ≤ c * b := by
  unfold cmpF
  rw [cmpI_le, ← Np.fle_frc a b c d hb hd]
  exact Iff.rfl
theorem compare_sides (a b c d : Int) (ha : a.natAbs ≤ 1000) (hb : 0 < b) (hb2 : b ≤ 1000) (hc : c.natAbs ≤ 1000) (hd : 0 < d) (hd2 : d ≤ 1000) (w : World) :
    Calls Try.prog 74 #[.agg #[.int .i64 (frc a b).1, .int .i64 (frc a b).2], .agg #[.int .i64 (frc c d).1, .int .i64 (frc c d).2]] w fun e w' => e = .returned (.int .i64 (cmpF a b c d)) ∧ Below w.heap.size w w' := by
  have h1 := Np.frc_spec a b hb
  have h2 := Np.frc_spec c d hd
  have := h1.1.1
  have := h2.1.1
  exact compare_any _ _ _ _ (by omega) (by omega) (by omega) (by omega) w
theorem px_get {X : List (Nat × Nat)} {j : Nat} (h : j < X.length) : X[j]? = some ((px X j, (X.getD j (0, 0)).2)) := by
  unfold px; rw [List.getElem?_eq_getElem h, List.getD_eq_getElem?_getD, List.getElem?_eq_getElem h]; rfl
/-- the cells of a point -/
theorem Rw.point {w : World} {X0 g n c : Nat} {X : List (Nat × Nat)} (h : Rw EC 98 w X0 (.slice (some ⟨g, 0, none⟩) n c) X) {j : Nat} (hj : j < X.length) :
    w.cell? ⟨g, j * 2, none⟩ = some (.int .i64 (px X j)) ∧ w.cell? ⟨g, j * 2 + 1, none⟩ = some (.int .i64 (py X j)) :=
  ⟨h.cell (px_get hj) (i := 0) rfl, h.cell (px_get hj) (i := 1) rfl⟩
theorem Own.keepB {w w' : World} {base : Nat} {v : Value} {xs : List Int} (h : Own w base v xs) (hb : Below w.heap.size w w') : Own w' base v xs := by
  refine ⟨h.1, ?_⟩
  rcases h.2 with hn | ⟨g, cap, cur, rfl, hb0, hg, rest⟩
  · exact .inl hn
  · refine .inr ⟨g, cap, cur, rfl, hb0, ?_, rest⟩
    rw [hb.block g (Array.getElem?_eq_some_iff.1 hg).1]
    exact hg
set_option maxRecDepth 100000 in
set_option maxHeartbeats 16000000 in
theorem polygon_any (base : Nat) (v : Value) (f : List Int) (hf : Poly f) (P : Nat) (hP : isP P) (w : World) (hv : Own w base v f) :
    Calls Try.prog 64 #[v, .int .i64 P] w fun e w' => ∃ v' L, e = .returned v' ∧ Rw ES 71 w' w.heap.size v' L ∧ Pg P f L ∧ Below w.heap.size w w' := by
  have HV := Lib.hid hv
  have HF := Lib.hid hf
  have hl2 := hf.2.1
  have hl7 := hf.2.2.1
  obtain ⟨g, c, rfl, hcap, hg1, hg2, _⟩ := hv.seen (by omega)
  have h2 := hP.pos
  have h13 := leP hP
  clear hv
  go_enter Try.func64, Try.ntmps64
  go_wp2_with fail
  go_loopw [5, 14] (fun p i wr => ∃ k : Nat, k ≤ f.length ∧ i = .int .i64 k ∧ Rw EC 98 wr w.heap.size p (pts P f k) ∧ Below w.heap.size w wr) (fun _ i _ => f.length - (intOf i).toNat)
  case atStart => exact ⟨0, by omega, rfl, Rw.nil _ _, Below.refl _ _⟩
  case round =>
    obtain ⟨k, hk, rfl, hp, hb⟩ := hrel
    obtain ⟨Ap, cp, rfl⟩ := hp.form
    have HPT := Lib.hid hp
    have hpl : (pts P f k).length ≤ k := by rw [pts_length]; exact nzs_le f k
    clear hp
    by_cases hlt : k < f.length
    · have hc := Own.cells (Own.keepB HV.out hb) k hlt
      have hcb := HF.out.1 k hlt
      by_cases hz : f.getD k 0 = 0
      · have HPN := Lib.hid (pts_no (P := P) hz)
        have hz1 : (f.getD k 0 != 0) = false := by rw [bne_eq_false_iff_eq]; exact hz
        clear hz
        generalize f.getD k 0 = ck at *
        go_wp2_with fail
        go_roundw
        case rel => exact ⟨k + 1, by omega, by go_num, by rw [HPN.out]; exact HPT.out, hb⟩
        case measure => simp [intOf]; omega
      · have HPN := Lib.hid (pts_yes (P := P) hz)
        have hz1 : (f.getD k 0 != 0) = true := by rw [bne_iff_ne]; exact hz
        have HO := Lib.hid (fun W => order_any (f.getD k 0) P hP hz (by omega) W)
        generalize f.getD k 0 = ck at *
        go_wp2_with fail
        with_reducible refine (HO.out _).mono ?_
        rintro e _ ⟨rfl, rfl⟩
        go_wp2_with (at_builtin; refine wpList_rw elt98 _ rfl _ _ rfl w.heap.size _ _ rfl HPT.out (k, ord P ck) _ rfl rfl (by omega) hb.size ?_; intro ga ca wa ha hba)
        have HA := Lib.hid ha
        have hbb := Below.trans hb hba
        clear ha hba
        go_roundw
        case rel => exact ⟨k + 1, by omega, by go_num, by rw [HPN.out]; exact HA.out, hbb⟩
        case measure => simp [intOf]; omega
    · obtain rfl : k = f.length := by omega
      have HEN := Lib.hid (pts_en P f f.length)
      have HB9 := Lib.hid (fun j (hj : j < (pts P f f.length).length) => (pts_bd hP HF.out (Nat.le_refl _) (List.getElem_mem (l := pts P f f.length) hj)))
      have hX0 : 0 < (pts P f f.length).length := by
        obtain ⟨i, hi, _⟩ := HEN.out.all (f.length - 1) (by omega) HF.out.2.2.2
        omega
      generalize pts P f f.length = X at *
      obtain ⟨gp, cpp, hfm, hgp0, hgp1⟩ := HPT.out.seen hX0
      simp only [Value.slice.injEq] at hfm
      obtain ⟨rfl, _, rfl⟩ := hfm
      have HB1 := Lib.hid (fun j (hj : j < X.length) => show px X j ≤ 7 ∧ 0 ≤ py X j ∧ py X j ≤ 9 by
        have := HB9.out j hj
        unfold px py
        rw [List.getD_eq_getElem?_getD, List.getElem?_eq_getElem hj]
        simp only [Option.getD_some]
        omega)
      clear HB9
      go_wp2_with fail
      go_loopw [8, 9] (fun o i wq => ∃ (k : Nat) (L : List Sd), k < X.length ∧ i = .int .i64 k ∧ Rw ES 71 wq (gp + 1) o L ∧ L.length ≤ k ∧ Upto P f X k L ∧ Rw EC 98 wq w.heap.size (.slice (some ⟨gp, 0, none⟩) X.length cp) X ∧ Below w.heap.size w wq) (fun _ i _ => X.length - (intOf i).toNat)
      case atStart => exact ⟨0, [], hX0, rfl, Rw.nil _ _, Nat.le_refl _, Upto.zero _ _ _, HPT.out, hb⟩
      case round =>
        clear hb hgp1 HPT
        obtain ⟨k, L, hk, rfl, ho, hLk, hup, hpt, hb⟩ := hrel
        have HO := Lib.hid ho
        have HUP := Lib.hid hup
        have HPT := Lib.hid hpt
        obtain ⟨Ao, co, rfl⟩ := ho.form
        clear ho hup hpt
        by_cases hlt : k + 1 < X.length
        · have hlt1 : decide (((k : Int) + 1) < (X.length : Int)) = true := decide_eq_true (by omega)
          go_wp2_with fail
          go_loopw [10, 11] (fun b i wq => ∃ (bb j : Nat), b = .int .i64 bb ∧ i = .int .i64 j ∧ j ≤ X.length ∧ IB (px X) (py X) k bb j ∧ Below wr.heap.size wr wq) (fun _ i _ => X.length - (intOf i).toNat)
          case atStart => exact ⟨k + 1, k + 2, by go_num, by go_num, by omega, IB.first _ _ _, Below.refl _ _⟩
          case round =>
            obtain ⟨bb, j, rfl, rfl, hj, hib, hbi⟩ := hrel
            have HIB := Lib.hid hib
            have ib1 := hib.1
            have ib2 := hib.2.1
            clear hib
            have HPI := Lib.hid (HPT.out.keep hbi)
            by_cases hjl : j < X.length
            · go_wp2_with fail
              have c1 := (HPI.out.point hk).1
              have c2 := (HPI.out.point hk).2
              have c3 := (HPI.out.point hjl).1
              have c4 := (HPI.out.point hjl).2
              have c5 := (HPI.out.point (show bb < X.length by omega)).1
              have c6 := (HPI.out.point (show bb < X.length by omega)).2
              have bk := HB1.out k hk
              have bj := HB1.out j hjl
              have bb' := HB1.out bb (by omega)
              have m1 := HEN.out.mono k j (by omega) hjl
              have m2 := HEN.out.mono k bb (by omega) (by omega)
              have hgp := HPI.out.lt
              have HSJ := Lib.hid (fun W => side_any (px X k) (py X k) (px X j) (py X j) (by omega) (by omega) (by omega) (by omega) (by omega) (by omega) (by omega) W)
              have HSB := Lib.hid (fun W => side_any (px X k) (py X k) (px X bb) (py X bb) (by omega) (by omega) (by omega) (by omega) (by omega) (by omega) (by omega) W)
              have HCM := Lib.hid (fun W => compare_sides (py X j - py X k) ((px X j : Int) - px X k) (py X bb - py X k) ((px X bb : Int) - px X k) (by omega) (by omega) (by omega) (by omega) (by omega) (by omega) W)
              have HCL := Lib.hid (cmpF_le (py X j - py X k) ((px X j : Int) - px X k) (py X bb - py X k) ((px X bb : Int) - px X k) (by omega) (by omega))
              have HCB := cmpI_bd ((frc (py X j - py X k) ((px X j : Int) - px X k)).1 * (frc (py X bb - py X k) ((px X bb : Int) - px X k)).2) ((frc (py X bb - py X k) ((px X bb : Int) - px X k)).1 * (frc (py X j - py X k) ((px X j : Int) - px X k)).2)
              change -1 ≤ cmpF (py X j - py X k) ((px X j : Int) - px X k) (py X bb - py X k) ((px X bb : Int) - px X k) ∧ cmpF (py X j - py X k) ((px X j : Int) - px X k) (py X bb - py X k) ((px X bb : Int) - px X k) ≤ 1 at HCB
              have HMO := Lib.hid (fun i (h1 : k < i) (h2 : i ≤ j) => HEN.out.mono k i h1 (by omega))
              generalize hxk : px X k = xk at *
              generalize hyk : py X k = yk at *
              generalize hxj : px X j = xj at *
              generalize hyj : py X j = yj at *
              generalize hxb : px X bb = xb at *
              generalize hyb : py X bb = yb at *
              have HX := Lib.hid (And.intro hxk (And.intro hyk (And.intro hxj (And.intro hyj (And.intro hxb hyb)))))
              clear hxk hyk hxj hyj hxb hyb

              generalize cmpF (yj - yk) ((xj : Int) - xk) (yb - yk) ((xb : Int) - xk) = r at *
              have hbX : (bb : Int) < (X.length : Int) := by omega
              have hjX : (j : Int) < (X.length : Int) := by omega
              have hkX : (k : Int) < (X.length : Int) := by omega
              have hfd := field71_2
              go_region_held3 (fun w' => w'.cell? ⟨gp, k * 2, none⟩ = some (.int .i64 xk) ∧ w'.cell? ⟨gp, k * 2 + 1, none⟩ = some (.int .i64 yk) ∧ w'.cell? ⟨gp, j * 2, none⟩ = some (.int .i64 xj) ∧ w'.cell? ⟨gp, j * 2 + 1, none⟩ = some (.int .i64 yj) ∧ w'.cell? ⟨gp, bb * 2, none⟩ = some (.int .i64 xb) ∧ w'.cell? ⟨gp, bb * 2 + 1, none⟩ = some (.int .i64 yb) ∧ gp < w'.heap.size ∧ Below wr.heap.size wr w')
                (first
                  | exact ⟨c1, c2, c3, c4, c5, c6, hgp, (Below.refl _ _).drew⟩
                  | (go_split_ands; exact ⟨(hb1.cell (p := ⟨gp, k * 2, none⟩) (by assumption)).trans (by assumption), (hb1.cell (p := ⟨gp, k * 2 + 1, none⟩) (by assumption)).trans (by assumption), (hb1.cell (p := ⟨gp, j * 2, none⟩) (by assumption)).trans (by assumption), (hb1.cell (p := ⟨gp, j * 2 + 1, none⟩) (by assumption)).trans (by assumption), (hb1.cell (p := ⟨gp, bb * 2, none⟩) (by assumption)).trans (by assumption), (hb1.cell (p := ⟨gp, bb * 2 + 1, none⟩) (by assumption)).trans (by assumption), Nat.lt_of_lt_of_le (by assumption) hb1.size, Below.trans (by assumption) (hb1.mono (Below.size (by assumption)))⟩))
                (first
                  | (go_at_call 75; first | ((with_reducible refine (HSJ.out _).mono ?_); rintro e w1 ⟨rfl, hb1⟩) | ((with_reducible refine (HSB.out _).mono ?_); rintro e w1 ⟨rfl, hb1⟩))
                  | (go_at_call 74; ((with_reducible refine (HCM.out _).mono ?_); rintro e w1 ⟨rfl, hb1⟩)))
              have hheld : w1.cell? ⟨gp, k * 2, none⟩ = some (.int .i64 xk) ∧ w1.cell? ⟨gp, k * 2 + 1, none⟩ = some (.int .i64 yk) ∧ w1.cell? ⟨gp, j * 2, none⟩ = some (.int .i64 xj) ∧ w1.cell? ⟨gp, j * 2 + 1, none⟩ = some (.int .i64 yj) ∧ w1.cell? ⟨gp, bb * 2, none⟩ = some (.int .i64 xb) ∧ w1.cell? ⟨gp, bb * 2 + 1, none⟩ = some (.int .i64 yb) ∧ gp < w1.heap.size ∧ Below wr.heap.size wr w1 := by assumption
              have hbn := hheld.2.2.2.2.2.2.2
              have HBN := Lib.hid (hbi.trans (hbn.mono hbi.size))
              clear hheld hbn c1 c2 c3 c4 c5 c6 hfd
              obtain ⟨q1, q2, q3, q4, q5, q6⟩ := HX.out
              have HCL2 := HCL.out
              rw [← q1, ← q2, ← q3, ← q4, ← q5, ← q6] at HCL2
              have HCL2 := Lib.hid HCL2
              clear q1 q2 q3 q4 q5 q6
              by_cases hr : r ≤ 0
              · have hd : decide (r ≤ 0) = true := decide_eq_true hr
                go_wp2_with fail
                go_roundw
                case rel => exact ⟨j, j + 1, rfl, by go_num, by omega, HIB.out.swap (fun i h1 h2 => HEN.out.mono k i h1 (by omega)) (HCL2.out.1 hr), HBN.out⟩
                case measure => simp [intOf]; omega
              · have hd : decide (r ≤ 0) = false := decide_eq_false hr
                go_wp2_with fail
                go_roundw
                case rel => exact ⟨bb, j + 1, rfl, by go_num, by omega, HIB.out.keep (Int.not_le.1 (fun h => hr (HCL2.out.2 h))), HBN.out⟩
                case measure => simp [intOf]; omega
            · obtain rfl : j = X.length := by omega
              have hbX : (bb : Int) < (X.length : Int) := by omega
              have hkX : (k : Int) < (X.length : Int) := by omega
              go_wp2_with fail
              have c1 := (HPI.out.point hk).1
              have c2 := (HPI.out.point hk).2
              have c5 := (HPI.out.point ib2).1
              have c6 := (HPI.out.point ib2).2
              have bk := HB1.out k hk
              have bb' := HB1.out bb ib2
              have m2 := HEN.out.mono k bb (by omega) (by omega)
              have hgp := HPI.out.lt
              have hoi := HO.out.keep hbi
              have HSB := Lib.hid (fun W => side_any (px X k) (py X k) (px X bb) (py X bb) (by omega) (by omega) (by omega) (by omega) (by omega) (by omega) (by omega) W)
              have HST := Lib.hid (HUP.out.step HEN.out HIB.out)
              have HXB := Lib.hid (show (X.length = X.length) from rfl)
              generalize hxk : px X k = xk at *
              generalize hyk : py X k = yk at *
              generalize hxb : px X bb = xb at *
              generalize hyb : py X bb = yb at *
              have HX := Lib.hid (And.intro hxk (And.intro hyk (And.intro hxb hyb)))
              clear hxk hyk hxb hyb
              go_region_held3 (fun w' => w'.cell? ⟨gp, k * 2, none⟩ = some (.int .i64 xk) ∧ w'.cell? ⟨gp, k * 2 + 1, none⟩ = some (.int .i64 yk) ∧ w'.cell? ⟨gp, bb * 2, none⟩ = some (.int .i64 xb) ∧ w'.cell? ⟨gp, bb * 2 + 1, none⟩ = some (.int .i64 yb) ∧ gp < w'.heap.size ∧ Below (gp + 1) wr w')
                (first
                  | exact ⟨c1, c2, c5, c6, hgp, (Below.refl _ _).drew⟩
                  | (go_split_ands; exact ⟨(hb1.cell (p := ⟨gp, k * 2, none⟩) (by assumption)).trans (by assumption), (hb1.cell (p := ⟨gp, k * 2 + 1, none⟩) (by assumption)).trans (by assumption), (hb1.cell (p := ⟨gp, bb * 2, none⟩) (by assumption)).trans (by assumption), (hb1.cell (p := ⟨gp, bb * 2 + 1, none⟩) (by assumption)).trans (by assumption), Nat.lt_of_lt_of_le (by assumption) hb1.size, Below.trans (by assumption) (hb1.mono (by assumption))⟩)
                  | (go_split_ands; exact ⟨(World.cell?_alloc_lt _ _ (⟨gp, k * 2, none⟩ : Addr) (by assumption)).trans (by assumption), (World.cell?_alloc_lt _ _ (⟨gp, k * 2 + 1, none⟩ : Addr) (by assumption)).trans (by assumption), (World.cell?_alloc_lt _ _ (⟨gp, bb * 2, none⟩ : Addr) (by assumption)).trans (by assumption), (World.cell?_alloc_lt _ _ (⟨gp, bb * 2 + 1, none⟩ : Addr) (by assumption)).trans (by assumption), Nat.lt_of_lt_of_le (by assumption) (by simp), Below.alloc (by assumption) (by assumption) _⟩)
                  | exact (fun HZ : Below (gp + 1) wr _ => ⟨(HZ.cell (p := ⟨gp, k * 2, none⟩) (Nat.lt_succ_self gp)).trans c1, (HZ.cell (p := ⟨gp, k * 2 + 1, none⟩) (Nat.lt_succ_self gp)).trans c2, (HZ.cell (p := ⟨gp, bb * 2, none⟩) (Nat.lt_succ_self gp)).trans c5, (HZ.cell (p := ⟨gp, bb * 2 + 1, none⟩) (Nat.lt_succ_self gp)).trans c6, Nat.lt_of_lt_of_le hgp HZ.size, HZ⟩) ((((Below.refl (gp + 1) _).drew).trans (hb1.mono hgp)).trans hba))
                (first
                  | (go_at_call 75; ((with_reducible refine (HSB.out _).mono ?_); rintro e w1 ⟨rfl, hb1⟩))
                  | (refine step_rw elt71 _ rfl _ _ rfl (gp + 1) _ _ rfl ((hoi.keep ((Below.refl _ _).drew)).keep hb1) ((xk, xb, frc (yb - yk) ((xb : Int) - xk)) : Sd) _ rfl rfl (by omega) (Nat.le_trans hgp hb1.size) ?_; intro ga ca wa ha hba))
              have hheld : wa.cell? ⟨gp, k * 2, none⟩ = some (.int .i64 xk) ∧ wa.cell? ⟨gp, k * 2 + 1, none⟩ = some (.int .i64 yk) ∧ wa.cell? ⟨gp, bb * 2, none⟩ = some (.int .i64 xb) ∧ wa.cell? ⟨gp, bb * 2 + 1, none⟩ = some (.int .i64 yb) ∧ gp < wa.heap.size ∧ Below (gp + 1) wr wa := by assumption
              have HZ := hheld.2.2.2.2.2
              have HA := Lib.hid ha
              have HPN := Lib.hid ((HPI.out.keep (Below.refl _ _)).same (fun b e _ => HZ.block b (by simp [Value.ownBlock] at e; omega)))
              have HBB := Lib.hid (Below.trans hb ((hbi.mono hb.size).trans (HZ.mono (by omega))))
              clear hheld c1 c2 c5 c6 ha hba
              obtain ⟨q1, q2, q3, q4⟩ := HX.out
              have hst := HST.out
              unfold sd at hst
              rw [q1, q2, q3, q4] at hst
              have HST := Lib.hid hst
              clear hst q1 q2 q3 q4
              go_wp2_with fail
              go_roundw
              case rel => exact ⟨bb, _, ib2, rfl, HA.out, by rw [List.length_append]; simp; omega, HST.out, HPN.out, HBB.out⟩
              case measure => simp [intOf]; omega
        · have hlt1 : decide (((k : Int) + 1) < (X.length : Int)) = false := decide_eq_false (by omega)
          have HDN := Lib.hid (HUP.out.done HEN.out (by omega) HF.out.2.2.2 (by omega))
          go_wp2_with fail
          go_ret
          exact ⟨_, L, rfl, HO.out.base (by omega), HDN.out, hb⟩
end Go.Proofs.Ytdkobkghhnccgaa
