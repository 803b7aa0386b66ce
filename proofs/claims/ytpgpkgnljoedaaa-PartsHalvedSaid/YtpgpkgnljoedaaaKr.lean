/- Walks of residue's closure and of counts with it. -/
import Derived.Test.YtpgpkgnljoedaaaKm
import Derived.Test.YtpgpkgnljoedaaaCn
namespace Go.Proofs.Ytpgpkgnljoedaaa
open Go.RowKit
/-- which parts residue(r, m) allows -/
def alR (r m x : Nat) : Bool := x % m == r || x % m == m - r
def resV (b1 b2 : Nat) : Value := .func (Fn.func 86) #[] #[.pointer (some ⟨b1, 0, none⟩), .pointer (some ⟨b2, 0, none⟩)]
/-- the boxes of m and r -/
def Boxes (w : World) (b1 b2 m r : Nat) : Prop := w.cell? ⟨b1, 0, none⟩ = some (.int .i64 m) ∧ w.cell? ⟨b2, 0, none⟩ = some (.int .i64 r) ∧ b1 < w.heap.size ∧ b2 < w.heap.size
theorem Boxes.keep {w w' : World} {b1 b2 m r : Nat} {B : Nat} (h : Boxes w b1 b2 m r) (hb : Below B w w') (h1 : b1 < B) (h2 : b2 < B) : Boxes w' b1 b2 m r :=
  ⟨(hb.cell (p := ⟨b1, 0, none⟩) h1).trans h.1, (hb.cell (p := ⟨b2, 0, none⟩) h2).trans h.2.1, Nat.lt_of_lt_of_le h.2.2.1 hb.size, Nat.lt_of_lt_of_le h.2.2.2 hb.size⟩
theorem alR_yes1 {r m x : Nat} (h : x % m = r) : alR r m x = true := by unfold alR; simp [h]
theorem alR_else {r m x : Nat} (h : x % m ≠ r) : alR r m x = (x % m == m - r) := by unfold alR; simp [h]
set_option maxRecDepth 100000 in
set_option maxHeartbeats 2000000 in
theorem res_any (x m r b1 b2 : Nat) (hx : x ≤ 400) (hm : 1 ≤ m) (hm5 : m ≤ 5) (hr : r ≤ m) (w : World) (hB : Boxes w b1 b2 m r) (y : Bool) (hy : y = alR r m x) :
    Calls Try.prog 86 #[.int .i64 x, .pointer (some ⟨b1, 0, none⟩), .pointer (some ⟨b2, 0, none⟩)] w fun e w' => e = .returned (.bool y) ∧ Below w.heap.size w w' := by
  obtain ⟨c1, c2, l1, l2⟩ := hB
  have HY := Lib.hid hy
  clear hy
  have hlt := Nat.mod_lt x (show 0 < m by omega)
  have hcast : (x : Int) % (m : Int) = ((x % m : Nat) : Int) := by omega
  by_cases h1 : x % m = r
  · have e1 : ((x : Int) % (m : Int) == (r : Int)) = true := by rw [beq_iff_eq, hcast, h1]
    have H := Lib.hid (alR_yes1 h1)
    clear h1 hcast
    go_enter Try.func86, Try.ntmps86
    go_wp2_with fail
    go_quiet (fail)
    go_wp2_with fail
    go_ret
    exact ⟨by rw [HY.out, H.out]; rfl, below_drewN (Below.refl _ _) nq⟩
  · have e1 : ((x : Int) % (m : Int) == (r : Int)) = false := by rw [beq_eq_false_iff_ne, hcast]; omega
    have e2 : ((x : Int) % (m : Int) == (m : Int) - (r : Int)) = alR r m x := by
      rw [alR_else h1, hcast, Bool.eq_iff_iff, beq_iff_eq, beq_iff_eq]; omega
    clear h1 hcast
    have HE := Lib.hid e2
    clear e2
    have e2 : ((x : Int) % (m : Int) == (m : Int) - (r : Int)) = y := by rw [HY.out]; exact HE.out
    go_enter Try.func86, Try.ntmps86
    go_wp2_with fail
    go_quiet (fail)
    go_wp2_with fail
    go_ret
    exact ⟨rfl, below_drewN (Below.refl _ _) nq⟩

set_option maxRecDepth 100000 in
set_option maxHeartbeats 8000000 in
theorem counts86 (n : Nat) (hn : n ≤ 100) (b1 b2 m r : Nat) (hm : 1 ≤ m) (hm5 : m ≤ 5) (hr : r ≤ m) (w : World) (hBx : Boxes w b1 b2 m r) :
    Calls Try.prog 59 #[.int .i64 n, resV b1 b2] w fun e w' => e = .returned (.slice (some ⟨w.heap.size, 0, none⟩) (n + 1) (n + 1)) ∧ w'.rowIs w.heap.size 3 (n + 1) (fullR (alR r m) n) ∧ Below w.heap.size w w' := by
  unfold resV
  have HBX := Lib.hid hBx
  have hx1 := hBx.2.2.1
  have hx2 := hBx.2.2.2
  clear hBx
  have hmk := fun W => make33 n (by omega) W
  have hm0 : (madeCells #[Value.int .i64 0] (n + 1))[0]? = some (.int .i64 0) := by simp [madeCells]
  go_enter Try.func59, Try.ntmps59
  go_wp2_with fail
  have R0 := made_first (alR r m) w n
  have HBX0 := Lib.hid (Below.refl w.heap.size w)
  have B0 := (Below.refl w.heap.size w).alloc (Nat.le_refl _) (.cells ((madeCells #[.int .i64 0] (n + 1)).setIfInBounds 0 (.int .i64 1)) 3)
  clear hmk hm0
  generalize w.alloc (.cells ((madeCells #[.int .i64 0] (n + 1)).setIfInBounds 0 (.int .i64 1)) 3) = W at *
  obtain ⟨B, hB⟩ : ∃ B, B = w.heap.size := ⟨_, rfl⟩
  rw [← hB] at B0
  have HBE := Lib.hid hB
  have hBG : B ≤ w.heap.size := by omega
  have HBG := Lib.hid hBG
  clear hB hBG
  generalize hGe : w.heap.size = G at *
  have HGE := Lib.hid hGe
  clear hGe
  go_loopw [6, 7] (fun x _ wr => ∃ p : Nat, p ≤ n ∧ x = .int .i64 ((p : Int) + 1) ∧ wr.rowIs G 3 (n + 1) (fullR (alR r m) p) ∧ Below B w wr)
    (fun x _ _ => n + 2 - (intOf x).toNat)
  case atStart => exact ⟨0, by omega, rfl, R0, B0⟩
  case round =>
    obtain ⟨p, hp, rfl, hrow, hb⟩ := hrel
    clear R0 B0
    by_cases hlt : p < n
    · have dp : decide ((p : Int) + 1 ≤ n) = true := decide_eq_true (by omega)
      have dp2 : decide (p + 1 ≤ n) = true := decide_eq_true (by omega)

      have hbox : Boxes wr b1 b2 m r := HBX.out.keep hb (by rw [HBE.out]; exact hx1) (by rw [HBE.out]; exact hx2)
      have hwB : wr.heap.size = wr.heap.size := rfl
      have hBw : B ≤ wr.heap.size := Nat.le_trans HBG.out (Nat.le_of_lt hrow.lt)
      cases hal : alR r m (p + 1) with
      | true =>
        have HAL := Lib.hid hal
        have hcon := res_any (p + 1) m r b1 b2 (by omega) hm hm5 hr wr hbox true hal.symm
        rw [show ((p + 1 : Nat) : Int) = (p : Int) + 1 by omega] at hcon
        have HCON := Lib.hid hcon
        have HROW := Lib.hid hrow
        have HBB := Lib.hid hb
        have HBW := Lib.hid hBw
        clear hcon hbox hal hrow hb hwB hBw
        go_wp2_with fail
        refine HCON.out.mono ?_
        rintro e wq ⟨rfl, hq⟩
        have hrow := HROW.out.of_block (hq.block _ HROW.out.lt)
        have hb := HBB.out.trans (hq.mono HBW.out)
        clear hq
        go_wp2_with fail
        obtain ⟨wo, rfl⟩ : ∃ wo : World, wo = wq := ⟨_, rfl⟩
        go_loopw [7] (fun x wi => ∃ s : Nat, p + 1 ≤ s ∧ s ≤ n + 1 ∧ x = .int .i64 s ∧ wi.rowIs G 3 (n + 1) (midR (alR r m) p s) ∧ Below B w wi)
          (fun x _ => n + 2 - (intOf x).toNat)
        case atStart => exact ⟨p + 1, Nat.le_refl _, by omega, by go_num, hrow.congr (fun j _ => mid_start (alR r m) p j), hb⟩
        case round =>
          obtain ⟨s, hs1, hs2, rfl, hrow2, hb2⟩ := hrel
          clear hrow hb
          by_cases hsl : s < n + 1
          · have c1 := hrow2.cell hsl
            have c2 := hrow2.cell (i := s - (p + 1)) (by omega)
            have hfr := hrow2.frozen
            have hlg := hrow2.lt
            have HC1 := Lib.hid c1
            have HC2 := Lib.hid c2
            clear c1 c2
            have c1 : wr.cell? ⟨G, s, none⟩ = some (.int .i64 (V (alR r m) p s : Nat)) := by rw [HC1.out]; unfold midR; rw [if_neg (by omega)]
            have c2 : wr.cell? ⟨G, s - (p + 1), none⟩ = some (.int .i64 (V (alR r m) (p + 1) (s - (p + 1)) : Nat)) := by rw [HC2.out]; unfold midR; rw [if_pos (by omega)]
            have HA := Lib.hid (V_add (alR r m) p s HAL.out hs1)
            have hbd : ((V (alR r m) p s : Nat) : Int) + ((V (alR r m) (p + 1) (s - (p + 1)) : Nat) : Int) ≤ 6727090051741041926 := by
              rw [HA.out]; have := V_bound (alR r m) (p + 1) s (by omega); omega
            generalize V (alR r m) p s = a at *
            generalize V (alR r m) (p + 1) (s - (p + 1)) = b at *
            have hkt : ((s : Int) - ((p : Int) + 1)).toNat = s - (p + 1) := by omega
            have hkn : 0 ≤ (s : Int) - ((p : Int) + 1) := by omega
            have hkw : IntKind.i64.wrap ((s : Int) - ((p : Int) + 1)) = (s : Int) - ((p : Int) + 1) := IntWalk.i64_in _ (by omega)
            have haw : IntKind.i64.wrap ((a : Int) + b) = (a : Int) + b := IntWalk.i64_in _ (by omega)
            have k1 : (s : Int) < (n : Int) + 1 := by omega
            have k2 : (s : Int) - ((p : Int) + 1) < (n : Int) + 1 := by omega
            have dl : decide ((s : Int) ≤ n) = true := decide_eq_true (by omega)
            have dl2 : decide (s ≤ n) = true := decide_eq_true (by omega)
            go_wp2_with fail
            go_region
            all_goals
              go_wp2_with fail
              go_roundw
              case rel => exact ⟨s + 1, by omega, by omega, by go_num, ((hrow2.drew.set s _).congr (fun j _ => mid_next (alR r m) p s _ HA.out j)), (below_drew hb2).setCell HBG.out _⟩
              case measure => simp [intOf]; omega
          · obtain rfl : s = n + 1 := by omega
            have dl : decide (((n + 1 : Nat) : Int) ≤ n) = false := decide_eq_false (by omega)
            have dl2 : decide (n + 1 ≤ n) = false := decide_eq_false (by omega)
            go_wp2_with fail
            go_roundw
            case rel => exact ⟨p + 1, by omega, by go_num, hrow2.congr (fun j hj => mid_end (alR r m) p _ j hj), hb2⟩
            case measure => simp [intOf]; omega
      | false =>
        have HAL := Lib.hid hal
        have hcon := res_any (p + 1) m r b1 b2 (by omega) hm hm5 hr wr hbox false hal.symm
        rw [show ((p + 1 : Nat) : Int) = (p : Int) + 1 by omega] at hcon
        have HCON := Lib.hid hcon
        have HROW := Lib.hid hrow
        have HBB := Lib.hid hb
        have HBW := Lib.hid hBw
        clear hcon hbox hal hrow hb hwB hBw
        go_wp2_with fail
        refine HCON.out.mono ?_
        rintro e wq ⟨rfl, hq⟩
        have hrow := HROW.out.of_block (hq.block _ HROW.out.lt)
        have hb := HBB.out.trans (hq.mono HBW.out)
        clear hq
        go_wp2_with fail
        go_roundw
        case rel => exact ⟨p + 1, by omega, by go_num, hrow.congr (fun j _ => by unfold fullR; rw [V_skip _ _ _ HAL.out]), hb⟩
        case measure => simp [intOf]; omega
    · obtain rfl : p = n := by omega
      have dp : decide ((p : Int) + 1 ≤ p) = false := decide_eq_false (by omega)
      have dp2 : decide (p + 1 ≤ p) = false := decide_eq_false (by omega)
      go_wp2_with fail
      go_ret
      have e1 := HGE.out
      have e2 := HBE.out
      rw [e2] at hb
      rw [e1]
      exact ⟨rfl, hrow, hb⟩

set_option maxHeartbeats 2000000 in
theorem residue_any (r m : Nat) (w : World) :
    Calls Try.prog 66 #[.int .i64 r, .int .i64 m] w fun e w' => ∃ b1 b2, e = .returned (resV b1 b2) ∧ Boxes w' b1 b2 m r ∧ Below w.heap.size w w' := by
  go_enter Try.func66, Try.ntmps66
  go_wp2_with fail
  go_ret
  refine ⟨w.heap.size + 1, w.heap.size, by simp [resV], ⟨?_, ?_, by simp <;> omega, by simp <;> omega⟩, ((Below.refl _ _).alloc (Nat.le_refl _) _).alloc (by simp <;> omega) _⟩
  · exact cellOf (by rw [show w.heap.size + 1 = (w.alloc (.cells #[.int .i64 r] 3)).heap.size by simp]; exact heap_alloc_new _ _)
  · exact (World.cell?_alloc_lt _ _ (⟨w.heap.size, 0, none⟩ : Addr) (by simp <;> omega)).trans (cellOf (heap_alloc_new w _))
end Go.Proofs.Ytpgpkgnljoedaaa
