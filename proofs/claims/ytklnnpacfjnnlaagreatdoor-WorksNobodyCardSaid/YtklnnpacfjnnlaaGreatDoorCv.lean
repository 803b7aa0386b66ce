/- Days: gcd, covers, count, whole. -/
import Derived.Test.YtklnnpacfjnnlaaGreatDoorFo
import Derived.Deep.QuietTactic
import Derived.Deep.RegionHeld3
import Derived.Deep.RegionWith
import Derived.Deep.DrawnRows
namespace Go.Proofs.YtklnnpacfjnnlaaGreatDoor
open Go.RowKit
theorem gcd_tmod (x y : Int) : Int.gcd y (x.tmod y) = Int.gcd x y := by
  rw [Int.gcd_eq_natAbs_gcd_natAbs, Int.gcd_eq_natAbs_gcd_natAbs, Int.natAbs_tmod, Nat.gcd_comm x.natAbs, Nat.gcd_rec y.natAbs x.natAbs, Nat.gcd_comm]
theorem tmod_abs (x y : Int) (h : y ≠ 0) : (x.tmod y).natAbs < y.natAbs := by
  rw [Int.natAbs_tmod]
  exact Nat.mod_lt _ (by omega)
set_option maxHeartbeats 4000000 in
theorem gcd_any (a b : Int) (ha0 : 0 ≤ a) (hb0 : 0 ≤ b) (ha : a ≤ 1000000000000) (hb : b ≤ 1000000000000) (w : World) :
    Calls Tryz.prog 269 #[.int .i64 a, .int .i64 b] w fun e w' => e = .returned (.int .i64 (Int.gcd a b : Nat)) ∧ ∃ q, w' = w.drewN q := by
  go_enter Tryz.func269, Tryz.ntmps269
  go_wp2_with fail
  go_loopw [0, 1] (fun u v wr => ∃ x y : Int, 0 ≤ x ∧ 0 ≤ y ∧ x ≤ 1000000000000 ∧ y ≤ 1000000000000 ∧ u = .int .i64 x ∧ v = .int .i64 y ∧ Int.gcd x y = Int.gcd a b ∧ ∃ q, wr = w.drewN q) (fun _ v _ => (intOf v).natAbs)
  case atStart => exact ⟨a, b, ha0, hb0, ha, hb, rfl, rfl, rfl, 0, rfl⟩
  case round =>
    obtain ⟨x, y, hx0, hy0, hx, hy, rfl, rfl, hg, nw, rfl⟩ := hrel
    have HG := Lib.hid hg
    clear hg
    by_cases e : y = 0
    · subst e
      have hg := HG.out
      rw [Int.gcd_zero] at hg
      have HG := Lib.hid hg
      clear hg
      go_wp2_with fail
      go_ret
      exact ⟨ret_int (by rw [← HG.out]; omega), nw, rfl⟩
    · have e1 : (y == 0) = false := by rw [beq_eq_false_iff_ne]; exact e
      have e2 : (y != 0) = true := by rw [bne_iff_ne]; exact e
      have ht := tmod_abs x y e
      have ht0 := Int.tmod_nonneg y hx0
      have HT := Lib.hid ((gcd_tmod x y).trans HG.out)
      have hti : IntKind.i64.wrap (x.tmod y) = x.tmod y := IntWalk.i64_in _ (by omega)
      have HTI := Lib.hid hti
      clear hti
      go_wp2_with fail
      go_quiet (fail)
      go_wp2_with fail
      have hem : x.tmod y = x % y := Int.tmod_eq_emod_of_nonneg hx0
      have hlt : x % y < y := Int.emod_lt_of_pos x (by omega)
      have hge : 0 ≤ x % y := Int.emod_nonneg x e
      refine ⟨⟨y, x % y, hy0, hge, hy, by omega, rfl, rfl, by rw [← hem]; exact HT.out, nw + nq, by rw [World.drewN_drewN]⟩, ?_⟩
      simp only [intOf]; omega
/-- pairs in memory -/
def prEnc : Enc (Int × Int) 2 := ⟨fun p => [.int .i64 p.1, .int .i64 p.2], fun _ => rfl, fun _ v h => by simp at h; rcases h with rfl | rfl <;> rfl⟩
/-- a pair covers a number -/
def cov (p : Int × Int) (n : Int) : Bool := (n - p.1).tmod p.2 == 0
set_option maxHeartbeats 4000000 in
theorem covers_any (a m n : Int) (ha : 0 ≤ a ∧ a ≤ 1000000000) (hm : 1 ≤ m ∧ m ≤ 1000000000) (hn : 0 ≤ n ∧ n ≤ 1000000000) (w : World) :
    Calls Tryz.prog 309 #[.agg #[.int .i64 a, .int .i64 m], .int .i64 n] w fun e w' => e = .returned (.bool (cov (a, m) n)) ∧ Below w.heap.size w w' := by
  have hd : IntKind.i64.wrap ((n - a).tmod m) = (n - a).tmod m := IntWalk.i64_in _ (by
    have h1 := Int.tmod_lt_of_pos (n - a) (show 0 < m by omega)
    have h2 : -m < (n - a).tmod m := by
      have := tmod_abs (n - a) m (by omega)
      omega
    omega)
  have hm0 : (m == 0) = false := by rw [beq_eq_false_iff_ne]; omega
  go_enter Tryz.func309, Tryz.ntmps309
  go_wp2
  go_ret
  refine ⟨?_, (Below.refl _ w).alloc (Nat.le_refl _) _⟩
  rfl
/-- how many pairs cover a number -/
def cnt (L : List (Int × Int)) (n : Int) : Nat := (L.filter fun p => cov p n).length
theorem cnt_le (L : List (Int × Int)) (n : Int) : cnt L n ≤ L.length := List.length_filter_le _ _
theorem cnt_snoc (L : List (Int × Int)) (n : Int) (k : Nat) (p : Int × Int) (h : L[k]? = some p) : cnt (L.take (k + 1)) n = cnt (L.take k) n + (if cov p n then 1 else 0) := by
  unfold cnt
  rw [List.take_add_one, h]
  simp [List.filter_append, List.filter_cons]
  split <;> rfl
/-- the pairs' sizes -/
def Prs (L : List (Int × Int)) : Prop := L.length ≤ 1000 ∧ ∀ p ∈ L, 0 ≤ p.1 ∧ p.1 ≤ 1000000000 ∧ 1 ≤ p.2 ∧ p.2 ≤ 1000000000
set_option maxHeartbeats 4000000 in
theorem count_any (X : Nat) (v : Value) (L : List (Int × Int)) (n : Int) (hL : Prs L) (hn : 0 ≤ n ∧ n ≤ 1000000000) (w : World) (hv : Rw prEnc 309 w X v L) :
    Calls Tryz.prog 268 #[v, .int .i64 n] w fun e w' => e = .returned (.int .i64 (cnt L n : Nat)) ∧ Below w.heap.size w w' := by
  obtain ⟨A, c, hf⟩ := hv.form
  subst hf
  have HV := Lib.hid hv
  have HL := Lib.hid hL
  have hl := hL.1
  clear hv hL
  go_enter Tryz.func268, Tryz.ntmps268
  go_wp2_with fail
  go_loopw [5, 7, 10] (fun out _ i wr => ∃ k : Nat, k ≤ L.length ∧ i = .int .i64 k ∧ out = .int .i64 (cnt (L.take k) n : Nat) ∧ Below w.heap.size w wr) (fun _ _ i _ => L.length - (intOf i).toNat)
  case atStart => exact ⟨0, Nat.zero_le _, rfl, rfl, Below.refl _ _⟩
  case round =>
    obtain ⟨k, hk, rfl, rfl, hb⟩ := hrel
    by_cases hlt : k < L.length
    · obtain ⟨p, hp⟩ : ∃ p, L[k]? = some p := ⟨_, List.getElem?_eq_getElem hlt⟩
      obtain ⟨g, c', he, -, hg⟩ := HV.out.seen (by omega)
      simp only [Value.slice.injEq] at he
      obtain ⟨rfl, -, rfl⟩ := he
      have hc0 := (hb.cell (p := ⟨g, k * 2 + 0, none⟩) hg).trans (HV.out.cell hp (i := 0) rfl)
      have hc1 := (hb.cell (p := ⟨g, k * 2 + 1, none⟩) hg).trans (HV.out.cell hp (i := 1) rfl)
      obtain ⟨a, m⟩ := p
      have hpr := HL.out.2 _ (List.mem_of_getElem? hp)
      have hcn := cnt_snoc L n k _ hp
      have hle := cnt_le (L.take k) n
      rw [List.length_take] at hle
      obtain ⟨C, hC⟩ : ∃ C, C = cnt (L.take k) n := ⟨_, rfl⟩
      rw [← hC] at hcn hle ⊢
      have HCN := Lib.hid hcn
      dsimp only at hpr hc0 hc1
      obtain ⟨p1, p2, p3, p4⟩ := hpr
      rw [Nat.add_zero] at hc0
      clear hp hcn hC
      cases hcov : cov (a, m) n with
      | true =>
        have HCV := Lib.hid hcov
        clear hcov
        go_wp2_with (go_at_call 309; refine (covers_any a m n ⟨p1, p2⟩ ⟨p3, p4⟩ hn _).mono ?_; rintro e w3 ⟨rfl, hb3⟩; rw [HCV.out]; have hs3 := hb3.size)
        go_roundw
        case rel =>
          refine ⟨k + 1, by omega, by go_num, ?_, (hb.alloc hb.size _).trans (hb3.mono (by have := hb.size; simp; omega))⟩
          rw [HCN.out, HCV.out]; go_num
        case measure => simp [intOf]; omega
      | false =>
        have HCV := Lib.hid hcov
        clear hcov
        go_wp2_with (go_at_call 309; refine (covers_any a m n ⟨p1, p2⟩ ⟨p3, p4⟩ hn _).mono ?_; rintro e w3 ⟨rfl, hb3⟩; rw [HCV.out]; have hs3 := hb3.size)
        go_roundw
        case rel =>
          refine ⟨k + 1, by omega, by go_num, ?_, (hb.alloc hb.size _).trans (hb3.mono (by have := hb.size; simp; omega))⟩
          rw [HCN.out, HCV.out]; simp
        case measure => simp [intOf]; omega
    · obtain rfl : k = L.length := by omega
      rw [List.take_length]
      go_wp2_with fail
      go_ret
      exact ⟨rfl, hb⟩
/-- the least common multiple of all moduli, or something above 10080 -/
def whF : List (Int × Int) → Int → Int
  | [], o => o
  | p :: l, o => if 10080 < o / (Int.gcd o p.2 : Nat) * p.2 then o / (Int.gcd o p.2 : Nat) * p.2 else whF l (o / (Int.gcd o p.2 : Nat) * p.2)
def whole (L : List (Int × Int)) : Int := whF L 1
theorem next_pos (o m : Int) (ho : 1 ≤ o) (_ : 1 ≤ m) : 1 ≤ o / (Int.gcd o m : Nat) ∧ o / (Int.gcd o m : Nat) ≤ o := by
  have hg : 0 < Int.gcd o m := Int.gcd_pos_of_ne_zero_left _ (by omega)
  obtain ⟨q, hq⟩ := Int.gcd_dvd_left o m
  have e : o / (Int.gcd o m : Nat) = q := Int.ediv_eq_of_eq_mul_right (by omega) hq
  rw [e]
  have hq1 : 1 ≤ q := by
    rcases Int.lt_or_le q 1 with h | h
    · have : (Int.gcd o m : Int) * q ≤ 0 := Int.mul_nonpos_of_nonneg_of_nonpos (by omega) (by omega)
      omega
    · exact h
  refine ⟨hq1, ?_⟩
  have : 1 * q ≤ (Int.gcd o m : Int) * q := Int.mul_le_mul_of_nonneg_right (by omega) (by omega)
  omega
/-- the pairs of a system of days -/
def Sys (L : List (Int × Int)) : Prop := L.length ≤ 10 ∧ ∀ p ∈ L, 0 ≤ p.1 ∧ p.1 < p.2 ∧ 1 ≤ p.2 ∧ p.2 ≤ 60
theorem Sys.prs {L : List (Int × Int)} (h : Sys L) : Prs L := ⟨by have := h.1; omega, fun p hp => by have := h.2 p hp; omega⟩
theorem whF_drop (L : List (Int × Int)) (k : Nat) (p : Int × Int) (h : L[k]? = some p) (o : Int) : whF (L.drop k) o = if 10080 < o / (Int.gcd o p.2 : Nat) * p.2 then o / (Int.gcd o p.2 : Nat) * p.2 else whF (L.drop (k + 1)) (o / (Int.gcd o p.2 : Nat) * p.2) := by
  obtain ⟨hk, e⟩ := List.getElem?_eq_some_iff.1 h
  rw [List.drop_eq_getElem_cons hk, whF, e]
set_option maxHeartbeats 4000000 in
set_option maxRecDepth 100000 in
theorem whole_any (X : Nat) (v : Value) (L : List (Int × Int)) (hL : Sys L) (w : World) (hv : Rw prEnc 309 w X v L) :
    Calls Tryz.prog 267 #[v] w fun e w' => e = .returned (.int .i64 (whole L)) ∧ Below w.heap.size w w' := by
  obtain ⟨A, c, hf⟩ := hv.form
  subst hf
  have HV := Lib.hid hv
  have HL := Lib.hid hL
  have hl := hL.1
  clear hv hL
  go_enter Tryz.func267, Tryz.ntmps267
  go_wp2_with fail
  go_loopw [3, 5, 8] (fun out _ i wr => ∃ (k : Nat) (o : Int), k ≤ L.length ∧ i = .int .i64 k ∧ out = .int .i64 o ∧ 1 ≤ o ∧ o ≤ 10080 ∧ Lib.Kept (whole L = whF (L.drop k) o) ∧ Below w.heap.size w wr) (fun _ _ i _ => L.length - (intOf i).toNat)
  case atStart => exact ⟨0, 1, Nat.zero_le _, rfl, rfl, by omega, by omega, rfl, Below.refl _ _⟩
  case round =>
    obtain ⟨k, o, hk, rfl, rfl, ho1, ho2, hwh, hb⟩ := hrel
    by_cases hlt : k < L.length
    · obtain ⟨p, hp⟩ : ∃ p, L[k]? = some p := ⟨_, List.getElem?_eq_getElem hlt⟩
      obtain ⟨g, c', he, -, hg⟩ := HV.out.seen (by omega)
      simp only [Value.slice.injEq] at he
      obtain ⟨rfl, -, rfl⟩ := he
      have hc0 := (hb.cell (p := ⟨g, k * 2 + 0, none⟩) hg).trans (HV.out.cell hp (i := 0) rfl)
      have hc1 := (hb.cell (p := ⟨g, k * 2 + 1, none⟩) hg).trans (HV.out.cell hp (i := 1) rfl)
      obtain ⟨a, m⟩ := p
      have hpr := HL.out.2 _ (List.mem_of_getElem? hp)
      have hst := whF_drop L k _ hp o
      have hw2 : whole L = whF (L.drop k) o := hwh
      rw [hst] at hw2
      dsimp only at hpr hc0 hc1 hw2
      obtain ⟨p1, p2, p3, p4⟩ := hpr
      rw [Nat.add_zero] at hc0
      have hgp : 0 < Int.gcd o m := Int.gcd_pos_of_ne_zero_left _ (by omega)
      have hgo : (Int.gcd o m : Int) ≤ o := Int.le_of_dvd (by omega) (Int.gcd_dvd_left o m)
      obtain ⟨q1, q2⟩ := next_pos o m ho1 p3
      obtain ⟨Q, hQ⟩ : ∃ Q, Q = o / (Int.gcd o m : Nat) := ⟨_, rfl⟩
      rw [← hQ] at hw2 q1 q2
      have htd : IntKind.i64.wrap (o.tdiv (Int.gcd o m : Nat)) = Q := by
        rw [Int.tdiv_eq_ediv_of_nonneg (by omega), ← hQ]; exact IntWalk.i64_in _ (by omega)
      have hV1 : 1 ≤ Q * m := by
        have : 1 * 1 ≤ Q * m := Int.mul_le_mul q1 p3 (by omega) (by omega)
        omega
      have hV2 : Q * m ≤ 10080 * 60 := Int.mul_le_mul (by omega) p4 (by omega) (by omega)
      obtain ⟨V, hVe⟩ : ∃ V, V = Q * m := ⟨_, rfl⟩
      rw [← hVe] at hV1 hV2 hw2
      have hmul : IntKind.i64.wrap (Q * m) = V := by rw [← hVe]; exact IntWalk.i64_in _ (by omega)
      have HW := Lib.hid hw2
      have HTD := Lib.hid htd
      have HMU := Lib.hid hmul
      obtain ⟨G, hG⟩ : ∃ G, G = Int.gcd o m := ⟨_, rfl⟩
      have hcall := fun w => gcd_any o m (by omega) (by omega) (by omega) (by omega) w
      rw [← hG] at hgp hgo htd
      simp only [← hG] at hcall
      have HCA := Lib.hid (fun W q => Calls.quiet_of (n := q) (w := W) (hcall (W.drewN q)))
      have hG0 : ((G : Int) == 0) = false := by rw [beq_eq_false_iff_ne]; omega
      have hdv : o / (G : Int) = Q := by rw [hQ, hG]
      have hdw : IntKind.i64.wrap (o / (G : Int)) = Q := by rw [hdv]; exact IntWalk.i64_in _ (by omega)
      have hG1 : (1 : Int) ≤ (G : Int) := by omega
      clear hp hst hwh hw2 hQ hVe hG hcall HTD HMU htd
      go_wp2_with fail
      go_quiet ((go_at_call 269; with_reducible exact HCA.out _ _))
      have hbz : Below w.heap.size w ((wr.alloc (.cells #[.int .i64 a, .int .i64 m] 309)).drewN nq) := below_drewN (hb.alloc hb.size _) _
      by_cases hbig : 10080 < V
      · have hfin : whole L = V := by rw [HW.out, if_pos hbig]
        have HF := Lib.hid hfin
        clear hfin
        go_wp2_with fail
        go_ret
        exact ⟨by rw [HF.out]; rfl, hbz⟩
      · have hfin : whole L = whF (L.drop (k + 1)) V := by rw [HW.out, if_neg hbig]
        have HF := Lib.hid hfin
        clear hfin
        go_wp2_with fail
        go_roundw
        case rel => exact ⟨k + 1, V, by omega, by go_num, rfl, hV1, by omega, HF.out, hbz⟩
        case measure => simp [intOf]; omega
    · obtain rfl : k = L.length := by omega
      have hfin : whole L = o := by
        have h : whole L = whF (L.drop L.length) o := hwh
        rw [List.drop_length] at h
        exact h
      have HF := Lib.hid hfin
      clear hfin hwh
      go_wp2_with fail
      go_ret
      exact ⟨by rw [HF.out]; rfl, hb⟩
end Go.Proofs.YtklnnpacfjnnlaaGreatDoor
