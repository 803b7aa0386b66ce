/- Walks of Digits, Fraction; digits along a fraction. -/
import Derived.Test.YtiknocjdogbajaaFr
import Derived.Deep.OwnRows
namespace Go.Proofs.Ytiknocjdogbajaa
open Go.RowKit

/-- the rest of n after s steps, and with m digits to come -/
def rs (q : List Int) (n : Int) : Nat → Int
  | 0 => n
  | s + 1 => rs q n s % den q (q.length - 1 - s)
def rem (q : List Int) (n : Int) (m : Nat) : Int := rs q n (q.length - m)
def dg (q : List Int) (n : Int) (k : Nat) : Int := rem q n (k + 1) / den q k
def dgs (q : List Int) (n : Int) : List Int := (List.range q.length).map (dg q n)
theorem dgs_length (q : List Int) (n : Int) : (dgs q n).length = q.length := by simp [dgs]
theorem dgs_get (q : List Int) (n : Int) (k : Nat) (h : k < q.length) : (dgs q n)[k]? = some (dg q n k) := by simp [dgs, h]
theorem rem_top (q : List Int) (n : Int) : rem q n q.length = n := by unfold rem; rw [Nat.sub_self]; rfl
theorem rem_step (q : List Int) (n : Int) (k : Nat) (h : k < q.length) : rem q n k = rem q n (k + 1) % den q k := by
  unfold rem
  have e : q.length - k = (q.length - (k + 1)) + 1 := by omega
  rw [e, rs, show q.length - 1 - (q.length - (k + 1)) = k by omega]
theorem rs_bd (q : List Int) (h : Fr q) (n : Int) (h0 : 0 ≤ n) (s : Nat) (hs : s ≤ q.length) : 0 ≤ rs q n s ∧ rs q n s ≤ n := by
  induction s with
  | zero => exact ⟨h0, Int.le_refl _⟩
  | succ s ih =>
    obtain ⟨h1, h2⟩ := ih (by omega)
    have hd := (den_le q h (q.length - 1 - s) (by omega)).1
    rw [rs]
    refine ⟨Int.emod_nonneg _ (by omega), ?_⟩
    have e := Int.emod_add_mul_ediv (rs q n s) (den q (q.length - 1 - s))
    have hq : 0 ≤ rs q n s / den q (q.length - 1 - s) := Int.ediv_nonneg h1 (by omega)
    have := Int.mul_nonneg (show 0 ≤ den q (q.length - 1 - s) by omega) hq
    omega
theorem rem_bd (q : List Int) (h : Fr q) (n : Int) (h0 : 0 ≤ n) (m : Nat) (_ : m ≤ q.length) : 0 ≤ rem q n m ∧ rem q n m ≤ n := rs_bd q h n h0 _ (by omega)
theorem rem_lt (q : List Int) (h : Fr q) (n : Int) (k : Nat) (hk : k < q.length) : rem q n k < den q k := by
  rw [rem_step q n k hk]
  exact Int.emod_lt_of_pos _ (by have := (den_le q h k (by omega)).1; omega)

/-- the row of digits while it is filled: from m on -/
def rowf (q : List Int) (n : Int) (m : Nat) (j : Nat) : Value := if m ≤ j then .int .i64 (dg q n j) else .int .i64 0
theorem rowf_next (q : List Int) (n : Int) (k : Nat) (x : Int) (hx : x = dg q n k) (j : Nat) : (if j = k then Value.int .i64 x else rowf q n (k + 1) j) = rowf q n k j := by
  unfold rowf
  by_cases h : j = k
  · subst h; simp [hx]
  · rw [if_neg h]
    by_cases h2 : k + 1 ≤ j
    · rw [if_pos h2, if_pos (by omega)]
    · rw [if_neg h2, if_neg (by omega)]
theorem ints_of_row {w : World} {g n : Nat} {f : Nat → Value} {xs : List Int} (h : w.rowIs g 3 n f) (hn : xs.length = n) (h17 : n ≤ 1000000) (hf : ∀ j u, xs[j]? = some u → f j = .int .i64 u) : Ints w (.slice (some ⟨g, 0, none⟩) n n) xs := by
  subst hn
  refine ⟨by omega, _, _, rfl, Nat.le_refl _, fun _ => ⟨_, rfl, h.lt, fun j u hu => ?_⟩⟩
  rw [addr_head, h.cell (Array.getElem?_eq_some_iff.1 (show xs.toArray[j]? = some u by simpa using hu)).1, hf j u hu]
theorem make30 (n : Nat) (h : n ≤ 10000) (w : World) : (Instr.makeSlice 30 (.int .i64 (n : Int)) (.int .i64 (n : Int))).run Try.prog w = .ok (.slice (some ⟨w.heap.size, 0, none⟩) n n) (w.alloc (.cells (madeCells #[.int .i64 0] n) 3)) :=
  run_make_row' 30 3 (.int .i64 0) 8 Try.underlying30 info3 rfl .i64 .i64 n (by omega) (by omega) w

set_option maxHeartbeats 2000000 in
theorem Digits_yes (v : Value) (q : List Int) (h : Fr q) (n : Int) (h0 : 0 ≤ n) (hn : n < den q q.length) (w : World) (hv : Ints w v q) :
    Calls Try.prog 37 #[v, .int .i64 n] w fun e w' => ∃ v', e = .returned (.tuple #[v', .int .i64 0]) ∧ Ints w' v' (dgs q n) ∧ Below w.heap.size w w' := by
  have h10 := h.2.1
  have h1 := h.1
  have HF := Lib.hid h
  have HB := Lib.hid (den_le q h)
  have hn10 : n ≤ 10000000000 := by have := (den_le q h q.length (Nat.le_refl _)).2.2.2; omega
  have HR := Lib.hid (rem_bd q h n h0)
  have HV := Lib.hid hv
  obtain ⟨hlen, A, c, rfl, hc, hr⟩ := hv
  clear hr h
  have hmk := fun W => make30 q.length (by omega) W
  have hn0 : decide (n < 0) = false := decide_eq_false (by omega)
  have hnd : decide (den q q.length ≤ n) = false := decide_eq_false (by omega)
  have HTOP := Lib.hid (rem_top q n)
  go_enter Try.func37, Try.ntmps37
  go_wp2_with fail
  refine (fvalid_yes _ q HF.out _ HV.out).mono ?_
  rintro e _ ⟨rfl, rfl⟩
  go_wp2_with fail
  refine (denominators_any _ q HF.out _ HV.out).mono ?_
  rintro e w1 ⟨vd, rfl, hown, hb1⟩
  have hl := dens_length q (q.length + 1)
  obtain ⟨g, cap, rfl, hcap, hg1, hg2, hcs⟩ := hown.seen (by omega)
  rw [hl] at hcap ⊢
  have HCS := Lib.hid hcs
  have hcl := hcs q.length _ (dens_get q _ q.length (by omega))
  clear hown hl hcs
  go_wp2_with fail
  have R0 := World.rowIs_made w1 (.int .i64 0) q.length 3
  have BL := (hb1.alloc hb1.size (.cells (madeCells #[.int .i64 0] q.length) 3))
  have hck0 : ∀ o, (w1.alloc (.cells (madeCells #[.int .i64 0] q.length) 3)).cell? ⟨g, o, none⟩ = w1.cell? ⟨g, o, none⟩ := fun o => World.cell?_alloc_lt w1 _ ⟨g, o, none⟩ hg2
  have HCK0 := Lib.hid (fun k hk => (hck0 k).trans (HCS.out k _ (dens_get q _ k hk)))
  have hgs : g < (w1.alloc (.cells (madeCells #[.int .i64 0] q.length) 3)).heap.size := by simp; omega
  clear hck0 hmk hcl
  have HBW := Lib.hid (show Below w1.heap.size w1 (w1.alloc (.cells (madeCells #[.int .i64 0] q.length) 3)) from (Below.refl _ _).alloc (Nat.le_refl _) _)
  generalize w1.alloc (.cells (madeCells #[.int .i64 0] q.length) 3) = W at *
  have hGw := hb1.size
  generalize w1.heap.size = G at *
  clear hb1
  go_loopw [1, 9] (fun nn i wr => ∃ z : Int, i = .int .i64 z ∧ -1 ≤ z ∧ z < q.length ∧ nn = .int .i64 (rem q n (z + 1).toNat) ∧ wr.rowIs G 3 q.length (rowf q n (z + 1).toNat) ∧ Below G W wr ∧ Below w.heap.size w wr)
    (fun _ i _ => (intOf i + 1).toNat)
  case atStart =>
    refine ⟨(q.length : Int) - 1, rfl, by omega, by omega, ?_, ?_, Below.refl _ _, BL⟩
    · rw [show ((q.length : Int) - 1 + 1).toNat = q.length by omega]
      exact congrArg _ HTOP.out.symm
    · refine R0.congr (fun i hi => ?_)
      unfold rowf
      rw [if_neg (by omega)]
  case round =>
    obtain ⟨z, rfl, hz1, hz2, rfl, hrow, hb, hbw⟩ := hrel
    clear R0 BL
    by_cases hz : 0 ≤ z
    · obtain ⟨k, rfl⟩ := Int.eq_ofNat_of_zero_le hz
      rw [show ((k : Int) + 1).toNat = k + 1 by omega] at hrow ⊢
      have hk : k < q.length := by omega
      have c0 := (hb.cell (p := ⟨g, k, none⟩) hg2).trans (HCK0.out k (by omega))
      obtain ⟨r1, r2⟩ := HR.out (k + 1) (by omega)
      have hd := (HB.out k (by omega)).1
      have hd2 := (HB.out k (by omega)).2.2.2
      have hcr := hrow.cell hk
      have hfr := hrow.frozen
      have hlr := hrow.lt
      have HX := Lib.hid (show rem q n (k + 1) / den q k = dg q n k from rfl)
      have HST := Lib.hid (rem_step q n k hk)
      generalize rem q n (k + 1) = r at *
      generalize den q k = d at *
      generalize hff : rowf q n (k + 1) k = f0 at hcr
      have hd0 : (d == 0) = false := by rw [beq_eq_false_iff_ne]; omega
      have hdv : 0 ≤ r / d := Int.ediv_nonneg r1 (by omega)
      have hdl : r / d ≤ 10000000000 := Int.le_trans (Int.ediv_le_self _ r1) (by omega)
      have hgG : g ≠ G := by omega
      clear hff
      go_wp2_with fail
      go_roundw
      case rel =>
        refine ⟨(k : Int) - 1, by go_num, by omega, by omega, ?_, ?_, hb.setCell (Nat.le_refl _) _, hbw.setCell hGw _⟩
        · rw [show ((k : Int) - 1 + 1).toNat = k by omega, HST.out]
        · rw [show ((k : Int) - 1 + 1).toNat = k by omega]
          exact (hrow.set k _).congr (fun i _ => rowf_next q n k _ HX.out i)
      case measure => simp [intOf]
    · obtain rfl : z = -1 := by omega
      go_wp2_with fail
      go_ret2
      refine ⟨_, rfl, ints_of_row hrow (dgs_length q n) (by omega) (fun j u hu => ?_), hbw⟩
      have hj : j < q.length := by
        have := (List.getElem?_eq_some_iff.1 hu).1
        rwa [dgs_length] at this
      rw [dgs_get q n j hj] at hu
      unfold rowf
      rw [if_pos (by omega), Option.some.inj hu]

set_option maxHeartbeats 2000000 in
theorem rDigits_any (v : Value) (q : List Int) (h : Fr q) (n : Int) (h0 : 0 ≤ n) (hn : n < den q q.length) (w : World) (hv : Ints w v q) :
    Calls Try.prog 41 #[v, .int .i64 n] w fun e w' => ∃ v', e = .returned (v') ∧ Ints w' v' (dgs q n) ∧ Below w.heap.size w w' := by
  have h10 := h.2.1
  have h1 := h.1
  have HF := Lib.hid h
  have HB := Lib.hid (den_le q h)
  have hn10 : n ≤ 10000000000 := by have := (den_le q h q.length (Nat.le_refl _)).2.2.2; omega
  have HR := Lib.hid (rem_bd q h n h0)
  have HV := Lib.hid hv
  obtain ⟨hlen, A, c, rfl, hc, hr⟩ := hv
  clear hr h
  have hmk := fun W => make30 q.length (by omega) W
  have HTOP := Lib.hid (rem_top q n)
  go_enter Try.func41, Try.ntmps41
  go_wp2_with fail
  refine (under_any _ q HF.out _ HV.out).mono ?_
  rintro e w1 ⟨vd, rfl, hown, hb1⟩
  have hl := dens_length q (q.length + 1)
  obtain ⟨g, cap, rfl, hcap, hg1, hg2, hcs⟩ := hown.seen (by omega)
  rw [hl] at hcap ⊢
  have HCS := Lib.hid hcs
  clear hown hl hcs
  go_wp2_with fail
  have R0 := World.rowIs_made w1 (.int .i64 0) q.length 3
  have BL := (hb1.alloc hb1.size (.cells (madeCells #[.int .i64 0] q.length) 3))
  have hck0 : ∀ o, (w1.alloc (.cells (madeCells #[.int .i64 0] q.length) 3)).cell? ⟨g, o, none⟩ = w1.cell? ⟨g, o, none⟩ := fun o => World.cell?_alloc_lt w1 _ ⟨g, o, none⟩ hg2
  have HCK0 := Lib.hid (fun k hk => (hck0 k).trans (HCS.out k _ (dens_get q _ k hk)))
  have hgs : g < (w1.alloc (.cells (madeCells #[.int .i64 0] q.length) 3)).heap.size := by simp; omega
  clear hck0 hmk
  have HBW := Lib.hid (show Below w1.heap.size w1 (w1.alloc (.cells (madeCells #[.int .i64 0] q.length) 3)) from (Below.refl _ _).alloc (Nat.le_refl _) _)
  generalize w1.alloc (.cells (madeCells #[.int .i64 0] q.length) 3) = W at *
  have hGw := hb1.size
  generalize w1.heap.size = G at *
  clear hb1
  go_loopw [1, 7] (fun nn i wr => ∃ z : Int, i = .int .i64 z ∧ -1 ≤ z ∧ z < q.length ∧ nn = .int .i64 (rem q n (z + 1).toNat) ∧ wr.rowIs G 3 q.length (rowf q n (z + 1).toNat) ∧ Below G W wr ∧ Below w.heap.size w wr)
    (fun _ i _ => (intOf i + 1).toNat)
  case atStart =>
    refine ⟨(q.length : Int) - 1, rfl, by omega, by omega, ?_, ?_, Below.refl _ _, BL⟩
    · rw [show ((q.length : Int) - 1 + 1).toNat = q.length by omega]
      exact congrArg _ HTOP.out.symm
    · refine R0.congr (fun i hi => ?_)
      unfold rowf
      rw [if_neg (by omega)]
  case round =>
    obtain ⟨z, rfl, hz1, hz2, rfl, hrow, hb, hbw⟩ := hrel
    clear R0 BL
    by_cases hz : 0 ≤ z
    · obtain ⟨k, rfl⟩ := Int.eq_ofNat_of_zero_le hz
      rw [show ((k : Int) + 1).toNat = k + 1 by omega] at hrow ⊢
      have hk : k < q.length := by omega
      have c0 := (hb.cell (p := ⟨g, k, none⟩) hg2).trans (HCK0.out k (by omega))
      obtain ⟨r1, r2⟩ := HR.out (k + 1) (by omega)
      have hd := (HB.out k (by omega)).1
      have hd2 := (HB.out k (by omega)).2.2.2
      have hcr := hrow.cell hk
      have hfr := hrow.frozen
      have hlr := hrow.lt
      have HX := Lib.hid (show rem q n (k + 1) / den q k = dg q n k from rfl)
      have HST := Lib.hid (rem_step q n k hk)
      generalize rem q n (k + 1) = r at *
      generalize den q k = d at *
      generalize hff : rowf q n (k + 1) k = f0 at hcr
      have hd0 : (d == 0) = false := by rw [beq_eq_false_iff_ne]; omega
      have hdv : 0 ≤ r / d := Int.ediv_nonneg r1 (by omega)
      have hdl : r / d ≤ 10000000000 := Int.le_trans (Int.ediv_le_self _ r1) (by omega)
      have hgG : g ≠ G := by omega
      clear hff
      go_wp2_with fail
      go_roundw
      case rel =>
        refine ⟨(k : Int) - 1, by go_num, by omega, by omega, ?_, ?_, hb.setCell (Nat.le_refl _) _, hbw.setCell hGw _⟩
        · rw [show ((k : Int) - 1 + 1).toNat = k by omega, HST.out]
        · rw [show ((k : Int) - 1 + 1).toNat = k by omega]
          exact (hrow.set k _).congr (fun i _ => rowf_next q n k _ HX.out i)
      case measure => simp [intOf]
    · obtain rfl : z = -1 := by omega
      go_wp2_with fail
      go_ret
      refine ⟨_, rfl, ints_of_row hrow (dgs_length q n) (by omega) (fun j u hu => ?_), hbw⟩
      have hj : j < q.length := by
        have := (List.getElem?_eq_some_iff.1 hu).1
        rwa [dgs_length] at this
      rw [dgs_get q n j hj] at hu
      unfold rowf
      rw [if_pos (by omega), Option.some.inj hu]

end Go.Proofs.Ytiknocjdogbajaa
