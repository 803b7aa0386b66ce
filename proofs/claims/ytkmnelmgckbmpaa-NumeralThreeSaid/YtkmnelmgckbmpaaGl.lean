/- NumeralGaps: the walk. -/
import Derived.Test.YtkmnelmgckbmpaaEg
namespace Go.Proofs.Ytkmnelmgckbmpaa
open Go.RowKit
theorem gapL_pos {p m n : Nat} (hm : 0 < m) (hc : Nat.gcd p m = 1) (hn1 : 1 ≤ n) (hn : n ≤ m) : 0 < (gapL m (gaps m (pS p m n))).length := by
  have hl := pS_length hm hc hn
  have h0 : gap m (pS p m n) 0 ∈ gaps m (pS p m n) := by
    unfold gaps
    exact List.mem_map.2 ⟨0, List.mem_range.2 (by omega), rfl⟩
  exact List.length_pos_of_mem (mem_gapL.2 ⟨(gaps_le (p := p) (m := m) (n := n) _ h0).2, List.count_pos_iff.2 h0, rfl⟩ : (gap m (pS p m n) 0, (gaps m (pS p m n)).count (gap m (pS p m n) 0)) ∈ _)
set_option maxRecDepth 100000 in
set_option maxHeartbeats 4000000 in
theorem numeralGaps_yes (p m n : Nat) (h1 : 2 ≤ m) (h2 : m ≤ 1000) (h3 : 1 ≤ p) (h4 : p < m) (h5 : 1 ≤ n) (h6 : n ≤ m) (h7 : Nat.gcd p m = 1) (w : World) :
    Calls Try.prog 3 #[.int .i64 p, .int .i64 m, .int .i64 n] w fun e w' => e = .returned (.bool true) ∧ Below w.heap.size w w' := by
  have HA := Lib.hid (fun W => Gaps_yes p m n h1 h2 h3 h4 h5 h6 h7 W)
  have HB := Lib.hid (fun W => rPoints_yes p m n h1 h2 h3 h4 h5 h6 h7 W)
  have HC := Lib.hid (fun W => rGaps_any p m n h1 h2 h3 h4 h5 h6 h7 W)
  have hp := gapL_pos (show 0 < m by omega) h7 h5 h6
  have hl : (gapL m (gaps m (pS p m n))).length ≤ 1000 := by
    have := (three_of (show 0 < m by omega) h7 h5 h6).len
    omega
  generalize gapL m (gaps m (pS p m n)) = L at *
  clear h7
  go_enter Try.func3, Try.ntmps3
  go_wp2_with fail
  with_reducible refine (HA.out _).mono ?_
  rintro e w1 ⟨v, rfl, hrd, hb1⟩
  obtain ⟨g1, c1, rfl, hg1, hc1⟩ := id hrd
  have HR1 := Lib.hid hrd
  have HB1 := Lib.hid hb1
  clear hrd hb1 hc1
  go_wp2_with fail
  with_reducible refine (HB.out _).mono ?_
  rintro e w2 ⟨rfl, hb2⟩
  have HR2 := Lib.hid (HR1.out.keep hb2)
  have HB2 := Lib.hid (HB1.out.trans (hb2.mono HB1.out.size))
  clear hb2
  go_wp2_with fail
  with_reducible refine (HC.out _).mono ?_
  rintro e w3 ⟨v3, rfl, hrw, hb3⟩
  have HR3 := Lib.hid (HR2.out.keep hb3)
  have HW3 := Lib.hid (hrw.rd hp)
  have HB3 := Lib.hid (HB2.out.trans (hb3.mono HB2.out.size))
  clear hrw hb3
  go_wp2_with fail
  with_reducible refine (equal_gaps _ _ L _ HR3.out HW3.out hl).mono ?_
  rintro e w4 ⟨rfl, hb4⟩
  have HB4 := Lib.hid (HB3.out.trans (hb4.mono HB3.out.size))
  clear hb4
  go_wp2_with fail
  with_reducible refine (awake_any _).mono ?_
  rintro e w5 ⟨rfl, hb5⟩
  have HB5 := Lib.hid (HB4.out.trans (hb5.mono HB4.out.size))
  clear hb5
  go_wp2_with fail
  go_ret
  exact ⟨rfl, HB5.out⟩
set_option maxRecDepth 100000 in
set_option maxHeartbeats 4000000 in
theorem numeralGaps_no (p m n : Int) (h : ¬ Pts p m n) (w : World) :
    Calls Try.prog 3 #[.int .i64 p, .int .i64 m, .int .i64 n] w fun e w' => e = .returned (.bool true) ∧ Below w.heap.size w w' := by
  have HA := Lib.hid (fun W => Gaps_no p m n h W)
  have HB := Lib.hid (fun W => rPoints_no p m n h W)
  clear h
  go_enter Try.func3, Try.ntmps3
  go_wp2_with fail
  with_reducible refine (HA.out _).mono ?_
  rintro e w1 ⟨rfl, hb1⟩
  have HB1 := Lib.hid hb1
  clear hb1
  go_wp2_with fail
  with_reducible refine (HB.out _).mono ?_
  rintro e w2 ⟨rfl, hb2⟩
  have HB2 := Lib.hid (HB1.out.trans (hb2.mono HB1.out.size))
  clear hb2
  go_wp2_with fail
  with_reducible refine (awake_any _).mono ?_
  rintro e w5 ⟨rfl, hb5⟩
  have HB5 := Lib.hid (HB2.out.trans (hb5.mono HB2.out.size))
  clear hb5
  go_wp2_with fail
  go_ret
  exact ⟨rfl, HB5.out⟩
/-- The walk of NumeralGaps. -/
theorem numeralGaps_walk (w : World) (p : Int) (_ : -9223372036854775808 ≤ p ∧ p ≤ 9223372036854775807) (m : Int) (_ : -9223372036854775808 ≤ m ∧ m ≤ 9223372036854775807) (n : Int) (_ : -9223372036854775808 ≤ n ∧ n ≤ 9223372036854775807) :
    Calls Try.prog 3 #[.int .i64 p, .int .i64 m, .int .i64 n] w fun e w' => e = .returned (.bool true) ∧ Below w.heap.size w w' := by
  by_cases h : Pts p m n
  · obtain ⟨p', m', n', rfl, rfl, rfl, a1, a2, a3, a4, a5, a6, a7⟩ := h.nat
    exact numeralGaps_yes p' m' n' a1 a2 a3 a4 a5 a6 a7 w
  · exact numeralGaps_no p m n h w
end Go.Proofs.Ytkmnelmgckbmpaa
