/- Walks of beads, of, Contains, Compare and the reference's at. -/
import Derived.Test.YtpgpkgnljoedaaaCm
import Derived.Test.YtpgpkgnljoedaaaSt
namespace Go.Proofs.Ytpgpkgnljoedaaa
open Go.RowKit
def bdk (l : List Int) (k : Nat) : List Int := (List.range k).map (bead l)
theorem bdk_succ (l : List Int) (k : Nat) : bdk l (k + 1) = bdk l k ++ [bead l k] := by simp [bdk, List.range_succ]
theorem bdk_length (l : List Int) (k : Nat) : (bdk l k).length = k := by simp [bdk]
theorem bdk_all (l : List Int) : bdk l l.length = bds l := rfl
set_option maxRecDepth 100000 in
set_option maxHeartbeats 4000000 in
theorem beads_any (v : Value) (l : List Int) (h : Part l) (w : World) (hv : Ints w v l) :
    Calls Try.prog 93 #[v] w fun e w' => ∃ v', e = .returned v' ∧ Own w' w.heap.size v' (bds l) ∧ Below w.heap.size w w' := by
  have HP := Lib.hid h
  have hl30 := h.len
  obtain ⟨hlen, A, c, rfl, hc, hr⟩ := hv
  have HR := Lib.hid hr
  clear hr h
  go_enter Try.func93, Try.ntmps93
  go_wp2_with fail
  go_loopw [3, 8] (fun o i wr => ∃ k : Nat, k ≤ l.length ∧ i = .int .i64 k ∧ Own wr w.heap.size o (bdk l k) ∧ Below w.heap.size w wr) (fun _ i _ => l.length - (intOf i).toNat)
  case atStart => exact ⟨0, Nat.zero_le _, rfl, Own.nil _ _, Below.refl _ _⟩
  case round =>
    obtain ⟨k, hk, rfl, hown, hb⟩ := hrel
    by_cases hlt : k < l.length
    · obtain ⟨ad, rfl, hbl, hcell⟩ := HR.out (by omega)
      have hck := (hb.cell (p := ad.add k) (by rw [addr_block]; exact hbl)).trans (hcell k _ (getD_get l k hlt))
      obtain ⟨a1, a2⟩ := HP.out.at k hlt
      have HN := Lib.hid (show bdk l (k + 1) = bdk l k ++ [l.getD k 0 + l.length - 1 - k] by rw [bdk_succ]; unfold bead; congr 2; omega)
      have HBD := Lib.hid (bdk_length l k)
      have HB := Lib.hid hb
      have HO := Lib.hid hown
      have hbs := hb.size
      obtain ⟨Ao, co, hov⟩ := hown.form (by rw [bdk_length]; omega)
      subst hov
      clear hcell hb hown
      generalize l.getD k 0 = x at *
      go_wp2_with (at_builtin; refine wpList_append_new _ rfl _ _ 33 rfl Try.underlying33 w.heap.size _ (bdk l k) rfl HO.out (x + l.length - 1 - k) rfl (by rw [HBD.out]; omega) hbs ?_; intro v' w4 hown4 _ hb4)
      go_roundw
      case rel => exact ⟨k + 1, by omega, by go_num, by rw [HN.out]; exact hown4, HB.out.trans hb4⟩
      case measure => simp [intOf]; omega
    · obtain rfl : k = l.length := by omega
      have HO := Lib.hid hown
      have HB := Lib.hid hb
      obtain ⟨Ao, co, hov⟩ := hown.form (by rw [bdk_length]; omega)
      subst hov
      clear hown hb HR
      go_wp2_with fail
      go_ret
      exact ⟨_, rfl, HO.out, HB.out⟩
def ptk (b : List Int) (k : Nat) : List Int := (List.range k).filterMap fun k => if 0 < b.getD k 0 - ((b.length : Int) - 1 - k) then some (b.getD k 0 - ((b.length : Int) - 1 - k)) else none
theorem ptk_yes {b : List Int} {k : Nat} (h : 0 < b.getD k 0 - ((b.length : Int) - 1 - k)) : ptk b (k + 1) = ptk b k ++ [b.getD k 0 - ((b.length : Int) - 1 - k)] := by
  unfold ptk; rw [List.range_succ, List.filterMap_append]; simp only [List.filterMap_cons, if_pos h, List.filterMap_nil]
theorem ptk_no {b : List Int} {k : Nat} (h : ¬ 0 < b.getD k 0 - ((b.length : Int) - 1 - k)) : ptk b (k + 1) = ptk b k := by
  unfold ptk; rw [List.range_succ, List.filterMap_append]; simp only [List.filterMap_cons, if_neg h, List.filterMap_nil, List.append_nil]
theorem ptk_length (b : List Int) (k : Nat) : (ptk b k).length ≤ k := by
  unfold ptk
  have := List.length_filterMap_le (fun k : Nat => if 0 < b.getD k 0 - ((b.length : Int) - 1 - k) then some (b.getD k 0 - ((b.length : Int) - 1 - k)) else none) (List.range k)
  rwa [List.length_range] at this
theorem ptk_all (b : List Int) : ptk b b.length = pts b := rfl
set_option maxRecDepth 100000 in
set_option maxHeartbeats 4000000 in
theorem of_any (v : Value) (b : List Int) (hl : b.length ≤ 100) (hbd : ∀ x ∈ b, 0 ≤ x ∧ x ≤ 1000) (w : World) (hv : Ints w v b) (hlow : ∀ k, v.ownBlock = some k → k < w.heap.size) :
    Calls Try.prog 95 #[v] w fun e w' => ∃ v', e = .returned v' ∧ Own w' w.heap.size v' (pts (srt b)) ∧ Below w.heap.size w w' := by
  have HS := Lib.hid (sorted78 v b w (by omega) hv hlow)
  have hsl : (srt b).length = b.length := (srt_perm b).length_eq
  have HBD := Lib.hid (show ∀ k, k < (srt b).length → 0 ≤ (srt b).getD k 0 ∧ (srt b).getD k 0 ≤ 1000 from fun k hk => hbd _ ((srt_perm b).mem_iff.1 (gd_in hk)))
  obtain ⟨_, A, c, rfl, _, _⟩ := hv
  clear hlow hbd
  generalize srt b = s at *
  have hs100 : s.length ≤ 100 := by omega
  clear hsl
  go_enter Try.func95, Try.ntmps95
  go_wp2_with fail
  with_reducible refine HS.out.mono ?_
  rintro e w1 ⟨v1, rfl, hown1, hb1⟩
  have HI := Lib.hid (hown1.ints (by omega))
  have HB1 := Lib.hid hb1
  obtain ⟨_, A1, c1, rfl, _, hr1⟩ := HI.out
  have HR := Lib.hid hr1
  clear hown1 hb1 hr1 HS
  go_wp2_with fail
  go_loopw [4, 12] (fun o i wr => ∃ k : Nat, k ≤ s.length ∧ i = .int .i64 k ∧ Own wr w1.heap.size o (ptk s k) ∧ Below w1.heap.size w1 wr) (fun _ i _ => s.length - (intOf i).toNat)
  case atStart => exact ⟨0, Nat.zero_le _, rfl, Own.nil _ _, Below.refl _ _⟩
  case round =>
    obtain ⟨k, hk, rfl, hown, hb⟩ := hrel
    have hpl := ptk_length s k
    have HB := Lib.hid hb
    have HO := Lib.hid hown
    have hbs := hb.size
    obtain ⟨Ao, co, hov⟩ := hown.form (by omega)
    subst hov
    by_cases hlt : k < s.length
    · obtain ⟨ad, rfl, hbl, hcell⟩ := HR.out (by omega)
      have hck := (hb.cell (p := ad.add k) (by rw [addr_block]; exact hbl)).trans (hcell k _ (getD_get s k hlt))
      obtain ⟨a1, a2⟩ := HBD.out k hlt
      clear hcell hb hown
      by_cases hp : 0 < s.getD k 0 - ((s.length : Int) - 1 - k)
      · have HN := Lib.hid (ptk_yes hp)
        generalize s.getD k 0 = x at *
        go_wp2_with (at_builtin; refine wpList_append_new _ rfl _ _ 53 rfl Try.underlying53 w1.heap.size _ (ptk s k) rfl HO.out (x - ((s.length : Int) - 1 - k)) rfl (by omega) hbs ?_; intro v' w4 hown4 _ hb4)
        go_roundw
        case rel => exact ⟨k + 1, by omega, by go_num, by rw [HN.out]; exact hown4, HB.out.trans hb4⟩
        case measure => simp [intOf]; omega
      · have HN := Lib.hid (ptk_no hp)
        generalize s.getD k 0 = x at *
        go_wp2_with fail
        go_roundw
        case rel => exact ⟨k + 1, by omega, by go_num, by rw [HN.out]; exact HO.out, HB.out⟩
        case measure => simp [intOf]; omega
    · obtain rfl : k = s.length := by omega
      clear hown hb HR
      go_wp2_with fail
      go_ret
      exact ⟨_, rfl, HO.out.base HB1.out.size, HB1.out.trans (HB.out.mono HB1.out.size)⟩
set_option maxHeartbeats 2000000 in
theorem index104 (v : Value) (xs : List Int) (x : Int) (hl : xs.length ≤ 1000) (w : World) (hv : Ints w v xs) :
    Calls Try.prog 104 #[v, .int .i64 x] w fun e w' => (∃ z : Int, e = .returned (.int .i64 z) ∧ (0 ≤ z ↔ x ∈ xs) ∧ -1 ≤ z ∧ z ≤ 1000) ∧ w = w' := by
  obtain ⟨hlen, A, c, rfl, hc, hr⟩ := hv
  have HR := Lib.hid hr
  clear hr
  go_enter Try.func104, Try.ntmps104
  go_wp2_with fail
  go_loop [8] (fun i => ∃ k : Nat, k ≤ xs.length ∧ i = .int .i64 k ∧ ∀ j, j < k → xs.getD j 0 ≠ x) (fun i => xs.length - (intOf i).toNat)
  case atStart => exact ⟨0, Nat.zero_le _, rfl, fun j hj => by omega⟩
  case round =>
    obtain ⟨k, hk, rfl, hall⟩ := hrel
    have HA := Lib.hid hall
    clear hall
    by_cases hlt : k < xs.length
    · obtain ⟨ad, rfl, hbl, hcell⟩ := HR.out (by omega)
      have hck := hcell k _ (getD_get xs k hlt)
      clear hcell
      by_cases he : xs.getD k 0 = x
      · have HM := Lib.hid (show x ∈ xs by rw [← he]; exact gd_in hlt)
        rw [he] at hck
        clear he
        go_wp2_with fail
        go_ret
        exact ⟨⟨k, rfl, ⟨fun _ => HM.out, fun _ => by omega⟩, by omega, by omega⟩, rfl⟩
      · have HN := Lib.hid (show ∀ j, j < k + 1 → xs.getD j 0 ≠ x from fun j hj => by
          by_cases e : j = k
          · subst e; exact he
          · exact HA.out j (by omega))
        have hee : (x == xs.getD k 0) = false := beq_eq_false_iff_ne.2 (fun e => he e.symm)
        clear he
        generalize xs.getD k 0 = y at *
        go_wp2_with fail
        go_round
        case rel => exact ⟨k + 1, by omega, by go_num, HN.out⟩
        case measure => simp [intOf]; omega
    · obtain rfl : k = xs.length := by omega
      have HM := Lib.hid (show ¬ x ∈ xs from fun hm => by
        obtain ⟨j, hj, e⟩ := List.getElem_of_mem hm
        refine HA.out j hj ?_
        rw [List.getD_eq_getElem?_getD, List.getElem?_eq_getElem hj]; exact e)
      clear HR
      go_wp2_with fail
      go_ret
      exact ⟨⟨-1, rfl, ⟨fun h => absurd h (by omega), fun h => absurd h HM.out⟩, by omega, by omega⟩, rfl⟩
set_option maxHeartbeats 1000000 in
theorem contains94 (v : Value) (xs : List Int) (x : Int) (hl : xs.length ≤ 1000) (w : World) (hv : Ints w v xs) (r : Bool) (hr : r = true ↔ x ∈ xs) :
    Calls Try.prog 94 #[v, .int .i64 x] w fun e w' => e = .returned (.bool r) ∧ w = w' := by
  have HI := Lib.hid (index104 v xs x hl w hv)
  have HX := Lib.hid hr
  obtain ⟨_, A, c, rfl, _, _⟩ := hv
  clear hr
  go_enter Try.func94, Try.ntmps94
  go_wp2_with fail
  with_reducible refine HI.out.mono ?_
  rintro e w1 ⟨⟨z, rfl, hz, _, _⟩, rfl⟩
  have hz' : decide (0 ≤ z) = r := by rw [Bool.eq_iff_iff, decide_eq_true_eq, hz]; exact HX.out.symm
  clear hz HI
  go_wp2_with fail
  go_ret
  exact ⟨by rw [← hz']; rfl, rfl⟩
theorem at98 (v : Value) (l : List Int) (k : Nat) (hk : k ≤ 1000) (w : World) (hv : Ints w v l) (x : Int) (hx : l.getD k 0 = x) :
    Calls Try.prog 98 #[v, .int .i64 k] w fun e w' => e = .returned (.int .i64 x) ∧ w = w' := by
  obtain ⟨hlen, A, c, rfl, hc, hr⟩ := hv
  by_cases hlt : k < l.length
  · obtain ⟨ad, rfl, hbl, hcell⟩ := hr (by omega)
    have hck := hcell k _ (getD_get l k hlt)
    rw [hx] at hck
    clear hcell hr hx
    have d1 : decide ((l.length : Int) ≤ k) = false := decide_eq_false (by omega)
    go_enter Try.func98, Try.ntmps98
    go_wp2_with fail
    go_ret
    exact ⟨rfl, rfl⟩
  · rw [gd_out (by omega)] at hx
    have d1 : decide ((l.length : Int) ≤ k) = true := decide_eq_true (by omega)
    clear hr
    have HX := Lib.hid hx
    clear hx
    go_enter Try.func98, Try.ntmps98
    go_wp2_with fail
    go_ret
    exact ⟨by rw [← HX.out]; rfl, rfl⟩
end Go.Proofs.Ytpgpkgnljoedaaa
