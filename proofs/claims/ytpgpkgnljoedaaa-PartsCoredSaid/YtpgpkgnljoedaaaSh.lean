/- Walks of conjugate, square, rank, crank, of the program and of the reference. -/
import Derived.Test.YtpgpkgnljoedaaaVa
namespace Go.Proofs.Ytpgpkgnljoedaaa
open Go.RowKit

/-- how many of the first k parts are greater than c -/
def cn (l : List Int) (c : Int) : Nat → Nat
  | 0 => 0
  | k + 1 => cn l c k + if c < l.getD k 0 then 1 else 0
theorem cn_yes {l : List Int} {c : Int} {k : Nat} (h : c < l.getD k 0) : cn l c (k + 1) = cn l c k + 1 := by rw [cn, if_pos h]
theorem cn_no {l : List Int} {c : Int} {k : Nat} (h : ¬ c < l.getD k 0) : cn l c (k + 1) = cn l c k := by rw [cn, if_neg h]; rfl
theorem cn_le (l : List Int) (c : Int) (k : Nat) : cn l c k ≤ k := by
  induction k with
  | zero => exact Nat.le_refl _
  | succ k ih => rw [cn]; split <;> omega
/-- ones among the first k parts -/
def on (l : List Int) : Nat → Nat
  | 0 => 0
  | k + 1 => on l k + if l.getD k 0 = 1 then 1 else 0
theorem on_yes {l : List Int} {k : Nat} (h : l.getD k 0 = 1) : on l (k + 1) = on l k + 1 := by rw [on, if_pos h]
theorem on_no {l : List Int} {k : Nat} (h : ¬ l.getD k 0 = 1) : on l (k + 1) = on l k := by rw [on, if_neg h]; rfl
theorem on_le (l : List Int) (k : Nat) : on l k ≤ k := by
  induction k with
  | zero => exact Nat.le_refl _
  | succ k ih => rw [on]; split <;> omega
theorem Part.fall {l : List Int} (h : Part l) (i : Nat) : ∀ j, i ≤ j → j < l.length → l.getD j 0 ≤ l.getD i 0 := by
  intro j
  induction j with
  | zero => intro h1 _; obtain rfl : i = 0 := by omega
            exact Int.le_refl _
  | succ j ih =>
    intro h1 h2
    by_cases e : i = j + 1
    · subst e; exact Int.le_refl _
    · have := ih (by omega) (by omega)
      have := (h.1 (j + 1) h2).2.2 (by omega)
      rw [Nat.add_sub_cancel] at this
      omega
theorem getD_out (l : List Int) (k : Nat) (h : l.length ≤ k) : l.getD k 0 = 0 := by simp [List.getD, List.getElem?_eq_none h]
/-- behind the first part that is not greater none is -/
theorem cn_stop {l : List Int} (h : Part l) (c : Int) (k : Nat) (hk : k ≤ l.length) (h1 : ∀ j, j < k → c < l.getD j 0) (h2 : k < l.length → ¬ c < l.getD k 0) : cn l c l.length = k := by
  have a : ∀ m, m ≤ k → cn l c m = m := by
    intro m
    induction m with
    | zero => intro _; rfl
    | succ m ih => intro hm; rw [cn_yes (h1 m (by omega)), ih (by omega)]
  have b : ∀ m, k ≤ m → m ≤ l.length → cn l c m = k := by
    intro m
    induction m with
    | zero => intro h3 _; obtain rfl : k = 0 := by omega
              rfl
    | succ m ih =>
      intro h3 h4
      by_cases e : k = m + 1
      · subst e; exact a _ (Nat.le_refl _)
      · have hm : ¬ c < l.getD m 0 := by
          have := h.fall k m (by omega) (by omega)
          have := h2 (by omega)
          omega
        rw [cn_no hm, ih (by omega) (by omega)]
  exact b l.length hk (Nat.le_refl _)
/-- the conjugate -/
def conjk (l : List Int) (k : Nat) : List Int := (List.range k).map (fun c : Nat => ((cn l c l.length : Nat) : Int))
def conj (l : List Int) : List Int := conjk l (l.getD 0 0).toNat
theorem conjk_succ (l : List Int) (k : Nat) : conjk l (k + 1) = conjk l k ++ [((cn l k l.length : Nat) : Int)] := by simp [conjk, List.range_succ]
theorem conjk_length (l : List Int) (k : Nat) : (conjk l k).length = k := by simp [conjk]
theorem first_bd {l : List Int} (h : Part l) : 0 ≤ l.getD 0 0 ∧ l.getD 0 0 ≤ 30 := by
  by_cases h0 : 0 < l.length
  · have := h.at 0 h0; omega
  · rw [getD_out l 0 (by omega)]; omega

set_option maxRecDepth 100000 in
set_option maxHeartbeats 4000000 in
theorem conjugate_any (v : Value) (l : List Int) (h : Part l) (w : World) (hv : Ints w v l) :
    Calls Try.prog 68 #[v] w fun e w' => ∃ v', e = .returned v' ∧ Own w' w.heap.size v' (conj l) ∧ Below w.heap.size w w' := by
  have HV := Lib.hid hv
  have HP := Lib.hid h
  have hl30 := h.len
  obtain ⟨hlen, A, cp, rfl, hc, hcr⟩ := hv
  have HCR := Lib.hid hcr
  have hat := at_any (.slice A l.length cp) l 0 w HV.out
  obtain ⟨f, hf⟩ := Int.eq_ofNat_of_zero_le (first_bd h).1
  have hf30 : f ≤ 30 := by have := (first_bd h).2; omega
  rw [hf] at hat
  have HF := Lib.hid hf
  have HAT := Lib.hid hat
  clear hcr h hat hf
  go_enter Try.func68, Try.ntmps68
  go_wp2_with fail
  refine HAT.out.mono ?_
  rintro e _ ⟨rfl, rfl⟩
  go_wp2_with fail
  go_loopw [3, 5, 8] (fun o _ i wr => ∃ k : Nat, k ≤ f ∧ i = .int .i64 k ∧ Own wr w.heap.size o (conjk l k) ∧ Below w.heap.size w wr)
    (fun _ _ i _ => f - (intOf i).toNat)
  case atStart => exact ⟨0, Nat.zero_le _, rfl, Own.nil _ _, Below.refl _ _⟩
  case round =>
    obtain ⟨k, hk, rfl, hown, hb⟩ := hrel
    by_cases hlt : k < f
    · go_wp2_with fail
      obtain ⟨wo, rfl⟩ : ∃ wo : World, wo = wr := ⟨_, rfl⟩
      have HOWN := Lib.hid hown
      have HB := Lib.hid hb
      clear hown hb
      go_loopw [5] (fun r wi => wi = wo ∧ ∃ m : Nat, m ≤ l.length ∧ r = .int .i64 m ∧ ∀ j, j < m → (k : Int) < l.getD j 0) (fun r _ => l.length - (intOf r).toNat)
      case atStart => exact ⟨rfl, 0, Nat.zero_le _, rfl, fun j hj => by omega⟩
      case round =>
        obtain ⟨rfl, m, hm, rfl, hall⟩ := hrel
        have HALL := Lib.hid hall
        clear hall
        by_cases hml : m < l.length
        · obtain ⟨ad, rfl, hbl, hcell⟩ := HCR.out (by omega)
          have hcx := (HB.out.cell (p := ad.add m) (by rw [addr_block]; exact hbl)).trans (hcell m _ (getD_get l m hml))
          have HCN := Lib.hid (cn_stop HP.out k m hm HALL.out)
          have HNX := Lib.hid (show (k : Int) < l.getD m 0 → ∀ j, j < m + 1 → (k : Int) < l.getD j 0 from fun hx j hj => by
            by_cases e : j = m
            · subst e; exact hx
            · exact HALL.out j (by omega))
          have HCS := Lib.hid (conjk_succ l k)
          generalize hgx : l.getD m 0 = x at *
          clear hcell hgx
          by_cases hx : (k : Int) < x
          · have dx : decide ((k : Int) < x) = true := decide_eq_true hx
            have HN := Lib.hid (HNX.out hx)
            go_wp2_with fail
            go_roundw
            case rel => exact ⟨trivial, m + 1, by omega, by go_num, HN.out⟩
            case measure => simp [intOf]; omega
          · have dx : decide ((k : Int) < x) = false := decide_eq_false hx
            have HE := Lib.hid (HCN.out (fun _ => hx))
            have hown := HOWN.out
            go_wp2_with (at_builtin; refine wpList_append_new _ rfl _ _ 53 rfl Try.underlying53 w.heap.size u3 (conjk l k) rfl hown (m : Int) rfl (by rw [conjk_length]; omega) HB.out.size ?_; intro v' w1 hown1 _ hb1)
            go_roundw
            case rel => exact ⟨k + 1, by omega, by go_num, by rw [HCS.out, HE.out]; exact hown1, HB.out.trans hb1⟩
            case measure => simp [intOf]; omega
        · obtain rfl : m = l.length := by omega
          have HE := Lib.hid (cn_stop HP.out k l.length hm HALL.out (fun h => by omega))
          have HCS := Lib.hid (conjk_succ l k)
          have hown := HOWN.out
          go_wp2_with (at_builtin; refine wpList_append_new _ rfl _ _ 53 rfl Try.underlying53 w.heap.size u3 (conjk l k) rfl hown (l.length : Int) rfl (by rw [conjk_length]; omega) HB.out.size ?_; intro v' w1 hown1 _ hb1)
          go_roundw
          case rel => exact ⟨k + 1, by omega, by go_num, by rw [HCS.out, HE.out]; exact hown1, HB.out.trans hb1⟩
          case measure => simp [intOf]; omega
    · obtain rfl : k = f := by omega
      go_wp2_with fail
      go_ret
      refine ⟨_, rfl, ?_, hb⟩
      unfold conj
      rw [HF.out]
      exact hown

set_option maxRecDepth 100000 in
set_option maxHeartbeats 4000000 in
theorem rConjugate_any (v : Value) (l : List Int) (h : Part l) (w : World) (hv : Ints w v l) :
    Calls Try.prog 43 #[v] w fun e w' => ∃ v', e = .returned v' ∧ Own w' w.heap.size v' (conj l) ∧ Below w.heap.size w w' := by
  have hl30 := h.len
  obtain ⟨hlen, A, cp, rfl, hc, hcr⟩ := hv
  have HCR := Lib.hid hcr
  obtain ⟨f, hf⟩ := Int.eq_ofNat_of_zero_le (first_bd h).1
  have hf30 : f ≤ 30 := by have := (first_bd h).2; omega
  have HF := Lib.hid hf
  by_cases h0 : 0 < l.length
  · obtain ⟨ad, rfl, hbl, hcell⟩ := hcr h0
    have hc0 : w.cell? ad = some (.int .i64 f) := by rw [← hf]; exact hcell 0 _ (getD_get l 0 h0)
    have HC := Lib.hid hcell
    have HC0 := Lib.hid hc0
    have d0 : decide ((0 : Int) < l.length) = true := decide_eq_true (by omega)
    have d0' : decide (0 < l.length) = true := decide_eq_true h0
    clear hcr h hf hcell hc0 HCR
    go_enter Try.func43, Try.ntmps43
    go_wp2_with fail
    go_loopw [3, 4] (fun o i wr => ∃ k : Nat, k ≤ f ∧ i = .int .i64 ((k : Int) + 1) ∧ Own wr w.heap.size o (conjk l k) ∧ Below w.heap.size w wr)
      (fun _ i _ => f + 1 - (intOf i).toNat)
    case atStart => exact ⟨0, Nat.zero_le _, rfl, Own.nil _ _, Below.refl _ _⟩
    case round =>
      obtain ⟨k, hk, rfl, hown, hb⟩ := hrel
      have hcz := (hb.cell (p := ad) hbl).trans HC0.out
      by_cases hlt : k < f
      · have dk : decide ((k : Int) + 1 ≤ f) = true := decide_eq_true (by omega)
        have dk' : decide (k + 1 ≤ f) = true := decide_eq_true (by omega)
        go_wp2_with fail
        obtain ⟨wo, rfl⟩ : ∃ wo : World, wo = wr := ⟨_, rfl⟩
        have HOWN := Lib.hid hown
        have HB := Lib.hid hb
        clear hown hb hcz
        go_loopw [5, 22] (fun n i wi => wi = wo ∧ ∃ m : Nat, m ≤ l.length ∧ i = .int .i64 m ∧ n = .int .i64 (cn l k m : Nat)) (fun _ i _ => l.length - (intOf i).toNat)
        case atStart => exact ⟨rfl, 0, Nat.zero_le _, rfl, rfl⟩
        case round =>
          obtain ⟨rfl, m, hm, rfl, rfl⟩ := hrel
          by_cases hml : m < l.length
          · have hcx := (HB.out.cell (p := ad.add m) (by rw [addr_block]; exact hbl)).trans (HC.out m _ (getD_get l m hml))
            have HY := Lib.hid (@cn_yes l k m)
            have HN := Lib.hid (@cn_no l k m)
            have hcl := cn_le l k m
            generalize l.getD m 0 = x at *
            generalize cn l k m = n at *
            by_cases hx : (k : Int) < x
            · have dx : decide ((k : Int) + 1 ≤ x) = true := decide_eq_true (by omega)
              have HE := Lib.hid (HY.out hx)
              go_wp2_with fail
              go_roundw
              case rel => exact ⟨trivial, m + 1, by omega, by go_num, by rw [HE.out]; go_num⟩
              case measure => simp [intOf]; omega
            · have dx : decide ((k : Int) + 1 ≤ x) = false := decide_eq_false (by omega)
              have HE := Lib.hid (HN.out hx)
              go_wp2_with fail
              go_roundw
              case rel => exact ⟨trivial, m + 1, by omega, by go_num, by rw [HE.out]⟩
              case measure => simp [intOf]; omega
          · obtain rfl : m = l.length := by omega
            have HCS := Lib.hid (conjk_succ l k)
            have hown := HOWN.out
            have hcl := cn_le l k l.length
            go_wp2_with (at_builtin; refine wpList_append_new _ rfl _ _ 33 rfl Try.underlying33 w.heap.size u3 (conjk l k) rfl hown ((cn l k l.length : Nat) : Int) rfl (by rw [conjk_length]; omega) HB.out.size ?_; intro v' w1 hown1 _ hb1)
            go_roundw
            case rel => exact ⟨k + 1, by omega, by go_num, by rw [HCS.out]; exact hown1, HB.out.trans hb1⟩
            case measure => simp [intOf]; omega
      · obtain rfl : k = f := by omega
        have dk : decide ((k : Int) + 1 ≤ k) = false := decide_eq_false (by omega)
        have dk' : decide (k + 1 ≤ k) = false := decide_eq_false (by omega)
        go_wp2_with fail
        go_ret
        refine ⟨_, rfl, ?_, hb⟩
        unfold conj
        rw [HF.out]
        exact hown
  · have hl0 : l = [] := List.eq_nil_of_length_eq_zero (by omega)
    subst hl0
    clear hcr HCR h hf HF
    go_enter Try.func43, Try.ntmps43
    go_wp2_with fail
    refine wp_loop_rounds 1 ?_
    rw [rounds_succ]
    go_wp2_with fail
    go_ret
    exact ⟨_, rfl, Own.nil _ _, Below.refl _ _⟩

/-- the square: the first k that is not below its part -/
def IsSq (l : List Int) (k : Nat) : Prop := (∀ j, j < k → (j : Int) < l.getD j 0) ∧ l.getD k 0 ≤ k
theorem sq_ex (l : List Int) : ∃ k, IsSq l k ∧ k ≤ l.length := by
  have key : ∀ d k, l.length - k = d → k ≤ l.length → (∀ j, j < k → (j : Int) < l.getD j 0) → ∃ m, IsSq l m ∧ m ≤ l.length := by
    intro d
    induction d with
    | zero =>
      intro k hd hk hall
      refine ⟨k, ⟨hall, ?_⟩, hk⟩
      rw [getD_out l k (by omega)]
      omega
    | succ d ih =>
      intro k hd hk hall
      by_cases hx : (k : Int) < l.getD k 0
      · refine ih (k + 1) (by omega) (by omega) (fun j hj => ?_)
        by_cases e : j = k
        · subst e; exact hx
        · exact hall j (by omega)
      · exact ⟨k, ⟨hall, by omega⟩, hk⟩
  exact key l.length 0 (by omega) (by omega) (fun j hj => by omega)
theorem at_k (v : Value) (l : List Int) (k : Nat) (x : Int) (hx : l.getD k 0 = x) (w : World) (hv : Ints w v l) :
    Calls Try.prog 87 #[v, .int .i64 k] w fun e w' => e = .returned (.int .i64 x) ∧ w = w' := by subst hx; exact at_any v l k w hv
set_option maxRecDepth 100000 in
set_option maxHeartbeats 4000000 in
theorem square_any (v : Value) (l : List Int) (q : Nat) (hq : IsSq l q) (_ : q ≤ 100) (w : World) (hv : Ints w v l) :
    Calls Try.prog 70 #[v] w fun e w' => e = .returned (.int .i64 q) ∧ w = w' := by
  have HV := Lib.hid hv
  have HQ := Lib.hid hq
  obtain ⟨hlen, A, cp, rfl, hc, hcr⟩ := hv
  clear hcr hq
  go_enter Try.func70, Try.ntmps70
  go_wp2_with fail
  go_loopw [3] (fun i wr => wr = w ∧ ∃ k : Nat, k ≤ q ∧ i = .int .i64 k) (fun i _ => q - (intOf i).toNat)
  case atStart => exact ⟨rfl, 0, Nat.zero_le _, rfl⟩
  case round =>
    obtain ⟨rfl, k, hk, rfl⟩ := hrel
    have HAT := Lib.hid (at_k _ l k _ rfl _ HV.out)
    by_cases hlt : k < q
    · have hx := HQ.out.1 k hlt
      generalize l.getD k 0 = x at *
      have dx : decide ((k : Int) < x) = true := decide_eq_true hx
      go_wp2_with fail
      refine HAT.out.mono ?_
      rintro e _ ⟨rfl, rfl⟩
      go_wp2_with fail
      go_roundw
      case rel => exact ⟨trivial, k + 1, by omega, by go_num⟩
      case measure => simp [intOf]; omega
    · obtain rfl : k = q := by omega
      have hx := HQ.out.2
      generalize l.getD k 0 = x at *
      have dx : decide ((k : Int) < x) = false := decide_eq_false (by omega)
      go_wp2_with fail
      refine HAT.out.mono ?_
      rintro e _ ⟨rfl, rfl⟩
      go_wp2_with fail
      go_ret
      exact ⟨rfl, rfl⟩
set_option maxRecDepth 100000 in
set_option maxHeartbeats 4000000 in
theorem rSquare_any (v : Value) (l : List Int) (q : Nat) (hq : IsSq l q) (hq30 : q ≤ l.length) (w : World) (hv : Ints w v l) :
    Calls Try.prog 44 #[v] w fun e w' => e = .returned (.int .i64 q) ∧ w = w' := by
  have HQ := Lib.hid hq
  obtain ⟨hlen, A, cp, rfl, hc, hcr⟩ := hv
  have HCR := Lib.hid hcr
  clear hcr hq
  go_enter Try.func44, Try.ntmps44
  go_wp2_with fail
  go_loop [3] (fun i => ∃ k : Nat, k ≤ q ∧ i = .int .i64 k) (fun i => q - (intOf i).toNat)
  case atStart => exact ⟨0, Nat.zero_le _, rfl⟩
  case round =>
    obtain ⟨k, hk, rfl⟩ := hrel
    by_cases hlt : k < q
    · obtain ⟨ad, rfl, hbl, hcell⟩ := HCR.out (by omega)
      have hcx := hcell k _ (getD_get l k (by omega))
      have hx := HQ.out.1 k hlt
      generalize l.getD k 0 = x at *
      have dx : decide ((k : Int) + 1 ≤ x) = true := decide_eq_true (by omega)
      clear hcell
      go_wp2_with fail
      go_round
      case rel => exact ⟨k + 1, by omega, by go_num⟩
      case measure => simp [intOf]; omega
    · obtain rfl : k = q := by omega
      by_cases hkl : k < l.length
      · obtain ⟨ad, rfl, hbl, hcell⟩ := HCR.out (by omega)
        have hcx := hcell k _ (getD_get l k hkl)
        have hx := HQ.out.2
        generalize l.getD k 0 = x at *
        have dx : decide ((k : Int) + 1 ≤ x) = false := decide_eq_false (by omega)
        clear hcell
        go_wp2_with fail
        go_ret
        exact ⟨rfl, rfl⟩
      · clear HCR
        go_wp2_with fail
        go_ret
        exact ⟨rfl, rfl⟩
/-- the rank -/
def rk (l : List Int) : Int := l.getD 0 0 - l.length
set_option maxHeartbeats 1000000 in
theorem rank_any (v : Value) (l : List Int) (h : Part l) (w : World) (hv : Ints w v l) :
    Calls Try.prog 71 #[v] w fun e w' => e = .returned (.int .i64 (rk l)) ∧ w = w' := by
  have HV := Lib.hid hv
  have hl30 := h.len
  obtain ⟨hf0, hf1⟩ := first_bd h
  have HR := Lib.hid (show rk l = l.getD 0 0 - l.length from rfl)
  obtain ⟨hlen, A, cp, rfl, hc, hcr⟩ := hv
  have HAT := Lib.hid (at_k (.slice A l.length cp) l 0 _ rfl w HV.out)
  clear hcr
  generalize l.getD 0 0 = x at *
  go_enter Try.func71, Try.ntmps71
  go_wp2_with fail
  refine HAT.out.mono ?_
  rintro e _ ⟨rfl, rfl⟩
  go_wp2_with fail
  go_ret
  exact ⟨by rw [HR.out]; rfl, rfl⟩

/-- the crank -/
def crk (l : List Int) : Int := if on l l.length = 0 then l.getD 0 0 else ((cn l (on l l.length : Nat) l.length : Nat) : Int) - (on l l.length : Nat)

set_option maxRecDepth 100000 in
set_option maxHeartbeats 8000000 in
theorem crank_any (v : Value) (l : List Int) (h : Part l) (w : World) (hv : Ints w v l) :
    Calls Try.prog 74 #[v] w fun e w' => e = .returned (.int .i64 (crk l)) ∧ w = w' := by
  have HV := Lib.hid hv
  have hl30 := h.len
  have hfb := first_bd h
  obtain ⟨hlen, A, cp, rfl, hc, hcr⟩ := hv
  have HCR := Lib.hid hcr
  have HFB := Lib.hid hfb
  clear hcr h hfb
  go_enter Try.func74, Try.ntmps74
  go_wp2_with fail
  go_loop [3, 11] (fun n i => ∃ k : Nat, k ≤ l.length ∧ i = .int .i64 k ∧ n = .int .i64 (on l k : Nat)) (fun _ i => l.length - (intOf i).toNat)
  case atStart => exact ⟨0, Nat.zero_le _, rfl, rfl⟩
  case round =>
    obtain ⟨k, hk, rfl, rfl⟩ := hrel
    by_cases hlt : k < l.length
    · obtain ⟨ad, rfl, hbl, hcell⟩ := HCR.out (by omega)
      have hcx := hcell k _ (getD_get l k hlt)
      have HY := Lib.hid (@on_yes l k)
      have HN := Lib.hid (@on_no l k)
      have hol := on_le l k
      clear hcell
      generalize l.getD k 0 = x at *
      generalize on l k = n at *
      by_cases hx : x = 1
      · have dx : (x == 1) = true := by simpa using hx
        have HE := Lib.hid (HY.out hx)
        clear hx
        go_wp2_with fail
        go_round
        case rel => exact ⟨k + 1, by omega, by go_num, by rw [HE.out]; go_num⟩
        case measure => simp [intOf]; omega
      · have dx : (x == 1) = false := by simpa using hx
        have HE := Lib.hid (HN.out hx)
        clear hx
        go_wp2_with fail
        go_round
        case rel => exact ⟨k + 1, by omega, by go_num, by rw [HE.out]⟩
        case measure => simp [intOf]; omega
    · obtain rfl : k = l.length := by omega
      have hol := on_le l l.length
      have HCRK := Lib.hid (show crk l = if on l l.length = 0 then l.getD 0 0 else ((cn l (on l l.length : Nat) l.length : Nat) : Int) - (on l l.length : Nat) from rfl)
      generalize on l l.length = o at *
      by_cases h0 : o = 0
      · subst h0
        have HAT := Lib.hid (at_k (.slice A l.length cp) l 0 _ rfl w HV.out)
        rw [if_pos rfl] at HCRK
        generalize l.getD 0 0 = y at *
        clear HCR
        go_wp2_with fail
        refine HAT.out.mono ?_
        rintro e _ ⟨rfl, rfl⟩
        go_wp2_with fail
        go_ret
        exact ⟨by rw [HCRK.out]; rfl, rfl⟩
      · have d0 : ((o : Int) == 0) = false := by rw [beq_eq_false_iff_ne]; omega
        have d0' : (o == 0) = false := by rw [beq_eq_false_iff_ne]; omega
        rw [if_neg h0] at HCRK
        clear h0
        go_wp2_with fail
        go_loop [4, 26] (fun n i => ∃ k : Nat, k ≤ l.length ∧ i = .int .i64 k ∧ n = .int .i64 (cn l (o : Nat) k : Nat)) (fun _ i => l.length - (intOf i).toNat)
        case atStart => exact ⟨0, Nat.zero_le _, rfl, rfl⟩
        case round =>
          obtain ⟨k, hk, rfl, rfl⟩ := hrel
          by_cases hlt2 : k < l.length
          · obtain ⟨ad, rfl, hbl, hcell⟩ := HCR.out (by omega)
            have hcx := hcell k _ (getD_get l k hlt2)
            have HY := Lib.hid (@cn_yes l o k)
            have HN := Lib.hid (@cn_no l o k)
            have hcl := cn_le l o k
            clear hcell
            generalize l.getD k 0 = x at *
            generalize cn l o k = n at *
            by_cases hx : (o : Int) < x
            · have dx : decide ((o : Int) < x) = true := decide_eq_true hx
              have HE := Lib.hid (HY.out hx)
              go_wp2_with fail
              go_round
              case rel => exact ⟨k + 1, by omega, by go_num, by rw [HE.out]; go_num⟩
              case measure => simp [intOf]; omega
            · have dx : decide ((o : Int) < x) = false := decide_eq_false hx
              have HE := Lib.hid (HN.out hx)
              go_wp2_with fail
              go_round
              case rel => exact ⟨k + 1, by omega, by go_num, by rw [HE.out]⟩
              case measure => simp [intOf]; omega
          · obtain rfl : k = l.length := by omega
            have hcl := cn_le l o l.length
            generalize cn l o l.length = n at *
            clear HCR
            go_wp2_with fail
            go_ret
            exact ⟨by rw [HCRK.out]; rfl, rfl⟩

set_option maxRecDepth 100000 in
set_option maxHeartbeats 8000000 in
theorem rCrank_any (v : Value) (l : List Int) (h : Part l) (w : World) (hv : Ints w v l) :
    Calls Try.prog 46 #[v] w fun e w' => e = .returned (.int .i64 (crk l)) ∧ w = w' := by
  have HV := Lib.hid hv
  have hl30 := h.len
  have hfb := first_bd h
  obtain ⟨hlen, A, cp, rfl, hc, hcr⟩ := hv
  have HCR := Lib.hid hcr
  have HFB := Lib.hid hfb
  clear hcr h hfb
  go_enter Try.func46, Try.ntmps46
  go_wp2_with fail
  go_loop [3, 11] (fun n i => ∃ k : Nat, k ≤ l.length ∧ i = .int .i64 k ∧ n = .int .i64 (on l k : Nat)) (fun _ i => l.length - (intOf i).toNat)
  case atStart => exact ⟨0, Nat.zero_le _, rfl, rfl⟩
  case round =>
    obtain ⟨k, hk, rfl, rfl⟩ := hrel
    by_cases hlt : k < l.length
    · obtain ⟨ad, rfl, hbl, hcell⟩ := HCR.out (by omega)
      have hcx := hcell k _ (getD_get l k hlt)
      have HY := Lib.hid (@on_yes l k)
      have HN := Lib.hid (@on_no l k)
      have hol := on_le l k
      clear hcell
      generalize l.getD k 0 = x at *
      generalize on l k = n at *
      by_cases hx : x = 1
      · have dx : (x == 1) = true := by simpa using hx
        have HE := Lib.hid (HY.out hx)
        clear hx
        go_wp2_with fail
        go_round
        case rel => exact ⟨k + 1, by omega, by go_num, by rw [HE.out]; go_num⟩
        case measure => simp [intOf]; omega
      · have dx : (x == 1) = false := by simpa using hx
        have HE := Lib.hid (HN.out hx)
        clear hx
        go_wp2_with fail
        go_round
        case rel => exact ⟨k + 1, by omega, by go_num, by rw [HE.out]⟩
        case measure => simp [intOf]; omega
    · obtain rfl : k = l.length := by omega
      have hol := on_le l l.length
      have HCRK := Lib.hid (show crk l = if on l l.length = 0 then l.getD 0 0 else ((cn l (on l l.length : Nat) l.length : Nat) : Int) - (on l l.length : Nat) from rfl)
      generalize on l l.length = o at *
      go_wp2_with fail
      go_loop [4, 22] (fun n i => ∃ k : Nat, k ≤ l.length ∧ i = .int .i64 k ∧ n = .int .i64 (cn l (o : Nat) k : Nat)) (fun _ i => l.length - (intOf i).toNat)
      case atStart => exact ⟨0, Nat.zero_le _, rfl, rfl⟩
      case round =>
        obtain ⟨k, hk, rfl, rfl⟩ := hrel
        by_cases hlt2 : k < l.length
        · obtain ⟨ad, rfl, hbl, hcell⟩ := HCR.out (by omega)
          have hcx := hcell k _ (getD_get l k hlt2)
          have HY := Lib.hid (@cn_yes l o k)
          have HN := Lib.hid (@cn_no l o k)
          have hcl := cn_le l o k
          clear hcell
          generalize l.getD k 0 = x at *
          generalize cn l o k = n at *
          by_cases hx : (o : Int) < x
          · have dx : decide ((o : Int) < x) = true := decide_eq_true hx
            have HE := Lib.hid (HY.out hx)
            go_wp2_with fail
            go_round
            case rel => exact ⟨k + 1, by omega, by go_num, by rw [HE.out]; go_num⟩
            case measure => simp [intOf]; omega
          · have dx : decide ((o : Int) < x) = false := decide_eq_false hx
            have HE := Lib.hid (HN.out hx)
            go_wp2_with fail
            go_round
            case rel => exact ⟨k + 1, by omega, by go_num, by rw [HE.out]⟩
            case measure => simp [intOf]; omega
        · obtain rfl : k = l.length := by omega
          have hcl := cn_le l o l.length
          generalize cn l o l.length = n at *
          by_cases hl0 : 0 < l.length
          · have dl : ((l.length : Int) == 0) = false := by rw [beq_eq_false_iff_ne]; omega
            by_cases h0 : o = 0
            · subst h0
              rw [if_pos rfl] at HCRK
              obtain ⟨ad, rfl, hbl, hcell⟩ := HCR.out hl0
              have hcx : w.cell? ad = some (.int .i64 (l.getD 0 0)) := hcell 0 _ (getD_get l 0 hl0)
              clear hcell
              generalize l.getD 0 0 = y at *
              go_wp2_with fail
              go_ret
              exact ⟨by rw [HCRK.out]; rfl, rfl⟩
            · have d0 : ((o : Int) == 0) = false := by rw [beq_eq_false_iff_ne]; omega
              have d0' : (o == 0) = false := by rw [beq_eq_false_iff_ne]; omega
              rw [if_neg h0] at HCRK
              clear h0 HCR
              go_wp2_with fail
              go_ret
              exact ⟨by rw [HCRK.out]; rfl, rfl⟩
          · have hll : l.length = 0 := by omega
            have ho0 : o = 0 := by omega
            rw [if_pos ho0, getD_out l 0 (by omega)] at HCRK
            have dl : ((l.length : Int) == 0) = true := by rw [beq_iff_eq]; omega
            have dl' : (l.length == 0) = true := by rw [beq_iff_eq]; omega
            clear HCR hll ho0
            go_wp2_with fail
            go_ret
            exact ⟨by rw [HCRK.out]; rfl, rfl⟩

set_option maxHeartbeats 1000000 in
theorem rRank_any (v : Value) (l : List Int) (h : Part l) (w : World) (hv : Ints w v l) :
    Calls Try.prog 45 #[v] w fun e w' => e = .returned (.int .i64 (rk l)) ∧ w = w' := by
  have hl30 := h.len
  obtain ⟨hf0, hf1⟩ := first_bd h
  have HR := Lib.hid (show rk l = l.getD 0 0 - l.length from rfl)
  obtain ⟨hlen, A, cp, rfl, hc, hcr⟩ := hv
  by_cases h0 : 0 < l.length
  · obtain ⟨ad, rfl, hbl, hcell⟩ := hcr h0
    have hcx : w.cell? ad = some (.int .i64 (l.getD 0 0)) := hcell 0 _ (getD_get l 0 h0)
    have d0 : ((l.length : Int) == 0) = false := by rw [beq_eq_false_iff_ne]; omega
    clear hcr hcell h
    generalize l.getD 0 0 = x at *
    go_enter Try.func45, Try.ntmps45
    go_wp2_with fail
    go_ret
    exact ⟨by rw [HR.out]; rfl, rfl⟩
  · have hl0 : l = [] := List.eq_nil_of_length_eq_zero (by omega)
    subst hl0
    clear hcr h
    go_enter Try.func45, Try.ntmps45
    go_wp2_with fail
    go_ret
    exact ⟨rfl, rfl⟩

end Go.Proofs.Ytpgpkgnljoedaaa
