/- Mathematics of PartsHalved: Odds of Glaisher and Glaisher of Odds. -/
import Derived.Test.YtpgpkgnljoedaaaPairs
import Derived.Test.YtpgpkgnljoedaaaFn
import Derived.Test.YtpgpkgnljoedaaaKinds
namespace Go.Proofs.Ytpgpkgnljoedaaa
theorem od_sum : ∀ (n : Nat) (x : Int), (od n x).sum = x
  | 0, x => by simp [od]
  | n + 1, x => by
    rw [od]
    by_cases he : x % 2 = 0
    · rw [if_pos he, List.sum_append, od_sum n (x / 2)]; omega
    · rw [if_neg he]; simp
theorem od_mem : ∀ (n : Nat) (x : Int), 1 ≤ x → x ≤ 2 ^ n → ∀ z ∈ od n x, 1 ≤ z ∧ z % 2 ≠ 0
  | 0, x, h, h', z, hz => by simp [od] at hz h'; omega
  | n + 1, x, h, h', z, hz => by
    rw [od] at hz
    by_cases he : x % 2 = 0
    · rw [if_pos he] at hz
      have := od_mem n (x / 2) (by omega) (by rw [Int.pow_succ] at h'; omega) z
      rcases List.mem_append.1 hz with hz | hz <;> exact this hz
    · rw [if_neg he] at hz; simp at hz; omega
theorem flat_sum : ∀ (l : List Int), (l.flatMap odp).sum = l.sum
  | [] => rfl
  | x :: l => by rw [List.flatMap_cons, List.sum_append, List.sum_cons, flat_sum l]; unfold odp; rw [od_sum]
theorem odds_small {l : List Int} (h : Small l) : Small (odds l) ∧ ∀ z ∈ odds l, z % 2 ≠ 0 := by
  have hm : ∀ z ∈ l.flatMap odp, 1 ≤ z ∧ z % 2 ≠ 0 := fun z hz => by
    obtain ⟨x, hx, hz⟩ := List.mem_flatMap.1 hz
    have h1 := h.1 x hx
    have h2 := sum_ge h.1 x hx
    have h3 := h.2
    exact od_mem 20 x h1 (by omega) z hz
  have hp := srt_perm (l.flatMap odp)
  refine ⟨⟨fun z hz => (hm z (hp.mem_iff.1 hz)).1, ?_⟩, fun z hz => (hm z (hp.mem_iff.1 hz)).2⟩
  rw [odds, sum_perm hp, flat_sum]; exact h.2
theorem part_of {L : List Int} (h : Small L) (hf : Fal L) : Part L := by
  refine ⟨fun k hk => ⟨(h.at k hk).1, (h.at k hk).2, fun h1 => ?_⟩, h.2⟩
  have := List.pairwise_iff_getElem.1 hf (k - 1) k (by omega) hk (by omega)
  rw [List.getD_eq_getElem?_getD, List.getD_eq_getElem?_getD, List.getElem?_eq_getElem hk, List.getElem?_eq_getElem (by omega)]
  exact this
theorem oddTo_of {L : List Int} (h : ∀ x ∈ L, x % 2 ≠ 0) : OddTo L L.length := fun j hj => h _ (getD_mem hj)
theorem flat_odd : ∀ {l : List Int}, (∀ x ∈ l, x % 2 ≠ 0) → l.flatMap odp = l
  | [], _ => rfl
  | x :: l, h => by rw [List.flatMap_cons, odp_odd (h x List.mem_cons_self), flat_odd (fun y hy => h y (List.mem_cons_of_mem _ hy))]; rfl
theorem mg_flat (L : List Int) (j : Nat) (h : j + 1 < L.length) (he : L.getD (j + 1) 0 = L.getD j 0) (h1 : 1 ≤ L.getD j 0) (h2 : L.getD j 0 ≤ 1000) : (mg L j).flatMap odp = L.flatMap odp := by
  have h0 : L = L.take j ++ L.getD j 0 :: L.getD (j + 1) 0 :: L.drop (j + 2) := by
    have e1 := List.take_append_drop j L
    rw [List.drop_eq_getElem_cons (show j < L.length by omega), List.drop_eq_getElem_cons (show j + 1 < L.length by omega)] at e1
    rw [List.getD_eq_getElem?_getD, List.getD_eq_getElem?_getD, List.getElem?_eq_getElem h, List.getElem?_eq_getElem (show j < L.length by omega)]
    exact e1.symm
  have e2 : odp (2 * L.getD j 0) = odp (L.getD j 0) ++ odp (L.getD j 0) := by
    rw [odp_even (x := 2 * L.getD j 0) (by omega) (by omega) (by omega), show 2 * L.getD j 0 / 2 = L.getD j 0 by omega]
  conv => rhs; rw [h0]
  rw [he]
  unfold mg
  rw [List.flatMap_append, List.flatMap_append, List.flatMap_cons, List.flatMap_cons, List.flatMap_cons, e2, List.append_assoc]
theorem Gla.facts {L m : List Int} (h : Gla L m) (hs : Small L) (hf : Fal L) : (m.flatMap odp).Perm (L.flatMap odp) ∧ Small m ∧ Fal m ∧ NoDup m m.length := by
  induction h with
  | done hd => exact ⟨.refl _, hs, hf, hd⟩
  | step i h he hn hm ih =>
    obtain ⟨a1, a2⟩ := hs.at i (by omega)
    obtain ⟨b1, b2, b3, b4⟩ := ih ((mg_small hs i h he).perm (srt_perm _)) (srt_fal _)
    refine ⟨b1.trans ?_, b2, b3, b4⟩
    rw [← mg_flat _ i h he a1 (by omega)]
    exact flat_perm (srt_perm _)
theorem dif_of {m : List Int} (h : NoDup m m.length) : Dif m := fun k hk => h k hk hk
/-- Odds of Glaisher -/
theorem back_odds {l m : List Int} (hp : Part l) (ho : OddTo l l.length) (h : Gla l m) : Part m ∧ Dif m ∧ odds m = l := by
  obtain ⟨b1, b2, b3, b4⟩ := h.facts hp.small hp.fal
  refine ⟨part_of b2 b3, dif_of b4, ?_⟩
  rw [flat_odd (oddTo_all ho)] at b1
  unfold odds
  rw [srt_eq b1, srt_of_fal hp.fal]
/-- the parts that numbers of odd parts come from -/
def bits2 : Nat → Nat → Nat → Nat
  | 0, _, c => c
  | f + 1, p, c => if p % 2 = 0 then bits2 f (p / 2) (c / 2) else c
def oddOf : Nat → Nat → Nat
  | 0, p => p
  | f + 1, p => if p % 2 = 0 then oddOf f (p / 2) else p
def backP (X : List Int) : List Int :=
  let cs := (List.range 16).map fun i => X.count ((2 * i + 1 : Nat) : Int)
  ((List.range 30).map (fun i => 30 - i)).filterMap fun p => if bits2 5 p (cs.getD (oddOf 5 p / 2) 0) % 2 = 1 then some ((p : Nat) : Int) else none
theorem backP_perm {X Y : List Int} (h : X.Perm Y) : backP X = backP Y := by
  unfold backP
  simp only [h.count_eq]
theorem backP_all : ((List.range 31).all fun n => (sprt n n n).all fun l => backP (l.flatMap odp) == l) = true := by decide +kernel
theorem backP_ok {l : List Int} (hp : Part l) (hd : Dif l) : backP (l.flatMap odp) = l := by
  have hs := hp.2
  have h0 := hp.sum0
  obtain ⟨n, hn⟩ : ∃ n : Nat, l.sum = n := ⟨l.sum.toNat, by omega⟩
  have h1 := List.all_eq_true.1 backP_all n (List.mem_range.2 (by omega))
  have h2 := List.all_eq_true.1 h1 l (hp.smem hd n hn)
  exact eq_of_beq h2
/-- Glaisher of Odds -/
theorem back_gla {l m : List Int} (hp : Part l) (hd : Dif l) (h : Gla (odds l) m) : m = l := by
  have hs := odds_small hp.small
  obtain ⟨b1, b2, b3, b4⟩ := h.facts hs.1 (srt_fal _)
  rw [flat_odd hs.2] at b1
  have b5 : (m.flatMap odp).Perm (l.flatMap odp) := b1.trans (srt_perm _)
  rw [← backP_ok (part_of b2 b3) (dif_of b4), ← backP_ok hp hd, backP_perm b5]
theorem kv_two (n t : Nat) (ht : t < 3) : kv n (2 * t) = kv n (2 * t + 1) := by
  match t, ht with
  | 0, _ => rfl
  | 1, _ => rfl
  | 2, _ => rfl
end Go.Proofs.Ytpgpkgnljoedaaa
