/- Plain mathematics for PartsFilled: the finite checks. -/
import Derived.Test.YtpgpkgnljoedaaaAp
namespace Go.Proofs.Ytpgpkgnljoedaaa

def nats (l : List Int) : List Nat := l.map Int.toNat
theorem nats_getD (l : List Int) (k : Nat) : (nats l).getD k 0 = (l.getD k 0).toNat := by
  simp only [nats, List.getD, List.getElem?_map]
  cases l[k]? <;> simp
theorem ints_nats {l : List Int} (h : ∀ x ∈ l, 0 ≤ x) : ints (nats l) = l := by
  unfold ints nats
  rw [List.map_map]
  conv => rhs; rw [← List.map_id l]
  refine List.map_congr_left (fun x hx => ?_)
  have := h x hx
  simp only [Function.comp, id]
  show ((x.toNat : Nat) : Int) = x
  omega
theorem ints_sum (L : List Nat) : (ints L).sum = ((L.sum : Nat) : Int) := by
  induction L with
  | nil => rfl
  | cons x r ih =>
    show (Int.ofNat x :: ints r).sum = _
    rw [List.sum_cons, ih, List.sum_cons, Int.natCast_add]; rfl
theorem Part.pos {l : List Int} (h : Part l) : ∀ x ∈ l, 0 ≤ x := by
  intro x hx
  obtain ⟨k, hk, rfl⟩ := List.getElem_of_mem hx
  have := (h.at k hk).1
  have e : l.getD k 0 = l[k] := by simp [List.getD, hk]
  omega
theorem Part.pw {l : List Int} (h : Part l) : (nats l).Pairwise (· ≥ ·) := by
  rw [List.pairwise_iff_getElem]
  intro i j hi hj hij
  have hj' : j < l.length := by simpa [nats] using hj
  have hi' : i < l.length := by omega
  have := h.fall i j (by omega) hj'
  have e1 : l.getD i 0 = l[i] := by simp [List.getD, hi']
  have e2 : l.getD j 0 = l[j] := by simp [List.getD, hj']
  rw [e1, e2] at this
  simp only [nats, List.getElem_map]
  show l[j].toNat ≤ l[i].toNat
  omega
theorem ap_nat {l : List Int} (h : Part l) : ap l l.length = ((capN (nats l) : Nat) : Int) := by
  have := capN_ap (nats l) h.pw
  rwa [ints_nats h.pos] at this
theorem sum_nat {l : List Int} (h : Part l) : l.sum.toNat = (nats l).sum := by
  have := ints_sum (nats l)
  rw [ints_nats h.pos] at this
  omega
def fillsN (L : List Nat) : Nat := fac L.sum / capN L
theorem fills_nat {l : List Int} (h : Part l) : fills l = ((fillsN (nats l) : Nat) : Int) := by
  unfold fills fillsN
  rw [ap_nat h, sum_nat h, Int.natCast_ediv]
def decN (L : List Nat) (i : Nat) : List Nat := if L.getD i 0 = 1 then L.take i else L.set i (L.getD i 0 - 1)
theorem dec_nat (l : List Int) (i : Nat) : nats (dec l i) = decN (nats l) i := by
  unfold dec decN
  rw [nats_getD]
  by_cases h : l.getD i 0 = 1
  · rw [if_pos h, if_pos (by omega)]
    simp [nats, List.map_take]
  · rw [if_neg h, if_neg (by omega)]
    unfold nats
    rw [List.map_set]
    congr 1
    omega
def csN (L : List Nat) : Nat → Nat
  | 0 => 0
  | k + 1 => csN L k + if k + 1 < L.length ∧ L.getD (k + 1) 0 = L.getD k 0 then 0 else fillsN (decN L k)
theorem cs_nat {l : List Int} (h : Part l) : ∀ k, k ≤ l.length → csum l k = ((csN (nats l) k : Nat) : Int) := by
  intro k
  induction k with
  | zero => intro _; rfl
  | succ k ih =>
    intro hk
    have hl : (nats l).length = l.length := by simp [nats]
    rw [csum, csN, ih (by omega), nats_getD, nats_getD, hl]
    have h1 := (h.at k (by omega)).1
    by_cases hc : k + 1 < l.length ∧ l.getD (k + 1) 0 = l.getD k 0
    · rw [if_pos hc, if_pos ⟨hc.1, by rw [hc.2]⟩]; omega
    · rw [if_neg hc, if_neg (fun hn => hc ⟨hn.1, by omega⟩)]
      have := fills_nat (dec_part h k (by omega) (fun h4 h5 => hc ⟨h4, h5⟩)).1
      rw [this, dec_nat]; omega
def fillOk (L : List Nat) : Bool := (fac L.sum % capN L == 0) && (L.length == 0 || csN L L.length == fillsN L)
set_option maxHeartbeats 0 in
theorem fill_all : ∀ n, n ≤ 20 → (allp n).all (fun l => fillOk (nats l)) = true := by decide +kernel
theorem fill_ok {l : List Int} (h : Part l) (hs : l.sum ≤ 20) : ((fac l.sum.toNat : Nat) : Int) % ap l l.length = 0 ∧ (0 < l.length → csum l l.length = fills l) := by
  obtain ⟨n, hn⟩ := Int.eq_ofNat_of_zero_le h.sum0
  have := List.all_eq_true.1 (fill_all n (by omega)) l (h.mem n hn)
  unfold fillOk at this
  have hl : (nats l).length = l.length := by simp [nats]
  simp only [Bool.and_eq_true, beq_iff_eq, Bool.or_eq_true, hl] at this
  rw [ap_nat h, sum_nat h, cs_nat h _ (Nat.le_refl _), fills_nat h]
  refine ⟨by have := this.1; omega, fun h0 => ?_⟩
  rcases this.2 with h2 | h2
  · omega
  · rw [h2]
/-- the squares of the first k -/
def sqs (L : List (List Int)) : Int := (L.map (fun p => fills p * fills p)).sum
set_option maxHeartbeats 0 in
theorem squares : ∀ n, n ≤ 14 → sqs (allp n) = (fac n : Nat) := by decide +kernel
end Go.Proofs.Ytpgpkgnljoedaaa
