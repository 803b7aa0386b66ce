/- Walk of the program's Odds. -/
import Derived.Test.YtpgpkgnljoedaaaRq
import Derived.Test.YtpgpkgnljoedaaaSt
import Derived.Test.YtpgpkgnljoedaaaGx
namespace Go.Proofs.Ytpgpkgnljoedaaa
open Go.RowKit
theorem od_len : ∀ (n : Nat) (x : Int), 1 ≤ x → ((od n x).length : Int) ≤ x
  | 0, x, h => by simp [od]; omega
  | n + 1, x, h => by
    rw [od]
    by_cases he : x % 2 = 0
    · rw [if_pos he, List.length_append]
      have := od_len n (x / 2) (by omega)
      omega
    · rw [if_neg he]; simp; omega
theorem flat_len : ∀ {l : List Int}, (∀ x ∈ l, 1 ≤ x) → ((l.flatMap odp).length : Int) ≤ l.sum
  | [], _ => by simp
  | x :: l, h => by
    rw [List.flatMap_cons, List.length_append, List.sum_cons]
    have h1 := od_len 20 x (h x List.mem_cons_self)
    have h2 := flat_len (l := l) (fun y hy => h y (List.mem_cons_of_mem _ hy))
    unfold odp at h2 ⊢
    omega
theorem take_flat_len {l : List Int} (h : Small l) (k : Nat) : ((l.take k).flatMap odp).length ≤ 30 := by
  have h1 : ((l.take k).flatMap odp).length ≤ (l.flatMap odp).length := by
    conv => rhs; rw [← List.take_append_drop k l]
    rw [List.flatMap_append, List.length_append]; omega
  have h2 := flat_len h.1
  have := h.2
  omega
/-- the odd parts, in the order of the parts -/
def FO (l : List Int) : List Int := l.flatMap odp
theorem FO_len {l : List Int} (h : Small l) (k : Nat) : (FO (l.take k)).length ≤ 30 := take_flat_len h k
theorem FO_next (l : List Int) (k : Nat) (h : k < l.length) : FO (l.take (k + 1)) = FO (l.take k) ++ odp (l.getD k 0) := by
  unfold FO; rw [List.take_add_one, getD_get l k h]; simp
/-- append(s, l...) with the length by another name -/
theorem wpList_append_intsN (w : World) {ops : Array Oper} {rest : List Oper} {o : Oper} {a : Act} {Q : Exit → Act → World → Prop} (hgd : o.guard = none) (s x : Operand) (t : TypeId)
    (ho : o.op = .call { callee := .builtin .append, args := #[s, x], argTypes := #[t, t] })
    (ht : Try.prog.underlying t = some (.slice 3))
    (base : Nat) (v : Value) (xs : List Int) (hs : a.eval s = v) (hown : Own w base v xs)
    (ad : Addr) (ys : List Int) (m c : Nat) (hm : m = ys.length) (hx : a.eval x = .slice (some ad) m c) (hcell : ∀ j u, ys[j]? = some u → w.cell? (ad.add j) = some (.int .i64 u))
    (hlen : xs.length + ys.length ≤ 17592186044416) (hbase : base ≤ w.heap.size)
    (h : ∀ v' w', Own w' base v' (xs ++ ys) → w.grownBy w' v.ownBlock → wpList Try.prog ops Q rest (a.put o.dst v') w') : wpList Try.prog ops Q (o :: rest) a w := by
  subst hm
  exact wpList_append_ints w hgd s x t ho ht base v xs hs hown ad ys c hx hcell hlen hbase h
set_option maxRecDepth 100000 in
set_option maxHeartbeats 8000000 in
theorem Odds_ok (v : Value) (l : List Int) (hp : Part l) (hd : Dif l) (w : World) (hv : Ints w v l) :
    Calls Try.prog 48 #[v] w fun e w' => ∃ v', e = .returned (.tuple #[v', .int .i64 0]) ∧ Own w' w.heap.size v' (odds l) ∧ Below w.heap.size w w' := by
  have HVY := Lib.hid (valid_yes v l hp w hv)
  have HDY := Lib.hid (different_yes v l hd w hv)
  have HS := Lib.hid hp.small
  have hlen := hp.len
  have HI0 := Lib.hid hv
  obtain ⟨_, A, c, rfl, hc, hr⟩ := hv
  have HR := Lib.hid hr
  clear hr hp hd
  go_enter Try.func48, Try.ntmps48
  go_wp2_with fail
  with_reducible refine HVY.out.mono ?_
  rintro e _ ⟨rfl, rfl⟩
  go_wp2_with fail
  with_reducible refine HDY.out.mono ?_
  rintro e w1 ⟨rfl, hb1⟩
  have HB1 := Lib.hid hb1
  clear hb1 HVY HDY
  go_wp2_with fail
  go_loopw [5, 20] (fun o i wr => ∃ k : Nat, k ≤ l.length ∧ i = .int .i64 k ∧ Own wr w.heap.size o (FO (l.take k)) ∧ Below w.heap.size w wr) (fun _ i _ => l.length - (intOf i).toNat)
  case atStart => exact ⟨0, Nat.zero_le _, rfl, Own.nil _ _, HB1.out⟩
  case round =>
    obtain ⟨k, hk, rfl, hown, hb⟩ := hrel
    have hfl := FO_len HS.out k
    have hfl2 := FO_len HS.out (k + 1)
    by_cases hlt : k < l.length
    · obtain ⟨ad, rfl, hbl, hcell⟩ := HR.out (by omega)
      have hck := (hb.cell (p := ad.add k) (by rw [addr_block]; exact hbl)).trans (hcell k _ (getD_get l k hlt))
      obtain ⟨a1, a2⟩ := HS.out.at k hlt
      have HT := Lib.hid (FO_next l k hlt)
      have HBW := Lib.hid hb
      have HO := Lib.hid hown
      have hbs := hb.size
      obtain ⟨X0, hX0⟩ : ∃ X0 : Nat, l.getD k 0 = X0 := ⟨(l.getD k 0).toNat, by omega⟩
      rw [hX0] at hck a1 a2 HT
      clear hcell hX0 hb HB1 HR hfl2
      obtain ⟨Ao, co, hov⟩ := hown.form (by omega)
      subst hov
      clear hown
      go_wp2_with fail
      go_loop [7, 8] (fun x n => ∃ y m : Nat, x = .int .i64 y ∧ n = .int .i64 m ∧ m * y = X0 ∧ (List.replicate m (odp y)).flatten = odp X0) (fun x _ => (intOf x).toNat)
      case atStart => exact ⟨X0, 1, rfl, rfl, by omega, by simp⟩
      case round =>
        obtain ⟨y, m, rfl, rfl, hmy, hfl3⟩ := hrel
        have hy1 : 1 ≤ y := by rcases Nat.eq_zero_or_pos y with h | h; · subst h; simp at hmy; omega
                               · exact h
        have hm1 : 1 ≤ m := by rcases Nat.eq_zero_or_pos m with h | h; · subst h; simp at hmy; omega
                               · exact h
        have hm30 : m ≤ 30 := by have := Nat.le_mul_of_pos_right m hy1; omega
        have hy30 : y ≤ 30 := by have := Nat.le_mul_of_pos_left y hm1; omega
        have HF := Lib.hid hfl3
        have HMY := Lib.hid hmy
        clear hfl3 hmy
        by_cases he : y % 2 = 0
        · have e1 : (((y : Int)) % 2 == 0) = true := beq_iff_eq.2 (by omega)
          have HR2 := Lib.hid (show (List.replicate (2 * m) (odp ((y / 2 : Nat) : Int))).flatten = odp X0 from by
            have := odp_round (x := (y : Int)) (by omega) (by omega) (by omega) HF.out
            rwa [show ((y : Int) / 2) = ((y / 2 : Nat) : Int) by omega] at this)
          have HM2 := Lib.hid (show 2 * m * (y / 2) = X0 from by
            rw [← HMY.out]
            have : y = 2 * (y / 2) := by omega
            conv => rhs; rw [this]
            rw [Nat.mul_comm 2 m, Nat.mul_assoc])
          clear he
          go_wp2_with fail
          go_round
          case rel => exact ⟨y / 2, 2 * m, by go_num, by go_num, HM2.out, HR2.out⟩
          case measure => simp [intOf]; omega
        · have e1 : (((y : Int)) % 2 == 0) = false := beq_eq_false_iff_ne.2 (by omega)
          have HE := Lib.hid (odp_end (x := (y : Int)) (by omega) HF.out)
          clear he
          have HREP := Lib.hid (repeat_any (y : Int) m hm1 (by omega) ⟨wr.heap.size, 0, none⟩ 1 (wr.alloc (.cells #[.int .i64 y] 3)) (cell_one (heap_alloc_new wr _)) (by simp))
          go_wp2_with fail
          with_reducible refine HREP.out.mono ?_
          rintro e w2 ⟨v2, rfl, hown2, hb2⟩
          have hb3 : Below wr.heap.size wr w2 := ((Below.refl _ _).alloc (Nat.le_refl _) _).trans (hb2.mono (by simp))
          have HO3 := Lib.hid (HO.out.same (w' := w2) (fun b _ hlt => hb3.block b hlt))
          have HB3 := Lib.hid (HBW.out.trans (hb3.mono hbs))
          obtain ⟨g2, cap2, hv2, _, hg2, _, hcc⟩ := hown2.seen (by rw [List.length_replicate]; omega)
          rw [List.length_replicate] at hv2
          subst hv2
          have HCC := Lib.hid (show ∀ j u, (List.replicate m (y : Int))[j]? = some u → w2.cell? ((⟨g2, 0, none⟩ : Addr).add j) = some (.int .i64 u) from fun j u hu => by rw [addr_head]; exact hcc j u hu)
          have hbs3 := HB3.out.size
          have HLE := Lib.hid (show (FO (l.take k)).length + (List.replicate m (y : Int)).length ≤ 17592186044416 by rw [List.length_replicate]; omega)
          have HRL := Lib.hid (show m = (List.replicate m (y : Int)).length from List.length_replicate.symm)
          clear hcc hown2 hb2 hb3 HREP
          go_wp2_with (at_builtin; refine wpList_append_intsN _ rfl _ _ 33 rfl Try.underlying33 w.heap.size _ (FO (l.take k)) rfl HO3.out ⟨g2, 0, none⟩ (List.replicate m (y : Int)) m cap2 HRL.out rfl HCC.out HLE.out hbs3 ?_; intro v4 w4 hown4 hgrow4; have HB4 := Lib.hid (below_grown HB3.out HO3.out hgrow4 hbs3 (Nat.le_refl _)); have HO4 := Lib.hid hown4; clear hown4 hgrow4)
          go_roundw
          case rel => exact ⟨k + 1, by omega, by go_num, by rw [HT.out, HE.out]; exact HO4.out, HB4.out⟩
          case measure => simp [intOf]; omega
    · obtain rfl : k = l.length := by omega
      rw [List.take_length] at hown
      have HO := Lib.hid hown
      have HBW := Lib.hid hb
      have hfn : (FO l).length ≤ 30 := by rw [List.take_length] at hfl; exact hfl
      obtain ⟨Ao, co, hov⟩ := hown.form (by omega)
      subst hov
      have HSO := Lib.hid (sorted78 _ (FO l) wr (by omega) (hown.ints (by omega)) (fun b e => (hown.lt b e).2))
      clear hown hb HR
      go_wp2_with fail
      with_reducible refine HSO.out.mono ?_
      rintro e w2 ⟨v2, rfl, hown2, hb2⟩
      have HO2 := Lib.hid (hown2.base (b2 := w.heap.size) HBW.out.size)
      have HB2 := Lib.hid (HBW.out.trans (hb2.mono HBW.out.size))
      obtain ⟨A2, n2, c2, rfl⟩ := hown2.isSlice
      clear hown2 hb2 HSO
      go_wp2_with fail
      go_ret2
      exact ⟨_, rfl, HO2.out, HB2.out⟩
end Go.Proofs.Ytpgpkgnljoedaaa
