/- The walk of NumeralPairs. -/
import Derived.Test.YtiknocjdogbajaaMv
namespace Go.Proofs.Ytiknocjdogbajaa
open Go.RowKit

def back (l : List Nat) : List Nat := l.map (· - 1)
theorem back_take (l : List Nat) (k : Nat) (h : k < l.length) : back (l.take (k + 1)) = back (l.take k) ++ [l[k] - 1] := by
  unfold back; rw [List.take_succ_eq_append_getElem h, List.map_append]; rfl
theorem back_falls (l : List Nat) : ∀ K, Falls K l → (∀ k ∈ l, 3 ≤ k) → Falls (K - 1) (back l) := by
  induction l with
  | nil => intro K _ _; trivial
  | cons a l ih =>
    intro K h h3
    obtain ⟨h1, h2, h4⟩ := h
    have ha := h3 a (List.mem_cons_self ..)
    show 2 ≤ a - 1 ∧ a - 1 ≤ K - 1 ∧ Falls (a - 1 - 2) (back l)
    refine ⟨by omega, by omega, ?_⟩
    have := ih (a - 2) h4 (fun k hk => h3 k (List.mem_cons_of_mem _ hk))
    rw [show a - 1 - 2 = a - 2 - 1 by omega]
    exact this
theorem last_least (l : List Nat) : ∀ K e, Falls K l → l.getLast? = some e → ∀ k ∈ l, e ≤ k := by
  induction l with
  | nil => intro K e _ h; cases h
  | cons a l ih =>
    intro K e h he k hk
    match l, h, he, hk, ih with
    | [], h, he, hk, _ =>
      simp at he hk
      omega
    | b :: l, h, he, hk, ih =>
      have he' : (b :: l).getLast? = some e := by simpa using he
      have h2 := ih (a - 2) e h.2.2 he'
      rcases List.mem_cons.1 hk with rfl | hk
      · have := h2 b (List.mem_cons_self ..)
        have := h.2.2.2.1
        omega
      · exact h2 k hk
theorem vsum_back (l : List Nat) (h : ∀ k ∈ l, 2 ≤ k) : vsum F (back l) = vs (-1) l := by
  induction l with
  | nil => rfl
  | cons a l ih =>
    have := ih (fun k hk => h k (List.mem_cons_of_mem _ hk))
    have h2 := h a (List.mem_cons_self ..)
    show vsum F ((a - 1) :: back l) = _
    rw [vsum_cons, vs_cons, this, show ((a : Int) + -1).toNat = a - 1 by omega]
theorem pairs_odd (x e : Nat) (hx : x ≤ 1000000) (h : 1 ≤ x) (he : (zeck x).getLast? = some e) (h2 : e % 2 = 1) :
    Falls 60 (back (zeck x)) ∧ vsum F (back (zeck x)) = part x ∧ sh (part x) = x ∧ part x < x ∧ pa (x - part x) = part x := by
  have hf := zeck_falls x (by omega)
  have hm := falls_mem hf
  have hlast := last_least (zeck x) 60 e hf he
  have he2 : 3 ≤ e := by
    have : e ∈ zeck x := List.mem_of_getLast? he
    have := (hm e this).1
    omega
  obtain ⟨p1, p2, p3, p4⟩ := part_odd x e (by omega) h he h2
  have hb := vs_back (zeck x) hm
  have h00 : vs 0 (zeck x) = x := by rw [vs_zero]; exact zeck_sum x (by omega)
  have hsh : vs 1 (zeck x) = sh x := rfl
  have hcold : Cold x (part x) := (cold_part x (part x) (by omega) (by have := partner_le x (by omega); omega)).2 rfl
  have hback := (cold_part (part x) x (by omega) (by omega)).1 (cold_symm.1 hcold)
  refine ⟨(back_falls _ _ hf (fun k hk => by have := hlast k hk; omega)).mono (by omega), ?_, ?_, p2, p4⟩
  · rw [vsum_back _ (fun k hk => (hm k hk).1)]; omega
  · by_cases h0 : part x = 0
    · rw [h0, part_zero] at hback; omega
    · obtain ⟨e', he'⟩ := zeck_ne (part x) (by omega) (by omega)
      rcases Nat.mod_two_eq_zero_or_one e' with h3 | h3
      · have := part_even (part x) e' (by omega) (by omega) he' h3; omega
      · have := part_odd (part x) e' (by omega) (by omega) he' h3; omega

theorem pairs_n (n : Int) : ∃ m : Nat, 1 ≤ m ∧ m ≤ 100000 ∧ wrap64 (1 + wrap64 ((IntKind.u64.wrap n).tmod 100000)) = m := by
  have h0 := wrap_u64_nonneg n
  generalize IntKind.u64.wrap n = u at *
  rw [Int.tmod_eq_emod_of_nonneg h0]
  refine ⟨1 + (u % 100000).toNat, by omega, by omega, ?_⟩
  rw [IntWalk.wrap64_in (u % 100000) (by omega), IntWalk.wrap64_in _ (by omega)]
  omega

/-- the pair of a difference, and that it is cold -/
theorem Pair_of (f s : Nat) (h1 : f ≤ s) (hs : s - f ≤ 100000) (hp : pa (s - f) = f) (w : World) :
    Calls Try.prog 30 #[.int .i64 ((s : Int) - f)] w fun e w' => e = .returned (.tuple #[.agg #[.int .i64 f, .int .i64 s], .int .i64 0]) ∧ Below w.heap.size w w' := by
  have := Pair_ok (s - f) hs w
  rw [hp, show ((f : Nat) : Int) + ((s - f : Nat) : Int) = s by omega, show ((s - f : Nat) : Int) = (s : Int) - f by omega] at this
  exact this
theorem Shift_of (f s : Nat) (hf : f ≤ 1000000) (hs : sh f = s) (w : World) :
    Calls Try.prog 15 #[.int .i64 f] w fun e w' => e = .returned (.tuple #[.int .i64 s, .int .i64 0]) ∧ Below w.heap.size w w' := by
  have := sh_le f (by omega)
  subst hs
  exact Shift_yes f (by omega) (by omega) w
theorem Encode_z (n : Nat) (hn : n ≤ 1000000000000) (w : World) :
    Calls Try.prog 19 #[.int .i64 n] w fun e w' => ∃ v, e = .returned (.tuple #[v, .int .i64 0]) ∧ Ints w' v (ix (zeck n)) ∧ Below w.heap.size w w' := Encode_yes n hn w

set_option maxRecDepth 100000 in
set_option maxHeartbeats 4000000 in
theorem numeralPairs_walk (w : World) (n : Int) (_ : -9223372036854775808 ≤ n ∧ n ≤ 9223372036854775807) :
    Calls Try.prog 8 #[.int .i64 n] w fun e w' => e = .returned (.bool true) ∧ Below w.heap.size w w' := by
  obtain ⟨m, hm1, hm2, hm⟩ := pairs_n n
  obtain ⟨e, he⟩ := zeck_ne m (by omega) (by omega)
  have hpos : 0 < (zeck m).length := by
    rcases Nat.eq_zero_or_pos (zeck m).length with h | h
    · rw [List.eq_nil_of_length_eq_zero h] at he; cases he
    · exact h
  have hlast := getLast_ix (zeck m) hpos
  have hxe : (zeck m).getLast (by intro e; rw [e] at hpos; simp at hpos) = e := by
    rw [List.getLast?_eq_some_getLast (by intro e; rw [e] at hpos; simp at hpos)] at he
    exact Option.some.inj he
  rw [hxe] at hlast
  have hl30 := zeck_len m (by omega)
  have k1 : ((((zeck m).length : Nat) : Int) - 1).toNat = (zeck m).length - 1 := by omega
  have hmm := zeck_mem m (by omega)
  have HMM := Lib.hid hmm
  have HL := Lib.hid hlast
  have HE := Lib.hid he
  clear he hlast hxe hmm
  have hne : ((((zeck m).length : Nat) : Int) == 0) = false := by rw [beq_eq_false_iff_ne]; omega
  go_enter Try.func8, Try.ntmps8
  go_wp2_with fail
  rw [hm]
  clear hm
  refine (Encode_z m (by omega) _).mono ?_
  rintro e0 w1 ⟨v, rfl, hv, hb1⟩
  obtain ⟨_, A, c, rfl, hc, hr⟩ := hv
  obtain ⟨ad, rfl, hbl, hcell⟩ := hr (by rw [ix_length]; exact hpos)
  rw [ix_length] at *
  have hck := hcell _ _ HL.out
  have HCELL := Lib.hid hcell
  clear hr hcell
  rcases Nat.mod_two_eq_zero_or_one e with h2 | h2
  · have hd : ((e : Int) % 2 == 1) = false := by simp; omega
    have hp := part_even m e (by omega) hm1 HE.out h2
    obtain ⟨s, hs⟩ : ∃ s, s = sh m := ⟨_, rfl⟩
    rw [← hs] at hp
    have hcold : Cold s m := cold_symm.1 ((cold_part m s (by omega) (by omega)).2 hp.1.symm)
    have HS := Lib.hid (fun V => Shift_of m s (by omega) hs.symm V)
    have HPR := Lib.hid (fun V => Pair_of m s (by omega) (by omega) hp.2.2.2 V)
    have HCD := Lib.hid (fun V => Cold_ok s m (by omega) (by omega) true (by simp [hcold]) V)
    have hs1 : m < s := hp.2.1
    have hs2 : s ≤ 2 * m := hp.2.2.1
    clear hp hs hcold
    have heq := eq43
    go_wp2_with fail
    (with_reducible refine (HS.out _).mono ?_)
    rintro e0 w2 ⟨rfl, hb2⟩
    have t2 := hb1.trans (hb2.mono hb1.size)
    clear hck hb1 hb2 h2
    go_wp2_with fail
    (with_reducible refine (HPR.out _).mono ?_)
    rintro e0 w3 ⟨rfl, hb3⟩
    have t3 := t2.trans (hb3.mono t2.size)
    clear t2 hb3
    go_wp2_with fail
    (with_reducible refine (HCD.out _).mono ?_)
    rintro e0 w4 ⟨rfl, hb4⟩
    have X10 := (Box.new w3 43 m s).keep hb4
    have t4 := t3.trans ((below_new hb4).mono t3.size)
    clear t3 hb4
    have c0 := X10.c0
    have c1 := X10.c1
    have l10 := X10.lt
    go_wp2_with fail
    (with_reducible refine (awake_any _).mono ?_)
    rintro e0 w5 ⟨rfl, hb5⟩
    go_wp2_with fail
    go_ret
    exact ⟨rfl, t4.trans (hb5.mono t4.size)⟩
  · have hd : ((e : Int) % 2 == 1) = true := by simp; omega
    obtain ⟨q1, q2, q3, q4, q5⟩ := pairs_odd m e (by omega) hm1 HE.out h2
    obtain ⟨f, hf⟩ : ∃ f, f = part m := ⟨_, rfl⟩
    rw [← hf] at q2 q3 q4 q5
    have hcold : Cold m f := (cold_part m f (by omega) (by omega)).2 hf
    have HVAL := Lib.hid (fun v V h => Value_yes v (back (zeck m)) q1 (by omega) V h)
    rw [q2] at HVAL
    have HS := Lib.hid (fun V => Shift_of f m (by omega) q3 V)
    have HPR := Lib.hid (fun V => Pair_of f m (by omega) (by omega) q5 V)
    have HCD := Lib.hid (fun V => Cold_ok m f (by omega) (by omega) true (by simp [hcold]) V)
    clear q1 q2 q3 q5 hf hcold
    have heq := eq43
    go_wp2_with fail
    go_loopw [6, 41] (fun b i wr => ∃ k : Nat, k ≤ (zeck m).length ∧ i = .int .i64 k ∧ Own wr w1.heap.size b (ix (back ((zeck m).take k))) ∧ Below w1.heap.size w1 wr)
      (fun _ i _ => (zeck m).length - (intOf i).toNat)
    case atStart => exact ⟨0, by omega, rfl, Own.nil _ _, Below.refl _ _⟩
    case round =>
      obtain ⟨k, hk, rfl, hown, hb⟩ := hrel
      by_cases hlt : k < (zeck m).length
      · have hx : (ix (zeck m))[k]? = some ((zeck m)[k] : Int) := by simp [ix, List.getElem?_eq_getElem hlt]
        have hck2 := (hb.cell (p := ad.add k) (by rw [addr_block]; exact hbl)).trans (HCELL.out k _ hx)
        have hz := HMM.out _ (List.getElem_mem hlt)
        have HT := Lib.hid (back_take (zeck m) k hlt)
        generalize (zeck m)[k] = z at *
        have hz1 : (2 : Int) ≤ z := by omega
        have hz2 : (z : Int) ≤ 60 := by omega
        have hzc : (z : Int) - 1 = ((z - 1 : Nat) : Int) := by omega
        have HZ := Lib.hid hzc
        clear hx hck hzc
        go_wp2_with (at_builtin; refine wpList_append_new _ rfl _ _ 30 rfl Try.underlying30 w1.heap.size u6 (ix (back ((zeck m).take k))) rfl hown ((z : Int) - 1) rfl (by rw [ix_length]; unfold back; simp; omega) hb.size ?_; intro v' w2 hown1 _ hb2)
        go_roundw
        case rel =>
          refine ⟨k + 1, by omega, by go_num, ?_, hb.trans hb2⟩
          rw [HT.out, ix_append]
          rw [HZ.out] at hown1
          exact hown1
        case measure => simp [intOf]; omega
      · obtain rfl : k = (zeck m).length := by omega
        rw [List.take_length] at hown
        have hi := hown.ints (by rw [ix_length]; unfold back; simp; omega)
        have HI := Lib.hid hi
        have tb := hb1.trans (hb.mono hb1.size)
        clear hown hi hb hck hb1
        go_wp2_with fail
        (with_reducible refine (HVAL.out _ _ HI.out).mono ?_)
        rintro e0 _ ⟨rfl, rfl⟩
        go_wp2_with fail
        (with_reducible refine (HS.out _).mono ?_)
        rintro e0 w2 ⟨rfl, hb2⟩
        have t2 := tb.trans (hb2.mono tb.size)
        clear tb hb2
        go_wp2_with fail
        (with_reducible refine (HPR.out _).mono ?_)
        rintro e0 w3 ⟨rfl, hb3⟩
        have t3 := t2.trans (hb3.mono t2.size)
        clear t2 hb3
        go_wp2_with fail
        (with_reducible refine (HCD.out _).mono ?_)
        rintro e0 w4 ⟨rfl, hb4⟩
        have X10 := (Box.new w3 43 f m).keep hb4
        have t4 := t3.trans ((below_new hb4).mono t3.size)
        clear t3 hb4
        have c0 := X10.c0
        have c1 := X10.c1
        have l10 := X10.lt
        have hmf : ((m : Int) == f) = false := by simp; omega
        go_wp2_with fail
        (with_reducible refine (awake_any _).mono ?_)
        rintro e0 w5 ⟨rfl, hb5⟩
        go_wp2_with fail
        go_ret
        exact ⟨rfl, t4.trans (hb5.mono t4.size)⟩
end Go.Proofs.Ytiknocjdogbajaa
