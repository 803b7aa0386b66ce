/- Walks over heaps: partner, taken. -/
import Derived.Test.YtiknocjdogbajaaI
import Derived.Test.YtiknocjdogbajaaS
namespace Go.Proofs.Ytiknocjdogbajaa
open Go.RowKit

theorem vs_back (l : List Nat) (h : ∀ k ∈ l, 2 ≤ k ∧ k ≤ 60) : vs (-1) l + vs 0 l = vs 1 l := by
  induction l with
  | nil => rfl
  | cons a l ih =>
    have := ih (fun k hk => h k (List.mem_cons_of_mem _ hk))
    obtain ⟨h2, _⟩ := h a (List.mem_cons_self ..)
    rw [vs_cons, vs_cons, vs_cons]
    have e2 : ((a : Int) + -1).toNat = a - 1 := by omega
    have e1 : ((a : Int) + 1).toNat = a + 1 := by omega
    have e0 : ((a : Int) + 0).toNat = a := by omega
    rw [e2, e1, e0]
    have : F (a + 1) = F a + F (a - 1) := by
      match a, h2 with
      | a + 1, _ => exact F_step _
    omega
set_option maxHeartbeats 2000000 in
theorem partner_any (a : Nat) (ha : a ≤ 1000000) (w : World) :
    Calls Try.prog 62 #[.int .i64 a] w fun e w' => e = .returned (.int .i64 (part a)) ∧ Below w.heap.size w w' := by
  by_cases h0 : a = 0
  · subst h0
    have HP := Lib.hid part_zero
    show Calls Try.prog 62 #[.int .i64 0] w _
    go_enter Try.func62, Try.ntmps62
    go_wp2
    go_ret
    exact ⟨by rw [HP.out]; rfl, Below.refl _ _⟩
  · have hm := zeck_mem a (by omega)
    have hs := zeck_sum a (by omega)
    obtain ⟨x, hx⟩ := zeck_ne a (by omega) (by omega)
    have hpos : 0 < (zeck a).length := by
      rcases Nat.eq_zero_or_pos (zeck a).length with h | h
      · rw [List.eq_nil_of_length_eq_zero h] at hx; cases hx
      · exact h
    have hlast := getLast_ix (zeck a) hpos
    have hxe : (zeck a).getLast (by intro e; rw [e] at hpos; simp at hpos) = x := by
      rw [List.getLast?_eq_some_getLast (by intro e; rw [e] at hpos; simp at hpos)] at hx
      exact Option.some.inj hx
    rw [hxe] at hlast
    have hl30 := zeck_len a (by omega)
    have hback := vs_back (zeck a) hm
    have h00 : vs 0 (zeck a) = a := by rw [vs_zero]; exact hs
    have hsh : vs 1 (zeck a) = sh a := rfl
    have HM := Lib.hid hm
    have HS := Lib.hid (show vsum F (zeck a) ≤ 4000000000000 by omega)
    have HL := Lib.hid hlast
    clear hm hs hlast hxe
    have k1 : ((((zeck a).length : Nat) : Int) - 1).toNat = (zeck a).length - 1 := by omega
    have a0 : 1 ≤ a := by omega
    clear h0
    rcases Nat.mod_two_eq_zero_or_one x with hx2 | hx2
    · have hp := part_even a x (by omega) a0 hx hx2
      have HP := Lib.hid (show part a = vs 1 (zeck a) from hp.1)
      have hd : ((x : Int) % 2 == 0) = true := by simp; omega
      clear hp hx hx2 hback h00 hsh
      go_enter Try.func62, Try.ntmps62
      go_wp2_with fail
      refine (encode_z a (by omega) _).mono ?_
      rintro e w1 ⟨v, rfl, hv, hb1⟩
      have HV := Lib.hid hv
      obtain ⟨_, A, c, rfl, hc, hr⟩ := hv
      obtain ⟨ad, rfl, hbl, hcell⟩ := hr (by rw [ix_length]; exact hpos)
      rw [ix_length] at *
      have hck := hcell _ _ HL.out
      clear hr hcell
      go_wp2_with fail
      refine (value_any _ (zeck a) 1 (by omega) (by omega) HM.out HS.out _ HV.out).mono ?_
      rintro e _ ⟨rfl, rfl⟩
      go_wp2
      go_ret
      exact ⟨by rw [HP.out]; rfl, hb1⟩
    · have hp := part_odd a x (by omega) a0 hx hx2
      have HP := Lib.hid (show part a = vs (-1) (zeck a) by omega)
      have hd : ((x : Int) % 2 == 0) = false := by simp; omega
      clear hp hx hx2 hback h00 hsh
      go_enter Try.func62, Try.ntmps62
      go_wp2_with fail
      refine (encode_z a (by omega) _).mono ?_
      rintro e w1 ⟨v, rfl, hv, hb1⟩
      have HV := Lib.hid hv
      obtain ⟨_, A, c, rfl, hc, hr⟩ := hv
      obtain ⟨ad, rfl, hbl, hcell⟩ := hr (by rw [ix_length]; exact hpos)
      rw [ix_length] at *
      have hck := hcell _ _ HL.out
      clear hr hcell
      go_wp2_with fail
      refine (value_any _ (zeck a) (-1) (by omega) (by omega) HM.out HS.out _ HV.out).mono ?_
      rintro e _ ⟨rfl, rfl⟩
      go_wp2
      go_ret
      exact ⟨by rw [HP.out]; rfl, hb1⟩


theorem below_drewN {B : Nat} {a w : World} (h : Below B a w) (n : Nat) : Below B a (w.drewN n) := ⟨h.os, h.tape, h.output, h.size, h.block⟩
theorem ret_take {x y : Int} {r s : Bool} (h : r = s) : Ending.returned (.tuple #[.int .i64 (x + y), .bool r]) = .returned (.tuple #[.int .i64 (x + y), .bool s]) := by rw [h]
def TakeOk (x y : Int) : Prop := 0 ≤ x ∧ 0 ≤ y ∧ 0 < x + y ∧ (x = 0 ∨ y = 0 ∨ x = y)
set_option maxHeartbeats 8000000 in
/-- how many are taken -/
theorem taken_any (a b c d x y : Int) (hx : a - c = x) (hy : b - d = y) (h1 : -100000000 ≤ x) (h2 : -100000000 ≤ y) (h3 : x ≤ 100000000) (h4 : y ≤ 100000000) (r : Bool) (hr : r = true ↔ TakeOk x y) (w : World) :
    Calls Try.prog 63 #[.agg #[.int .i64 a, .int .i64 b], .agg #[.int .i64 c, .int .i64 d]] w fun e w' => e = .returned (.tuple #[.int .i64 (x + y), .bool r]) ∧ Below w.heap.size w w' := by
  have e1 : IntKind.i64.wrap (a - c) = x := by rw [hx]; exact IntWalk.i64_in _ (by omega)
  have e2 : IntKind.i64.wrap (b - d) = y := by rw [hy]; exact IntWalk.i64_in _ (by omega)
  clear hx hy
  have HRr := Lib.hid hr
  clear hr
  by_cases ok : TakeOk x y
  · have hrt : r = true := HRr.out.2 ok
    subst hrt
    clear HRr
    obtain ⟨k1, k2, k3, k4⟩ := ok
    by_cases x0 : x = 0
    · subst x0
      clear k4
      go_enter Try.func63, Try.ntmps63
      go_wp2
      go_quiet (fail)
      go_wp2
      go_ret2
      exact ⟨by rw [Int.zero_add]; rfl, below_drewN (((Below.refl _ _).alloc (Nat.le_refl _) _).alloc (by simp) _) _⟩
    · have bx : (x == 0) = false := by simp; omega
      by_cases y0 : y = 0
      · subst y0
        clear k4
        go_enter Try.func63, Try.ntmps63
        go_wp2
        go_quiet (fail)
        go_wp2
        go_ret2
        exact ⟨by rw [Int.add_zero]; rfl, below_drewN (((Below.refl _ _).alloc (Nat.le_refl _) _).alloc (by simp) _) _⟩
      · have by_ : (y == 0) = false := by simp; omega
        have hxy : x = y := by omega
        subst hxy
        clear k4
        go_enter Try.func63, Try.ntmps63
        go_wp2
        go_quiet (fail)
        go_wp2
        go_ret2
        exact ⟨rfl, below_drewN (((Below.refl _ _).alloc (Nat.le_refl _) _).alloc (by simp) _) _⟩
  · have hrf : r = false := by
      cases r
      · rfl
      · exact absurd (HRr.out.1 rfl) ok
    subst hrf
    clear HRr
    by_cases n1 : x < 0
    · clear ok
      rcases Int.lt_trichotomy x y with h | h | h
      · skip
        go_enter Try.func63, Try.ntmps63
        go_wp2
        go_quiet (fail)
        go_wp2
        go_ret2
        exact ⟨rfl, below_drewN (((Below.refl _ _).alloc (Nat.le_refl _) _).alloc (by simp) _) _⟩
      · subst h
        go_enter Try.func63, Try.ntmps63
        go_wp2
        go_quiet (fail)
        go_wp2
        go_ret2
        exact ⟨rfl, below_drewN (((Below.refl _ _).alloc (Nat.le_refl _) _).alloc (by simp) _) _⟩
      · skip
        go_enter Try.func63, Try.ntmps63
        go_wp2
        go_quiet (fail)
        go_wp2
        go_ret2
        exact ⟨rfl, below_drewN (((Below.refl _ _).alloc (Nat.le_refl _) _).alloc (by simp) _) _⟩
    · by_cases n2 : y < 0
      · clear ok
        go_enter Try.func63, Try.ntmps63
        go_wp2
        go_quiet (fail)
        go_wp2
        go_ret2
        exact ⟨rfl, below_drewN (((Below.refl _ _).alloc (Nat.le_refl _) _).alloc (by simp) _) _⟩
      · by_cases s0 : 0 < x + y
        · have bx : (x == 0) = false := by
            rw [beq_eq_false_iff_ne]; intro e; exact ok ⟨by omega, by omega, s0, .inl e⟩
          have by_ : (y == 0) = false := by
            rw [beq_eq_false_iff_ne]; intro e; exact ok ⟨by omega, by omega, s0, .inr (.inl e)⟩
          have bxy : (x == y) = false := by
            rw [beq_eq_false_iff_ne]; intro e; exact ok ⟨by omega, by omega, s0, .inr (.inr e)⟩
          have nxy : x < y ∨ y < x := by
            rcases Int.lt_trichotomy x y with h | h | h
            · exact .inl h
            · exact absurd h (by simpa using bxy)
            · exact .inr h
          clear ok
          rcases nxy with h | h
          · skip
            go_enter Try.func63, Try.ntmps63
            go_wp2
            go_quiet (fail)
            go_wp2
            go_ret2
            exact ⟨rfl, below_drewN (((Below.refl _ _).alloc (Nat.le_refl _) _).alloc (by simp) _) _⟩
          · skip
            go_enter Try.func63, Try.ntmps63
            go_wp2
            go_quiet (fail)
            go_wp2
            go_ret2
            exact ⟨rfl, below_drewN (((Below.refl _ _).alloc (Nat.le_refl _) _).alloc (by simp) _) _⟩
        · have hx0 : x = 0 := by omega
          have hy0 : y = 0 := by omega
          subst hx0
          subst hy0
          clear ok
          go_enter Try.func63, Try.ntmps63
          go_wp2
          go_quiet (fail)
          go_wp2
          go_ret2
          exact ⟨rfl, below_drewN (((Below.refl _ _).alloc (Nat.le_refl _) _).alloc (by simp) _) _⟩
end Go.Proofs.Ytiknocjdogbajaa
