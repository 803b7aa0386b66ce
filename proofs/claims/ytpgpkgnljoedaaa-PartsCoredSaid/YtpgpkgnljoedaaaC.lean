/- Walks of the library's helpers: Equal, Clone; the laws' list. -/
import Derived.Test.YtpgpkgnljoedaaaL
namespace Go.Proofs.Ytpgpkgnljoedaaa
open Go.RowKit

theorem ret_int {k : IntKind} {a b : Int} (h : a = b) : Ending.returned (.int k a) = .returned (.int k b) := by rw [h]
theorem ret_bool {a b : Bool} (h : a = b) : Ending.returned (.bool a) = .returned (.bool b) := by rw [h]
theorem below_drewN {B : Nat} {a w : World} (h : Below B a w) (n : Nat) : Below B a (w.drewN n) := ⟨h.os, h.tape, h.output, h.size, h.block⟩
theorem below_drew {B : Nat} {a w : World} (h : Below B a w) : Below B a w.drew := ⟨h.os, h.tape, h.output, h.size, h.block⟩
set_option maxHeartbeats 1000000 in
theorem equal_yes (v1 v2 : Value) (xs : List Int) (w : World) (h1 : Ints w v1 xs) (h2 : Ints w v2 xs) :
    Calls Try.prog 29 #[v1, v2] w fun e w' => e = .returned (.bool true) ∧ Below w.heap.size w w' := by
  obtain ⟨hlen, A, c, rfl, hc, hr⟩ := h1
  obtain ⟨_, A', c', rfl, hc', hr'⟩ := h2
  have HR := Lib.hid hr; clear hr
  have HR' := Lib.hid hr'; clear hr'
  go_enter Try.func29, Try.ntmps29
  go_wp2
  go_loopw [5, 13] (fun _ i wr => ∃ k : Nat, k ≤ xs.length ∧ i = .int .i64 k ∧ Below w.heap.size w wr) (fun _ i _ => xs.length - (intOf i).toNat)
  case atStart => exact ⟨0, Nat.zero_le _, rfl, Below.refl _ _⟩
  case round =>
    obtain ⟨k, hk, rfl, hb⟩ := hrel
    by_cases hlt : k < xs.length
    · obtain ⟨ad, rfl, hbl, hcell⟩ := HR.out (by omega)
      obtain ⟨ad', rfl, hbl', hcell'⟩ := HR'.out (by omega)
      have hx : xs[k]? = some xs[k] := List.getElem?_eq_getElem hlt
      have hck := (hb.cell (p := ad.add k) (by rw [addr_block]; exact hbl)).trans (hcell k xs[k] hx)
      have hck' := (hb.cell (p := ad'.add k) (by rw [addr_block]; exact hbl')).trans (hcell' k xs[k] hx)
      clear hcell hcell' hx HR HR'
      have k1 : (0 : Int) ≤ k := by omega
      have k2 : (k : Int) < xs.length := by omega
      go_wp2
      go_quiet (fail)
      go_wp2
      go_roundw
      case rel => exact ⟨k + 1, by omega, by go_num, ⟨hb.os, hb.tape, hb.output, hb.size, hb.block⟩⟩
      case measure => simp [intOf]; omega
    · go_wp2
      go_ret
      exact ⟨rfl, hb⟩

/-- append(s, l...) of a slice that reads as numbers. -/
theorem wpList_append_ints (w : World) {ops : Array Oper} {rest : List Oper} {o : Oper} {a : Act} {Q : Exit → Act → World → Prop} (hgd : o.guard = none) (s x : Operand) (t : TypeId)
    (ho : o.op = .call { callee := .builtin .append, args := #[s, x], argTypes := #[t, t] })
    (ht : Try.prog.underlying t = some (.slice 3))
    (base : Nat) (v : Value) (xs : List Int) (hs : a.eval s = v) (hown : Own w base v xs)
    (ad : Addr) (ys : List Int) (c : Nat) (hx : a.eval x = .slice (some ad) ys.length c) (hcell : ∀ j u, ys[j]? = some u → w.cell? (ad.add j) = some (.int .i64 u))
    (hlen : xs.length + ys.length ≤ 17592186044416) (hbase : base ≤ w.heap.size)
    (h : ∀ v' w', Own w' base v' (xs ++ ys) → w.grownBy w' v.ownBlock → wpList Try.prog ops Q rest (a.put o.dst v') w') : wpList Try.prog ops Q (o :: rest) a w := by
  obtain ⟨i0, hi, hz0, hz1, hz2⟩ := info_parts info3
  refine wpList_append_own w hgd s x t ho base 3 i0 (.int .i64 0) 1 8 ht hi hz0 hz1 hz2 rfl (by decide) v xs.length (xs.map (Value.int .i64)) hs hown ad ys.length c (ys.map (Value.int .i64)) hx (by simp) ?_ (ints_oneCell _ _) ?_ ?_ hbase ?_
  · intro j z hj
    rw [List.getElem?_map] at hj
    obtain ⟨u, hu, rfl⟩ := Option.map_eq_some_iff.1 hj
    exact hcell j u hu
  · unfold maxLen; omega
  · omega
  · intro v' w' h1 h2 _
    exact h v' w' (by unfold Own; simpa using h1) h2

set_option maxHeartbeats 1000000 in
theorem clone_any (v : Value) (xs : List Int) (w : World) (h : Ints w v xs) :
    Calls Try.prog 34 #[v] w fun e w' => ∃ v', e = .returned v' ∧ Own w' w.heap.size v' xs ∧ Below w.heap.size w w' := by
  obtain ⟨hlen, A, c, rfl, hc, hr⟩ := h
  cases A with
  | none =>
    have hx : xs = [] := by
      rcases Nat.eq_zero_or_pos xs.length with h0 | h0
      · exact List.eq_nil_of_length_eq_zero h0
      · obtain ⟨ad, h, _⟩ := hr h0; cases h
    subst hx
    have he := fun (W : World) => Lib.run_eql_slice_nil (P := Try.prog) W 33
    go_enter Try.func34, Try.ntmps34
    go_wp2
    go_ret
    exact ⟨_, rfl, Own.nil _ _, Below.refl _ _⟩
  | some ad =>
    have he := fun (W : World) (n c n' c' : Nat) => Lib.run_eql_slice_nil (P := Try.prog) W 33 3 (some ad) n c n' c' Try.underlying33
    have hcell : ∀ j u, xs[j]? = some u → w.cell? (ad.add j) = some (.int .i64 u) := by
      intro j u hu
      obtain ⟨ad', e, _, hcell⟩ := hr (by have := (List.getElem?_eq_some_iff.1 hu).1; omega)
      cases e
      exact hcell j u hu
    have hbl : 0 < xs.length → ad.block < w.heap.size := by
      intro h0
      obtain ⟨ad', e, hb, _⟩ := hr h0
      cases e
      exact hb
    clear hr
    have HC := Lib.hid hcell; clear hcell
    go_enter Try.func34, Try.ntmps34
    go_wp2_with (at_builtin; refine wpList_append_ints _ rfl _ _ 33 rfl Try.underlying33 w.heap.size _ [] rfl (World.ownsRow_lit w #[] 0 (Nat.le_refl _) (by simp [maxLen]) (by simp)) ad xs c rfl ?_ (by simp; omega) (by simp) ?_)
    · intro j u hu
      refine (World.cell?_alloc_lt w _ (ad.add j) ?_).trans (HC.out j u hu)
      rw [addr_block]
      exact hbl (by have := (List.getElem?_eq_some_iff.1 hu).1; omega)
    · intro v' w' hown hg
      go_wp2
      go_ret
      refine ⟨v', rfl, by simpa using hown, ((Below.refl _ _).alloc (Nat.le_refl _) _).grown hg (by simp) (fun k hk => ?_)⟩
      simp [Value.ownBlock] at hk
      omega
set_option maxHeartbeats 1000000 in
theorem clonep_any (v : Value) (xs : List Int) (w : World) (h : Ints w v xs) :
    Calls Try.prog 58 #[v] w fun e w' => ∃ v', e = .returned v' ∧ Own w' w.heap.size v' xs ∧ Below w.heap.size w w' := by
  obtain ⟨hlen, A, c, rfl, hc, hr⟩ := h
  cases A with
  | none =>
    have hx : xs = [] := by
      rcases Nat.eq_zero_or_pos xs.length with h0 | h0
      · exact List.eq_nil_of_length_eq_zero h0
      · obtain ⟨ad, h, _⟩ := hr h0; cases h
    subst hx
    have he := fun (W : World) => Lib.run_eql_slice_nil (P := Try.prog) W 53
    go_enter Try.func58, Try.ntmps58
    go_wp2
    go_ret
    exact ⟨_, rfl, Own.nil _ _, Below.refl _ _⟩
  | some ad =>
    have he := fun (W : World) (n c n' c' : Nat) => Lib.run_eql_slice_nil (P := Try.prog) W 53 3 (some ad) n c n' c' Try.underlying53
    have hcell : ∀ j u, xs[j]? = some u → w.cell? (ad.add j) = some (.int .i64 u) := by
      intro j u hu
      obtain ⟨ad', e, _, hcell⟩ := hr (by have := (List.getElem?_eq_some_iff.1 hu).1; omega)
      cases e
      exact hcell j u hu
    have hbl : 0 < xs.length → ad.block < w.heap.size := by
      intro h0
      obtain ⟨ad', e, hb, _⟩ := hr h0
      cases e
      exact hb
    clear hr
    have HC := Lib.hid hcell; clear hcell
    go_enter Try.func58, Try.ntmps58
    go_wp2_with (at_builtin; refine wpList_append_ints _ rfl _ _ 53 rfl Try.underlying53 w.heap.size _ [] rfl (World.ownsRow_lit w #[] 0 (Nat.le_refl _) (by simp [maxLen]) (by simp)) ad xs c rfl ?_ (by simp; omega) (by simp) ?_)
    · intro j u hu
      refine (World.cell?_alloc_lt w _ (ad.add j) ?_).trans (HC.out j u hu)
      rw [addr_block]
      exact hbl (by have := (List.getElem?_eq_some_iff.1 hu).1; omega)
    · intro v' w' hown hg
      go_wp2
      go_ret
      refine ⟨v', rfl, by simpa using hown, ((Below.refl _ _).alloc (Nat.le_refl _) _).grown hg (by simp) (fun k hk => ?_)⟩
      simp [Value.ownBlock] at hk
      omega
theorem Ints.take {w : World} {A : Option Addr} {c : Nat} {xs : List Int} (h : Ints w (.slice A xs.length c) xs) (k : Nat) (hk : k ≤ xs.length) : Ints w (.slice A k c) (xs.take k) := by
  obtain ⟨hlen, A', c', e, hc, hr⟩ := h
  cases e
  have hl : (xs.take k).length = k := by rw [List.length_take]; omega
  refine ⟨by omega, A, c, by rw [hl], by omega, fun h0 => ?_⟩
  obtain ⟨ad, e, hb, hcell⟩ := hr (by omega)
  refine ⟨ad, e, hb, fun j u hu => hcell j u ?_⟩
  rw [List.getElem?_take] at hu
  split at hu
  · exact hu
  · cases hu

set_option maxHeartbeats 1000000 in
theorem list_any (v : Value) (xs : List Int) (w : World) (h : Ints w v xs) :
    Calls Try.prog 25 #[v] w fun e w' => ∃ v', e = .returned v' ∧ Own w' w.heap.size v' (xs.take 34) ∧ Below w.heap.size w w' := by
  have h0 := h
  obtain ⟨hlen, A, c, rfl, hc, hr⟩ := h
  clear hr
  by_cases h34 : xs.length ≤ 34
  · rw [List.take_of_length_le h34]
    have H := Lib.hid h0; clear h0
    go_enter Try.func25, Try.ntmps25
    go_wp2_with (go_at_call 34; refine (clone_any _ _ _ H.out).mono ?_; rintro e w' ⟨v', rfl, hown, hb⟩)
    go_ret
    exact ⟨v', rfl, hown, hb⟩
  · have h1 := h0.take 34 (by omega)
    clear h0
    have H := Lib.hid h1; clear h1
    go_enter Try.func25, Try.ntmps25
    go_wp2_with (go_at_call 34; refine (clone_any _ _ _ H.out).mono ?_; rintro e w' ⟨v', rfl, hown, hb⟩)
    go_ret
    exact ⟨v', rfl, hown, hb⟩

end Go.Proofs.Ytpgpkgnljoedaaa
