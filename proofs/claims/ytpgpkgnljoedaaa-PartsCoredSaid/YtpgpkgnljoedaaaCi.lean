/- Tables of lists in memory; walks of the reference's Rims and Core. -/
import Derived.Test.YtpgpkgnljoedaaaCr
import Derived.Test.YtpgpkgnljoedaaaLists
import Derived.Test.YtpgpkgnljoedaaaCd
namespace Go.Proofs.Ytpgpkgnljoedaaa
open Go.RowKit
/-- how many there are -/
theorem prt_len : ∀ (f n most : Nat), n ≤ f → (prt f n most).length = V yes (min most n) n := by
  intro f
  induction f with
  | zero =>
    intro n most h
    obtain rfl : n = 0 := by omega
    rw [prt_zero]; simp [V]
  | succ f ih =>
    intro n most h
    by_cases h0 : n = 0
    · subst h0; rw [prt_zero]; simp [V]
    · rw [prt_pos f n most h0]
      have key : ∀ k, k ≤ n → (prtk f n k).length = V yes k n := by
        intro k
        induction k with
        | zero => intro _; rw [prtk_zero]; simp [V, h0]
        | succ k ihk =>
          intro hk
          rw [prtk_succ, List.length_append, List.length_map, ihk (by omega), ih (n - (k + 1)) (k + 1) (by omega), V_step yes k n rfl hk]
          congr 1
          by_cases e : k + 1 ≤ n - (k + 1)
          · rw [Nat.min_eq_left e]
          · rw [Nat.min_eq_right (by omega), V_stop yes (n - (k + 1)) (k + 1) (by omega)]
      rw [key _ (by omega), Nat.min_comm]
theorem ptab29 : (List.range 30).all (fun n => decide (ptab.getD n 0 ≤ 6000)) = true := by decide +kernel
theorem prt_size29 (n : Nat) (hn : n ≤ 29) : (prt n n n).length ≤ 6000 := by
  have h1 := prt_len n n n (Nat.le_refl _)
  rw [Nat.min_self] at h1
  have h2 := ptab_get n (by omega)
  have h3 := List.all_eq_true.1 ptab29 n (List.mem_range.2 (by omega))
  rw [decide_eq_true_eq, List.getD_eq_getElem?_getD, h2] at h3
  simp at h3
  omega
set_option maxRecDepth 100000 in
set_option maxHeartbeats 2000000 in
theorem rList29 (n : Nat) (hn : n ≤ 29) (w : World) :
    Calls Try.prog 20 #[.int .i64 n] w fun e w' => ∃ v, e = .returned v ∧ IntsL w' v (allp n) ∧ Below w.heap.size w w' := by
  have HS := Lib.hid (prt_size29 n hn)
  go_enter Try.func20, Try.ntmps20
  go_wp2_with fail
  refine (rlist_any n n n (Nat.le_refl _) (by omega) (by omega) _ [] _ (Beg.nil _) (by simp; omega) (by have := HS.out; omega)).mono ?_
  rintro e w1 ⟨v, vs, rfl, hrow, helt, _, hb⟩
  simp only [List.nil_append, List.map_id'] at hrow helt
  have HI := Lib.hid (intsL_of_own hrow helt (by have := HS.out; omega))
  clear hrow helt
  go_wp2_with fail
  go_ret
  exact ⟨_, rfl, HI.out, hb⟩
theorem IntsL.get {w : World} {v : Value} {L : List (List Int)} (h : IntsL w v L) {k : Nat} (hk : k < L.length) :
    ∃ ad c s, v = .slice (some ad) L.length c ∧ ad.block < w.heap.size ∧ w.cell? (ad.add k) = some s ∧ Ints w s (L.getD k []) ∧ ∀ b, s.ownBlock = some b → b < w.heap.size := by
  obtain ⟨_, A, c, vs, rfl, _, he, hr⟩ := h
  obtain ⟨ad, rfl, hb, hc⟩ := hr (by omega)
  have hv : vs[k]? = some (vs[k]'(by rw [he.1]; exact hk)) := List.getElem?_eq_getElem _
  have hL : L[k]? = some (L.getD k []) := by rw [List.getD_eq_getElem?_getD, List.getElem?_eq_getElem hk]; rfl
  obtain ⟨h1, h2⟩ := he.2 k _ _ hv hL
  exact ⟨ad, c, _, rfl, hb, hc k _ hv, h1, fun b e => (h2 b e).1⟩
theorem IntsL.form {w : World} {v : Value} {L : List (List Int)} (h : IntsL w v L) : ∃ A c, v = .slice A L.length c := by
  obtain ⟨_, A, c, vs, e, _⟩ := h
  exact ⟨A, c, e⟩
/-- a table of the call's own; its lists lie below X -/
def RowsL (w : World) (X : Nat) (v : Value) (L : List (List Int)) : Prop := ∃ vs, w.ownsRow X 33 1 v L.length vs ∧ Elts w (fun b => b < X) vs L
theorem RowsL.nil (w : World) (X : Nat) : RowsL w X (.slice none 0 0) [] := ⟨[], World.ownsRow_nil _ _ _ _, Elts.nil _ _⟩
theorem RowsL.intsL {w : World} {X : Nat} {v : Value} {L : List (List Int)} (h : RowsL w X v L) (hl : L.length ≤ 1000000) : IntsL w v L := by
  obtain ⟨vs, h1, h2⟩ := h
  exact intsL_of_own h1 h2 hl
theorem RowsL.form {w : World} {X : Nat} {v : Value} {L : List (List Int)} (h : RowsL w X v L) : ∃ A c, v = .slice A L.length c := by
  obtain ⟨vs, h1, _⟩ := h
  rcases h1.2 with ⟨rfl, h0⟩ | ⟨g, cap, cur, rfl, _⟩
  · exact ⟨none, 0, by rw [h0]⟩
  · exact ⟨_, _, rfl⟩
theorem RowsL.keep {w w' : World} {X : Nat} {v : Value} {L : List (List Int)} (h : RowsL w X v L) (hb : Below w.heap.size w w') : RowsL w' X v L := by
  obtain ⟨vs, h1, h2⟩ := h
  exact ⟨vs, ownsRow_same h1 (fun b _ hlt => hb.block b hlt), h2.keep hb.size (fun b hlt _ => hb.block b hlt) (fun _ _ h => h)⟩
/-- append(table, list) -/
theorem wpList_rowL (w : World) {ops : Array Oper} {rest : List Oper} {o : Oper} {a : Act} {Q : Exit → Act → World → Prop} (hgd : o.guard = none) (s x : Operand)
    (ho : o.op = .call { callee := .builtin .append, args := #[s, x], argTypes := #[22, 22] })
    (X : Nat) (v : Value) (L : List (List Int)) (hs : a.eval s = v) (h : RowsL w X v L) (u : Value) (xs : List Int) (hu : Ints w u xs) (hub : ∀ b, u.ownBlock = some b → b < X)
    (hx : a.eval x = .slice (some ⟨w.heap.size, 0, none⟩) 1 1) (hn : L.length ≤ 999999) (hX : X ≤ w.heap.size)
    (hK : ∀ g cap w', RowsL w' X (.slice (some ⟨g, 0, none⟩) (L.length + 1) cap) (L ++ [xs]) → Below X w w' → wpList Try.prog ops Q rest (a.put o.dst (.slice (some ⟨g, 0, none⟩) (L.length + 1) cap)) w') :
    wpList Try.prog ops Q (o :: rest) a (w.alloc (.cells #[u] 33)) := by
  obtain ⟨vs, h1, h2⟩ := h
  have hone : u.oneCell' = true := by obtain ⟨_, A, c, e, _⟩ := hu; rw [e]; rfl
  refine wpList_row w hgd s x ho X v L.length vs hs h1 u hx hone (by omega) hX ?_
  intro g cap w' r1 r2 r3
  have hsz : w.heap.size + 1 ≤ w'.heap.size := by have := r2.size; simpa using this
  have hbl : Below X w w' := ((Below.refl X w).alloc hX (.cells #[u] 33)).grown r2 (by simp; omega) (fun k e => (h1.lt k e).1)
  refine hK g cap w' ⟨vs ++ [u], by rw [List.length_append]; exact r1, Elts.append (h2.keep (by omega) (fun b _ hb => hbl.block b hb) (fun _ _ h => h)) (Elts.one (hu.same (by omega) (fun b e _ => hbl.block b (hub b e))) (fun b e => ⟨by have := hub b e; omega, hub b e⟩))⟩ hbl
noncomputable def rmk (l : List Int) (L : List (List Int)) (k : Nat) : List (List Int) := (L.take k).filter (rimB l)
theorem rmk_yes {l : List Int} {L : List (List Int)} {k : Nat} (hk : k < L.length) (h : rimB l (L.getD k []) = true) : rmk l L (k + 1) = rmk l L k ++ [L.getD k []] := by
  unfold rmk
  rw [List.take_add_one, List.filter_append, List.getElem?_eq_getElem hk]
  rw [List.getD_eq_getElem?_getD, List.getElem?_eq_getElem hk] at h ⊢
  simp only [Option.toList_some, Option.getD_some] at *
  rw [List.filter_cons_of_pos h]; rfl
theorem rmk_no {l : List Int} {L : List (List Int)} {k : Nat} (hk : k < L.length) (h : ¬ rimB l (L.getD k []) = true) : rmk l L (k + 1) = rmk l L k := by
  unfold rmk
  rw [List.take_add_one, List.filter_append, List.getElem?_eq_getElem hk]
  rw [List.getD_eq_getElem?_getD, List.getElem?_eq_getElem hk] at h
  simp only [Option.toList_some, Option.getD_some] at *
  rw [List.filter_cons_of_neg h]; simp
theorem rmk_len (l : List Int) (L : List (List Int)) (k : Nat) : (rmk l L k).length ≤ k := by
  unfold rmk
  have := List.length_filter_le (rimB l) (L.take k)
  rw [List.length_take] at this
  omega
theorem rmk_all (l : List Int) (L : List (List Int)) : rmk l L L.length = L.filter (rimB l) := by unfold rmk; rw [List.take_length]
theorem Part.at30 {l : List Int} (h : Part l) (k : Nat) : l.getD k 0 ≤ 30 := by
  by_cases hk : k < l.length
  · exact (h.at k hk).2
  · rw [gd_out (by omega)]; omega
set_option maxRecDepth 100000 in
set_option maxHeartbeats 8000000 in
theorem rRims_any (v : Value) (l : List Int) (h : Part l) (p : Nat) (hp : 1 ≤ p) (hp10 : p ≤ 10) (w : World) (hv : Ints w v l) :
    Calls Try.prog 54 #[v, .int .i64 p] w fun e w' => ∃ v', e = .returned v' ∧ IntsL w' v' (RmL l p) ∧ (RmL l p).length ≤ 6000 ∧ Below w.heap.size w w' := by
  have HSM := Lib.hid (rSum_any v l h.1 (by have := h.len; omega) w hv)
  have HV := Lib.hid hv
  have HP := Lib.hid h
  have hl30 := h.len
  have h30 := h.2
  have hs0 := h.sum0
  obtain ⟨A, c, hvv⟩ : ∃ A c, v = .slice A l.length c := by obtain ⟨_, A, c, h, _⟩ := hv; exact ⟨A, c, h⟩
  subst hvv
  clear h hv
  by_cases hlt : l.sum < p
  · have d1 : decide (l.sum < (p : Int)) = true := decide_eq_true hlt
    have HR := Lib.hid (show RmL l p = [] by unfold RmL; rw [if_pos hlt])
    generalize l.sum = S at *
    go_enter Try.func54, Try.ntmps54
    go_wp2_with fail
    with_reducible refine HSM.out.mono ?_
    rintro e _ ⟨rfl, rfl⟩
    go_wp2_with fail
    go_ret
    exact ⟨_, rfl, by rw [HR.out]; exact IntsL.nil _, by rw [HR.out]; simp, Below.refl _ _⟩
  · have d1 : decide (l.sum < (p : Int)) = false := decide_eq_false hlt
    obtain ⟨n, hn⟩ : ∃ n : Nat, l.sum - p = n := ⟨(l.sum - p).toNat, by omega⟩
    have HR := Lib.hid (show RmL l p = (allp n).filter (rimB l) by unfold RmL; rw [if_neg hlt, hn]; rfl)
    have hn29 : n ≤ 29 := by omega
    have HLI := Lib.hid (fun W => rList29 n hn29 W)
    have HLEN := Lib.hid (show (allp n).length ≤ 6000 from prt_size29 n hn29)
    have HSO := Lib.hid (fun m (hm : m ∈ allp n) => prt_sound n n n m hm (Nat.le_refl _))
    generalize allp n = L at *
    generalize l.sum = S at *
    go_enter Try.func54, Try.ntmps54
    go_wp2_with fail
    with_reducible refine HSM.out.mono ?_
    rintro e _ ⟨rfl, rfl⟩
    go_wp2_with fail
    with_reducible refine HSM.out.mono ?_
    rintro e _ ⟨rfl, rfl⟩
    have hw : IntKind.i64.wrap (S - (p : Int)) = n := by rw [hn]; exact IntWalk.i64_in _ (by omega)
    go_wp2_with fail
    with_reducible refine (HLI.out _).mono ?_
    rintro e w1 ⟨vl, rfl, hil, hb1⟩
    have HIL := Lib.hid hil
    have HB1 := Lib.hid hb1
    have HV1 := Lib.hid (HV.out.keep hb1)
    have hL6 := HLEN.out
    obtain ⟨Al, cl, rfl⟩ := hil.form
    clear hil hb1 HLI HSM hw hn
    go_wp2_with fail
    go_loopw [5, 18] (fun o i wr => ∃ k : Nat, k ≤ L.length ∧ i = .int .i64 k ∧ RowsL wr w1.heap.size o (rmk l L k) ∧ Below w1.heap.size w1 wr) (fun _ i _ => L.length - (intOf i).toNat)
    case atStart => exact ⟨0, Nat.zero_le _, rfl, RowsL.nil _ _, Below.refl _ _⟩
    case round =>
      obtain ⟨k, hk, rfl, hrow, hb⟩ := hrel
      have HRW := Lib.hid hrow
      have HBB := Lib.hid hb
      have hbs := hb.size
      have hkl := rmk_len l L k
      obtain ⟨Ao, co, hov⟩ := hrow.form
      subst hov
      clear hrow
      by_cases hlt2 : k < L.length
      · obtain ⟨ad, c2, s, hve, hbl, hcell, hints, hlow⟩ := HIL.out.get hlt2
        injection hve with hve1 _ hve3
        subst hve1
        subst hve3
        have hck := (hb.cell (p := ad.add k) (by rw [addr_block]; exact hbl)).trans hcell
        have hmem : L.getD k [] ∈ L := by rw [List.getD_eq_getElem?_getD, List.getElem?_eq_getElem hlt2]; exact List.getElem_mem hlt2
        obtain ⟨q1, q2, _⟩ := HSO.out _ hmem
        have hpm : Part (L.getD k []) := part_of ⟨q1.1, by rw [q2]; omega⟩ q1.2
        obtain ⟨m, hm⟩ : ∃ m, L.getD k [] = m := ⟨_, rfl⟩
        have HMK := Lib.hid hm
        rw [hm] at q1 hpm hints
        have hm30 := hpm.len
        have HPM := Lib.hid hpm
        have HIS := Lib.hid (hints.keep hb)
        have HLO := Lib.hid hlow
        obtain ⟨As, cs, hsv⟩ : ∃ A c, s = .slice A m.length c := by obtain ⟨_, A, c, h, _⟩ := hints; exact ⟨A, c, h⟩
        subst hsv
        clear hcell hints hlow hmem q1 q2 hpm hm hb
        by_cases hr : rimB l m = true
        · have HN := Lib.hid (rmk_yes (l := l) hlt2 (by rw [HMK.out]; exact hr))
          rw [HMK.out] at HN
          have HRI := Lib.hid (rim_any _ _ l m HP.out.pf HPM.out.pf (by omega) (by omega) HP.out.at30 HPM.out.at30 wr (HV1.out.keep HBB.out) HIS.out true (by rw [← rimB_iff]; simp [hr]))
          clear hr
          go_wp2_with fail
          with_reducible refine HRI.out.mono ?_
          rintro e _ ⟨rfl, rfl⟩
          clear HRI
          go_wp2_with (at_builtin; refine wpList_rowL _ rfl _ _ rfl w1.heap.size _ (rmk l L k) rfl HRW.out _ m HIS.out HLO.out rfl (by omega) hbs ?_; intro g cap w4 hrow4 hb4)
          have HR4 := Lib.hid hrow4
          clear hrow4
          go_roundw
          case rel => exact ⟨k + 1, by omega, by go_num, by rw [HN.out]; exact HR4.out, HBB.out.trans hb4⟩
          case measure => simp [intOf]; omega
        · have HN := Lib.hid (rmk_no (l := l) hlt2 (by rw [HMK.out]; exact hr))
          have HRI := Lib.hid (rim_any _ _ l m HP.out.pf HPM.out.pf (by omega) (by omega) HP.out.at30 HPM.out.at30 wr (HV1.out.keep HBB.out) HIS.out false (by rw [← rimB_iff]; simp [hr]))
          clear hr
          go_wp2_with fail
          with_reducible refine HRI.out.mono ?_
          rintro e _ ⟨rfl, rfl⟩
          clear HRI
          go_wp2_with fail
          go_roundw
          case rel => exact ⟨k + 1, by omega, by go_num, by rw [HN.out]; exact HRW.out, HBB.out⟩
          case measure => simp [intOf]; omega
      · have hkL : k = L.length := by omega
        have HF := Lib.hid (show RowsL wr w1.heap.size (.slice Ao (rmk l L k).length co) (RmL l p) by rw [HR.out, ← rmk_all, ← hkL]; exact HRW.out)
        have hrl : (RmL l p).length ≤ 6000 := by rw [HR.out]; exact Nat.le_trans (List.length_filter_le _ _) hL6
        clear hkL
        go_wp2_with fail
        go_ret
        exact ⟨_, rfl, HF.out.intsL (by omega), hrl, HB1.out.trans (HBB.out.mono HB1.out.size)⟩
end Go.Proofs.Ytpgpkgnljoedaaa
