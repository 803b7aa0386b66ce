/- Walk of slices.Compare; slices.SortFunc of lists by it. -/
import Derived.Test.YtpgpkgnljoedaaaCi
import Derived.Test.YtpgpkgnljoedaaaSht
namespace Go.Proofs.Ytpgpkgnljoedaaa
open Go.RowKit
theorem isNaN120 (x : Int) (w : World) : Calls Try.prog 120 #[.int .i64 x] w fun e w' => e = .returned (.bool false) ∧ w = w' := by
  go_enter Try.func120, Try.ntmps120
  go_wp2_with fail
  go_ret
  exact ⟨by simp, rfl⟩
def cmp2 (x y : Int) : Int := if x < y then -1 else if y < x then 1 else 0
set_option maxHeartbeats 1000000 in
theorem compare107 (x y : Int) (w : World) : Calls Try.prog 107 #[.int .i64 x, .int .i64 y] w fun e w' => e = .returned (.int .i64 (cmp2 x y)) ∧ w = w' := by
  rcases Int.lt_trichotomy x y with h | h | h
  · have d1 : decide (x < y) = true := decide_eq_true h
    have HC := Lib.hid (show cmp2 x y = -1 from by unfold cmp2; rw [if_pos h])
    clear h
    go_enter Try.func107, Try.ntmps107
    go_wp2_with fail
    with_reducible refine (isNaN120 x _).mono ?_
    rintro e _ ⟨rfl, rfl⟩
    go_wp2_with fail
    with_reducible refine (isNaN120 y _).mono ?_
    rintro e _ ⟨rfl, rfl⟩
    go_wp2_with fail
    go_ret
    exact ⟨by rw [HC.out]; rfl, rfl⟩
  · have d1 : decide (x < y) = false := decide_eq_false (by omega)
    have d2 : decide (y < x) = false := decide_eq_false (by omega)
    have HC := Lib.hid (show cmp2 x y = 0 from by unfold cmp2; rw [if_neg (by omega), if_neg (by omega)])
    clear h
    go_enter Try.func107, Try.ntmps107
    go_wp2_with fail
    with_reducible refine (isNaN120 x _).mono ?_
    rintro e _ ⟨rfl, rfl⟩
    go_wp2_with fail
    with_reducible refine (isNaN120 y _).mono ?_
    rintro e _ ⟨rfl, rfl⟩
    go_wp2_with fail
    go_ret
    exact ⟨by rw [HC.out]; rfl, rfl⟩
  · have d1 : decide (x < y) = false := decide_eq_false (by omega)
    have d2 : decide (y < x) = true := decide_eq_true (by omega)
    have HC := Lib.hid (show cmp2 x y = 1 from by unfold cmp2; rw [if_neg (by omega), if_pos h])
    clear h
    go_enter Try.func107, Try.ntmps107
    go_wp2_with fail
    with_reducible refine (isNaN120 x _).mono ?_
    rintro e _ ⟨rfl, rfl⟩
    go_wp2_with fail
    with_reducible refine (isNaN120 y _).mono ?_
    rintro e _ ⟨rfl, rfl⟩
    go_wp2_with fail
    go_ret
    exact ⟨by rw [HC.out]; rfl, rfl⟩
theorem drop_getD {L : List Int} {k : Nat} (h : k < L.length) : L.drop k = L.getD k 0 :: L.drop (k + 1) := by
  rw [List.drop_eq_getElem_cons h, List.getD_eq_getElem?_getD, List.getElem?_eq_getElem h]; rfl
theorem cmpL_cons (x y : Int) (xs ys : List Int) : cmpL (x :: xs) (y :: ys) = if cmp2 x y ≠ 0 then cmp2 x y else cmpL xs ys := by
  rw [cmpL]
  unfold cmp2
  by_cases h : x < y
  · rw [if_pos h, if_pos h, if_pos (by omega)]
  · rw [if_neg h, if_neg h]
    by_cases h2 : y < x
    · rw [if_pos h2, if_pos h2, if_pos (by omega)]
    · rw [if_neg h2, if_neg h2, if_neg (by omega)]
set_option maxRecDepth 100000 in
set_option maxHeartbeats 4000000 in
theorem compare97 (v1 v2 : Value) (xs ys : List Int) (hl1 : xs.length ≤ 1000) (hl2 : ys.length ≤ 1000) (w : World) (h1 : Ints w v1 xs) (h2 : Ints w v2 ys) :
    Calls Try.prog 97 #[v1, v2] w fun e w' => e = .returned (.int .i64 (cmpL xs ys)) ∧ w = w' := by
  obtain ⟨_, A, c, rfl, hc, hr⟩ := h1
  obtain ⟨_, A', c', rfl, hc', hr'⟩ := h2
  have HR := Lib.hid hr
  have HR' := Lib.hid hr'
  clear hr hr'
  go_enter Try.func97, Try.ntmps97
  go_wp2_with fail
  go_loop [11] (fun i => ∃ k : Nat, k ≤ xs.length ∧ i = .int .i64 k ∧ k ≤ ys.length ∧ cmpL xs ys = cmpL (xs.drop k) (ys.drop k)) (fun i => xs.length - (intOf i).toNat)
  case atStart => exact ⟨0, Nat.zero_le _, rfl, Nat.zero_le _, rfl⟩
  case round =>
    obtain ⟨k, hk, rfl, hk2, he⟩ := hrel
    by_cases hlt : k < xs.length
    · obtain ⟨ad, rfl, _, hcell⟩ := HR.out (by omega)
      have hck := hcell k _ (getD_get xs k hlt)
      clear hcell
      rw [drop_getD hlt] at he
      by_cases hlt2 : k < ys.length
      · obtain ⟨ad', rfl, _, hcell'⟩ := HR'.out (by omega)
        have hck' := hcell' k _ (getD_get ys k hlt2)
        clear hcell'
        have d1 : decide ((ys.length : Int) ≤ k) = false := decide_eq_false (by omega)
        rw [drop_getD hlt2, cmpL_cons] at he
        by_cases hz : cmp2 (xs.getD k 0) (ys.getD k 0) = 0
        · rw [if_neg (by omega)] at he
          have HE := Lib.hid he
          have HZ := Lib.hid hz
          clear he hz
          generalize xs.getD k 0 = x at *
          generalize ys.getD k 0 = y at *
          go_wp2_with fail
          with_reducible refine (compare107 x y _).mono ?_
          rintro e _ ⟨rfl, rfl⟩
          rw [HZ.out]
          go_wp2_with fail
          go_round
          case rel => exact ⟨k + 1, by omega, by go_num, by omega, HE.out⟩
          case measure => simp [intOf]; omega
        · rw [if_pos hz] at he
          have HE := Lib.hid he
          have hne : (cmp2 (xs.getD k 0) (ys.getD k 0) != 0) = true := bne_iff_ne.2 hz
          clear he hz
          generalize xs.getD k 0 = x at *
          generalize ys.getD k 0 = y at *
          go_wp2_with fail
          with_reducible refine (compare107 x y _).mono ?_
          rintro e _ ⟨rfl, rfl⟩
          generalize cmp2 x y = z at *
          go_wp2_with fail
          go_ret
          exact ⟨by rw [HE.out]; rfl, rfl⟩
      · have d1 : decide ((ys.length : Int) ≤ k) = true := decide_eq_true (by omega)
        rw [List.drop_eq_nil_of_le (show ys.length ≤ _ by omega)] at he
        have HE := Lib.hid (he.trans (show cmpL (xs.getD k 0 :: xs.drop (k + 1)) [] = 1 by rw [cmpL]))
        clear he
        generalize xs.getD k 0 = x at *
        go_wp2_with fail
        go_ret
        exact ⟨by rw [HE.out]; rfl, rfl⟩
    · obtain rfl : k = xs.length := by omega
      rw [List.drop_eq_nil_of_le (Nat.le_refl xs.length)] at he
      by_cases hlt2 : xs.length < ys.length
      · rw [drop_getD hlt2] at he
        have d2 : decide ((xs.length : Int) < ys.length) = true := decide_eq_true (by omega)
        have HE := Lib.hid (he.trans (show cmpL [] (ys.getD xs.length 0 :: ys.drop (xs.length + 1)) = -1 by rw [cmpL]))
        clear he HR HR'
        go_wp2_with fail
        go_ret
        exact ⟨by rw [HE.out]; rfl, rfl⟩
      · rw [List.drop_eq_nil_of_le (show ys.length ≤ _ by omega)] at he
        have d2 : decide ((xs.length : Int) < ys.length) = false := decide_eq_false (by omega)
        have HE := Lib.hid (he.trans (show cmpL [] [] = 0 by rw [cmpL]))
        clear he HR HR'
        go_wp2_with fail
        go_ret
        exact ⟨by rw [HE.out]; rfl, rfl⟩
/-! ### the sort -/
/-- a list in memory apart from block X -/
structure El (w0 : World) (X : Nat) where
  v : Value
  xs : List Int
  ints : Ints w0 v xs
  len : xs.length ≤ 1000
  low : ∀ b, v.ownBlock = some b → b ≠ X
instance (w0 : World) (X : Nat) : Inhabited (El w0 X) := ⟨⟨.slice none 0 0, [], Ints.nil w0, by simp, fun b h => by simp [Value.ownBlock] at h⟩⟩
def El.enc {w0 : World} {X : Nat} (x : El w0 X) : Value := x.v
def El.cf {w0 : World} {X : Nat} (x y : El w0 X) : Int := cmpL x.xs y.xs
theorem El.one {w0 : World} {X : Nat} : OneCell (El.enc (w0 := w0) (X := X)) := fun x => by
  obtain ⟨_, A, c, e, _⟩ := x.ints
  show Value.oneCell' x.v = true
  rw [e]; rfl
theorem El.swo {w0 : World} {X : Nat} : «Sort».SWO (_root_.Go.Proofs.ltOf (El.cf (w0 := w0) (X := X))) := by
  refine ⟨fun x => ?_, fun x y z h1 h2 => ?_, fun x y z h1 h2 => ?_⟩
  · unfold _root_.Go.Proofs.ltOf El.cf
    rw [decide_eq_false_iff_not]
    exact ltL_irrefl _
  · unfold _root_.Go.Proofs.ltOf El.cf at *
    rw [decide_eq_true_eq] at *
    exact ltL_trans h1 h2
  · unfold _root_.Go.Proofs.ltOf El.cf at *
    rw [decide_eq_false_iff_not] at *
    intro h3
    rcases ltL_total x.xs y.xs with h | h | h
    · exact h1 h
    · rw [h] at h3; exact h2 h3
    · exact h2 (ltL_trans h h3)
theorem sortW_block {α : Type} [Inhabited α] (enc : α → Value) (w : World) (g q : Nat) (d : Array α) (os : Array Obj) (b : Nat) (hb : b < w.heap.size) (hne : b ≠ g) : (sortWorld enc w g 0 q d os).heap[b]? = w.heap[b]? := by
  unfold sortWorld «Sort».grow
  rw [Array.getElem?_append_left (by simpa [«Sort».putRow, «Sort».mapBlock, «Sort».ahead] using hb)]
  have hgb : ¬ g = b := fun e => hne e.symm
  simp [«Sort».putRow, «Sort».mapBlock, «Sort».ahead, Array.getElem?_modify, hgb]
theorem sortW_size {α : Type} [Inhabited α] (enc : α → Value) (w : World) (g q : Nat) (d : Array α) (os : Array Obj) : w.heap.size ≤ (sortWorld enc w g 0 q d os).heap.size := by
  unfold sortWorld «Sort».grow
  simp [«Sort».putRow, «Sort».mapBlock, «Sort».ahead]
theorem sortW_row {α : Type} [Inhabited α] (enc : α → Value) {w : World} {X g n cap : Nat} {vs : List Value} (h : w.ownsRow X 33 1 (.slice (some ⟨g, 0, none⟩) n cap) n vs) (q : Nat) (d : Array α) (os : Array Obj) (hd : d.size = n) :
    (sortWorld enc w g 0 q d os).ownsRow X 33 1 (.slice (some ⟨g, 0, none⟩) n cap) n (d.toList.map enc) := by
  rcases h.2 with ⟨h0, _⟩ | ⟨g', cap', cur, hv, hb0, hg, hnc, hcm, hcs, _⟩
  · cases h0
  · simp only [Value.slice.injEq, Option.some.injEq, Addr.mk.injEq] at hv
    obtain ⟨⟨rfl, _⟩, _, rfl⟩ := hv
    have hlt := (Array.getElem?_eq_some_iff.1 hg).1
    have hg2 : (sortWorld enc w g 0 q d os).heap[g]? = some (.cells («Sort».putCells enc 0 d cur) 33 (0, 0)) := by
      unfold sortWorld «Sort».grow
      rw [Array.getElem?_append_left (by simpa [«Sort».putRow, «Sort».mapBlock, «Sort».ahead] using hlt)]
      simp [«Sort».putRow, «Sort».mapBlock, «Sort».ahead, Array.getElem?_modify, hg, «Sort».onCells]
    refine ⟨by simp [hd], .inr ⟨g, cap, _, rfl, hb0, hg2, hnc, hcm, by simpa [«Sort».putCells] using hcs, ?_⟩⟩
    apply List.ext_getElem?
    intro i
    simp only [List.getElem?_take, List.getElem?_map, Array.getElem?_toList]
    by_cases hi : i < n
    · have hic : i < cur.size := by omega
      rw [if_pos (by omega)]
      simp [«Sort».putCells, Array.getElem?_mapIdx, Array.getElem?_eq_getElem hic, hd, hi]
    · rw [if_neg (by omega), Array.getElem?_eq_none (by omega)]
      rfl
theorem cmp_lays {w : World} {g n : Nat} : CmpLays1 Try.prog 97 #[] (El.enc (w0 := w) (X := g)) El.cf g 0 n w := by
  intro m os dk _ x y
  have hI : ∀ z : El w g, Ints (sortWorld El.enc w g 0 m dk os) z.v z.xs := fun z =>
    z.ints.same (sortW_size _ _ _ _ _ _) (fun b e hlt => sortW_block _ _ _ _ _ _ b hlt (z.low b e))
  refine (compare97 x.v y.v x.xs y.xs x.len y.len _ (hI x) (hI y)).mono ?_
  rintro e w' ⟨rfl, rfl⟩
  exact ⟨rfl, 0, #[], by simp [World.drewN]⟩
theorem sort96_some {w : World} {X g cap : Nat} {L : List (List Int)} {vs : List Value} (hrow : w.ownsRow X 33 1 (.slice (some ⟨g, 0, none⟩) L.length cap) L.length vs) (helt : Elts w (fun b => b ≠ g) vs L) (hX : X ≤ g) (hgl : g < w.heap.size) (hl : ∀ m ∈ L, m.length ≤ 1000) (hL : L.length ≤ 1000000) :
    Calls Try.prog 96 #[.slice (some ⟨g, 0, none⟩) L.length cap, .func (.func 97) #[] #[]] w fun e w' => e = .returned (.tuple #[]) ∧ ∃ S vs', w'.ownsRow X 33 1 (.slice (some ⟨g, 0, none⟩) L.length cap) S.length vs' ∧ Elts w' (fun b => b ≠ g) vs' S ∧ S.Perm L ∧ S.Pairwise (fun a b => ¬ ltL b a) ∧ Below X w w' := by
  have hvl := helt.1
  have hget : ∀ j (hj : j < L.length), Ints w (vs[j]'(by omega)) L[j] ∧ L[j].length ≤ 1000 ∧ ∀ b, (vs[j]'(by omega)).ownBlock = some b → b ≠ g := fun j hj => by
    have := helt.2 j _ _ (List.getElem?_eq_getElem (by omega)) (List.getElem?_eq_getElem hj)
    exact ⟨this.1, hl _ (List.getElem_mem hj), fun b e => (this.2 b e).2⟩
  obtain ⟨d, hd⟩ : ∃ d : Array (El w g), d = Array.ofFn (n := L.length) fun i => ⟨vs[i.1]'(by omega), L[i.1], (hget i.1 i.2).1, (hget i.1 i.2).2.1, (hget i.1 i.2).2.2⟩ := ⟨_, rfl⟩
  have hds : d.size = L.length := by rw [hd]; simp
  have hdv : d.toList.map El.enc = vs := by
    apply List.ext_getElem
    · simp [hds, hvl]
    · intro i h1 h2
      simp [hd, El.enc]
  have hdl : d.toList.map (fun x => x.xs) = L := by
    apply List.ext_getElem
    · simp [hds]
    · intro i h1 h2
      simp [hd]
  have hH : «Sort».Holds El.enc w g 0 d := by
    intro j hj
    have hjl : j < L.length := by omega
    rcases hrow.2 with ⟨h0, _⟩ | ⟨g', cap', cur, hv, hb0, hg, hnc, hcm, hcs, htake⟩
    · cases h0
    · simp only [Value.slice.injEq, Option.some.injEq, Addr.mk.injEq] at hv
      obtain ⟨⟨rfl, _⟩, _, rfl⟩ := hv
      refine ⟨?_, by simp [World.frozen?, hg]⟩
      have e : cur[j]? = some (vs[j]'(by omega)) := by
        have := congrArg (fun l => l[j]?) htake
        simp only [List.getElem?_take, Array.getElem?_toList] at this
        rw [if_pos (by omega), List.getElem?_eq_getElem (by omega)] at this
        exact this
      simp only [World.cell?, hg, Nat.zero_add]
      simp [e, hd, hjl, El.enc]
  have hcon := Any.slices_SortFunc l96 El.enc El.one El.cf El.swo 97 #[] g 0 cap d w (enters_of Try.func97 (by kernel_rfl) rfl) (by rw [hds]; exact cmp_lays) hH hgl (by omega)
  change Calls Try.prog 96 _ _ _ at hcon
  rw [hds] at hcon
  refine hcon.mono ?_
  rintro e w' ⟨rfl, d', q, os, hp, hso, rfl⟩
  have hds' : d'.size = L.length := by rw [hp.1, hds]
  have hperm : d'.toList.Perm d.toList := by
    have := hp.2.2
    rwa [Array.extract_eq_self_of_le (by omega), Array.extract_eq_self_of_le (by omega)] at this
  refine ⟨rfl, d'.toList.map (fun x => x.xs), d'.toList.map El.enc, ?_, ?_, by rw [← hdl]; exact hperm.map _, ?_, ?_⟩
  · have := sortW_row El.enc hrow q d' os hds'
    have e : (d'.toList.map (fun x => x.xs)).length = L.length := by simp [hds']
    rw [e]
    exact this
  · refine ⟨by simp, fun j s xs h1 h2 => ?_⟩
    rw [List.getElem?_map] at h1 h2
    obtain ⟨z, hz, rfl⟩ := Option.map_eq_some_iff.1 h1
    rw [hz] at h2
    simp at h2
    subst h2
    refine ⟨z.ints.same (sortW_size _ _ _ _ _ _) (fun b e hlt => sortW_block _ _ _ _ _ _ b hlt (z.low b e)), fun b e => ⟨?_, z.low b e⟩⟩
    have hzl : b < w.heap.size := by
      obtain ⟨zi, hzi⟩ := List.getElem?_eq_some_iff.1 hz
      have hmem : z ∈ d.toList := hperm.mem_iff.1 (by rw [← hzi]; exact List.getElem_mem _)
      obtain ⟨n0, hn0, e0⟩ := List.getElem_of_mem hmem
      rw [Array.length_toList] at hn0
      have hv0 : z.v = vs[n0]'(by omega) := by rw [← e0]; simp [hd]
      have hv1 : vs[n0]? = some z.v := by rw [hv0]; exact List.getElem?_eq_getElem _
      exact ((helt.2 n0 _ _ hv1 (List.getElem?_eq_getElem (by omega : n0 < L.length))).2 b e).1
    have := sortW_size (El.enc (w0 := w) (X := g)) w g q d' os
    omega
  · rw [List.pairwise_map, List.pairwise_iff_getElem]
    intro i j hi hj hij
    have := hso i j (Nat.zero_le _) hij (by simpa [hds'] using hj)
    unfold _root_.Go.Proofs.ltOf El.cf at this
    rw [decide_eq_false_iff_not] at this
    simp only [Array.length_toList] at hi hj
    rw [getElem!_pos d' i hi, getElem!_pos d' j hj] at this
    simpa [ltL] using this
  · refine ⟨rfl, rfl, rfl, sortW_size _ _ _ _ _ _, fun b hb => sortW_block _ _ _ _ _ _ b (by omega) (by omega)⟩
end Go.Proofs.Ytpgpkgnljoedaaa
