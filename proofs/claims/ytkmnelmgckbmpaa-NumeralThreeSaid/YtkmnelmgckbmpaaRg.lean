/- Walk: Gaps of the reference. -/
import Derived.Test.YtkmnelmgckbmpaaGy
import Derived.Deep.OwnRows
namespace Go.Proofs.Ytkmnelmgckbmpaa
open Go.RowKit
/-- a block of flags -/
def Flags (w : World) (G : Nat) (L : List Bool) : Prop := w.heap[G]? = some (.cells (L.map Value.bool).toArray 4 (0, 0))
theorem Flags.lt {w : World} {G : Nat} {L : List Bool} (h : Flags w G L) : G < w.heap.size := (Array.getElem?_eq_some_iff.1 h).1
theorem Flags.cell {w : World} {G : Nat} {L : List Bool} (h : Flags w G L) {j : Nat} {b : Bool} (hj : L[j]? = some b) : w.cell? ⟨G, j, none⟩ = some (.bool b) := by
  unfold Flags at h
  simp [World.cell?, h, hj]
theorem Flags.free {w : World} {G : Nat} {L : List Bool} (h : Flags w G L) (o : Nat) : w.frozen? ⟨G, o, none⟩ = false := by
  unfold Flags at h
  simp [World.frozen?, h]
theorem Flags.same {w w' : World} {G : Nat} {L : List Bool} (h : Flags w G L) (e : w'.heap[G]? = w.heap[G]?) : Flags w' G L := by
  unfold Flags at *
  rw [e, h]
theorem Flags.put {w : World} {G : Nat} {L : List Bool} (h : Flags w G L) (j : Nat) (b : Bool) : Flags (w.setCell ⟨G, j, none⟩ (.bool b)) G (L.set j b) := by
  unfold Flags at *
  simp [World.setCell, Array.getElem?_modify, h]
theorem made_flags (w : World) (n : Nat) : Flags (w.alloc (.cells (madeCells #[.bool false] n) 4)) w.heap.size (List.replicate n false) := by
  unfold Flags
  rw [heap_alloc_new]
  congr 2
  apply Array.ext
  · simp [size_madeCells]
  · intro i h1 h2
    simp [madeCells, Nat.mod_one]
/-- the flags after k points -/
def flg (p m k : Nat) : List Bool := (List.range m).map (isPt p m k)
theorem flg_zero (p m : Nat) : flg p m 0 = List.replicate m false := by
  apply List.ext_getElem
  · simp [flg]
  · intro i h1 h2
    simp [flg, isPt]
theorem flg_get (p m k x : Nat) (h : x < m) : (flg p m k)[x]? = some (isPt p m k x) := by simp [flg, h]
theorem isPt_succ (p m k x : Nat) : isPt p m (k + 1) x = (isPt p m k x || decide (k * p % m = x)) := by
  unfold isPt
  rw [List.range_succ, List.any_append]
  simp
theorem flg_succ (p m k : Nat) : flg p m (k + 1) = (flg p m k).set (k * p % m) true := by
  apply List.ext_getElem
  · simp [flg]
  · intro i h1 h2
    rw [List.getElem_set]
    simp only [flg, List.getElem_map, List.getElem_range]
    rw [isPt_succ]
    by_cases c : k * p % m = i
    · simp [c]
    · simp [c]
/-- how often each number is in G -/
def cl (m : Nat) (G : List Nat) : List Int := (List.range (m + 1)).map fun d => ((G.count d : Nat) : Int)
theorem cl_nil (m : Nat) : cl m [] = List.replicate (m + 1) 0 := by
  apply List.ext_getElem
  · simp [cl]
  · intro i h1 h2
    simp [cl]
theorem cl_length (m : Nat) (G : List Nat) : (cl m G).length = m + 1 := by simp [cl]
theorem cl_get (m : Nat) (G : List Nat) (d : Nat) (h : d ≤ m) : (cl m G)[d]? = some ((G.count d : Nat) : Int) := by
  have : d < m + 1 := by omega
  simp [cl, this]
theorem cl_put (m : Nat) (G : List Nat) (d : Nat) : cl m (G ++ [d]) = (cl m G).set d (((G.count d : Nat) : Int) + 1) := by
  apply List.ext_getElem
  · simp [cl]
  · intro i h1 h2
    rw [List.getElem_set]
    simp only [cl, List.getElem_map, List.getElem_range]
    rw [List.count_append, List.count_singleton]
    by_cases c : d = i
    · subst c; simp
    · simp [c]
/-- the first of the gaps -/
def pre (G : List Nat) (j : Nat) : List (Nat × Nat) := ((List.range j).filter fun d => decide (0 < G.count d)).map fun d => (d, G.count d)
theorem pre_all (m : Nat) (G : List Nat) : pre G (m + 1) = gapL m G := rfl
theorem pre_yes (G : List Nat) (j : Nat) (h : 0 < G.count j) : pre G (j + 1) = pre G j ++ [(j, G.count j)] := by
  unfold pre
  rw [List.range_succ, List.filter_append, List.map_append, show List.filter (fun d => decide (0 < G.count d)) [j] = [j] by rw [List.filter_cons, if_pos (decide_eq_true h)]; rfl]
  rfl
theorem pre_no (G : List Nat) (j : Nat) (h : ¬ 0 < G.count j) : pre G (j + 1) = pre G j := by
  unfold pre
  rw [List.range_succ, List.filter_append, List.map_append]
  rw [show List.filter (fun d => decide (0 < G.count d)) [j] = [] by rw [List.filter_cons, if_neg (by rw [decide_eq_false h]; simp)]; rfl]
  simp
theorem pre_length (G : List Nat) (j : Nat) : (pre G j).length ≤ j := by
  unfold pre
  rw [List.length_map]
  exact Nat.le_trans (List.length_filter_le _ _) (by simp)
/-- t of the points lie ahead of j -/
structure Ahead (S : List Nat) (j t : Nat) : Prop where
  le : t ≤ S.length
  lo : ∀ s, s < t → S.getD s 0 < j
  hi : ∀ s, t ≤ s → s < S.length → j ≤ S.getD s 0
theorem Ahead.zero (S : List Nat) : Ahead S 0 0 := ⟨Nat.zero_le _, fun s h => by omega, fun s _ _ => Nat.zero_le _⟩
theorem pS_lt_get {p m n : Nat} (a b : Nat) (hab : a < b) (hb : b < (pS p m n).length) : (pS p m n).getD a 0 < (pS p m n).getD b 0 := by
  have ha : a < (pS p m n).length := by omega
  have := List.pairwise_iff_getElem.1 (pS_lt p m n) a b ha hb hab
  simpa [ha, hb] using this
theorem Ahead.yes {p m n j t : Nat} (h : Ahead (pS p m n) j t) (hj : j < m) (hp : isPt p m n j = true) : t < (pS p m n).length ∧ (pS p m n).getD t 0 = j ∧ Ahead (pS p m n) (j + 1) (t + 1) := by
  obtain ⟨s, hs, e⟩ := List.mem_iff_getElem.1 (mem_pS.2 ⟨hj, hp⟩)
  have e' : (pS p m n).getD s 0 = j := by simp [hs, e]
  have hst : t ≤ s := by
    by_cases c : s < t
    · have := h.lo s c; omega
    · omega
  have hts : t = s := by
    by_cases c : t < s
    · have h1 := pS_lt_get (p := p) (m := m) (n := n) t s c hs
      have h2 := h.hi t (Nat.le_refl _) (by omega)
      omega
    · omega
  subst hts
  refine ⟨hs, e', ⟨hs, fun s h1 => ?_, fun s h1 h2 => ?_⟩⟩
  · by_cases c : s = t
    · subst c; omega
    · have := h.lo s (by omega); omega
  · have := pS_lt_get (p := p) (m := m) (n := n) t s (by omega) h2
    omega
theorem Ahead.no {p m n j t : Nat} (h : Ahead (pS p m n) j t) (hp : isPt p m n j = false) : Ahead (pS p m n) (j + 1) t := by
  refine ⟨h.le, fun s h1 => by have := h.lo s h1; omega, fun s h1 h2 => ?_⟩
  have h3 := h.hi s h1 h2
  by_cases c : (pS p m n).getD s 0 = j
  · have := (mem_pS.1 (getD_mem (pS p m n) s h2)).2
    rw [c, hp] at this
    cases this
  · omega
theorem Ahead.done {p m n t : Nat} (h : Ahead (pS p m n) m t) : t = (pS p m n).length := by
  by_cases c : t < (pS p m n).length
  · have h1 := h.hi t (Nat.le_refl _) c
    have h2 := (mem_pS.1 (getD_mem (pS p m n) t c)).1
    omega
  · have := h.le; omega
/-- how far the next point lies -/
theorem next_gap {p m n j t d : Nat} (h : Ahead (pS p m n) j t) (hj : j < m) (hp : isPt p m n j = true) (h1 : 1 ≤ d) (hd : d ≤ m - j) (hb : ∀ e, 1 ≤ e → e < d → isPt p m n (j + e) = false) (he : isPt p m n ((j + d) % m) = true) : d = gap m (pS p m n) t := by
  obtain ⟨ht, e, _⟩ := h.yes hj hp
  obtain ⟨g1, g2, g3, g4, g5, g6, g7⟩ := gap_next (p := p) (m := m) (n := n) t ht
  rw [e] at g2 g3 g5 g6 g7
  generalize gap m (pS p m n) t = g at *
  rcases Nat.lt_trichotomy d g with c | c | c
  · have := g7 (j + d) (by omega) (by omega)
    rw [Nat.mod_eq_of_lt (by omega), this] at he
    cases he
  · exact c
  · have := hb g g1 c
    by_cases c2 : t + 1 < (pS p m n).length
    · rw [g5 c2] at this
      have h3 := (mem_pS.1 (getD_mem (pS p m n) (t + 1) c2)).2
      rw [h3] at this
      cases this
    · have := g6 c2
      omega
theorem isPt_zero {p m n : Nat} (hn : 1 ≤ n) : isPt p m n 0 = true := isPt_iff.2 ⟨0, hn, by simp⟩
set_option maxRecDepth 100000 in
set_option maxHeartbeats 8000000 in
theorem rGaps_any (p m n : Nat) (h1 : 2 ≤ m) (h2 : m ≤ 1000) (h3 : 1 ≤ p) (h4 : p < m) (h5 : 1 ≤ n) (h6 : n ≤ m) (h7 : Nat.gcd p m = 1) (w : World) :
    Calls Try.prog 9 #[.int .i64 p, .int .i64 m, .int .i64 n] w fun e w' => ∃ v, e = .returned v ∧ Rw EG 29 w' w.heap.size v (gapL m (gaps m (pS p m n))) ∧ Below w.heap.size w w' := by
  have hmk : ∀ W : World, (Instr.makeSlice 40 (.int .i64 (m : Int)) (.int .i64 (m : Int))).run Try.prog W = .ok (.slice (some ⟨W.heap.size, 0, none⟩) m m) (W.alloc (.cells (madeCells #[.bool false] m) 4)) := fun W =>
    run_make_row' 40 4 (.bool false) 1 Try.underlying40 (by kernel_rfl) rfl .i64 .i64 m (by omega) (by omega) W
  have hmk2 : ∀ W : World, (Instr.makeSlice 32 (.int .i64 ((m : Int) + 1)) (.int .i64 ((m : Int) + 1))).run Try.prog W = .ok (.slice (some ⟨W.heap.size, 0, none⟩) (m + 1) (m + 1)) (W.alloc (.cells (madeCells #[.int .i64 0] (m + 1)) 3)) := fun W =>
    run_make_row' 32 3 (.int .i64 0) 8 Try.underlying32 info3 rfl .i64 .i64 (m + 1) (by omega) (by omega) W
  have HPL := Lib.hid (pS_length (show 0 < m by omega) h7 h6)
  have HGL := Lib.hid (gaps_length m (pS p m n))
  have HGT := Lib.hid (gaps_take m (pS p m n))
  have HGLE := Lib.hid (gaps_le (p := p) (m := m) (n := n))
  have HF0 := Lib.hid (show Flags (w.alloc (.cells (madeCells #[.bool false] m) 4)) w.heap.size (flg p m 0) by rw [flg_zero]; exact made_flags w m)
  have HFS := Lib.hid (flg_succ p m)
  have HFG := Lib.hid (flg_get p m)
  have HB0 := Lib.hid ((Below.refl w.heap.size w).alloc (Nat.le_refl _) (.cells (madeCells #[.bool false] m) 4))
  have hs0 : w.heap.size + 1 ≤ (w.alloc (.cells (madeCells #[.bool false] m) 4)).heap.size := by simp
  have HNX := Lib.hid (fun j t d (h : Ahead (pS p m n) j t) (hj : j < m) hp => next_gap (d := d) h hj hp)
  have HAY := Lib.hid (fun j t (h : Ahead (pS p m n) j t) (hj : j < m) hp => h.yes hj hp)
  have HAN := Lib.hid (fun j t (h : Ahead (pS p m n) j t) hp => h.no hp)
  have HAD := Lib.hid (fun t (h : Ahead (pS p m n) m t) => h.done)
  have HZ := Lib.hid (isPt_zero (p := p) (m := m) h5)
  generalize pS p m n = S at *
  clear h7
  go_enter Try.func9, Try.ntmps9
  go_wp2_with fail
  clear hmk
  go_loopw [18] (fun i wr => ∃ k : Nat, k ≤ n ∧ i = .int .i64 k ∧ Flags wr w.heap.size (flg p m k) ∧ Below w.heap.size w wr ∧ w.heap.size + 1 ≤ wr.heap.size) (fun i _ => n - (intOf i).toNat)
  case atStart => exact ⟨0, Nat.zero_le _, rfl, HF0.out, HB0.out, hs0⟩
  case round =>
    obtain ⟨k, hk, rfl, hfl, hb, hsz⟩ := hrel
    by_cases hkn : k < n
    · have c0 : decide ((k : Int) < (n : Int)) = true := decide_eq_true (by omega)
      have hkp : k * p ≤ 1000000 := Nat.le_trans (Nat.mul_le_mul (show k ≤ 1000 by omega) (show p ≤ 1000 by omega)) (by omega)
      have hkq : (k : Int) * (p : Int) ≤ 1000000 := by rw [← Int.natCast_mul]; omega
      have hkr : 0 ≤ (k : Int) * (p : Int) := by rw [← Int.natCast_mul]; omega
      have hE : (k : Int) * (p : Int) % (m : Int) = ((k * p % m : Nat) : Int) := by rw [Int.natCast_emod, Int.natCast_mul]
      have hlm : k * p % m < m := Nat.mod_lt _ (by omega)
      have HP := Lib.hid (hfl.put (k * p % m) true)
      rw [← HFS.out k] at HP
      have hfr := hfl.free
      have hcx := hfl.cell (HFG.out k _ hlm)
      have HBP := Lib.hid (hb.setCell (p := ⟨w.heap.size, k * p % m, none⟩) (Nat.le_refl _) (.bool true))
      clear hb hfl hkp
      generalize k * p % m = x at *
      generalize isPt p m k x = bb at *
      go_wp2_with fail
      go_roundw
      case rel => exact ⟨k + 1, by omega, by go_num, HP.out, HBP.out, by simpa using hsz⟩
      case measure => simp [intOf]; omega
    · have hkn : k = n := by omega
      subst hkn
      have c0 : decide ((k : Int) < (k : Int)) = false := decide_eq_false (by omega)
      have HFL := Lib.hid hfl
      have HB := Lib.hid hb
      have HO := Lib.hid (show Own (wr.alloc (.cells (madeCells #[.int .i64 0] (m + 1)) 3)) w.heap.size (.slice (some ⟨wr.heap.size, 0, none⟩) (m + 1) (m + 1)) (cl m []) by
        rw [cl_nil]
        exact Own.lit wr w.heap.size hb.size (madeCells #[.int .i64 0] (m + 1)) (List.replicate (m + 1) 0) (m + 1) (by simp) (made_lit _) (by simp; omega))
      have HFL1 := Lib.hid (hfl.same (w' := wr.alloc (.cells (madeCells #[.int .i64 0] (m + 1)) 3)) (Below.heap_alloc wr _ _ (by omega)))
      have HB1 := Lib.hid (hb.alloc hb.size (.cells (madeCells #[.int .i64 0] (m + 1)) 3))
      clear hfl hb
      have HBW := Lib.hid HB.out.size
      obtain ⟨wq, hwq⟩ : ∃ wq, wq = wr := ⟨_, rfl⟩
      subst hwq
      go_wp2_with fail
      clear hmk2
      go_loopw [33] (fun i wr => ∃ j t : Nat, j ≤ m ∧ i = .int .i64 j ∧ Ahead S j t ∧ Flags wr w.heap.size (flg p m k) ∧ Own wr w.heap.size (.slice (some ⟨wq.heap.size, 0, none⟩) (m + 1) (m + 1)) (cl m ((gaps m S).take t)) ∧ Below w.heap.size w wr) (fun i _ => m - (intOf i).toNat)
      case atStart => exact ⟨0, 0, Nat.zero_le _, rfl, Ahead.zero S, HFL1.out, HO.out, HB1.out⟩
      case round =>
        obtain ⟨j, t, hj, rfl, hah, hfl, how, hb⟩ := hrel
        have HAH := Lib.hid hah
        have HFL := Lib.hid hfl
        have HOW := Lib.hid how
        have HB := Lib.hid hb
        clear hah hfl how hb
        by_cases hjm : j < m
        · have c1 : decide ((j : Int) < (m : Int)) = true := decide_eq_true (by omega)
          obtain ⟨ws, hws⟩ : ∃ ws, ws = wr := ⟨_, rfl⟩
          subst hws
          go_wp2_with fail
          go_loopw [11] (fun dv wi => ∃ d : Nat, 1 ≤ d ∧ d ≤ m - j ∧ dv = .int .i64 d ∧ (∀ e, 1 ≤ e → e < d → isPt p m k (j + e) = false) ∧ wi = ws) (fun dv _ => m - (intOf dv).toNat)
          case atStart => exact ⟨1, Nat.le_refl _, by omega, rfl, fun e h1 h2 => by omega, rfl⟩
          case round =>
            obtain ⟨d, hd1, hd2, rfl, hno, rfl⟩ := hrel
            have HNO := Lib.hid hno
            clear hno
            have hjd : (j + d) % m < m := Nat.mod_lt _ (by omega)
            have hE : ((j : Int) + (d : Int)) % (m : Int) = (((j + d) % m : Nat) : Int) := by rw [Int.natCast_emod, Int.natCast_add]
            have hcx := HFL.out.cell (HFG.out k _ hjd)
            obtain ⟨x, hx⟩ : ∃ x, x = (j + d) % m := ⟨_, rfl⟩
            rw [← hx] at hjd hE hcx
            have HX := Lib.hid hx
            clear hx
            by_cases hbb : isPt p m k x = true
            · have HBB := Lib.hid hbb
              rw [hbb] at hcx
              clear hbb
              have hcy := HFL.out.cell (HFG.out k j hjm)
              by_cases hjp : isPt p m k j = true
              · obtain ⟨q1, q2, q3⟩ := HAY.out j t HAH.out hjm hjp
                have HG := Lib.hid (HNX.out j t d HAH.out hjm hjp hd1 hd2 HNO.out (by rw [← HX.out]; exact HBB.out))
                have HQ3 := Lib.hid q3
                rw [hjp] at hcy
                have hdm : d ≤ m := by omega
                have hdw : d < m + 1 := by omega
                have hcz := HOW.out.cell (cl_get m ((gaps m S).take t) d hdm)
                have hcb : ((gaps m S).take t).count d ≤ 1000 := Nat.le_trans List.count_le_length (by rw [List.length_take]; have := HPL.out; omega)
                have HTK := Lib.hid (HGT.out t q1)
                rw [← HG.out] at HTK
                have hfr := HOW.out.free
                have HP := Lib.hid (HOW.out.put (by rw [cl_length]) d ((((gaps m S).take t).count d : Nat) + 1 : Int))
                rw [← cl_put] at HP
                have HBP := Lib.hid (HB.out.setCell (p := ⟨wq.heap.size, d, none⟩) HBW.out (.int .i64 ((((gaps m S).take t).count d : Nat) + 1 : Int)))
                have HFP := Lib.hid (HFL.out.same (w' := wr.setCell ⟨wq.heap.size, d, none⟩ (.int .i64 ((((gaps m S).take t).count d : Nat) + 1 : Int))) (heap_setCell_ne _ _ _ _ (by simp only; omega)))
                clear q2 q3 hjp
                generalize hcG : ((gaps m S).take t).count d = cc at *
                clear hcG
                go_wp2_with fail
                go_roundw
                case rel => exact ⟨j + 1, t + 1, by omega, by go_num, HQ3.out, HFP.out, by rw [HTK.out]; exact HP.out, HBP.out⟩
                case measure => simp [intOf]; omega
              · have hjp := Bool.eq_false_iff.2 hjp
                have HQ3 := Lib.hid (HAN.out j t HAH.out hjp)
                rw [hjp] at hcy
                clear hjp
                go_wp2_with fail
                go_roundw
                case rel => exact ⟨j + 1, t, by omega, by go_num, HQ3.out, HFL.out, HOW.out, HB.out⟩
                case measure => simp [intOf]; omega
            · have hbb := Bool.eq_false_iff.2 hbb
              rw [hbb] at hcx
              have hd3 : d + 1 ≤ m - j := by
                by_cases c : d = m - j
                · have : x = 0 := by rw [HX.out, show j + d = m by omega, Nat.mod_self]
                  rw [this, HZ.out] at hbb
                  cases hbb
                · omega
              have HN2 := Lib.hid (show ∀ e, 1 ≤ e → e < d + 1 → isPt p m k (j + e) = false from fun e h1 h2 => by
                by_cases c : e = d
                · subst c
                  have : x = j + e := by rw [HX.out, Nat.mod_eq_of_lt (by omega)]
                  rw [← this]; exact hbb
                · exact HNO.out e h1 (by omega))
              clear hbb
              go_wp2_with fail
              go_roundw
              case rel => exact ⟨d + 1, by omega, hd3, by go_num, HN2.out, trivial⟩
              case measure => simp [intOf]; omega
        · have hjm : j = m := by omega
          subst hjm
          have c1 : decide ((j : Int) < (j : Int)) = false := decide_eq_false (by omega)
          have hte := HAD.out t HAH.out
          have HOC := Lib.hid (show Own wr w.heap.size (.slice (some ⟨wq.heap.size, 0, none⟩) (j + 1) (j + 1)) (cl j (gaps j S)) by
            have := HOW.out
            rw [List.take_of_length_le (by rw [HGL.out, hte]; exact Nat.le_refl _)] at this
            exact this)
          have HCB := Lib.hid (show ∀ d, (gaps j S).count d ≤ 1000 from fun d => Nat.le_trans List.count_le_length (by rw [HGL.out, HPL.out]; omega))
          clear hte
          generalize hGG : gaps j S = GG at *
          have HGG := Lib.hid hGG
          clear hGG
          have HWQ := Lib.hid HBW.out
          go_wp2_with fail
          go_loopw [60, 12] (fun i v wr => ∃ q : Nat, q ≤ j + 1 ∧ i = .int .i64 q ∧ Rw EG 29 wr w.heap.size v (pre GG q) ∧ Own wr w.heap.size (.slice (some ⟨wq.heap.size, 0, none⟩) (j + 1) (j + 1)) (cl j GG) ∧ (∀ b, v.ownBlock = some b → b ≠ wq.heap.size) ∧ Below w.heap.size w wr ∧ wq.heap.size < wr.heap.size) (fun i _ _ => j + 1 - (intOf i).toNat)
          case atStart => exact ⟨0, Nat.zero_le _, rfl, Rw.nil _ _, HOC.out, by simp [Value.ownBlock], HB.out, by have := HOC.out.nums.2.2.2.2; omega⟩
          case round =>
            obtain ⟨q, hq, rfl, hrw, how, hob, hb, hsz⟩ := hrel
            have HRW := Lib.hid hrw
            have HOW2 := Lib.hid how
            have HOB := Lib.hid hob
            have HB2 := Lib.hid hb
            clear hrw how hob hb
            by_cases hqj : q < j + 1
            · have c2 : decide ((q : Int) < (j : Int) + 1) = true := decide_eq_true (by omega)
              have hcz := HOW2.out.cell (cl_get j GG q (by omega))
              have HPY := Lib.hid (pre_yes GG q)
              have HPN := Lib.hid (pre_no GG q)
              have hcb := HCB.out q
              have hpl : (pre GG q).length ≤ 1000000 := Nat.le_trans (pre_length GG q) (by omega)
              have hs2' := HB2.out.size
              generalize GG.count q = cc at *
              by_cases hcc : 0 < cc
              · have c3 : decide ((0 : Int) < (cc : Int)) = true := decide_eq_true (by omega)
                go_wp2_with (first
                  | (at_builtin; refine wpList_rw2 elt29 _ rfl _ _ rfl w.heap.size u12 (pre GG q) rfl HRW.out (q, cc) _ rfl rfl hpl hs2' ?_; intro g5 cap5 w5 hrw5 hb5 hblk5 hrow5 hs5; have HRW5 := Lib.hid hrw5; have HB5 := Lib.hid hb5; have HBK5 := Lib.hid hblk5; have HRO5 := Lib.hid hrow5; clear hrw5 hb5 hblk5 hrow5)
                  | go_in)
                go_roundw
                case rel =>
                  refine ⟨q + 1, by omega, by go_num, by rw [HPY.out hcc]; have := HRW5.out; simpa using this, HOW2.out.same (fun b e hlt => HBK5.out b hlt (fun h => (HOB.out b h) (by have := ownBlock_some e; simpa using this))), fun b e => ?_, HB2.out.trans HB5.out, by omega⟩
                  have e2 := ownBlock_some e
                  rcases HRO5.out with h | h
                  · have := HOB.out _ h
                    simp only at e2
                    rw [e2]
                    exact this
                  · simp only at e2
                    omega
                case measure => simp [intOf]; omega
              · have c3 : decide ((0 : Int) < (cc : Int)) = false := decide_eq_false (by omega)
                go_wp2_with fail
                go_roundw
                case rel => exact ⟨q + 1, by omega, by go_num, by rw [HPN.out hcc]; exact HRW.out, HOW2.out, HOB.out, HB2.out, hsz⟩
                case measure => simp [intOf]; omega
            · have hqj : q = j + 1 := by omega
              subst hqj
              have c2 : decide (((j + 1 : Nat) : Int) < (j : Int) + 1) = false := decide_eq_false (by omega)
              go_wp2_with fail
              go_ret
              exact ⟨u12, rfl, by rw [HGG.out]; exact HRW.out, HB2.out⟩
end Go.Proofs.Ytkmnelmgckbmpaa
