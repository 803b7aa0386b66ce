/- The walk of the reference's List. -/
import Derived.Test.YtpgpkgnljoedaaaCn
import Derived.ArgAppend
namespace Go.Proofs.Ytpgpkgnljoedaaa
open Go.RowKit

/-- a slice of numbers that can be appended to where it has no room -/
def Beg (w : World) (v : Value) (xs : List Int) : Prop := Ints w v xs ∧ (∃ A c, v = .slice A xs.length c ∧ (A = none → xs.length = 0 ∧ c = 0)) ∧ ∀ b, v.ownBlock = some b → b < w.heap.size
theorem Beg.nil (w : World) : Beg w (.slice none 0 0) [] := ⟨Ints.nil w, ⟨none, 0, rfl, fun _ => ⟨rfl, rfl⟩⟩, fun b h => by simp [Value.ownBlock] at h⟩
theorem Beg.keep {w w' : World} {v : Value} {xs : List Int} (h : Beg w v xs) (hb : Below w.heap.size w w') : Beg w' v xs := ⟨h.1.keep hb, h.2.1, fun b e => Nat.lt_of_lt_of_le (h.2.2 b e) hb.size⟩
theorem Own.beg {w : World} {base : Nat} {v : Value} {xs : List Int} (h : Own w base v xs) (hl : xs.length ≤ 1000000) : Beg w v xs := by
  refine ⟨h.ints (by omega), ?_, fun b e => (h.lt b e).2⟩
  rcases h.2 with ⟨rfl, h0⟩ | ⟨g, cap, cur, rfl, _⟩
  · exact ⟨none, 0, by rw [h0], fun _ => ⟨h0, rfl⟩⟩
  · exact ⟨_, cap, rfl, fun e => by cases e⟩

/-- append(s[:len:len], x): always a new array -/
theorem wpList_fresh (w : World) {ops : Array Oper} {rest : List Oper} {o : Oper} {a : Act} {Q : Exit → Act → World → Prop} (hgd : o.guard = none) (s x : Operand)
    (ho : o.op = .call { callee := .builtin .append, args := #[s, x], argTypes := #[33, 33] })
    (A : Option Addr) (c n : Nat) (xs : List Int) (hn : n = xs.length) (hs : a.eval s = .slice A n n) (hi : Ints w (.slice A n c) xs) (hA : A = none → xs.length = 0)
    (u : Int) (hx : a.eval x = .slice (some ⟨w.heap.size, 0, none⟩) 1 1) (hl : xs.length ≤ 1000000)
    (h : ∀ v' w', Own w' w.heap.size v' (xs ++ [u]) → Below w.heap.size w w' → wpList Try.prog ops Q rest (a.put o.dst v') w') :
    wpList Try.prog ops Q (o :: rest) a (w.alloc (.cells #[.int .i64 u] 3)) := by
  subst hn
  obtain ⟨i0, hii, hz0, hz1, hz2⟩ := info_parts info3
  refine wpList_append_grows _ hgd s x 33 ho 3 i0 (.int .i64 0) 1 8 Try.underlying33 hii hz0 hz1 hz2 rfl (by decide) A xs.length xs.length (xs.map (Value.int .i64)) hs (fun e => ⟨hA e, hA e⟩) (by simp) ?_ ⟨w.heap.size, 0, none⟩ 1 1 [.int .i64 u] hx rfl
    (World.news_of_block (heap_alloc_new w _)) (by intro z hz; simp at hz; subst hz; rfl) (by omega) (by unfold maxLen; omega) (by omega) ?_
  · intro b hb j z hj
    rw [List.getElem?_map] at hj
    obtain ⟨y, hy, rfl⟩ := Option.map_eq_some_iff.1 hj
    obtain ⟨_, A', c', e, _, hr⟩ := hi
    simp only [Value.slice.injEq] at e
    obtain ⟨rfl, _, rfl⟩ := e
    obtain ⟨ad, e2, hbl, hcell⟩ := hr (by have := (List.getElem?_eq_some_iff.1 hy).1; omega)
    rw [hb] at e2
    obtain rfl : b = ad := Option.some.inj e2
    exact (World.cell?_alloc_lt w _ (b.add j) (by rw [addr_block]; exact hbl)).trans (hcell j y hy)
  · intro v' w' h1 h2
    have h1' : Own w' (w.heap.size + 1) v' (xs ++ [u]) := by
      unfold Own; rw [World.size_alloc] at h1; simpa using h1
    refine h v' w' (h1'.base (by omega)) ?_
    exact ((Below.refl _ _).alloc (Nat.le_refl _) _).grown h2 (by simp) (fun k e => by cases e)
/-- append(out, rows...) -/
theorem wpList_rows (w : World) {ops : Array Oper} {rest : List Oper} {o : Oper} {a : Act} {Q : Exit → Act → World → Prop} (hgd : o.guard = none) (s x : Operand)
    (ho : o.op = .call { callee := .builtin .append, args := #[s, x], argTypes := #[22, 22] })
    (base : Nat) (v : Value) (n : Nat) (vs : List Value) (hs : a.eval s = v) (hown : w.ownsRow base 33 1 v n vs)
    (v2 : Value) (b2 m : Nat) (us : List Value) (hx : a.eval x = v2) (hown2 : w.ownsRow b2 33 1 v2 m us) (h1 : ∀ u ∈ us, u.oneCell' = true) (hm : 0 < m) (hn : n + m ≤ 1000000) (hbase : base ≤ w.heap.size)
    (h : ∀ g cap w', w'.ownsRow base 33 1 (.slice (some ⟨g, 0, none⟩) (n + m) cap) (n + m) (vs ++ us) → w.grownBy w' v.ownBlock → (v.ownBlock = some g ∨ g = w.heap.size) → wpList Try.prog ops Q rest (a.put o.dst (.slice (some ⟨g, 0, none⟩) (n + m) cap)) w') :
    wpList Try.prog ops Q (o :: rest) a w := by
  obtain ⟨i0, hi, hz0, hz1, hz2⟩ := info_parts info33
  obtain ⟨g2, cap2, rfl, _, _⟩ := hown2.form hm
  have hl := hown2.1
  exact wpList_append_lies _ hgd s x 22 ho base 33 i0 (.slice none 0 0) 1 24 Try.underlying22 hi hz0 hz1 hz2 rfl (by decide) v n vs hs hown ⟨g2, 0, none⟩ m cap2 us hx (by omega)
    (fun j u hu => World.ownsRow.cells hown2 (g := g2) rfl j u hu) h1 hm (by unfold maxLen; omega) (by omega) hbase w.heap.size rfl
    (fun g cap w' h2 h3 h4 _ => h g cap w' h2 h3 h4)

theorem prt_ne : ∀ (f n most : Nat), n ≤ f → 1 ≤ most → 0 < (prt f n most).length := by
  intro f
  induction f with
  | zero => intro n most h _; simp [prt]
  | succ f ih =>
    intro n most h hm
    by_cases h0 : n = 0
    · subst h0; rw [prt_zero]; simp
    · have h1 := prt_length f n most 1 (by omega) h0
      have h2 := ih (n - 1) 1 (by omega) (Nat.le_refl _)
      rw [show (1 : Nat) = 0 + 1 from rfl, prtk_succ, prtk_zero, List.nil_append, List.length_map] at h1
      simp only [Nat.zero_add] at h1
      omega
/-- what the reference's list returns -/
def RL (w : World) (vb : Value) (L : List (List Int)) (e : Ending) (w' : World) : Prop :=
  ∃ v vs, e = .returned v ∧ w'.ownsRow w.heap.size 33 1 v L.length vs ∧ Elts w' (fun b => (vb.ownBlock = some b ∨ w.heap.size ≤ b) ∧ v.ownBlock ≠ some b) vs L ∧ (∀ u ∈ vs, u.oneCell' = true) ∧ Below w.heap.size w w'
set_option maxRecDepth 100000 in
set_option maxHeartbeats 2000000 in
theorem rlist_zero (f most : Nat) (vb : Value) (xs : List Int) (w : World) (hb : Beg w vb xs) (_ : xs.length ≤ 1000) :
    Calls Try.prog 62 #[.int .i64 0, .int .i64 most, vb] w (RL w vb ((prt f 0 most).map (xs ++ ·))) := by
  obtain ⟨hi, ⟨A, c, rfl, hA⟩, hblk⟩ := hb
  have HI := Lib.hid hi
  have HBL := Lib.hid hblk
  clear hi hblk
  rw [prt_zero]
  go_enter Try.func62, Try.ntmps62
  go_wp2_with fail
  go_ret
  have hb := (Below.refl w.heap.size w).alloc (Nat.le_refl _) (.cells #[Value.slice A xs.length c] 33)
  refine ⟨_, [.slice A xs.length c], rfl, ?_, ?_, by simp; rfl, hb⟩
  · exact World.ownsRow_lit (e := 33) (size := 1) w #[.slice A xs.length c] 1 (Nat.le_refl _) (by simp [maxLen]) (by simp)
  · simp only [List.map_cons, List.map_nil, List.append_nil]
    refine Elts.one (HI.out.keep hb) (fun b e => ?_)
    have := HBL.out b e
    exact ⟨by simp; omega, .inl e, fun e2 => by have := ownBlock_some e2; simp only at this; omega⟩
/-- rows behind the append of more rows -/
theorem rows_more {w0 w w1 w2 w3 : World} {vb vb' out v2 : Value} {vs us : List Value} {L L' : List (List Int)} {g cap : Nat}
    (he : Elts w (fun b => (vb.ownBlock = some b ∨ w0.heap.size ≤ b) ∧ out.ownBlock ≠ some b) vs L) (hout : ∀ b, out.ownBlock = some b → w0.heap.size ≤ b ∧ b < w.heap.size)
    (h01 : w0.heap.size ≤ w.heap.size) (h1 : Below w.heap.size w w1) (hvb' : ∀ b, vb'.ownBlock = some b → w.heap.size ≤ b ∧ b < w1.heap.size)
    (h2 : Below w1.heap.size w1 w2) (he2 : Elts w2 (fun b => (vb'.ownBlock = some b ∨ w1.heap.size ≤ b) ∧ v2.ownBlock ≠ some b) us L')
    (h3 : w2.grownBy w3 out.ownBlock) (hg : out.ownBlock = some g ∨ g = w2.heap.size) :
    Elts w3 (fun b => (vb.ownBlock = some b ∨ w0.heap.size ≤ b) ∧ (Value.slice (some ⟨g, 0, none⟩) (L.length + L'.length) cap).ownBlock ≠ some b) (vs ++ us) (L ++ L') := by
  have s1 := h1.size
  have s2 := h2.size
  refine Elts.append ?_ ?_
  · refine he.keep (by have := h3.size; omega) (fun b hlt hB => ?_) (fun b hlt hB => ⟨hB.1, fun e => ?_⟩)
    · exact (h3.block b (by omega) (fun e => hB.2 e.symm)).trans ((h2.block b (by omega)).trans (h1.block b hlt))
    · have e' := ownBlock_some e
      simp only at e'
      subst e'
      rcases hg with e2 | e2
      · exact hB.2 e2
      · omega
  · refine he2.keep h3.size (fun b hlt hB => ?_) (fun b hlt hB => ⟨.inr ?_, fun e => ?_⟩)
    · refine h3.block b hlt (fun e => ?_)
      have := hout b e.symm
      rcases hB.1 with e2 | e2
      · have := hvb' b e2; omega
      · omega
    · rcases hB.1 with e2 | e2
      · have := hvb' b e2; omega
      · omega
    · have e' := ownBlock_some e
      simp only at e'
      subst e'
      rcases hg with e2 | e2
      · have := hout _ e2
        rcases hB.1 with e3 | e3
        · have := hvb' _ e3; omega
        · omega
      · omega
theorem rl_next (f n k : Nat) (xs : List Int) :
    (prtk f n k).map (xs ++ ·) ++ (prt f (n - (k + 1)) (k + 1)).map ((xs ++ [(k : Int) + 1]) ++ ·) = (prtk f n (k + 1)).map (xs ++ ·) := by
  have := prt_next f n k xs []
  simpa using this
set_option maxRecDepth 100000 in
set_option maxHeartbeats 16000000 in
theorem rlist_any : ∀ (f n most : Nat), n ≤ f → n ≤ 100 → most ≤ 100 → ∀ (vb : Value) (xs : List Int) (w : World), Beg w vb xs → xs.length + n ≤ 200 → (prt f n most).length ≤ 100000 →
    Calls Try.prog 62 #[.int .i64 n, .int .i64 most, vb] w (RL w vb ((prt f n most).map (xs ++ ·))) := by
  intro f
  induction f with
  | zero =>
    intro n most hn _ _ vb xs w h hl hlen
    obtain rfl : n = 0 := by omega
    exact rlist_zero 0 most vb xs w h (by omega)
  | succ f ih =>
    intro n most hn hn100 hm100 vb xs w h hl hlen
    by_cases h0 : n = 0
    · subst h0
      exact rlist_zero (f + 1) most vb xs w h (by omega)
    · have HPL := Lib.hid (fun k hk => prt_length f n most k hk h0)
      have HPP := Lib.hid (prt_pos f n most h0)
      have HB := Lib.hid h
      have HIH := Lib.hid ih
      have hn0 : ((n : Int) == 0) = false := by rw [beq_eq_false_iff_ne]; omega
      obtain ⟨hi, ⟨A, c, rfl, hA⟩, hblk⟩ := h
      have HBLK := Lib.hid hblk
      have HA := Lib.hid hA
      have hcx : xs.length ≤ c := by
        obtain ⟨_, A', c', e, hc', _⟩ := hi
        simp only [Value.slice.injEq] at e
        omega
      clear hi hA hblk ih h0
      obtain ⟨M, hM⟩ : ∃ M, M = min n most := ⟨_, rfl⟩
      have hM1 : M ≤ n := by omega
      have hM2 : M ≤ most := by omega
      have HMM := Lib.hid hM
      cases A with
      | none =>
        obtain ⟨hx0, rfl⟩ := HA.out rfl
        obtain rfl : xs = [] := List.eq_nil_of_length_eq_zero hx0
        by_cases hmn : most < n
        · have hMe : M = most := by omega
          have HME := Lib.hid hMe
          clear hM hMe
          go_enter Try.func62, Try.ntmps62
          go_wp2_with fail
          go_loopw [7, 8] (fun out x wr => ∃ k : Nat, k ≤ M ∧ x = .int .i64 ((k : Int) + 1) ∧ (∃ vs, wr.ownsRow w.heap.size 33 1 out (prtk f n k).length vs ∧ Elts wr (fun b => ((Value.slice none 0 0).ownBlock = some b ∨ w.heap.size ≤ b) ∧ out.ownBlock ≠ some b) vs ((prtk f n k).map (([] : List Int) ++ ·)) ∧ (∀ u ∈ vs, u.oneCell' = true)) ∧ Below w.heap.size w wr)
            (fun _ x _ => M + 1 - (intOf x).toNat)
          case atStart => exact ⟨0, by omega, rfl, ⟨[], by rw [prtk_zero]; exact World.ownsRow_nil _ _ _ _, by rw [prtk_zero]; exact Elts.nil _ _, by simp⟩, Below.refl _ _⟩
          case round =>
            obtain ⟨k, hk, rfl, hrow, hb⟩ := hrel
            obtain ⟨vs, hrow, helt, hone⟩ := hrow
            by_cases hlt : k < M
            · have hk1 : k + 1 ≤ n := by omega
              have hk2 : k + 1 ≤ most := by omega
              have hk3 : (k : Int) + 1 ≤ n := by omega
              have hk4 : (k : Int) + 1 ≤ most := by omega
              have d1 : decide ((k : Int) + 1 ≤ most) = true := decide_eq_true (by omega)
              have d2 : decide (k + 1 ≤ most) = true := decide_eq_true (by omega)
              have HROW := Lib.hid hrow
              have HELT := Lib.hid helt
              have HONE := Lib.hid hone
              have HBW := Lib.hid hb
              have hbi := (HB.out.1.below hb (Nat.le_refl _))
              have HBI := Lib.hid hbi
              have hsz := hb.size
              have hlk : (prtk f n k).length + (prt f (n - (k + 1)) (k + 1)).length ≤ 100000 := by
                have h1 := HPL.out (k + 1) (by rw [← HMM.out]; omega)
                rw [prtk_succ, List.length_append, List.length_map] at h1
                omega
              have hpos := prt_ne f (n - (k + 1)) (k + 1) (by omega) (by omega)
              clear hrow helt hone hb hbi
              go_wp2_with (at_builtin; refine wpList_fresh _ rfl _ _ rfl none 0 0 ([] : List Int) rfl rfl HBI.out (fun _ => rfl) ((k : Int) + 1) rfl (by omega) ?_; intro v' w1 hown1 hb1)
              have hbeg := hown1.beg (by rw [List.length_append]; simp <;> omega)
              have HOB := Lib.hid (fun b e => hown1.lt b e)
              have HB1 := Lib.hid hb1
              have hrec := HIH.out (n - (k + 1)) (k + 1) (by omega) (by omega) (by omega) v' _ _ hbeg (by rw [List.length_append]; simp <;> omega) (by omega)
              rw [show ((n - (k + 1) : Nat) : Int) = (n : Int) - ((k : Int) + 1) by omega, show ((k + 1 : Nat) : Int) = (k : Int) + 1 by omega] at hrec
              have HREC := Lib.hid hrec
              have hsz1 := hb1.size
              clear hrec hbeg hown1 hb1
              refine HREC.out.mono ?_
              rintro e w2 ⟨v2, us, rfl, hrow2, helt2, hone2, hb2⟩
              rw [List.length_map] at hrow2
              have HB2 := Lib.hid hb2
              have HELT2 := Lib.hid helt2
              have HONE2 := Lib.hid hone2
              have hsz2 := hb2.size
              have hrowk := ownsRow_same HROW.out (fun b _ hlt => ((HB2.out.block b (by have := HB1.out.size; omega)).trans (HB1.out.block b hlt)))
              have HROWK := Lib.hid hrowk
              have HROW2 := Lib.hid hrow2
              clear hrowk hrow2 helt2 hone2 hb2 HREC
              go_wp2_with (have hgate := hsz2; clear hgate; at_builtin; refine wpList_rows _ rfl _ _ rfl w.heap.size u7 (prtk f n k).length vs rfl HROWK.out v2 w1.heap.size (prt f (n - (k + 1)) (k + 1)).length us rfl HROW2.out HONE2.out hpos (by omega) (by omega) ?_; intro g cap w3 hown3 hgrow3 hat3)
              have hmore := rows_more (cap := cap) HELT.out (fun b e => HROW.out.lt b e) hsz HB1.out HOB.out HB2.out HELT2.out hgrow3 hat3
              rw [rl_next, List.length_map, List.length_map] at hmore
              have hlen2 : (prtk f n (k + 1)).length = (prtk f n k).length + (prt f (n - (k + 1)) (k + 1)).length := by rw [prtk_succ, List.length_append, List.length_map]
              have HL2 := Lib.hid hlen2
              have HMORE := Lib.hid hmore
              have HOWN3 := Lib.hid hown3
              have HG3 := Lib.hid hgrow3
              clear hmore hlen2 hown3 hgrow3 hat3
              go_roundw
              case rel =>
                refine ⟨k + 1, by omega, by go_num, ⟨vs ++ us, by rw [HL2.out]; exact HOWN3.out, HMORE.out, ?_⟩, ?_⟩
                · intro u hu
                  rcases List.mem_append.1 hu with hu | hu
                  · exact HONE.out u hu
                  · exact HONE2.out u hu
                · have hb12 := HBW.out.trans ((HB1.out.mono hsz).trans (HB2.out.mono (by omega)))
                  exact hb12.grown HG3.out (by omega) (fun b e => (HROW.out.lt b e).1)
              case measure => simp [intOf]; omega
            · have hke : k = M := by omega
              have d1 : decide ((k : Int) + 1 ≤ most) = false := decide_eq_false (by have := HME.out; omega)
              have d2 : decide (k + 1 ≤ most) = false := decide_eq_false (by have := HME.out; omega)
              have HKE := Lib.hid hke
              have HALL := Lib.hid (And.intro hrow (And.intro helt (And.intro hone hb)))
              clear hrow helt hone hb hke
              go_wp2_with fail
              go_ret
              refine ⟨_, vs, rfl, ?_, ?_, HALL.out.2.2.1, HALL.out.2.2.2⟩
              · rw [HPP.out, ← HMM.out, ← HKE.out, List.length_map]; exact HALL.out.1
              · rw [HPP.out, ← HMM.out, ← HKE.out]; exact HALL.out.2.1
        · have hMe : M = n := by omega
          have HME := Lib.hid hMe
          clear hM hMe
          go_enter Try.func62, Try.ntmps62
          go_wp2_with fail
          go_loopw [7, 8] (fun out x wr => ∃ k : Nat, k ≤ M ∧ x = .int .i64 ((k : Int) + 1) ∧ (∃ vs, wr.ownsRow w.heap.size 33 1 out (prtk f n k).length vs ∧ Elts wr (fun b => ((Value.slice none 0 0).ownBlock = some b ∨ w.heap.size ≤ b) ∧ out.ownBlock ≠ some b) vs ((prtk f n k).map (([] : List Int) ++ ·)) ∧ (∀ u ∈ vs, u.oneCell' = true)) ∧ Below w.heap.size w wr)
            (fun _ x _ => M + 1 - (intOf x).toNat)
          case atStart => exact ⟨0, by omega, rfl, ⟨[], by rw [prtk_zero]; exact World.ownsRow_nil _ _ _ _, by rw [prtk_zero]; exact Elts.nil _ _, by simp⟩, Below.refl _ _⟩
          case round =>
            obtain ⟨k, hk, rfl, hrow, hb⟩ := hrel
            obtain ⟨vs, hrow, helt, hone⟩ := hrow
            by_cases hlt : k < M
            · have hk1 : k + 1 ≤ n := by omega
              have hk2 : k + 1 ≤ most := by omega
              have hk3 : (k : Int) + 1 ≤ n := by omega
              have hk4 : (k : Int) + 1 ≤ most := by omega
              have d1 : decide ((k : Int) + 1 ≤ n) = true := decide_eq_true (by omega)
              have d2 : decide (k + 1 ≤ n) = true := decide_eq_true (by omega)
              have HROW := Lib.hid hrow
              have HELT := Lib.hid helt
              have HONE := Lib.hid hone
              have HBW := Lib.hid hb
              have hbi := (HB.out.1.below hb (Nat.le_refl _))
              have HBI := Lib.hid hbi
              have hsz := hb.size
              have hlk : (prtk f n k).length + (prt f (n - (k + 1)) (k + 1)).length ≤ 100000 := by
                have h1 := HPL.out (k + 1) (by rw [← HMM.out]; omega)
                rw [prtk_succ, List.length_append, List.length_map] at h1
                omega
              have hpos := prt_ne f (n - (k + 1)) (k + 1) (by omega) (by omega)
              clear hrow helt hone hb hbi
              go_wp2_with (at_builtin; refine wpList_fresh _ rfl _ _ rfl none 0 0 ([] : List Int) rfl rfl HBI.out (fun _ => rfl) ((k : Int) + 1) rfl (by omega) ?_; intro v' w1 hown1 hb1)
              have hbeg := hown1.beg (by rw [List.length_append]; simp <;> omega)
              have HOB := Lib.hid (fun b e => hown1.lt b e)
              have HB1 := Lib.hid hb1
              have hrec := HIH.out (n - (k + 1)) (k + 1) (by omega) (by omega) (by omega) v' _ _ hbeg (by rw [List.length_append]; simp <;> omega) (by omega)
              rw [show ((n - (k + 1) : Nat) : Int) = (n : Int) - ((k : Int) + 1) by omega, show ((k + 1 : Nat) : Int) = (k : Int) + 1 by omega] at hrec
              have HREC := Lib.hid hrec
              have hsz1 := hb1.size
              clear hrec hbeg hown1 hb1
              refine HREC.out.mono ?_
              rintro e w2 ⟨v2, us, rfl, hrow2, helt2, hone2, hb2⟩
              rw [List.length_map] at hrow2
              have HB2 := Lib.hid hb2
              have HELT2 := Lib.hid helt2
              have HONE2 := Lib.hid hone2
              have hsz2 := hb2.size
              have hrowk := ownsRow_same HROW.out (fun b _ hlt => ((HB2.out.block b (by have := HB1.out.size; omega)).trans (HB1.out.block b hlt)))
              have HROWK := Lib.hid hrowk
              have HROW2 := Lib.hid hrow2
              clear hrowk hrow2 helt2 hone2 hb2 HREC
              go_wp2_with (have hgate := hsz2; clear hgate; at_builtin; refine wpList_rows _ rfl _ _ rfl w.heap.size u7 (prtk f n k).length vs rfl HROWK.out v2 w1.heap.size (prt f (n - (k + 1)) (k + 1)).length us rfl HROW2.out HONE2.out hpos (by omega) (by omega) ?_; intro g cap w3 hown3 hgrow3 hat3)
              have hmore := rows_more (cap := cap) HELT.out (fun b e => HROW.out.lt b e) hsz HB1.out HOB.out HB2.out HELT2.out hgrow3 hat3
              rw [rl_next, List.length_map, List.length_map] at hmore
              have hlen2 : (prtk f n (k + 1)).length = (prtk f n k).length + (prt f (n - (k + 1)) (k + 1)).length := by rw [prtk_succ, List.length_append, List.length_map]
              have HL2 := Lib.hid hlen2
              have HMORE := Lib.hid hmore
              have HOWN3 := Lib.hid hown3
              have HG3 := Lib.hid hgrow3
              clear hmore hlen2 hown3 hgrow3 hat3
              go_roundw
              case rel =>
                refine ⟨k + 1, by omega, by go_num, ⟨vs ++ us, by rw [HL2.out]; exact HOWN3.out, HMORE.out, ?_⟩, ?_⟩
                · intro u hu
                  rcases List.mem_append.1 hu with hu | hu
                  · exact HONE.out u hu
                  · exact HONE2.out u hu
                · have hb12 := HBW.out.trans ((HB1.out.mono hsz).trans (HB2.out.mono (by omega)))
                  exact hb12.grown HG3.out (by omega) (fun b e => (HROW.out.lt b e).1)
              case measure => simp [intOf]; omega
            · have hke : k = M := by omega
              have d1 : decide ((k : Int) + 1 ≤ n) = false := decide_eq_false (by have := HME.out; omega)
              have d2 : decide (k + 1 ≤ n) = false := decide_eq_false (by have := HME.out; omega)
              have HKE := Lib.hid hke
              have HALL := Lib.hid (And.intro hrow (And.intro helt (And.intro hone hb)))
              clear hrow helt hone hb hke
              go_wp2_with fail
              go_ret
              refine ⟨_, vs, rfl, ?_, ?_, HALL.out.2.2.1, HALL.out.2.2.2⟩
              · rw [HPP.out, ← HMM.out, ← HKE.out, List.length_map]; exact HALL.out.1
              · rw [HPP.out, ← HMM.out, ← HKE.out]; exact HALL.out.2.1
      | some ad =>
        by_cases hmn : most < n
        · have hMe : M = most := by omega
          have HME := Lib.hid hMe
          clear hM hMe
          go_enter Try.func62, Try.ntmps62
          go_wp2_with fail
          go_loopw [7, 8] (fun out x wr => ∃ k : Nat, k ≤ M ∧ x = .int .i64 ((k : Int) + 1) ∧ (∃ vs, wr.ownsRow w.heap.size 33 1 out (prtk f n k).length vs ∧ Elts wr (fun b => ((Value.slice (some ad) xs.length c).ownBlock = some b ∨ w.heap.size ≤ b) ∧ out.ownBlock ≠ some b) vs ((prtk f n k).map (xs ++ ·)) ∧ (∀ u ∈ vs, u.oneCell' = true)) ∧ Below w.heap.size w wr)
            (fun _ x _ => M + 1 - (intOf x).toNat)
          case atStart => exact ⟨0, by omega, rfl, ⟨[], by rw [prtk_zero]; exact World.ownsRow_nil _ _ _ _, by rw [prtk_zero]; exact Elts.nil _ _, by simp⟩, Below.refl _ _⟩
          case round =>
            obtain ⟨k, hk, rfl, hrow, hb⟩ := hrel
            obtain ⟨vs, hrow, helt, hone⟩ := hrow
            by_cases hlt : k < M
            · have hk1 : k + 1 ≤ n := by omega
              have hk2 : k + 1 ≤ most := by omega
              have hk3 : (k : Int) + 1 ≤ n := by omega
              have hk4 : (k : Int) + 1 ≤ most := by omega
              have d1 : decide ((k : Int) + 1 ≤ most) = true := decide_eq_true (by omega)
              have d2 : decide (k + 1 ≤ most) = true := decide_eq_true (by omega)
              have HROW := Lib.hid hrow
              have HELT := Lib.hid helt
              have HONE := Lib.hid hone
              have HBW := Lib.hid hb
              have hbi := (HB.out.1.below hb (Nat.le_refl _))
              have HBI := Lib.hid hbi
              have hsz := hb.size
              have hlk : (prtk f n k).length + (prt f (n - (k + 1)) (k + 1)).length ≤ 100000 := by
                have h1 := HPL.out (k + 1) (by rw [← HMM.out]; omega)
                rw [prtk_succ, List.length_append, List.length_map] at h1
                omega
              have hpos := prt_ne f (n - (k + 1)) (k + 1) (by omega) (by omega)
              clear hrow helt hone hb hbi
              go_wp2_with (at_builtin; refine wpList_fresh _ rfl _ _ rfl (some ad) c xs.length xs rfl rfl HBI.out (fun e => by cases e) ((k : Int) + 1) rfl (by omega) ?_; intro v' w1 hown1 hb1)
              have hbeg := hown1.beg (by rw [List.length_append]; simp <;> omega)
              have HOB := Lib.hid (fun b e => hown1.lt b e)
              have HB1 := Lib.hid hb1
              have hrec := HIH.out (n - (k + 1)) (k + 1) (by omega) (by omega) (by omega) v' _ _ hbeg (by rw [List.length_append]; simp <;> omega) (by omega)
              rw [show ((n - (k + 1) : Nat) : Int) = (n : Int) - ((k : Int) + 1) by omega, show ((k + 1 : Nat) : Int) = (k : Int) + 1 by omega] at hrec
              have HREC := Lib.hid hrec
              have hsz1 := hb1.size
              clear hrec hbeg hown1 hb1
              refine HREC.out.mono ?_
              rintro e w2 ⟨v2, us, rfl, hrow2, helt2, hone2, hb2⟩
              rw [List.length_map] at hrow2
              have HB2 := Lib.hid hb2
              have HELT2 := Lib.hid helt2
              have HONE2 := Lib.hid hone2
              have hsz2 := hb2.size
              have hrowk := ownsRow_same HROW.out (fun b _ hlt => ((HB2.out.block b (by have := HB1.out.size; omega)).trans (HB1.out.block b hlt)))
              have HROWK := Lib.hid hrowk
              have HROW2 := Lib.hid hrow2
              clear hrowk hrow2 helt2 hone2 hb2 HREC
              go_wp2_with (have hgate := hsz2; clear hgate; at_builtin; refine wpList_rows _ rfl _ _ rfl w.heap.size u7 (prtk f n k).length vs rfl HROWK.out v2 w1.heap.size (prt f (n - (k + 1)) (k + 1)).length us rfl HROW2.out HONE2.out hpos (by omega) (by omega) ?_; intro g cap w3 hown3 hgrow3 hat3)
              have hmore := rows_more (cap := cap) HELT.out (fun b e => HROW.out.lt b e) hsz HB1.out HOB.out HB2.out HELT2.out hgrow3 hat3
              rw [rl_next, List.length_map, List.length_map] at hmore
              have hlen2 : (prtk f n (k + 1)).length = (prtk f n k).length + (prt f (n - (k + 1)) (k + 1)).length := by rw [prtk_succ, List.length_append, List.length_map]
              have HL2 := Lib.hid hlen2
              have HMORE := Lib.hid hmore
              have HOWN3 := Lib.hid hown3
              have HG3 := Lib.hid hgrow3
              clear hmore hlen2 hown3 hgrow3 hat3
              go_roundw
              case rel =>
                refine ⟨k + 1, by omega, by go_num, ⟨vs ++ us, by rw [HL2.out]; exact HOWN3.out, HMORE.out, ?_⟩, ?_⟩
                · intro u hu
                  rcases List.mem_append.1 hu with hu | hu
                  · exact HONE.out u hu
                  · exact HONE2.out u hu
                · have hb12 := HBW.out.trans ((HB1.out.mono hsz).trans (HB2.out.mono (by omega)))
                  exact hb12.grown HG3.out (by omega) (fun b e => (HROW.out.lt b e).1)
              case measure => simp [intOf]; omega
            · have hke : k = M := by omega
              have d1 : decide ((k : Int) + 1 ≤ most) = false := decide_eq_false (by have := HME.out; omega)
              have d2 : decide (k + 1 ≤ most) = false := decide_eq_false (by have := HME.out; omega)
              have HKE := Lib.hid hke
              have HALL := Lib.hid (And.intro hrow (And.intro helt (And.intro hone hb)))
              clear hrow helt hone hb hke
              go_wp2_with fail
              go_ret
              refine ⟨_, vs, rfl, ?_, ?_, HALL.out.2.2.1, HALL.out.2.2.2⟩
              · rw [HPP.out, ← HMM.out, ← HKE.out, List.length_map]; exact HALL.out.1
              · rw [HPP.out, ← HMM.out, ← HKE.out]; exact HALL.out.2.1
        · have hMe : M = n := by omega
          have HME := Lib.hid hMe
          clear hM hMe
          go_enter Try.func62, Try.ntmps62
          go_wp2_with fail
          go_loopw [7, 8] (fun out x wr => ∃ k : Nat, k ≤ M ∧ x = .int .i64 ((k : Int) + 1) ∧ (∃ vs, wr.ownsRow w.heap.size 33 1 out (prtk f n k).length vs ∧ Elts wr (fun b => ((Value.slice (some ad) xs.length c).ownBlock = some b ∨ w.heap.size ≤ b) ∧ out.ownBlock ≠ some b) vs ((prtk f n k).map (xs ++ ·)) ∧ (∀ u ∈ vs, u.oneCell' = true)) ∧ Below w.heap.size w wr)
            (fun _ x _ => M + 1 - (intOf x).toNat)
          case atStart => exact ⟨0, by omega, rfl, ⟨[], by rw [prtk_zero]; exact World.ownsRow_nil _ _ _ _, by rw [prtk_zero]; exact Elts.nil _ _, by simp⟩, Below.refl _ _⟩
          case round =>
            obtain ⟨k, hk, rfl, hrow, hb⟩ := hrel
            obtain ⟨vs, hrow, helt, hone⟩ := hrow
            by_cases hlt : k < M
            · have hk1 : k + 1 ≤ n := by omega
              have hk2 : k + 1 ≤ most := by omega
              have hk3 : (k : Int) + 1 ≤ n := by omega
              have hk4 : (k : Int) + 1 ≤ most := by omega
              have d1 : decide ((k : Int) + 1 ≤ n) = true := decide_eq_true (by omega)
              have d2 : decide (k + 1 ≤ n) = true := decide_eq_true (by omega)
              have HROW := Lib.hid hrow
              have HELT := Lib.hid helt
              have HONE := Lib.hid hone
              have HBW := Lib.hid hb
              have hbi := (HB.out.1.below hb (Nat.le_refl _))
              have HBI := Lib.hid hbi
              have hsz := hb.size
              have hlk : (prtk f n k).length + (prt f (n - (k + 1)) (k + 1)).length ≤ 100000 := by
                have h1 := HPL.out (k + 1) (by rw [← HMM.out]; omega)
                rw [prtk_succ, List.length_append, List.length_map] at h1
                omega
              have hpos := prt_ne f (n - (k + 1)) (k + 1) (by omega) (by omega)
              clear hrow helt hone hb hbi
              go_wp2_with (at_builtin; refine wpList_fresh _ rfl _ _ rfl (some ad) c xs.length xs rfl rfl HBI.out (fun e => by cases e) ((k : Int) + 1) rfl (by omega) ?_; intro v' w1 hown1 hb1)
              have hbeg := hown1.beg (by rw [List.length_append]; simp <;> omega)
              have HOB := Lib.hid (fun b e => hown1.lt b e)
              have HB1 := Lib.hid hb1
              have hrec := HIH.out (n - (k + 1)) (k + 1) (by omega) (by omega) (by omega) v' _ _ hbeg (by rw [List.length_append]; simp <;> omega) (by omega)
              rw [show ((n - (k + 1) : Nat) : Int) = (n : Int) - ((k : Int) + 1) by omega, show ((k + 1 : Nat) : Int) = (k : Int) + 1 by omega] at hrec
              have HREC := Lib.hid hrec
              have hsz1 := hb1.size
              clear hrec hbeg hown1 hb1
              refine HREC.out.mono ?_
              rintro e w2 ⟨v2, us, rfl, hrow2, helt2, hone2, hb2⟩
              rw [List.length_map] at hrow2
              have HB2 := Lib.hid hb2
              have HELT2 := Lib.hid helt2
              have HONE2 := Lib.hid hone2
              have hsz2 := hb2.size
              have hrowk := ownsRow_same HROW.out (fun b _ hlt => ((HB2.out.block b (by have := HB1.out.size; omega)).trans (HB1.out.block b hlt)))
              have HROWK := Lib.hid hrowk
              have HROW2 := Lib.hid hrow2
              clear hrowk hrow2 helt2 hone2 hb2 HREC
              go_wp2_with (have hgate := hsz2; clear hgate; at_builtin; refine wpList_rows _ rfl _ _ rfl w.heap.size u7 (prtk f n k).length vs rfl HROWK.out v2 w1.heap.size (prt f (n - (k + 1)) (k + 1)).length us rfl HROW2.out HONE2.out hpos (by omega) (by omega) ?_; intro g cap w3 hown3 hgrow3 hat3)
              have hmore := rows_more (cap := cap) HELT.out (fun b e => HROW.out.lt b e) hsz HB1.out HOB.out HB2.out HELT2.out hgrow3 hat3
              rw [rl_next, List.length_map, List.length_map] at hmore
              have hlen2 : (prtk f n (k + 1)).length = (prtk f n k).length + (prt f (n - (k + 1)) (k + 1)).length := by rw [prtk_succ, List.length_append, List.length_map]
              have HL2 := Lib.hid hlen2
              have HMORE := Lib.hid hmore
              have HOWN3 := Lib.hid hown3
              have HG3 := Lib.hid hgrow3
              clear hmore hlen2 hown3 hgrow3 hat3
              go_roundw
              case rel =>
                refine ⟨k + 1, by omega, by go_num, ⟨vs ++ us, by rw [HL2.out]; exact HOWN3.out, HMORE.out, ?_⟩, ?_⟩
                · intro u hu
                  rcases List.mem_append.1 hu with hu | hu
                  · exact HONE.out u hu
                  · exact HONE2.out u hu
                · have hb12 := HBW.out.trans ((HB1.out.mono hsz).trans (HB2.out.mono (by omega)))
                  exact hb12.grown HG3.out (by omega) (fun b e => (HROW.out.lt b e).1)
              case measure => simp [intOf]; omega
            · have hke : k = M := by omega
              have d1 : decide ((k : Int) + 1 ≤ n) = false := decide_eq_false (by have := HME.out; omega)
              have d2 : decide (k + 1 ≤ n) = false := decide_eq_false (by have := HME.out; omega)
              have HKE := Lib.hid hke
              have HALL := Lib.hid (And.intro hrow (And.intro helt (And.intro hone hb)))
              clear hrow helt hone hb hke
              go_wp2_with fail
              go_ret
              refine ⟨_, vs, rfl, ?_, ?_, HALL.out.2.2.1, HALL.out.2.2.2⟩
              · rw [HPP.out, ← HMM.out, ← HKE.out, List.length_map]; exact HALL.out.1
              · rw [HPP.out, ← HMM.out, ← HKE.out]; exact HALL.out.2.1
end Go.Proofs.Ytpgpkgnljoedaaa
