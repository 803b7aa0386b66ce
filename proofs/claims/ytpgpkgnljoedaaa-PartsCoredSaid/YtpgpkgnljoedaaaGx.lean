/- Walks of the reference's Glaisher and Odds. -/
import Derived.Test.YtpgpkgnljoedaaaFa
import Derived.Test.YtpgpkgnljoedaaaGo
namespace Go.Proofs.Ytpgpkgnljoedaaa
open Go.RowKit
theorem enter81 (args : Array Value) (w : World) : (callFunc 81 args).run Try.prog w = .ok (.enter 81 args) w := by kernel_rfl
/-- whatever the steps lead L to they lead L0 to -/
def Chain (L0 L : List Int) : Prop := ∀ m, Gla L m → Gla L0 m
theorem Chain.step {L0 L : List Int} (h : Chain L0 L) (j : Nat) (hj : j + 1 < L.length) (he : L.getD (j + 1) 0 = L.getD j 0) (hn : NoDup L (j + 1)) : Chain L0 (srt (mg L j)) :=
  fun m hm => h m (.step j hj he hn hm)
/-- positive numbers with a small sum -/
def Small (L : List Int) : Prop := (∀ x ∈ L, 1 ≤ x) ∧ L.sum ≤ 30
theorem Small.len {L : List Int} (h : Small L) : L.length ≤ 30 := by have := len_le_sum h.1; have := h.2; omega
theorem sum_ge {L : List Int} (h : ∀ x ∈ L, 1 ≤ x) : ∀ x ∈ L, x ≤ L.sum := by
  induction L with
  | nil => intro x hx; cases hx
  | cons y L ih =>
    intro x hx
    have h0 := len_le_sum (fun z hz => h z (List.mem_cons_of_mem _ hz))
    have h1 := h y List.mem_cons_self
    rw [List.sum_cons]
    rcases List.mem_cons.1 hx with rfl | hx
    · omega
    · have := ih (fun z hz => h z (List.mem_cons_of_mem _ hz)) x hx; omega
theorem getD_mem {L : List Int} {k : Nat} (h : k < L.length) : L.getD k 0 ∈ L := by
  rw [List.getD_eq_getElem?_getD, List.getElem?_eq_getElem h]; exact List.getElem_mem h
theorem Small.at {L : List Int} (h : Small L) (k : Nat) (hk : k < L.length) : 1 ≤ L.getD k 0 ∧ L.getD k 0 ≤ 30 := by
  have h1 := h.1 _ (getD_mem hk)
  have h2 := sum_ge h.1 _ (getD_mem hk)
  have := h.2
  omega
theorem Small.perm {L M : List Int} (h : Small L) (hp : M.Perm L) : Small M := ⟨fun x hx => h.1 x (hp.mem_iff.1 hx), by rw [sum_perm hp]; exact h.2⟩
theorem mg_small {L : List Int} (h : Small L) (j : Nat) (hj : j + 1 < L.length) (he : L.getD (j + 1) 0 = L.getD j 0) : Small (mg L j) := by
  refine ⟨fun x hx => ?_, by rw [mg_sum L j hj he]; exact h.2⟩
  have := h.at j (by omega)
  unfold mg at hx
  rcases List.mem_append.1 hx with hx | hx
  · exact h.1 x (List.mem_of_mem_take hx)
  · rcases List.mem_cons.1 hx with rfl | hx
    · omega
    · exact h.1 x (List.mem_of_mem_drop hx)
theorem nodup_next {L : List Int} {n : Nat} (h : NoDup L n) (hne : n < L.length → 1 ≤ n → L.getD n 0 ≠ L.getD (n - 1) 0) : NoDup L (n + 1) := by
  intro i hi hl
  by_cases e : i + 1 = n
  · subst e; exact hne hl (by omega)
  · exact h i (by omega) hl
theorem nodup_one (L : List Int) : NoDup L 1 := fun i hi _ => by omega
theorem Part.small {l : List Int} (h : Part l) : Small l := by
  refine ⟨fun x hx => ?_, h.2⟩
  obtain ⟨k, hk, rfl⟩ := List.getElem_of_mem hx
  have := (h.at k hk).1
  rwa [List.getD_eq_getElem?_getD, List.getElem?_eq_getElem hk] at this
theorem own_cell {w : World} {base g n cap : Nat} {S : List Int} (h : Own w base (.slice (some ⟨g, 0, none⟩) n cap) S) (k : Nat) (hk : k < S.length) : w.cell? ⟨g, k, none⟩ = some (.int .i64 (S.getD k 0)) := by
  obtain ⟨g', cap', e, _, _, _, hcc⟩ := h.seen (by omega)
  injection e with e1 _ _
  injection e1 with e1
  injection e1 with e1
  subst e1
  exact hcc k _ (getD_get S k hk)
def lenS : Value → Nat
  | .slice _ n _ => n
  | _ => 0
theorem Own.form {w : World} {base : Nat} {v : Value} {S : List Int} (h : Own w base v S) (hl : S.length ≤ 1000000) : ∃ A c, v = .slice A S.length c := by
  obtain ⟨_, A, c, e, _⟩ := h.ints (by omega)
  exact ⟨A, c, e⟩
theorem Own.pos {w : World} {base : Nat} {v : Value} {S : List Int} (h : Own w base v S) (hS : 0 < S.length) : ∃ g cap, v = .slice (some ⟨g, 0, none⟩) S.length cap := by
  obtain ⟨g, cap, e, _⟩ := h.seen hS
  exact ⟨g, cap, e⟩

set_option maxRecDepth 100000 in
set_option maxHeartbeats 8000000 in
theorem rGlaisher_any (v : Value) (l : List Int) (h : Small l) (w : World) (hv : Ints w v l) :
    Calls Try.prog 50 #[v] w fun e w' => ∃ v' m, e = .returned v' ∧ Own w' w.heap.size v' m ∧ Gla (srt l) m ∧ Small m ∧ Below w.heap.size w w' := by
  have HF := Lib.hid (fall_any v l (by have := h.len; omega) w hv)
  have HSM := Lib.hid (h.perm (srt_perm l))
  obtain ⟨_, A, c, rfl, _, _⟩ := hv
  clear h
  go_enter Try.func50, Try.ntmps50
  go_wp2_with fail
  with_reducible refine HF.out.mono ?_
  rintro e w1 ⟨v1, rfl, hown, hb⟩
  clear HF
  obtain ⟨A1, n1, c1, rfl⟩ := hown.isSlice
  have HO1 := Lib.hid hown
  have HB1 := Lib.hid hb
  clear hown hb
  go_wp2_with fail
  go_loopw [3, 4] (fun o i wr => ∃ (L : List Int) (j : Nat), i = .int .i64 ((j : Int) + 1) ∧ j ≤ 30 ∧ Own wr w.heap.size o L ∧ Small L ∧ Chain (srt l) L ∧ NoDup L (j + 1) ∧ Below w.heap.size w wr) (fun o i _ => lenS o * 1000 + (500 - (intOf i).toNat))
  case atStart => exact ⟨srt l, 0, rfl, by omega, HO1.out, HSM.out, fun m hm => hm, nodup_one _, HB1.out⟩
  case round =>
    obtain ⟨L, j, rfl, hj30, hown, hsm, hch, hnd, hb⟩ := hrel
    clear HO1 HB1
    have hbs := hb.size
    have HB := Lib.hid hb
    have HO := Lib.hid hown
    have HS := Lib.hid hsm
    have HC := Lib.hid hch
    have HND := Lib.hid hnd
    have hlen := hsm.len
    clear hb hsm hch hnd
    by_cases hlt : j + 1 < L.length
    · obtain ⟨g, cap, rfl⟩ := hown.pos (by omega)
      obtain ⟨_, hcap, hcm, hgb, hgl⟩ := hown.nums
      clear hown
      have c0 := own_cell HO.out j (by omega)
      have c1 := own_cell HO.out (j + 1) hlt
      have b0 := (HS.out.at j (by omega)).2
      have b0' := (HS.out.at j (by omega)).1
      have d1 : decide ((j : Int) + 1 < L.length) = true := decide_eq_true (by omega)
      by_cases he : L.getD (j + 1) 0 = L.getD j 0
      · have HC2 := Lib.hid (HC.out.step j hlt he HND.out)
        have HS2 := Lib.hid ((mg_small HS.out j hlt he).perm (srt_perm _))
        have hmsl : (srt (mg L j)).length + 1 = L.length := by rw [(srt_perm _).length_eq]; exact mg_length L j hlt
        have HTL := Lib.hid (show (L.take j).length = j by rw [List.length_take]; omega)
        have HDL := Lib.hid (show (L.drop (j + 2)).length = L.length - (j + 2) by rw [List.length_drop])
        have HL1 := Lib.hid (show ([] : List Int).length + (L.take j).length ≤ 1000000 by rw [HTL.out]; simp; omega)
        have HL2 := Lib.hid (show (L.take j).length + [2 * L.getD j 0].length ≤ 1000000 by rw [HTL.out]; simp; omega)
        have HL3 := Lib.hid (show (L.take j ++ [2 * L.getD j 0]).length + (L.drop (j + 2)).length ≤ 1000000 by rw [List.length_append, HTL.out, HDL.out]; simp; omega)
        have HMG := Lib.hid (show L.take j ++ [2 * L.getD j 0] ++ L.drop (j + 2) = mg L j by unfold mg; simp)
        have HMS := Lib.hid hmsl
        rw [he] at c1
        clear hmsl he
        generalize L.getD j 0 = y at *
        have hqc : j ≤ cap := by omega
        go_wp2_with fail
        go_quiet (fail)
        have HOs := Lib.hid (show Own (wr.drewN nq) w.heap.size _ L from HO.out)
        have HBs := Lib.hid (below_drewN HB.out nq)
        have c1s : (wr.drewN nq).cell? ⟨g, j + 1, none⟩ = some (.int .i64 y) := c1
        have hgls : g < (wr.drewN nq).heap.size := hgl
        have hbss : w.heap.size ≤ (wr.drewN nq).heap.size := hbs
        clear c0 c1 hgl hbs HO HB
        go_wp2_with fail
        generalize wr.drewN nq = ws at *
        obtain ⟨hT, _⟩ := sub_cells HOs.out j (by omega)
        obtain ⟨_, A2, hA2, hD⟩ := sub_cells HOs.out (j + 2) (by omega)
        have HT := Lib.hid hT
        have HD := Lib.hid hD
        clear hT hD
        have hw1 : IntKind.i64.wrap (j : Int) = j := IntWalk.i64_in _ (by omega)
        have hw2 : IntKind.i64.wrap ((j : Int) + 1 + 1) = (j : Int) + 1 + 1 := IntWalk.i64_in _ (by omega)
        have hw3 : IntKind.i64.wrap (2 * y) = 2 * y := IntWalk.i64_in _ (by omega)
        have hw4 : ((j : Int) + 1 + 1).toNat = j + 2 := by omega
        have hw5 : (j : Int) ≤ cap := by omega
        have hw6 : (j : Int) + 1 + 1 ≤ L.length := by omega
        have hw7 : 0 ≤ (j : Int) + 1 + 1 := by omega
        have hw8 : (L.length : Int) ≤ cap := by omega
        have hw9 : j + 2 ≤ L.length := by omega
        have hw10 : (j : Int) + 1 < L.length := by omega
        have hw11 : 0 ≤ (j : Int) + 1 := by omega
        go_region_law (first
          | (refine step_app rfl (.tmp 23) (.tmp 27) 33 rfl Try.underlying33 ws.heap.size _ [] rfl (by first | exact own_empty (W := World.drew (World.alloc ws _)) (heap_alloc_new ws _) (Nat.le_refl _) | exact World.ownsRow.alloc (own_empty (W := World.alloc ws _) (heap_alloc_new ws _) (Nat.le_refl _)) _ | exact own_empty (W := World.alloc (World.alloc ws _) _) (by rw [← World.size_alloc ws (.cells #[.int .i64 (2 * y)] 3)]; exact heap_alloc_new _ _) (by omega)) ⟨g, 0, none⟩ (L.take j) j cap HTL.out.symm rfl (HT.out _ (by first | exact below_drew ((Below.refl _ _).alloc (Nat.le_refl _) _) | exact below_drew (((Below.refl _ _).alloc (Nat.le_refl _) _).alloc (by simp) _))) HL1.out (by first | omega | (simp; omega) | simp) ?_; intro v1 w1 hown1 hgrow1; have hb1 : Below ws.heap.size ws w1 := below_grown (by first | exact below_drew ((Below.refl _ _).alloc (Nat.le_refl _) _) | exact below_drew (((Below.refl _ _).alloc (Nat.le_refl _) _).alloc (by simp) _)) (by first | exact own_empty (W := World.drew (World.alloc ws _)) (heap_alloc_new ws _) (Nat.le_refl _) | exact World.ownsRow.alloc (own_empty (W := World.alloc ws _) (heap_alloc_new ws _) (Nat.le_refl _)) _ | exact own_empty (W := World.alloc (World.alloc ws _) _) (by rw [← World.size_alloc ws (.cells #[.int .i64 (2 * y)] 3)]; exact heap_alloc_new _ _) (by omega)) hgrow1 (by first | omega | (simp; omega) | simp) (Nat.le_refl _); have hsz1 := hb1.size; have hcz1 : w1.cell? ⟨g, j + 1, none⟩ = some (.int .i64 y) := (hb1.cell (p := ⟨g, j + 1, none⟩) hgls).trans c1s)
          | (refine step_app rfl (.tmp 28) (.tmp 34) 33 rfl Try.underlying33 ws.heap.size _ (L.take j) rfl (by first | exact hown1 | exact World.ownsRow.alloc hown1 _) ⟨_, 0, none⟩ [2 * y] 1 1 rfl rfl (one_cells (by first | exact cell_one (heap_alloc_new w1 _) | exact cell_one ((hgrow1.block (ws.heap.size + 1) (by rw [size_two]; omega) (some_ne (a := ws.heap.size + 1) (b := ws.heap.size) (by omega))).trans (heap_second ws _ _)) | exact cell_one ((hgrow1.block ws.heap.size (by rw [size_two]; omega) (some_ne (a := ws.heap.size) (b := ws.heap.size + 1) (by omega))).trans (heap_first ws _ _)))) HL2.out (by first | omega | (simp; omega) | simp) ?_; intro v2 w2 hown2 hgrow2; have hb2 : Below ws.heap.size ws w2 := below_grown (by first | exact hb1 | exact hb1.alloc hsz1 _) (by first | exact hown1 | exact World.ownsRow.alloc hown1 _) hgrow2 (by first | omega | (simp; omega) | simp) (Nat.le_refl _); have hsz2 := hb2.size)
          | (refine step_app rfl (.tmp 35) (.tmp 39) 33 rfl Try.underlying33 ws.heap.size _ (L.take j ++ [2 * y]) rfl hown2 A2 (L.drop (j + 2)) (L.length - (j + 2)) (cap - (j + 2)) HDL.out.symm rfl (HD.out _ hb2) HL3.out (by omega) ?_; intro v3 w3 hown3 hgrow3; have hb3 : Below ws.heap.size ws w3 := below_grown hb2 hown2 hgrow3 (by omega) (Nat.le_refl _))
          | (refine step_call rfl 81 (.tmp 40) 33 rfl enter81 v3 (by simp [Act.eval, Act.put]) _ (fall_any v3 _ (by have := HL3.out; rw [List.length_append, List.length_append, HTL.out, HDL.out]; simp; omega) w3 (hown3.ints (by have := HL3.out; rw [List.length_append, List.length_append, HTL.out, HDL.out]; simp; omega))) ?_; rintro e w4 ⟨v4, rfl, hown4, hb4⟩; rw [HMG.out] at hown4; obtain ⟨A4, c4, rfl⟩ := hown4.form (by have := HMS.out; omega); refine ⟨_, rfl, ?_⟩))
        all_goals
          go_wp2_with fail
          go_roundw
          case rel => exact ⟨srt (mg L j), 0, by go_num, by omega, hown4.base (b2 := w.heap.size) (by have := hb3.size; omega), HS2.out, HC2.out, nodup_one _, HBs.out.trans ((hb3.trans (hb4.mono hb3.size)).mono hbss)⟩
          case measure => have := HMS.out; simp [lenS, intOf]; omega
      · have HN2 := Lib.hid (nodup_next HND.out (fun _ _ => he))
        have hne : (L.getD (j + 1) 0 == L.getD j 0) = false := beq_eq_false_iff_ne.2 he
        clear he
        generalize L.getD j 0 = y at *
        generalize L.getD (j + 1) 0 = z at *
        go_wp2_with fail
        go_quiet (fail)
        go_wp2_with fail
        go_roundw
        case rel => exact ⟨L, j + 1, by go_num, by omega, HO.out, HS.out, HC.out, HN2.out, below_drewN HB.out nq⟩
        case measure => simp [lenS, intOf]; omega
    · have HG := Lib.hid (HC.out L (.done (fun i hi hl => HND.out i (by omega) hl)))
      have d1 : decide ((j : Int) + 1 < L.length) = false := decide_eq_false (by omega)
      obtain ⟨A3, c3, rfl⟩ := hown.form (by omega)
      clear hown
      go_wp2_with fail
      go_ret
      exact ⟨_, L, rfl, HO.out, HG.out, HS.out, HB.out⟩
end Go.Proofs.Ytpgpkgnljoedaaa
