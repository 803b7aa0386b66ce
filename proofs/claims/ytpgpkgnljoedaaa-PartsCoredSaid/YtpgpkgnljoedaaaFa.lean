/- Walk of the reference's fall. -/
import Derived.Test.YtpgpkgnljoedaaaGr
import Derived.Test.YtpgpkgnljoedaaaCp
import Derived.Deep.AppendSrc
namespace Go.Proofs.Ytpgpkgnljoedaaa
open Go.RowKit
theorem ins_at : ∀ (S : List Int) (x : Int) (n : Nat), n ≤ S.length → (∀ j, j < n → x ≤ S.getD j 0) → (n < S.length → S.getD n 0 < x) → ins x S = S.take n ++ x :: S.drop n
  | [], x, n, h, _, _ => by
    obtain rfl : n = 0 := by simpa using h
    rfl
  | y :: S, x, 0, _, _, h => by
    have := h (by simp)
    simp at this
    rw [ins, if_neg (by omega)]; rfl
  | y :: S, x, n + 1, h, h1, h2 => by
    have := h1 0 (by omega)
    simp at this
    rw [ins, if_pos this, ins_at S x n (by simpa using h) (fun j hj => by have := h1 (j + 1) (by omega); simpa using this) (fun hn => by have := h2 (by simpa using hn); simpa using this)]
    rfl
theorem own_empty {W : World} {b base : Nat} (h : W.heap[b]? = some (.cells #[] 3 (0, 0))) (hb : base ≤ b) : Own W base (.slice (some ⟨b, 0, none⟩) 0 0) [] :=
  ⟨rfl, .inr ⟨b, 0, #[], rfl, hb, h, Nat.le_refl _, by unfold maxLen; omega, rfl, rfl⟩⟩
/-- append(s, nil...) of a slice of the call's own, at a step of a region that draws. -/
theorem step_app0 {w : World} {ops : Array Oper} {o : Oper} {a : Act} {K : Act → World → Prop} {Q : Exit → Act → World → Prop} {E : Prop} (hgd : o.guard = none) (s x : Operand) (t : TypeId)
    (ho : o.op = .call { callee := .builtin .append, args := #[s, x], argTypes := #[t, t] })
    (ht : Try.prog.underlying t = some (.slice 3))
    (base : Nat) (v : Value) (xs : List Int) (hs : a.eval s = v) (hown : Own w base v xs) (hpos : v ≠ .slice none 0 0)
    (hx : a.eval x = .slice none 0 0)
    (h : K (a.put o.dst v) w) :
    if Region.wanted o (yielded ops a.tmps) = true then Oper.wp Try.prog o a w K Q else E := by
  have hw : Region.wanted o (yielded ops a.tmps) = true := by simp [Region.wanted, hgd]
  rw [if_pos hw]
  obtain ⟨i0, hi, hz0, hz1, hz2⟩ := info_parts info3
  rcases hown.parts with ⟨rfl, _⟩ | ⟨g, n, cap, rfl⟩
  · exact absurd rfl hpos
  · obtain ⟨_, hc, _, _, _⟩ := hown.nums
    have hrun := run_append_room_src (P := Try.prog) w t t o.type 3 i0 ht hi g 0 n cap (.slice none 0 0) 0 [] (Src.ofNil w ht 0) hc (fun j hj => by simp at hj) (fun j hj => by simp at hj)
    unfold Oper.wp
    simp [execOp, ho, resolve, invoke, builtin, hs, hx, hrun, Result.andThen, World.setCells]
    exact h
theorem cell_one {W : World} {b : Nat} {x : Int} (h : W.heap[b]? = some (.cells #[.int .i64 x] 3 (0, 0))) : W.cell? ⟨b, 0, none⟩ = some (.int .i64 x) := by simp [World.cell?, h]
theorem one_cells {W : World} {b : Nat} {x : Int} (h : W.cell? ⟨b, 0, none⟩ = some (.int .i64 x)) : ∀ (j : Nat) (u : Int), [x][j]? = some u → W.cell? ((⟨b, 0, none⟩ : Addr).add j) = some (.int .i64 u) := by
  intro j u hu
  match j, hu with
  | 0, hu => simp at hu; subst hu; rw [addr_head]; exact h
  | j + 1, hu => simp at hu
theorem some_ne {a b : Nat} (h : a ≠ b) : some a ≠ some b := fun e => h (Option.some.inj e)
theorem heap_first (w : World) (o1 o2 : Obj) : ((w.alloc o1).alloc o2).drew.heap[w.heap.size]? = some o1 := (Below.heap_alloc _ o2 _ (by simp)).trans (heap_alloc_new w o1)
theorem heap_second (w : World) (o1 o2 : Obj) : ((w.alloc o1).alloc o2).drew.heap[w.heap.size + 1]? = some o2 := by
  have := heap_alloc_new (w.alloc o1) o2
  rw [World.size_alloc] at this
  exact this
theorem size_two (w : World) (o1 o2 : Obj) : ((w.alloc o1).alloc o2).drew.heap.size = w.heap.size + 2 := by
  show ((w.alloc o1).alloc o2).heap.size = _
  rw [World.size_alloc, World.size_alloc]
/-- the parts of a slice that lies below -/
theorem sub_cells {w : World} {g cap : Nat} {S : List Int} {base : Nat} (h : Own w base (.slice (some ⟨g, 0, none⟩) S.length cap) S) (q : Nat) (hq : q ≤ S.length) :
    (∀ W, Below w.heap.size w W → ∀ j u, (S.take q)[j]? = some u → W.cell? ((⟨g, 0, none⟩ : Addr).add j) = some (.int .i64 u)) ∧
    ∃ A2 : Addr, (if cap = q then some (⟨g, 0, none⟩ : Addr) else some ⟨g, q, none⟩) = some A2 ∧ ∀ W, Below w.heap.size w W → ∀ j u, (S.drop q)[j]? = some u → W.cell? (A2.add j) = some (.int .i64 u) := by
  obtain ⟨_, hcap, _, _, hg⟩ := h.nums
  have hc : ∀ W, Below w.heap.size w W → ∀ j u, S[j]? = some u → W.cell? ⟨g, j, none⟩ = some (.int .i64 u) := fun W hW j u hu => by
    obtain ⟨g', cap', e, _, _, _, hcc⟩ := h.seen (by have := (List.getElem?_eq_some_iff.1 hu).1; omega)
    injection e with e1 _ _
    injection e1 with e1
    injection e1 with e1
    subst e1
    exact (hW.cell (p := ⟨g, j, none⟩) hg).trans (hcc j u hu)
  refine ⟨fun W hW j u hu => ?_, ?_⟩
  · rw [addr_head]
    rw [List.getElem?_take] at hu
    split at hu
    · exact hc W hW j u hu
    · cases hu
  · by_cases e : cap = q
    · refine ⟨⟨g, 0, none⟩, by rw [if_pos e], fun W hW j u hu => ?_⟩
      rw [List.drop_of_length_le (by omega)] at hu
      cases hu
    · refine ⟨⟨g, q, none⟩, by rw [if_neg e], fun W hW j u hu => ?_⟩
      rw [List.getElem?_drop] at hu
      have := hc W hW (q + j) u hu
      unfold Addr.add
      split
      · simp_all
      · exact this
set_option maxRecDepth 100000 in
set_option maxHeartbeats 8000000 in
theorem fall_any (v : Value) (xs : List Int) (hl : xs.length ≤ 1000) (w : World) (hv : Ints w v xs) :
    Calls Try.prog 81 #[v] w fun e w' => ∃ v', e = .returned v' ∧ Own w' w.heap.size v' (srt xs) ∧ Below w.heap.size w w' := by
  obtain ⟨hlen, A, c, rfl, hc, hr⟩ := hv
  have HR := Lib.hid hr
  clear hr
  go_enter Try.func81, Try.ntmps81
  go_wp2_with fail
  go_loopw [3, 9] (fun o i wr => ∃ k : Nat, k ≤ xs.length ∧ i = .int .i64 k ∧ Own wr w.heap.size o (srt (xs.take k)) ∧ Below w.heap.size w wr) (fun _ i _ => xs.length - (intOf i).toNat)
  case atStart => exact ⟨0, Nat.zero_le _, rfl, Own.nil _ _, Below.refl _ _⟩
  case round =>
    obtain ⟨k, hk, rfl, hown, hb⟩ := hrel
    by_cases hlt : k < xs.length
    · obtain ⟨ad, rfl, hbl, hcell⟩ := HR.out (by omega)
      have hx : xs[k]? = some xs[k] := List.getElem?_eq_getElem hlt
      have hck := (hb.cell (p := ad.add k) (by rw [addr_block]; exact hbl)).trans (hcell k xs[k] hx)
      have HN := Lib.hid (show srt (xs.take (k + 1)) = ins xs[k] (srt (xs.take k)) by rw [List.take_add_one, hx]; exact srt_snoc _ _)
      have hsl : (srt (xs.take k)).length = k := by rw [(srt_perm _).length_eq, List.length_take]; omega
      clear hcell hx HR
      generalize srt (xs.take k) = S at *
      generalize xs[k] = x at *
      have HB := Lib.hid hb
      have hbs := hb.size
      have HO := Lib.hid hown
      have HI := Lib.hid (hown.ints (by omega))
      clear hb
      rcases hown.parts with ⟨rfl, hS⟩ | ⟨g, n, cap, rfl⟩
      · subst hS
        have HINS := Lib.hid (show ins x [] = [x] from rfl)
        have HSL := Lib.hid hsl
        clear hown hsl
        go_wp2_with fail
        go_loop [6] (fun i => i = .int .i64 0) (fun _ => 0)
        case atStart => rfl
        case round =>
          subst hrel
          go_wp2_with fail
          go_region_law (first
            | (refine step_app0 rfl (.tmp 27) (.tmp 30) 33 rfl Try.underlying33 wr.heap.size _ [] rfl (by first | exact own_empty (W := World.drew (World.alloc wr _)) (heap_alloc_new wr _) (Nat.le_refl _) | exact own_empty (heap_first wr _ _) (Nat.le_refl _) | exact own_empty (heap_second wr _ _) (by omega)) (fun e => by cases e) rfl ?_)
            | (refine step_app rfl (.tmp 31) (.tmp 33) 33 rfl Try.underlying33 wr.heap.size _ [] rfl (by first | exact own_empty (W := World.drew (World.alloc wr _)) (heap_alloc_new wr _) (Nat.le_refl _) | exact own_empty (heap_first wr _ _) (Nat.le_refl _) | exact own_empty (heap_second wr _ _) (by omega)) ⟨_, 0, none⟩ [x] 1 1 rfl rfl (one_cells (by first | exact cell_one (heap_second wr _ _) | exact cell_one (heap_first wr _ _))) (by simp) (by first | omega | (simp; omega) | simp) ?_; intro v2 w2 hown2 hgrow2; have hb2 : Below wr.heap.size wr w2 := below_grown (by first | exact below_drew ((Below.refl _ _).alloc (Nat.le_refl _) _) | exact below_drew (((Below.refl _ _).alloc (Nat.le_refl _) _).alloc (by simp) _)) (by first | exact own_empty (W := World.drew (World.alloc wr _)) (heap_alloc_new wr _) (Nat.le_refl _) | exact own_empty (heap_first wr _ _) (Nat.le_refl _) | exact own_empty (heap_second wr _ _) (by omega)) hgrow2 (by first | omega | (simp; omega) | simp) (Nat.le_refl _); have hsz2 := hb2.size)
            | (refine step_app0 rfl (.tmp 34) (.tmp 37) 33 rfl Try.underlying33 wr.heap.size _ [x] rfl hown2 (fun e => by have := hown2.seen (by simp); obtain ⟨g', c', e', _⟩ := this; subst e'; cases e) rfl ?_))
          all_goals
            go_wp2_with fail
            go_roundw
            case rel => exact ⟨k + 1, by omega, by go_num, by rw [HN.out, HINS.out]; exact hown2.base (b2 := w.heap.size) hbs, HB.out.trans (hb2.mono hbs)⟩
            case measure => simp [intOf]; omega
      · obtain ⟨hn, hcap, hcm, hgb, hgl⟩ := hown.nums
        subst hn
        clear hown
        go_wp2_with fail
        go_loop [6] (fun i => ∃ q : Nat, q ≤ S.length ∧ i = .int .i64 q ∧ ∀ j, j < q → x ≤ S.getD j 0) (fun i => S.length - (intOf i).toNat)
        case atStart => exact ⟨0, Nat.zero_le _, rfl, fun j hj => by omega⟩
        case round =>
          obtain ⟨q, hq, rfl, hall⟩ := hrel
          have HA := Lib.hid hall
          clear hall
          by_cases hql : q < S.length
          · have hcq : wr.cell? ⟨g, q, none⟩ = some (.int .i64 (S.getD q 0)) := by
              obtain ⟨_, _, _, he, _, hcc⟩ := HI.out
              injection he with he1 he2 he3
              subst he1
              obtain ⟨ad', hae, _, hc2⟩ := hcc (by omega)
              injection hae with hae
              subst hae
              have := hc2 q _ (getD_get S q hql)
              rwa [addr_head] at this
            by_cases hge : x ≤ S.getD q 0
            · have HN2 := Lib.hid (show ∀ j, j < q + 1 → x ≤ S.getD j 0 from fun j hj => by
                by_cases e : j = q
                · subst e; exact hge
                · exact HA.out j (by omega))
              generalize S.getD q 0 = y at *
              go_wp2_with fail
              go_round
              case rel => exact ⟨q + 1, by omega, by go_num, HN2.out⟩
              case measure => simp [intOf]; omega
            · have HINS := Lib.hid (ins_at S x q hq HA.out (fun _ => by omega))
              generalize S.getD q 0 = y at *
              obtain ⟨hT, A2, hA2, hD⟩ := sub_cells HO.out q hq
              have HT := Lib.hid hT
              have HD := Lib.hid hD
              have HTL := Lib.hid (show (S.take q).length = q by rw [List.length_take]; omega)
              have HDL := Lib.hid (show (S.drop q).length = S.length - q by rw [List.length_drop])
              have HL1 := Lib.hid (show ([] : List Int).length + (S.take q).length ≤ 1000000 by rw [HTL.out]; simp; omega)
              have HL2 := Lib.hid (show (S.take q).length + [x].length ≤ 1000000 by rw [HTL.out]; simp; omega)
              have HL3 := Lib.hid (show (S.take q ++ [x]).length + (S.drop q).length ≤ 1000000 by rw [List.length_append, HTL.out, HDL.out]; simp; omega)
              have HSL := Lib.hid hsl
              clear hT hD hsl
              have hqc : q ≤ cap := by omega
              go_wp2_with fail
              go_region_law (first
                | (refine step_app rfl (.tmp 27) (.tmp 30) 33 rfl Try.underlying33 wr.heap.size _ [] rfl (by first | exact own_empty (W := World.drew (World.alloc wr _)) (heap_alloc_new wr _) (Nat.le_refl _) | exact World.ownsRow.alloc (own_empty (W := World.alloc wr _) (heap_alloc_new wr _) (Nat.le_refl _)) _ | exact own_empty (W := World.alloc (World.alloc wr _) _) (by rw [← World.size_alloc wr (.cells #[.int .i64 x] 3)]; exact heap_alloc_new _ _) (by omega)) ⟨g, 0, none⟩ (S.take q) q cap HTL.out.symm rfl (HT.out _ (by first | exact below_drew ((Below.refl _ _).alloc (Nat.le_refl _) _) | exact below_drew (((Below.refl _ _).alloc (Nat.le_refl _) _).alloc (by simp) _))) HL1.out (by first | omega | (simp; omega) | simp) ?_; intro v1 w1 hown1 hgrow1; have hb1 : Below wr.heap.size wr w1 := below_grown (by first | exact below_drew ((Below.refl _ _).alloc (Nat.le_refl _) _) | exact below_drew (((Below.refl _ _).alloc (Nat.le_refl _) _).alloc (by simp) _)) (by first | exact own_empty (W := World.drew (World.alloc wr _)) (heap_alloc_new wr _) (Nat.le_refl _) | exact World.ownsRow.alloc (own_empty (W := World.alloc wr _) (heap_alloc_new wr _) (Nat.le_refl _)) _ | exact own_empty (W := World.alloc (World.alloc wr _) _) (by rw [← World.size_alloc wr (.cells #[.int .i64 x] 3)]; exact heap_alloc_new _ _) (by omega)) hgrow1 (by first | omega | (simp; omega) | simp) (Nat.le_refl _); have hsz1 := hb1.size)
                | (refine step_app rfl (.tmp 31) (.tmp 33) 33 rfl Try.underlying33 wr.heap.size _ (S.take q) rfl (by first | exact hown1 | exact World.ownsRow.alloc hown1 _) ⟨_, 0, none⟩ [x] 1 1 rfl rfl (one_cells (by first | exact cell_one (heap_alloc_new w1 _) | exact cell_one ((hgrow1.block (wr.heap.size + 1) (by rw [size_two]; omega) (some_ne (a := wr.heap.size + 1) (b := wr.heap.size) (by omega))).trans (heap_second wr _ _)) | exact cell_one ((hgrow1.block wr.heap.size (by rw [size_two]; omega) (some_ne (a := wr.heap.size) (b := wr.heap.size + 1) (by omega))).trans (heap_first wr _ _)))) HL2.out (by first | omega | (simp; omega) | simp) ?_; intro v2 w2 hown2 hgrow2; have hb2 : Below wr.heap.size wr w2 := below_grown (by first | exact hb1 | exact hb1.alloc hsz1 _) (by first | exact hown1 | exact World.ownsRow.alloc hown1 _) hgrow2 (by first | omega | (simp; omega) | simp) (Nat.le_refl _); have hsz2 := hb2.size)
                | (refine step_app rfl (.tmp 34) (.tmp 37) 33 rfl Try.underlying33 wr.heap.size _ (S.take q ++ [x]) rfl hown2 A2 (S.drop q) (S.length - q) (cap - q) HDL.out.symm rfl (HD.out _ hb2) HL3.out (by omega) ?_; intro v3 w3 hown3 hgrow3; have hb3 : Below wr.heap.size wr w3 := below_grown hb2 hown2 hgrow3 (by omega) (Nat.le_refl _)))
              all_goals
                go_wp2_with fail
                go_roundw
                case rel => exact ⟨k + 1, by omega, by go_num, by rw [HN.out, HINS.out]; simpa using hown3.base (b2 := w.heap.size) hbs, HB.out.trans (hb3.mono hbs)⟩
                case measure => simp [intOf]; omega
          · have HINS := Lib.hid (ins_at S x q hq HA.out (fun _ => by omega))
            obtain ⟨hT, A2, hA2, hD⟩ := sub_cells HO.out q hq
            have HT := Lib.hid hT
            have HD := Lib.hid hD
            have HTL := Lib.hid (show (S.take q).length = q by rw [List.length_take]; omega)
            have HDL := Lib.hid (show (S.drop q).length = S.length - q by rw [List.length_drop])
            have HL1 := Lib.hid (show ([] : List Int).length + (S.take q).length ≤ 1000000 by rw [HTL.out]; simp; omega)
            have HL2 := Lib.hid (show (S.take q).length + [x].length ≤ 1000000 by rw [HTL.out]; simp; omega)
            have HL3 := Lib.hid (show (S.take q ++ [x]).length + (S.drop q).length ≤ 1000000 by rw [List.length_append, HTL.out, HDL.out]; simp; omega)
            have HSL := Lib.hid hsl
            clear hT hD hsl
            have hqc : q ≤ cap := by omega
            go_wp2_with fail
            go_region_law (first
              | (refine step_app rfl (.tmp 27) (.tmp 30) 33 rfl Try.underlying33 wr.heap.size _ [] rfl (by first | exact own_empty (W := World.drew (World.alloc wr _)) (heap_alloc_new wr _) (Nat.le_refl _) | exact World.ownsRow.alloc (own_empty (W := World.alloc wr _) (heap_alloc_new wr _) (Nat.le_refl _)) _ | exact own_empty (W := World.alloc (World.alloc wr _) _) (by rw [← World.size_alloc wr (.cells #[.int .i64 x] 3)]; exact heap_alloc_new _ _) (by omega)) ⟨g, 0, none⟩ (S.take q) q cap HTL.out.symm rfl (HT.out _ (by first | exact below_drew ((Below.refl _ _).alloc (Nat.le_refl _) _) | exact below_drew (((Below.refl _ _).alloc (Nat.le_refl _) _).alloc (by simp) _))) HL1.out (by first | omega | (simp; omega) | simp) ?_; intro v1 w1 hown1 hgrow1; have hb1 : Below wr.heap.size wr w1 := below_grown (by first | exact below_drew ((Below.refl _ _).alloc (Nat.le_refl _) _) | exact below_drew (((Below.refl _ _).alloc (Nat.le_refl _) _).alloc (by simp) _)) (by first | exact own_empty (W := World.drew (World.alloc wr _)) (heap_alloc_new wr _) (Nat.le_refl _) | exact World.ownsRow.alloc (own_empty (W := World.alloc wr _) (heap_alloc_new wr _) (Nat.le_refl _)) _ | exact own_empty (W := World.alloc (World.alloc wr _) _) (by rw [← World.size_alloc wr (.cells #[.int .i64 x] 3)]; exact heap_alloc_new _ _) (by omega)) hgrow1 (by first | omega | (simp; omega) | simp) (Nat.le_refl _); have hsz1 := hb1.size)
              | (refine step_app rfl (.tmp 31) (.tmp 33) 33 rfl Try.underlying33 wr.heap.size _ (S.take q) rfl (by first | exact hown1 | exact World.ownsRow.alloc hown1 _) ⟨_, 0, none⟩ [x] 1 1 rfl rfl (one_cells (by first | exact cell_one (heap_alloc_new w1 _) | exact cell_one ((hgrow1.block (wr.heap.size + 1) (by rw [size_two]; omega) (some_ne (a := wr.heap.size + 1) (b := wr.heap.size) (by omega))).trans (heap_second wr _ _)) | exact cell_one ((hgrow1.block wr.heap.size (by rw [size_two]; omega) (some_ne (a := wr.heap.size) (b := wr.heap.size + 1) (by omega))).trans (heap_first wr _ _)))) HL2.out (by first | omega | (simp; omega) | simp) ?_; intro v2 w2 hown2 hgrow2; have hb2 : Below wr.heap.size wr w2 := below_grown (by first | exact hb1 | exact hb1.alloc hsz1 _) (by first | exact hown1 | exact World.ownsRow.alloc hown1 _) hgrow2 (by first | omega | (simp; omega) | simp) (Nat.le_refl _); have hsz2 := hb2.size)
              | (refine step_app rfl (.tmp 34) (.tmp 37) 33 rfl Try.underlying33 wr.heap.size _ (S.take q ++ [x]) rfl hown2 A2 (S.drop q) (S.length - q) (cap - q) HDL.out.symm rfl (HD.out _ hb2) HL3.out (by omega) ?_; intro v3 w3 hown3 hgrow3; have hb3 : Below wr.heap.size wr w3 := below_grown hb2 hown2 hgrow3 (by omega) (Nat.le_refl _)))
            all_goals
              go_wp2_with fail
              go_roundw
              case rel => exact ⟨k + 1, by omega, by go_num, by rw [HN.out, HINS.out]; simpa using hown3.base (b2 := w.heap.size) hbs, HB.out.trans (hb3.mono hbs)⟩
              case measure => simp [intOf]; omega
    · obtain rfl : k = xs.length := by omega
      rw [List.take_length] at hown
      have HO := Lib.hid hown
      have HB := Lib.hid hb
      clear hown hb HR
      go_wp2_with fail
      go_ret
      exact ⟨_, rfl, HO.out, HB.out⟩
end Go.Proofs.Ytpgpkgnljoedaaa
