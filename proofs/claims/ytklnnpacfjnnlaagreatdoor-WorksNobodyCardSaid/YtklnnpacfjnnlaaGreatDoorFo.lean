/- The words of a line by their sorts. -/
import Derived.Test.YtklnnpacfjnnlaaGreatDoorIl
namespace Go.Proofs.YtklnnpacfjnnlaaGreatDoor
open Go.RowKit
/-- the names and numbers of words by their sorts -/
def fm : List ByteArray → List UInt8 → Option (List ByteArray × List Int)
  | [], [] => some ([], [])
  | x :: ws, c :: so =>
    if c = 110 then (if isNm x then (fm ws so).map (fun p => (x :: p.1, p.2)) else none)
    else match numOf x (c == 115) with
      | none => none
      | some n => (fm ws so).map (fun p => (p.1, n :: p.2))
  | _, _ => none
theorem fm_length : ∀ (ws : List ByteArray) (so : List UInt8) p, fm ws so = some p → ws.length = so.length
  | [], [], _, _ => rfl
  | [], _ :: _, _, h => by simp [fm] at h
  | _ :: _, [], _, h => by simp [fm] at h
  | x :: ws, c :: so, p, h => by
    rw [fm] at h
    split at h
    · split at h
      · cases hf : fm ws so with
        | none => rw [hf] at h; cases h
        | some q => simp [fm_length ws so q hf]
      · cases h
    · split at h
      · cases h
      · cases hf : fm ws so with
        | none => rw [hf] at h; cases h
        | some q => simp [fm_length ws so q hf]
/-- one word more -/
def fm1 (x : ByteArray) (c : UInt8) (p : List ByteArray × List Int) : Option (List ByteArray × List Int) :=
  if c = 110 then (if isNm x then some (p.1 ++ [x], p.2) else none)
  else match numOf x (c == 115) with
    | none => none
    | some n => some (p.1, p.2 ++ [n])
theorem fm_snoc : ∀ (ws : List ByteArray) (so : List UInt8) (x : ByteArray) (c : UInt8), ws.length = so.length → fm (ws ++ [x]) (so ++ [c]) = (fm ws so).bind (fm1 x c)
  | [], [], x, c, _ => by
    rw [List.nil_append, List.nil_append, fm, fm, fm]
    unfold fm1
    simp only [Option.bind_some, Option.map_some]
    split
    · split <;> rfl
    · split <;> rfl
  | [], _ :: _, _, _, h => by simp at h
  | _ :: _, [], _, _, h => by simp at h
  | y :: ws, d :: so, x, c, h => by
    have ih := fm_snoc ws so x c (by simpa using h)
    rw [List.cons_append, List.cons_append, fm, fm, ih]
    split
    · split
      · cases fm ws so with
        | none => rfl
        | some p =>
          simp only [Option.bind_some, Option.map_some]
          unfold fm1
          split
          · split <;> rfl
          · split <;> rfl
      · rfl
    · split
      · rfl
      · cases fm ws so with
        | none => rfl
        | some p =>
          simp only [Option.bind_some, Option.map_some]
          unfold fm1
          split
          · split <;> rfl
          · split <;> rfl
theorem fm_none : ∀ (k : Nat) (ws : List ByteArray) (so : List UInt8), ws.length = so.length → fm (ws.take k) (so.take k) = none → fm ws so = none
  | 0, ws, so, _, h => by simp [fm] at h
  | k + 1, [], [], _, h => by simp [fm] at h
  | k + 1, [], _ :: _, hl, _ => by simp at hl
  | k + 1, _ :: _, [], hl, _ => by simp at hl
  | k + 1, x :: ws, c :: so, hl, h => by
    rw [List.take_succ_cons, List.take_succ_cons, fm] at h
    rw [fm]
    split at h
    · rename_i h1
      rw [if_pos h1]
      split at h
      · rename_i h2
        rw [if_pos h2]
        cases hf : fm (ws.take k) (so.take k) with
        | none => rw [fm_none k ws so (by simpa using hl) hf]; rfl
        | some p => rw [hf] at h; cases h
      · rename_i h2; rw [if_neg h2]
    · rename_i h1
      rw [if_neg h1]
      split at h
      · rfl
      · rename_i n h2
        cases hf : fm (ws.take k) (so.take k) with
        | none => rw [fm_none k ws so (by simpa using hl) hf]; rfl
        | some p => rw [hf] at h; cases h
theorem fm_step (ws : List ByteArray) (so : List UInt8) (hl : ws.length = so.length) (k : Nat) (x : ByteArray) (c : UInt8) (hx : ws[k]? = some x) (hc : so[k]? = some c) :
    fm (ws.take (k + 1)) (so.take (k + 1)) = (fm (ws.take k) (so.take k)).bind (fm1 x c) := by
  rw [List.take_add_one, List.take_add_one, hx, hc]
  exact fm_snoc _ _ x c (by rw [List.length_take, List.length_take, hl])
/-- the lengths of what is read -/
theorem fm_le : ∀ (ws : List ByteArray) (so : List UInt8) p, fm ws so = some p → p.1.length ≤ ws.length ∧ p.2.length ≤ ws.length
  | [], [], p, h => by simp [fm] at h; subst h; simp
  | [], _ :: _, _, h => by simp [fm] at h
  | _ :: _, [], _, h => by simp [fm] at h
  | x :: ws, c :: so, p, h => by
    rw [fm] at h
    split at h
    · split at h
      · cases hf : fm ws so with
        | none => rw [hf] at h; cases h
        | some q =>
          rw [hf] at h
          have := fm_le ws so q hf
          simp at h; subst h; simp; omega
      · cases h
    · split at h
      · cases h
      · cases hf : fm ws so with
        | none => rw [hf] at h; cases h
        | some q =>
          rw [hf] at h
          have := fm_le ws so q hf
          simp at h; subst h; simp; omega
/-- a property of strings that their parts have is one of all pieces -/
theorem split_all (p : ByteArray → Prop) (hp : ∀ s a b, p s → p (s.extract a b)) (sep : ByteArray) (save : Nat) : ∀ (k : Nat) (s : ByteArray), p s → ∀ x ∈ Lib.splitB sep save k s, p x
  | 0, s, h, x, hx => by rw [Lib.splitB_zero] at hx; simp at hx; rw [hx]; exact h
  | k + 1, s, h, x, hx => by
    rw [Lib.splitB] at hx
    split at hx
    · simp at hx; rw [hx]; exact h
    · rcases List.mem_cons.1 hx with rfl | hx
      · exact hp _ _ _ h
      · exact split_all p hp sep save k _ (hp _ _ _ h) x hx
theorem extract_ascii (s : ByteArray) (a b : Nat) (h : ∀ c ∈ s.data.toList, c.toNat < 128) : ∀ c ∈ (s.extract a b).data.toList, c.toNat < 128 := by
  intro c hc
  rw [ByteArray.data_extract, Array.toList_extract] at hc
  refine h c ?_
  rw [List.extract_eq_take_drop] at hc
  exact List.mem_of_mem_drop (List.mem_of_mem_take hc)
theorem words_le (s : ByteArray) : ∀ x ∈ words s, x.size ≤ s.size := by
  intro x hx
  exact split_all (fun y => y.size ≤ s.size) (fun y a b h => by simp [ByteArray.size_extract]; omega) sp 0 _ s (Nat.le_refl _) x hx
theorem words_ascii (s : ByteArray) (h : ∀ c ∈ s.data.toList, c.toNat < 128) : ∀ x ∈ words s, ∀ c ∈ x.data.toList, c.toNat < 128 := by
  intro x hx
  exact split_all (fun y => ∀ c ∈ y.data.toList, c.toNat < 128) (fun y a b h => extract_ascii y a b h) sp 0 _ s h x hx
theorem ascii_get (x : ByteArray) (h : ∀ c ∈ x.data.toList, c.toNat < 128) : ∀ j : Nat, ∀ h' : j < x.size, (x[j]'h').toNat < 128 := fun j h' =>
  h _ (List.mem_of_getElem? (Lib.data_getElem? x j h'))
theorem isLn_ascii (s : ByteArray) (h : isLn s = true) : s.size ≤ 60 ∧ ∀ c ∈ s.data.toList, c.toNat < 128 := by
  unfold isLn at h
  simp only [Bool.and_eq_true, decide_eq_true_eq, Bool.not_eq_true'] at h
  refine ⟨h.1.1, fun c hc => ?_⟩
  have := List.any_eq_false.1 h.2 c hc
  simp [offB] at this
  omega
theorem Rw.caps {α : Type} {k : Nat} {E : Enc α k} {e : TypeId} {w : World} {X g n c : Nat} {L : List α} (h : Rw E e w X (.slice (some ⟨g, 0, none⟩) n c) L) : n = L.length ∧ L.length ≤ c ∧ c ≤ 9223372036854775807 := by
  rcases h.2 with ⟨h1, _⟩ | ⟨g', cap', cur, h1, _, _, h2, h3, _, _⟩
  · cases h1
  · simp only [Value.slice.injEq] at h1
    obtain ⟨-, e1, e2⟩ := h1
    refine ⟨e1, by omega, ?_⟩
    unfold maxLen at h3
    omega
theorem words_cons (s : ByteArray) : ∃ y ws, words s = y :: ws ∧ ws.length ≤ s.size := by
  have h := split_length s sp (by decide)
  have hl := split_le s sp (by decide)
  cases hw : words s with
  | nil => unfold words at hw; rw [hw] at h; simp at h
  | cons y ws => exact ⟨y, ws, rfl, by unfold words at hw; rw [hw] at hl; simp at hl; omega⟩
/-- the two results of form -/
def FormPost (w : World) (r : Option (List ByteArray × List Int)) (e : Ending) (w' : World) : Prop :=
  Below w.heap.size w w' ∧ match r with
  | none => e = .returned (.tuple #[.agg #[.slice none 0 0, .slice none 0 0], .bool false])
  | some p => ∃ v1 v2, e = .returned (.tuple #[.agg #[v1, v2], .bool true]) ∧ Rw stEnc 9 w' w.heap.size v1 p.1 ∧ Own w' w.heap.size v2 p.2
/-- the line that is read so far, in a variable made in the world w1 -/
structure FS (w1 : World) (ns : List ByteArray) (xs : List Int) (wr : World) : Prop where
  bel : Below w1.heap.size w1 wr
  big : w1.heap.size < wr.heap.size
  fr : ∀ i, wr.frozen? ⟨w1.heap.size, i, none⟩ = false
  c0 : ∃ v1, wr.cell? ⟨w1.heap.size, 0, none⟩ = some v1 ∧ Rw stEnc 9 wr (w1.heap.size + 1) v1 ns
  c1 : ∃ v2, wr.cell? ⟨w1.heap.size, 1, none⟩ = some v2 ∧ Own wr (w1.heap.size + 1) v2 xs
theorem FS.keep {w1 wr w' : World} {ns : List ByteArray} {xs : List Int} (h : FS w1 ns xs wr) (hb : Below wr.heap.size wr w') : FS w1 ns xs w' := by
  obtain ⟨bel, big, fr, ⟨v1, a1, a2⟩, ⟨v2, b1, b2⟩⟩ := h
  have hs := hb.size
  refine ⟨bel.trans (hb.mono bel.size), by omega, fun i => ?_, ⟨v1, ?_, a2.keep hb⟩, ⟨v2, ?_, b2.same fun b _ hlt => hb.block b hlt⟩⟩
  · rw [hb.frozen (by exact big)]; exact fr i
  · rw [hb.cell (by exact big)]; exact a1
  · rw [hb.cell (by exact big)]; exact b1
/-- rows of names and rows of numbers lie apart -/
theorem apart_rows {w : World} {X : Nat} {v1 v2 : Value} {ns : List ByteArray} {xs : List Int} (h1 : Rw stEnc 9 w X v1 ns) (h2 : Own w X v2 xs) (b : Nat) (e1 : v1.ownBlock = some b) (e2 : v2.ownBlock = some b) : False := by
  rcases h1.2 with ⟨rfl, _⟩ | ⟨g, cap, cur, rfl, _, hg, _⟩
  · simp [Value.ownBlock] at e1
  · rcases h2.2 with ⟨rfl, _⟩ | ⟨g', cap', cur', rfl, _, hg', _⟩
    · simp [Value.ownBlock] at e2
    · simp [Value.ownBlock] at e1 e2
      subst e1; subst e2
      rw [hg] at hg'
      simp at hg'
theorem FS.name {w1 wr w3 : World} {ns : List ByteArray} {xs : List Int} {v1 : Value} {x : ByteArray} {g n cap : Nat} (h : FS w1 ns xs wr) (hv : wr.cell? ⟨w1.heap.size, 0, none⟩ = some v1) (hR : Rw stEnc 9 wr (w1.heap.size + 1) v1 ns)
    (r2 : Rw stEnc 9 w3 (w1.heap.size + 1) (.slice (some ⟨g, 0, none⟩) n cap) (ns ++ [x])) (bel2 : Below (w1.heap.size + 1) (wr.alloc (.cells #[.string x] 9)) w3 ∨ Below (w1.heap.size + 1) wr w3) (oth : ∀ b, b < wr.heap.size → v1.ownBlock ≠ some b → w3.heap[b]? = wr.heap[b]?) (sz : wr.heap.size ≤ w3.heap.size) :
    FS w1 (ns ++ [x]) xs (w3.setCell ⟨w1.heap.size, 0, none⟩ (.slice (some ⟨g, 0, none⟩) n cap)) := by
  obtain ⟨bel, big, fr, -, ⟨v2, b1, b2⟩⟩ := h
  have hne : v1.ownBlock ≠ some w1.heap.size := fun e => by have := (World.ownsRow.lt hR _ e).1; omega
  have hO := oth w1.heap.size big hne
  have bel3 : Below w1.heap.size w1 w3 := by
    rcases bel2 with h | h
    · exact (bel.alloc bel.size _).trans (h.mono (by omega))
    · exact bel.trans (h.mono (by omega))
  have hc0 : w3.cell? ⟨w1.heap.size, 0, none⟩ = some v1 := (World.cell?_of_block (a := ⟨w1.heap.size, 0, none⟩) hO).trans hv
  have hc1 : w3.cell? ⟨w1.heap.size, 1, none⟩ = some v2 := (World.cell?_of_block (a := ⟨w1.heap.size, 1, none⟩) hO).trans b1
  have hset : ∀ b, b ≠ w1.heap.size → (w3.setCell ⟨w1.heap.size, 0, none⟩ (.slice (some ⟨g, 0, none⟩) n cap)).heap[b]? = w3.heap[b]? := fun b hb => heap_setCell_ne _ _ _ _ hb
  refine ⟨bel3.setCell (p := ⟨w1.heap.size, 0, none⟩) (Nat.le_refl _) _, by simp [World.setCell]; omega, fun i => ?_, ⟨_, World.cell?_setCell_same _ _ _ hc0, r2.same fun b hb _ => hset b (fun e => ?_)⟩, ⟨v2, ?_, ?_⟩⟩
  · rw [World.frozen?_setCell, World.frozen?_of_block (w := wr) (a := ⟨w1.heap.size, i, none⟩) hO]; exact fr i
  · have := (World.ownsRow.lt r2 _ hb).1; omega
  · rw [World.cell?_setCell_other _ _ _ _ (by simp)]; exact hc1
  · refine b2.same fun b hb hlt => ?_
    have h2 := (World.ownsRow.lt b2 _ hb).1
    rw [hset b (by omega)]
    exact oth b hlt fun e => apart_rows hR b2 b e hb
theorem FS.num {w1 wr w3 : World} {ns : List ByteArray} {xs : List Int} {v2 : Value} {u : Int} {g n cap : Nat} (h : FS w1 ns xs wr) (hv : wr.cell? ⟨w1.heap.size, 1, none⟩ = some v2) (hR : Own wr (w1.heap.size + 1) v2 xs)
    (r2 : Own w3 (w1.heap.size + 1) (.slice (some ⟨g, 0, none⟩) n cap) (xs ++ [u])) (gr : (wr.alloc (.cells #[.int .i64 u] 3)).grownBy w3 v2.ownBlock) :
    FS w1 ns (xs ++ [u]) (w3.setCell ⟨w1.heap.size, 1, none⟩ (.slice (some ⟨g, 0, none⟩) n cap)) := by
  obtain ⟨bel, big, fr, ⟨v1, a1, a2⟩, -⟩ := h
  have hlt2 : ∀ k, v2.ownBlock = some k → w1.heap.size + 1 ≤ k := fun k e => (World.ownsRow.lt hR _ e).1
  have sz : wr.heap.size + 1 ≤ w3.heap.size := by have := gr.size; simpa using this
  have oth : ∀ b, b < wr.heap.size → v2.ownBlock ≠ some b → w3.heap[b]? = wr.heap[b]? := fun b hb hne => (gr.block b (by simp; omega) (Ne.symm hne)).trans (Below.heap_alloc wr _ b hb)
  have hne : v2.ownBlock ≠ some w1.heap.size := fun e => by have := hlt2 _ e; omega
  have hO := oth w1.heap.size big hne
  have bel3 : Below w1.heap.size w1 w3 := (bel.alloc bel.size _).grown gr (by have := bel.size; simp; omega) fun k e => by have := hlt2 k e; omega
  have hc0 : w3.cell? ⟨w1.heap.size, 0, none⟩ = some v1 := (World.cell?_of_block (a := ⟨w1.heap.size, 0, none⟩) hO).trans a1
  have hc1 : w3.cell? ⟨w1.heap.size, 1, none⟩ = some v2 := (World.cell?_of_block (a := ⟨w1.heap.size, 1, none⟩) hO).trans hv
  have hset : ∀ b, b ≠ w1.heap.size → (w3.setCell ⟨w1.heap.size, 1, none⟩ (.slice (some ⟨g, 0, none⟩) n cap)).heap[b]? = w3.heap[b]? := fun b hb => heap_setCell_ne _ _ _ _ hb
  refine ⟨bel3.setCell (p := ⟨w1.heap.size, 1, none⟩) (Nat.le_refl _) _, by simp [World.setCell]; omega, fun i => ?_, ⟨v1, ?_, ?_⟩, ⟨_, World.cell?_setCell_same _ _ _ hc1, r2.same fun b hb _ => hset b (fun e => ?_)⟩⟩
  · rw [World.frozen?_setCell, World.frozen?_of_block (w := wr) (a := ⟨w1.heap.size, i, none⟩) hO]; exact fr i
  · rw [World.cell?_setCell_other _ _ _ _ (by simp)]; exact hc0
  · refine a2.same fun b hb hlt => ?_
    have h2 := (World.ownsRow.lt a2 _ hb).1
    rw [hset b (by omega)]
    exact oth b hlt fun e => apart_rows a2 hR b hb e
  · have := (World.ownsRow.lt r2 _ hb).1; omega
theorem FS.start (w1 : World) : FS w1 [] [] (w1.alloc (.cells #[.slice none 0 0, .slice none 0 0] 149)) :=
  ⟨(Below.refl _ _).alloc (Nat.le_refl _) _, by simp, fun i => by simp, ⟨.slice none 0 0, by simp, Rw.nil _ _⟩, ⟨.slice none 0 0, by simp, Own.nil _ _⟩⟩
set_option maxHeartbeats 4000000 in
set_option maxRecDepth 100000 in
theorem form_plain (text so : ByteArray) (hln : isLn text = true) (hso : so.size ≤ 20) (hsuf : Lib.hasSuffix so.data.toList [43] = false) (w : World) (hg : Glob w) :
    Calls Tryz.prog 124 #[.string text, .string so] w (FormPost w (fm ((words text).drop 1) so.data.toList)) := by
  obtain ⟨hsz, hasc⟩ := isLn_ascii text hln
  obtain ⟨y0, ws, hws, hwl⟩ := words_cons text
  have hcs := fun w => Any.strings_CutSuffix l180 so ⟨#[43]⟩ w (by omega)
  simp only [hsuf] at hcs
  have hwa : ∀ x ∈ ws, x.size ≤ 60 ∧ ∀ c ∈ x.data.toList, c.toNat < 128 := fun x hx =>
    ⟨Nat.le_trans (words_le text x (by rw [hws]; exact List.mem_cons_of_mem _ hx)) hsz, words_ascii text hasc x (by rw [hws]; exact List.mem_cons_of_mem _ hx)⟩
  have hdrop : (words text).drop 1 = ws := by rw [hws]; rfl
  rw [hdrop]
  obtain ⟨N, hN⟩ : ∃ N, N = ws.length := ⟨_, rfl⟩
  have hlen : (splitAt' text sp).length = N + 1 := by
    have := congrArg List.length hws
    rw [List.length_cons, ← hN] at this
    exact this
  have hN60 : N ≤ 60 := by omega
  have HCS := Lib.hid hcs
  have HG := Lib.hid hg
  have HWS := Lib.hid hws
  have HWA := Lib.hid hwa
  have HLEN := Lib.hid hlen
  have HN := Lib.hid hN
  clear hsuf hcs hg hws hdrop hwa hasc hlen hN hwl
  obtain ⟨r, hr⟩ : ∃ r, r = fm ws so.data.toList := ⟨_, rfl⟩
  rw [← hr]
  have HR := Lib.hid hr
  clear hr
  by_cases h0 : N = 0
  · subst h0
    go_enter Tryz.func124, Tryz.ntmps124
    go_wp2_with fail
    refine (split_any text sp (by omega) (by decide) _ (HG.out.next ((Below.refl _ w).alloc (Nat.le_refl _) _))).mono ?_
    rintro e w1 ⟨rfl, hv, hb1⟩
    rw [HLEN.out] at hv ⊢
    have hv2 : Rw stEnc 9 w1 (w.alloc (.cells #[.slice none 0 0, .slice none 0 0] 149)).heap.size (.slice (some ⟨(w.alloc (.cells #[.slice none 0 0, .slice none 0 0] 149)).heap.size, 0, none⟩) (0 + 1) (0 + 1)) (y0 :: ws) := by rw [← HWS.out]; exact hv
    have hcell : ∀ j x, ws[j]? = some x → w1.cell? ⟨w.heap.size + 1, 1 + j, none⟩ = some (.string x) := fun j x hj => by
      have := hv2.cell (j := j + 1) (x := x) (by simpa using hj) (i := 0) (u := .string x) rfl
      rw [Nat.mul_one, Nat.add_zero, Nat.add_comm] at this
      simpa using this
    have hgl := hv2.lt
    have sz1 : w.heap.size + 1 < w1.heap.size := by simpa using hgl
    have bel : Below w.heap.size w w1 := ((Below.refl _ w).alloc (Nat.le_refl _) _).trans (hb1.mono (by simp))
    have hO : w1.cell? ⟨w.heap.size, 0, none⟩ = some (.slice none 0 0) := by rw [hb1.cell (by simp)]; simp
    have hO1 : w1.cell? ⟨w.heap.size, 1, none⟩ = some (.slice none 0 0) := by rw [hb1.cell (by simp)]; simp
    have fO : ∀ j, w1.frozen? ⟨w.heap.size, j, none⟩ = false := fun j => by rw [hb1.frozen (by simp)]; simp
    have fO0 := fO 0
    have fO1 := fO 1
    have HC := Lib.hid hcell
    clear hcell hv hv2 hb1 hgl
    by_cases hm : 0 = so.size
    · have hmb : (((0 : Nat) : Int) != ((so.size : Nat) : Int)) = false := by simp [hm]
      have HM := Lib.hid hm
      clear hm
      go_wp2_with (go_at_call 180; refine (HCS.out _).mono ?_; rintro e w2 ⟨rfl, hw⟩; rw [hw]; clear hw w2)
      go_loopw [12, 13, 14, 15, 56] (fun _ _ _ _ idx wr => ∃ j : Nat, j ≤ 0 ∧ idx = .int .i64 j ∧ ∃ ns xs, Lib.Kept (fm (ws.take j) (so.data.toList.take j) = some (ns, xs)) ∧ FS w1 ns xs wr) (fun _ _ _ _ idx _ => 0 - (intOf idx).toNat)
      case atStart => exact ⟨0, Nat.zero_le _, rfl, [], [], by show fm [] [] = _; rfl, FS.start w1⟩
      case round =>
        obtain ⟨j, hj, rfl, ns, xs, hfm, hfs⟩ := hrel
        have belr := hfs.bel
        have bel2 := bel.trans (belr.mono bel.size)
        have big := hfs.big
        have qO : wr.cell? ⟨w.heap.size, 0, none⟩ = some (.slice none 0 0) := (belr.cell (by simp; omega)).trans hO
        have qO1 : wr.cell? ⟨w.heap.size, 1, none⟩ = some (.slice none 0 0) := (belr.cell (by simp; omega)).trans hO1
        have qf0 : wr.frozen? ⟨w.heap.size, 0, none⟩ = false := (belr.frozen (by simp; omega)).trans fO0
        have qf1 : wr.frozen? ⟨w.heap.size, 1, none⟩ = false := (belr.frozen (by simp; omega)).trans fO1
        by_cases hjn : j < 0
        · exact absurd hjn (Nat.not_lt_zero _)
        · obtain rfl : j = 0 := by omega
          have hres : r = some (ns, xs) := by
            have e1 : ws.take 0 = ws := List.take_of_length_le (by rw [← HN.out]; exact Nat.le_refl _)
            have e2 : so.data.toList.take 0 = so.data.toList := List.take_of_length_le (by rw [← Lib.size_eq, ← HM.out]; exact Nat.le_refl _)
            have h : fm (ws.take 0) (so.data.toList.take 0) = some (ns, xs) := hfm
            rw [e1, e2] at h
            rw [HR.out]; exact h
          have HRN := Lib.hid hres
          obtain ⟨v1, hv1, hR1⟩ := hfs.c0
          obtain ⟨v2, hv2, hR2⟩ := hfs.c1
          obtain ⟨A1, k1, e1⟩ := hR1.form
          obtain ⟨A2, n2, k2, e2⟩ := hR2.isSlice
          have HF := Lib.hid hfs
          have HR1 := Lib.hid hR1
          have HR2 := Lib.hid hR2
          subst e1
          subst e2
          clear hres hfm hfs hR1 hR2
          go_wp2_with fail
          have hoth : ∀ b, b ≠ w.heap.size → ((wr.setCell ⟨w.heap.size, 0, none⟩ (.slice A1 ns.length k1)).setCell ⟨w.heap.size, 1, none⟩ (.slice A2 n2 k2)).heap[b]? = wr.heap[b]? := fun b hb => (heap_setCell_ne _ _ _ _ hb).trans (heap_setCell_ne _ _ _ _ hb)
          refine bodyPost_ret (v := .tuple #[.agg #[.slice A1 ns.length k1, .slice A2 n2 k2], .bool true]) (by simp [results, Tryz.results124, go_sem, qO, qO1]) rfl ⟨?_, ?_⟩
          · exact (bel2.setCell (p := ⟨w.heap.size, 0, none⟩) (Nat.le_refl _) _).setCell (p := ⟨w.heap.size, 1, none⟩) (Nat.le_refl _) _
          · rw [HRN.out]
            refine ⟨_, _, rfl, (HR1.out.same fun b hb _ => hoth b fun e => ?_).base (by omega), (HR2.out.same fun b hb _ => hoth b fun e => ?_).base (by omega)⟩
            · have := (World.ownsRow.lt HR1.out _ hb).1; omega
            · have := (World.ownsRow.lt HR2.out _ hb).1; omega
    · have hmb : (((0 : Nat) : Int) != ((so.size : Nat) : Int)) = true := by simp; omega
      have hnone : r = none := by
        cases hr : r with
        | none => rfl
        | some p =>
          have h1 := HR.out
          rw [hr] at h1
          have h2 := fm_length ws so.data.toList p h1.symm
          rw [← Lib.size_eq, ← HN.out] at h2
          exact absurd h2 hm
      have HNO := Lib.hid hnone
      clear hnone hm
      go_wp2_with (go_at_call 180; refine (HCS.out _).mono ?_; rintro e w2 ⟨rfl, hw⟩; rw [hw]; clear hw w2)
      refine bodyPost_ret (v := .tuple #[.agg #[.slice none 0 0, .slice none 0 0], .bool false]) (by simp [results, Tryz.results124, go_sem, hO, hO1]) rfl ⟨?_, ?_⟩
      · exact (bel.setCell (p := ⟨w.heap.size, 0, none⟩) (Nat.le_refl _) _).setCell (p := ⟨w.heap.size, 1, none⟩) (Nat.le_refl _) _
      · rw [HNO.out]
  · skip
    go_enter Tryz.func124, Tryz.ntmps124
    go_wp2_with fail
    refine (split_any text sp (by omega) (by decide) _ (HG.out.next ((Below.refl _ w).alloc (Nat.le_refl _) _))).mono ?_
    rintro e w1 ⟨rfl, hv, hb1⟩
    rw [HLEN.out] at hv ⊢
    have hv2 : Rw stEnc 9 w1 (w.alloc (.cells #[.slice none 0 0, .slice none 0 0] 149)).heap.size (.slice (some ⟨(w.alloc (.cells #[.slice none 0 0, .slice none 0 0] 149)).heap.size, 0, none⟩) (N + 1) (N + 1)) (y0 :: ws) := by rw [← HWS.out]; exact hv
    have hcell : ∀ j x, ws[j]? = some x → w1.cell? ⟨w.heap.size + 1, 1 + j, none⟩ = some (.string x) := fun j x hj => by
      have := hv2.cell (j := j + 1) (x := x) (by simpa using hj) (i := 0) (u := .string x) rfl
      rw [Nat.mul_one, Nat.add_zero, Nat.add_comm] at this
      simpa using this
    have hgl := hv2.lt
    have sz1 : w.heap.size + 1 < w1.heap.size := by simpa using hgl
    have bel : Below w.heap.size w w1 := ((Below.refl _ w).alloc (Nat.le_refl _) _).trans (hb1.mono (by simp))
    have hO : w1.cell? ⟨w.heap.size, 0, none⟩ = some (.slice none 0 0) := by rw [hb1.cell (by simp)]; simp
    have hO1 : w1.cell? ⟨w.heap.size, 1, none⟩ = some (.slice none 0 0) := by rw [hb1.cell (by simp)]; simp
    have fO : ∀ j, w1.frozen? ⟨w.heap.size, j, none⟩ = false := fun j => by rw [hb1.frozen (by simp)]; simp
    have fO0 := fO 0
    have fO1 := fO 1
    have HC := Lib.hid hcell
    clear hcell hv hv2 hb1 hgl
    by_cases hm : N = so.size
    · have hmb : (((N : Nat) : Int) != ((so.size : Nat) : Int)) = false := by simp [hm]
      have HM := Lib.hid hm
      clear hm
      go_wp2_with (go_at_call 180; refine (HCS.out _).mono ?_; rintro e w2 ⟨rfl, hw⟩; rw [hw]; clear hw w2)
      go_loopw [12, 13, 14, 15, 56] (fun _ _ _ _ idx wr => ∃ j : Nat, j ≤ N ∧ idx = .int .i64 j ∧ ∃ ns xs, Lib.Kept (fm (ws.take j) (so.data.toList.take j) = some (ns, xs)) ∧ FS w1 ns xs wr) (fun _ _ _ _ idx _ => N - (intOf idx).toNat)
      case atStart => exact ⟨0, Nat.zero_le _, rfl, [], [], by show fm [] [] = _; rfl, FS.start w1⟩
      case round =>
        obtain ⟨j, hj, rfl, ns, xs, hfm, hfs⟩ := hrel
        have belr := hfs.bel
        have bel2 := bel.trans (belr.mono bel.size)
        have big := hfs.big
        have qO : wr.cell? ⟨w.heap.size, 0, none⟩ = some (.slice none 0 0) := (belr.cell (by simp; omega)).trans hO
        have qO1 : wr.cell? ⟨w.heap.size, 1, none⟩ = some (.slice none 0 0) := (belr.cell (by simp; omega)).trans hO1
        have qf0 : wr.frozen? ⟨w.heap.size, 0, none⟩ = false := (belr.frozen (by simp; omega)).trans fO0
        have qf1 : wr.frozen? ⟨w.heap.size, 1, none⟩ = false := (belr.frozen (by simp; omega)).trans fO1
        by_cases hjn : j < N
        · obtain ⟨x, hx⟩ : ∃ x, ws[j]? = some x := ⟨_, List.getElem?_eq_getElem (by rw [← HN.out]; exact hjn)⟩
          obtain ⟨c, hc⟩ : ∃ c, so.data.toList[j]? = some c := ⟨_, List.getElem?_eq_getElem (by rw [← Lib.size_eq, ← HM.out]; exact hjn)⟩
          have hxa := HWA.out x (List.mem_of_getElem? hx)
          have hload : wr.cell? ⟨w.heap.size + 1, 1 + j, none⟩ = some (.string x) := (belr.cell (by simp; omega)).trans (HC.out j x hx)
          have hjs : j < so.size := by rw [← HM.out]; exact hjn
          have hsc : ∀ h', (so[j]'h').toNat = c.toNat := fun h' => by
            have := Lib.data_getElem? so j h'
            rw [hc] at this
            rw [Option.some.inj this]
          have hstep := fm_step ws so.data.toList (by rw [← HN.out, HM.out, Lib.size_eq]) j x c hx hc
          rw [show fm (ws.take j) (so.data.toList.take j) = some (ns, xs) from hfm, Option.bind_some] at hstep
          have hle := fm_le _ _ _ hfm
          have hn1 : ns.length ≤ 60 := by have h := hle.1; rw [List.length_take] at h; simp only at h; omega
          have hn2 : xs.length ≤ 60 := by have h := hle.2; rw [List.length_take] at h; simp only at h; omega
          have HST := Lib.hid hstep
          have HF := Lib.hid hfs
          have HX := Lib.hid hxa
          clear hx hc hstep hfm hfs hle hxa
          by_cases hc110 : c = 110
          · have hcb : ((c.toNat : Int) == 110) = true := by simp [hc110]
            have HC110 := Lib.hid hc110
            clear hc110
            cases hnm : isNm x with
            | true =>
              have hnext : fm (ws.take (j + 1)) (so.data.toList.take (j + 1)) = some (ns ++ [x], xs) := by
                rw [HST.out, fm1, if_pos HC110.out, if_pos hnm]
              have HNX := Lib.hid hnext
              have HNM := Lib.hid hnm
              clear hnext hnm
              obtain ⟨v1, hv1, hR1⟩ := HF.out.c0
              go_wp2_with (first
                | (go_at_call 182
                   refine (isName_any x (by have := HX.out.1; omega) (ascii_get x HX.out.2) _).mono ?_
                   rintro e w3 ⟨rfl, hb3⟩
                   rw [HNM.out]
                   have F3 := HF.out.keep hb3
                   have hv3 := (hb3.cell (p := ⟨w1.heap.size, 0, none⟩) big).trans hv1
                   have hR3 := hR1.keep hb3
                   have hf3 := F3.fr 0
                   have FS3 := Lib.hid F3
                   clear F3)
                | (at_builtin
                   refine wpList_rw2 stElt w3 rfl _ _ rfl (w1.heap.size + 1) v1 _ rfl hR3 x _ rfl rfl (by omega) (by have := FS3.out.big; omega) ?_
                   intro g4 cap4 w4 r4 bel4 oth4 _ sz4
                   have hne4 : v1.ownBlock ≠ some w1.heap.size := fun e => by have := (World.ownsRow.lt hR3 _ e).1; omega
                   have c4 := (World.cell?_of_block (w := w3) (a := ⟨w1.heap.size, 0, none⟩) (oth4 _ FS3.out.big hne4)).trans hv3
                   have f4 := (World.frozen?_of_block (w := w3) (a := ⟨w1.heap.size, 0, none⟩) (oth4 _ FS3.out.big hne4)).trans hf3
                   have F4 := FS3.out.name hv3 hR3 r4 (.inr bel4) oth4 sz4
                   have FS4 := Lib.hid F4
                   clear oth4 F4))
              go_roundw
              case rel => exact ⟨j + 1, by omega, by go_num, ns ++ [x], xs, HNX.out, FS4.out⟩
              case measure => simp [intOf]; omega
            | false =>
              have hres : r = none := by
                rw [HR.out]
                refine fm_none (j + 1) ws so.data.toList (by rw [← HN.out, HM.out, Lib.size_eq]) ?_
                rw [HST.out]; rw [fm1, if_pos HC110.out, hnm]; rfl
              have HRN := Lib.hid hres
              clear hres
              have HNM := Lib.hid hnm
              clear hnm
              go_wp2_with (
                go_at_call 182
                refine (isName_any x (by have := HX.out.1; omega) (ascii_get x HX.out.2) _).mono ?_
                rintro e w3 ⟨rfl, hb3⟩
                rw [HNM.out]
                have p0 := (hb3.cell (p := ⟨w.heap.size, 0, none⟩) (by show w.heap.size < _; omega)).trans qO
                have p1 := (hb3.cell (p := ⟨w.heap.size, 1, none⟩) (by show w.heap.size < _; omega)).trans qO1
                have pf0 := (hb3.frozen (p := ⟨w.heap.size, 0, none⟩) (by show w.heap.size < _; omega)).trans qf0
                have pf1 := (hb3.frozen (p := ⟨w.heap.size, 1, none⟩) (by show w.heap.size < _; omega)).trans qf1)
              refine bodyPost_ret (v := .tuple #[.agg #[.slice none 0 0, .slice none 0 0], .bool false]) (by simp [results, Tryz.results124, go_sem, p0, p1]) rfl ⟨?_, ?_⟩
              · exact ((bel2.trans (hb3.mono bel2.size)).setCell (p := ⟨w.heap.size, 0, none⟩) (Nat.le_refl _) _).setCell (p := ⟨w.heap.size, 1, none⟩) (Nat.le_refl _) _
              · rw [HRN.out]
          · have hcb : ((c.toNat : Int) == 110) = false := by
              rw [beq_eq_false_iff_ne]; intro e; exact hc110 (UInt8.toNat_inj.1 (by show c.toNat = 110; omega))
            obtain ⟨sg, hsg⟩ : ∃ sg, sg = (c == 115) := ⟨_, rfl⟩
            have hcs : ((c.toNat : Int) == 115) = sg := by
              rw [hsg, Bool.eq_iff_iff, beq_iff_eq, beq_iff_eq]
              constructor
              · intro e; exact UInt8.toNat_inj.1 (by show c.toNat = 115; omega)
              · intro e; rw [e]; rfl
            have HC110 := Lib.hid hc110
            have HSG := Lib.hid hsg
            clear hc110 hsg
            cases hnm : numOf x sg with
            | some n =>
              have hnext : fm (ws.take (j + 1)) (so.data.toList.take (j + 1)) = some (ns, xs ++ [n]) := by
                rw [HST.out, fm1, if_neg HC110.out, ← HSG.out]
                simp only [hnm]
              have HNX := Lib.hid hnext
              have HNM := Lib.hid hnm
              clear hnext hnm
              obtain ⟨v2, hv2, hR2⟩ := HF.out.c1
              go_wp2_with (first
                | (go_at_call 183
                   refine (number_any x sg (by have := HX.out.1; omega) _ (HG.out.next bel2)).mono ?_
                   rintro e w3 ⟨he, hb3⟩
                   rw [HNM.out] at he
                   unfold numRes at he
                   subst he
                   have F3 := HF.out.keep hb3
                   have hv3 := (hb3.cell (p := ⟨w1.heap.size, 1, none⟩) big).trans hv2
                   have hR3 : Own w3 (w1.heap.size + 1) v2 xs := hR2.same fun b _ hlt => hb3.block b hlt
                   have hf3 := F3.fr 1
                   have FS3 := Lib.hid F3
                   clear F3)
                | (at_builtin
                   refine wpList_push w3 rfl _ _ 41 rfl Tryz.underlying41 (w1.heap.size + 1) v2 xs rfl hR3 n rfl (by omega) (by have := FS3.out.big; omega) ?_
                   intro g4 cap4 w4 r4 gr4 _
                   have hne4 : v2.ownBlock ≠ some w1.heap.size := fun e => by have := (World.ownsRow.lt hR3 _ e).1; omega
                   have o4 : w4.heap[w1.heap.size]? = w3.heap[w1.heap.size]? := (gr4.block _ (by simp; have := FS3.out.big; omega) (Ne.symm hne4)).trans (Below.heap_alloc w3 _ _ FS3.out.big)
                   have c4 := (World.cell?_of_block (w := w3) (a := ⟨w1.heap.size, 1, none⟩) o4).trans hv3
                   have f4 := (World.frozen?_of_block (w := w3) (a := ⟨w1.heap.size, 1, none⟩) o4).trans hf3
                   have F4 := FS3.out.num hv3 hR3 r4 gr4
                   have FS4 := Lib.hid F4
                   clear F4 o4 gr4))
              go_roundw
              case rel => exact ⟨j + 1, by omega, by go_num, ns, xs ++ [n], HNX.out, FS4.out⟩
              case measure => simp [intOf]; omega
            | none =>
              have hres : r = none := by
                rw [HR.out]
                refine fm_none (j + 1) ws so.data.toList (by rw [← HN.out, HM.out, Lib.size_eq]) ?_
                rw [HST.out]; rw [fm1, if_neg HC110.out, ← HSG.out]; simp only [hnm]
              have HRN := Lib.hid hres
              clear hres
              have HNM := Lib.hid hnm
              clear hnm
              go_wp2_with (
                go_at_call 183
                refine (number_any x sg (by have := HX.out.1; omega) _ (HG.out.next bel2)).mono ?_
                rintro e w3 ⟨he, hb3⟩
                rw [HNM.out] at he
                unfold numRes at he
                subst he
                have p0 := (hb3.cell (p := ⟨w.heap.size, 0, none⟩) (by show w.heap.size < _; omega)).trans qO
                have p1 := (hb3.cell (p := ⟨w.heap.size, 1, none⟩) (by show w.heap.size < _; omega)).trans qO1
                have pf0 := (hb3.frozen (p := ⟨w.heap.size, 0, none⟩) (by show w.heap.size < _; omega)).trans qf0
                have pf1 := (hb3.frozen (p := ⟨w.heap.size, 1, none⟩) (by show w.heap.size < _; omega)).trans qf1)
              refine bodyPost_ret (v := .tuple #[.agg #[.slice none 0 0, .slice none 0 0], .bool false]) (by simp [results, Tryz.results124, go_sem, p0, p1]) rfl ⟨?_, ?_⟩
              · exact ((bel2.trans (hb3.mono bel2.size)).setCell (p := ⟨w.heap.size, 0, none⟩) (Nat.le_refl _) _).setCell (p := ⟨w.heap.size, 1, none⟩) (Nat.le_refl _) _
              · rw [HRN.out]
        · obtain rfl : j = N := by omega
          have hres : r = some (ns, xs) := by
            have e1 : ws.take j = ws := List.take_of_length_le (by rw [← HN.out]; exact Nat.le_refl _)
            have e2 : so.data.toList.take j = so.data.toList := List.take_of_length_le (by rw [← Lib.size_eq, ← HM.out]; exact Nat.le_refl _)
            have h : fm (ws.take j) (so.data.toList.take j) = some (ns, xs) := hfm
            rw [e1, e2] at h
            rw [HR.out]; exact h
          have HRN := Lib.hid hres
          obtain ⟨v1, hv1, hR1⟩ := hfs.c0
          obtain ⟨v2, hv2, hR2⟩ := hfs.c1
          obtain ⟨A1, k1, e1⟩ := hR1.form
          obtain ⟨A2, n2, k2, e2⟩ := hR2.isSlice
          have HF := Lib.hid hfs
          have HR1 := Lib.hid hR1
          have HR2 := Lib.hid hR2
          subst e1
          subst e2
          clear hres hfm hfs hR1 hR2
          go_wp2_with fail
          have hoth : ∀ b, b ≠ w.heap.size → ((wr.setCell ⟨w.heap.size, 0, none⟩ (.slice A1 ns.length k1)).setCell ⟨w.heap.size, 1, none⟩ (.slice A2 n2 k2)).heap[b]? = wr.heap[b]? := fun b hb => (heap_setCell_ne _ _ _ _ hb).trans (heap_setCell_ne _ _ _ _ hb)
          refine bodyPost_ret (v := .tuple #[.agg #[.slice A1 ns.length k1, .slice A2 n2 k2], .bool true]) (by simp [results, Tryz.results124, go_sem, qO, qO1]) rfl ⟨?_, ?_⟩
          · exact (bel2.setCell (p := ⟨w.heap.size, 0, none⟩) (Nat.le_refl _) _).setCell (p := ⟨w.heap.size, 1, none⟩) (Nat.le_refl _) _
          · rw [HRN.out]
            refine ⟨_, _, rfl, (HR1.out.same fun b hb _ => hoth b fun e => ?_).base (by omega), (HR2.out.same fun b hb _ => hoth b fun e => ?_).base (by omega)⟩
            · have := (World.ownsRow.lt HR1.out _ hb).1; omega
            · have := (World.ownsRow.lt HR2.out _ hb).1; omega
    · have hmb : (((N : Nat) : Int) != ((so.size : Nat) : Int)) = true := by simp; omega
      have hnone : r = none := by
        cases hr : r with
        | none => rfl
        | some p =>
          have h1 := HR.out
          rw [hr] at h1
          have h2 := fm_length ws so.data.toList p h1.symm
          rw [← Lib.size_eq, ← HN.out] at h2
          exact absurd h2 hm
      have HNO := Lib.hid hnone
      clear hnone hm
      go_wp2_with (go_at_call 180; refine (HCS.out _).mono ?_; rintro e w2 ⟨rfl, hw⟩; rw [hw]; clear hw w2)
      refine bodyPost_ret (v := .tuple #[.agg #[.slice none 0 0, .slice none 0 0], .bool false]) (by simp [results, Tryz.results124, go_sem, hO, hO1]) rfl ⟨?_, ?_⟩
      · exact (bel.setCell (p := ⟨w.heap.size, 0, none⟩) (Nat.le_refl _) _).setCell (p := ⟨w.heap.size, 1, none⟩) (Nat.le_refl _) _
      · rw [HNO.out]
end Go.Proofs.YtklnnpacfjnnlaaGreatDoor
