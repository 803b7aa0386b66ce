/- strings.Replacer: the letters are replaced. -/
import Derived.Test.YtkmnelmgckbmpaaGreatDoorRp
import Derived.Test.YtkmnelmgckbmpaaGreatDoorShp
import Derived.Laws.CopyOwn
import Derived.Lib.Bytealg
import Derived.Lib.CountLaws
namespace Go.Proofs.YtkmnelmgckbmpaaGreatDoor
open Go.RowKit
/-- the table as it is read -/
structure Ready (w : World) (g : Nat) : Prop where
  lt : g < w.heap.size
  top : ∃ q c, w.cell? ⟨g, 256, none⟩ = some (.slice (some ⟨q, 0, none⟩) 2 c) ∧ q < w.heap.size ∧ w.cell? ⟨q, 0, none⟩ = some (.string ⟨#[49]⟩) ∧ w.cell? ⟨q, 1, none⟩ = some (.string ⟨#[48]⟩)
  at49 : ∃ A c, w.cell? ⟨g, 49, none⟩ = some (.slice (some A) 1 c) ∧ A.block < w.heap.size ∧ w.cell? (A.add 0) = some (.int .u8 48)
  at48 : ∃ A c, w.cell? ⟨g, 48, none⟩ = some (.slice (some A) 2 c) ∧ A.block < w.heap.size ∧ w.cell? (A.add 0) = some (.int .u8 48) ∧ w.cell? (A.add 1) = some (.int .u8 49)
theorem Tab.ready {w : World} {g : Nat} {wr : World} (h : Tab w g 2 wr) : Ready wr g := by
  obtain ⟨T, h1, -, hR⟩ := h.top
  obtain ⟨v9, h9, -, h9a⟩ := h.at49
  obtain ⟨v8, h8, -, h8a⟩ := h.at48
  obtain ⟨A, c, rfl, -, a2, a3⟩ := (h9a (by omega)).1
  obtain ⟨B, d, rfl, -, b2, b3⟩ := (h8a (by omega)).1
  obtain ⟨q, c2, rfl, -, hq⟩ := hR.seen (by simp)
  refine ⟨h.big, ⟨q, c2, h1, hq, ?_, ?_⟩, ⟨A, c, h9, a2, a3 0 48 rfl⟩, ⟨B, d, h8, b2, b3 0 48 rfl, b3 1 49 rfl⟩⟩
  · exact hR.cell (j := 0) (x := ⟨#[49]⟩) rfl (i := 0) rfl
  · exact hR.cell (j := 1) (x := ⟨#[48]⟩) rfl (i := 0) rfl
theorem Ready.move {w w' : World} {g : Nat} (h : Ready w g) (hs : w.heap.size ≤ w'.heap.size) (b : Nat) (hb : ∀ k, k < w.heap.size → k ≠ b → w'.heap[k]? = w.heap[k]?)
    (hg : g ≠ b) (hq : ∀ q c, w.cell? ⟨g, 256, none⟩ = some (.slice (some ⟨q, 0, none⟩) 2 c) → q ≠ b) (h9 : ∀ A c, w.cell? ⟨g, 49, none⟩ = some (.slice (some A) 1 c) → A.block ≠ b) (h8 : ∀ A c, w.cell? ⟨g, 48, none⟩ = some (.slice (some A) 2 c) → A.block ≠ b) : Ready w' g := by
  have hc : ∀ (a : Addr), a.block < w.heap.size → a.block ≠ b → w'.cell? a = w.cell? a := fun a h1 h2 => World.cell?_of_block (w := w) (hb _ h1 h2)
  obtain ⟨lt, ⟨q, c, t1, t2, t3, t4⟩, ⟨A, d, a1, a2, a3⟩, ⟨B, e, b1, b2, b3, b4⟩⟩ := h
  have kA := h9 A d a1
  have kB := h8 B e b1
  have kq := hq q c t1
  refine ⟨by omega, ⟨q, c, ?_, by omega, ?_, ?_⟩, ⟨A, d, ?_, by omega, ?_⟩, ⟨B, e, ?_, by omega, ?_, ?_⟩⟩
  · rw [hc _ lt hg]; exact t1
  · rw [hc _ t2 kq]; exact t3
  · rw [hc _ t2 kq]; exact t4
  · rw [hc _ lt hg]; exact a1
  · rw [hc _ (by rw [addr_block]; exact a2) (by rw [addr_block]; exact kA)]; exact a3
  · rw [hc _ lt hg]; exact b1
  · rw [hc _ (by rw [addr_block]; exact b2) (by rw [addr_block]; exact kB)]; exact b3
  · rw [hc _ (by rw [addr_block]; exact b2) (by rw [addr_block]; exact kB)]; exact b4
theorem Ready.keep {w w' : World} {g : Nat} (h : Ready w g) (hb : Below w.heap.size w w') : Ready w' g := by
  obtain ⟨lt, ⟨q, c, t1, t2, t3, t4⟩, ⟨A, d, a1, a2, a3⟩, ⟨B, e, b1, b2, b3, b4⟩⟩ := h
  have hs := hb.size
  refine ⟨by omega, ⟨q, c, ?_, by omega, ?_, ?_⟩, ⟨A, d, ?_, by omega, ?_⟩, ⟨B, e, ?_, by omega, ?_, ?_⟩⟩
  · rw [hb.cell (by exact lt)]; exact t1
  · rw [hb.cell (by exact t2)]; exact t3
  · rw [hb.cell (by exact t2)]; exact t4
  · rw [hb.cell (by exact lt)]; exact a1
  · rw [hb.cell (by rw [addr_block]; exact a2)]; exact a3
  · rw [hb.cell (by exact lt)]; exact b1
  · rw [hb.cell (by rw [addr_block]; exact b2)]; exact b3
  · rw [hb.cell (by rw [addr_block]; exact b2)]; exact b4
/-- the letters that are laid, and room -/
def cim (l : List UInt8) (N k : Nat) : Array Value := (Lib.byteCells ((l.take k).flatMap im) ++ List.replicate (N - ((l.take k).flatMap im).length) (Value.int .u8 0)).toArray
theorem cells_im (l : List UInt8) (N k : Nat) (h : ((l.take k).flatMap im).length ≤ N) : (cim l N k).size = N := by
  simp only [cim, Lib.byteCells, List.size_toArray, List.length_append, List.length_map, List.length_replicate]; omega
theorem made_u8 (n : Nat) : madeCells (Value.int .u8 0).cells (n * 1) = (List.replicate n (Value.int .u8 0)).toArray := by
  apply Array.ext'
  rw [Nat.mul_one]
  exact toList_madeCells_one _ n
theorem strget (l : List UInt8) (k : Nat) (b : UInt8) (h : l[k]? = some b) : ∀ h', ((str l)[k]'h').toNat = b.toNat := fun h' => by
  have := Lib.getElem_mk l k h'
  rw [h] at this
  have e := Option.some.inj this
  show ((⟨l.toArray⟩ : ByteArray)[k]'h').toNat = b.toNat
  rw [← e]
theorem drop_im (l : List UInt8) (k : Nat) (b : UInt8) (h : l[k]? = some b) : (l.drop k).flatMap im = im b ++ (l.drop (k + 1)).flatMap im := by
  obtain ⟨hk, e⟩ := List.getElem?_eq_some_iff.1 h
  rw [List.drop_eq_getElem_cons hk, List.flatMap_cons, e]
theorem im_take (l : List UInt8) (k : Nat) (b : UInt8) (h : l[k]? = some b) : ((l.take (k + 1)).flatMap im).length = ((l.take k).flatMap im).length + (im b).length := by
  rw [List.take_add_one, h]; simp
theorem cim_next (l : List UInt8) (N k J : Nat) (b : UInt8) (h : l[k]? = some b) (hJ : J = ((l.take k).flatMap im).length) (hN : J + (im b).length ≤ N) :
    ((cim l N k).toList.take J ++ Lib.byteCells (im b) ++ (cim l N k).toList.drop (J + (im b).length)).toArray = cim l N (k + 1) := by
  have e1 : (l.take (k + 1)).flatMap im = (l.take k).flatMap im ++ im b := by rw [List.take_add_one, h]; simp
  have hb : (Lib.byteCells ((l.take k).flatMap im)).length = J := by simp [Lib.byteCells, hJ]
  unfold cim
  rw [e1, List.length_append, ← hJ]
  congr 1
  rw [List.toList_toArray, List.take_left' hb, List.drop_append, hb, List.drop_of_length_le (by omega), List.nil_append, List.drop_replicate]
  have : Lib.byteCells ((l.take k).flatMap im ++ im b) = Lib.byteCells ((l.take k).flatMap im) ++ Lib.byteCells (im b) := by simp [Lib.byteCells]
  rw [this]
  congr 2
  omega
theorem count_split (l : List UInt8) (hab : ∀ c ∈ l, c = 48 ∨ c = 49) : l.count 48 + l.count 49 = l.length := by
  induction l with
  | nil => rfl
  | cons c l ih =>
    have := ih fun d hd => hab d (List.mem_cons_of_mem _ hd)
    rw [List.count_cons, List.count_cons, List.length_cons]
    rcases hab c (List.mem_cons_self ..) with rfl | rfl <;> simp <;> omega
set_option maxRecDepth 100000 in
set_option maxHeartbeats 4000000 in
theorem repl_any (g : Nat) (l : List UInt8) (w : World) (hl : l.length ≤ 2000) (hab : ∀ c ∈ l, c = 48 ∨ c = 49) (hr : Ready w g) :
    Calls Tryz.prog 105 #[.pointer (some ⟨g, 0, none⟩), .string (str l)] w fun e w' => e = .returned (.string (str (l.flatMap im))) ∧ Below w.heap.size w w' := by
  have hsz : (str l).size = l.length := str_size l
  have hlist : (str l).data.toList = l := by simp [str]
  have hcs := count_split l hab
  have hN0 := im_length_count l
  obtain ⟨N, hN⟩ : ∃ N, N = l.length + l.count 48 := ⟨_, rfl⟩
  obtain ⟨c1, hc1⟩ : ∃ c1, c1 = l.count 49 := ⟨_, rfl⟩
  obtain ⟨c0, hc0⟩ : ∃ c0, c0 = l.count 48 := ⟨_, rfl⟩
  rw [← hc1, ← hc0] at hcs
  rw [← hc0] at hN
  have k1 := fun w => Any.strings_Count_one l107 (str l) 49 w
  simp only [hlist, Lib.countByte, ← hc1] at k1
  have k0 := fun w => Any.strings_Count_one l107 (str l) 48 w
  simp only [hlist, Lib.countByte, ← hc0] at k0
  have CK1 := Lib.hid k1
  have CK0 := Lib.hid k0
  have HL := Lib.hid hlist
  have HC1 := Lib.hid hc1
  have HC0 := Lib.hid hc0
  have HN := Lib.hid hN
  have HN0 := Lib.hid hN0
  have HAB := Lib.hid hab
  have HR := Lib.hid hr
  clear hlist k1 k0 hc1 hc0 hN0 hab hN
  have hx49 : ∀ h, ((⟨#[49]⟩ : ByteArray)[0]'h).toNat = 49 := fun _ => rfl
  have hx48 : ∀ h, ((⟨#[48]⟩ : ByteArray)[0]'h).toNat = 48 := fun _ => rfl
  obtain ⟨lt, ⟨q, c, t1, t2, t3, t4⟩, ⟨A, d, a1, a2, a3⟩, ⟨B, e, b1, b2, b3, b4⟩⟩ := hr
  have info5 : (Tryz.prog.info? 5).map (fun i => (i.zero, i.size, i.bytes)) = some (some (.int .u8 0), 1, 1) := by kernel_rfl
  obtain ⟨i0, hi, hz0, hz1, hz2⟩ := info_parts info5
  obtain ⟨M, hM⟩ : ∃ M, M = madeCells (Value.int .u8 0).cells (((N : Nat) : Int).toNat * i0.size) := ⟨_, rfl⟩
  have hN4 : N ≤ 4000 := by have := HN.out; omega
  have hmk : ∀ W : World, (Instr.makeSlice 72 (.int .i64 (N : Int)) (.int .i64 (N : Int))).run Tryz.prog W = .ok (.slice (some ⟨W.heap.size, 0, none⟩) N N) (W.alloc (.cells M 5)) := fun W => by
    have h := run_make (P := Tryz.prog) W 72 5 i0 (.int .u8 0) Tryz.underlying72 hi hz0 .i64 .i64 (N : Int) (N : Int) (by omega) (by omega) (by rw [hz2]; omega) (by omega)
    rw [← hM] at h
    simpa using h
  have hM2 : M = cim l N 0 := by
    rw [hM, hz1, made_u8]; simp [cim, Lib.byteCells]
  have HM := Lib.hid hM2
  have hab' : ∀ k, k < l.length → l[k]? = some 48 ∨ l[k]? = some 49 := fun k hk => by
    rw [List.getElem?_eq_getElem hk]
    rcases HAB.out _ (List.getElem_mem hk) with h | h <;> simp [h]
  have hs5 : (Tryz.prog.info? 5).map (·.size) = some 1 := by rw [hi]; simp [hz1]
  clear hM hM2 hi hz0 hz1 hz2
  by_cases h16 : 16 ≤ l.length
  · have hd16 : decide ((16 : Int) ≤ (l.length : Int)) = true := decide_eq_true (by omega)
    go_enter Tryz.func105, Tryz.ntmps105
    go_wp2_with fail
    go_loopw [5, 6, 8, 9, 32] (fun new any _ _ k wr => Below w.heap.size w wr ∧ ((k = .int .i64 0 ∧ new = .int .i64 (l.length : Nat) ∧ any = .bool false) ∨ (k = .int .i64 1 ∧ new = .int .i64 (l.length : Nat) ∧ any = .bool (decide (c1 ≠ 0))) ∨ (k = .int .i64 2 ∧ new = .int .i64 N ∧ any = .bool true))) (fun _ _ _ _ k _ => 2 - (intOf k).toNat)
    case atStart => exact ⟨Below.refl _ _, .inl ⟨rfl, rfl, rfl⟩⟩
    case round =>
      obtain ⟨hb, hrel⟩ := hrel
      have T1 := (hb.cell (p := ⟨g, 256, none⟩) lt).trans t1
      have T3 := (hb.cell (p := ⟨q, 0, none⟩) t2).trans t3
      have T4 := (hb.cell (p := ⟨q, 1, none⟩) t2).trans t4
      have A1 := (hb.cell (p := ⟨g, 49, none⟩) lt).trans a1
      have B1 := (hb.cell (p := ⟨g, 48, none⟩) lt).trans b1
      rcases hrel with ⟨rfl, rfl, rfl⟩ | ⟨rfl, rfl, rfl⟩ | ⟨rfl, rfl, rfl⟩
      · by_cases h1 : c1 = 0
        · have hb1 : ((c1 : Int) != 0) = false := by simp [h1]
          have hd1 : decide (c1 ≠ 0) = false := by simp [h1]
          go_wp2_with (go_at_call 107; refine (CK1.out _).mono ?_; rintro e' w1 ⟨rfl, hw⟩; rw [hw]; clear hw w1)
          go_roundw
          case rel => exact ⟨by first | exact hb | exact below_drewN hb _ | exact hb.drew, .inr (.inl ⟨rfl, rfl, by rw [hd1]⟩)⟩
          case measure => simp [intOf]
        · have hb1 : ((c1 : Int) != 0) = true := by simp [h1]
          have hd1 : decide (c1 ≠ 0) = true := by simp [h1]
          go_wp2_with (go_at_call 107; refine (CK1.out _).mono ?_; rintro e' w1 ⟨rfl, hw⟩; rw [hw]; clear hw w1)
          go_quiet (fail)
          go_wp2_with fail
          go_roundw
          case rel => exact ⟨by first | exact hb | exact below_drewN hb _ | exact hb.drew, .inr (.inl ⟨rfl, rfl, by rw [hd1]⟩)⟩
          case measure => simp [intOf]
      · by_cases h0 : c0 = 0
        · have hb0 : ((c0 : Int) != 0) = false := by simp [h0]
          have hd1 : decide (c1 ≠ 0) = true := by simp; omega
          go_wp2_with (go_at_call 107; refine (CK0.out _).mono ?_; rintro e' w1 ⟨rfl, hw⟩; rw [hw]; clear hw w1)
          go_roundw
          case rel => exact ⟨by first | exact hb | exact below_drewN hb _ | exact hb.drew, .inr (.inr ⟨rfl, by rw [HN.out, h0]; rfl, by first | rfl | rw [hd1]⟩)⟩
          case measure => simp [intOf]
        · have hb0 : ((c0 : Int) != 0) = true := by simp [h0]
          go_wp2_with (go_at_call 107; refine (CK0.out _).mono ?_; rintro e' w1 ⟨rfl, hw⟩; rw [hw]; clear hw w1)
          go_quiet (fail)
          go_wp2_with fail
          go_roundw
          case rel => exact ⟨by first | exact hb | exact below_drewN hb _ | exact hb.drew, .inr (.inr ⟨rfl, by rw [HN.out]; go_num, rfl⟩)⟩
          case measure => simp [intOf]
      · obtain ⟨wq, hwq⟩ : ∃ wq, wq = wr := ⟨_, rfl⟩
        subst hwq
        have HBQ := hb
        clear hb
        go_wp2_with fail
        go_loopw [13, 14, 15] (fun j i _ wr => ∃ k : Nat, k ≤ l.length ∧ i = .int .i64 k ∧ j = .int .i64 (((l.take k).flatMap im).length : Nat) ∧ wr.heap[wq.heap.size]? = some (.cells (cim l N k) 5 (0, 0)) ∧ Below w.heap.size w wr) (fun _ i _ _ => l.length - (intOf i).toNat)
        case atStart => exact ⟨0, Nat.zero_le _, rfl, rfl, by rw [heap_alloc_new, HM.out], HBQ.alloc HBQ.size _⟩
        case round =>
          obtain ⟨k, hk, rfl, rfl, hrow, hb⟩ := hrel
          obtain ⟨J, hJ⟩ : ∃ J, J = ((l.take k).flatMap im).length := ⟨_, rfl⟩
          have hJN : J + ((l.drop k).flatMap im).length = N := by
            rw [hJ, ← List.length_append, ← List.flatMap_append, List.take_append_drop, HN0.out, HN.out, HC0.out]
          have HROW := Lib.hid hrow
          rw [← hJ]
          have HJ := Lib.hid hJ
          clear hJ hrow
          have T1 := (hb.cell (p := ⟨g, 256, none⟩) lt).trans t1
          have T3 := (hb.cell (p := ⟨q, 0, none⟩) t2).trans t3
          have T4 := (hb.cell (p := ⟨q, 1, none⟩) t2).trans t4
          have A1 := (hb.cell (p := ⟨g, 49, none⟩) lt).trans a1
          have B1 := (hb.cell (p := ⟨g, 48, none⟩) lt).trans b1
          by_cases hkn : k < l.length
          · rcases hab' k hkn with hlk | hlk
            · have hxk := strget l k 48 hlk
              have hJ2 : J + 2 ≤ N := by rw [drop_im l k 48 hlk] at hJN; simp [im] at hJN; omega
              clear hJN
              have hcp : ∀ ty, (Builtin.copy_ #[72, 72] ty #[.slice (some ⟨wq.heap.size, J, none⟩) (N - J) (N - J), .slice (some B) 2 e]).run Tryz.prog wr.drew = .ok (.int .i64 2) (wr.drew.setRow wq.heap.size ((cim l N k).toList.take J ++ [Value.int .u8 48, Value.int .u8 49] ++ (cim l N k).toList.drop (J + 2)).toArray) := fun ty => by
                have h := run_copy_row (P := Tryz.prog) wr.drew 72 72 ty 5 wq.heap.size J (N - J) (N - J) B 2 e (cim l N k) 5 [Value.int .u8 48, Value.int .u8 49] Tryz.underlying72 hs5 HROW.out (by show 2 = min 2 (N - J); omega)
                  (fun j v hj => by
                    match j, hj with
                    | 0, hj => rw [World.cell?_drew, hb.cell (by rw [addr_block]; exact b2)]; simp at hj; rw [← hj]; exact b3
                    | 1, hj => rw [World.cell?_drew, hb.cell (by rw [addr_block]; exact b2)]; simp at hj; rw [← hj]; exact b4)
                  (by rw [cells_im l N k (by rw [← HJ.out]; omega)]; simp; omega) (fun v hv => by simp at hv; first | (rcases hv with rfl | rfl <;> rfl) | (rw [hv]; rfl))
                exact h
              have hnx := cim_next l N k J 48 hlk HJ.out (by simp [im]; omega)
              have HX := Lib.hid hnx
              clear hnx
              go_wp2_with fail
              go_region
              go_wp2_with fail
              go_roundw
              case rel =>
                refine ⟨k + 1, by omega, by go_num, ?_, ?_, below_setRow hb.drew (HBQ.size) _⟩
                · rw [im_take l k 48 hlk, ← HJ.out]; simp [im]
                · rw [← HX.out]
                  refine (setRow_heap wr.drew wq.heap.size _ _ 5 (0, 0) HROW.out).trans ?_
                  simp [im, Lib.byteCells]
              case measure => simp [intOf]; omega
            · have hxk := strget l k 49 hlk
              have hJ2 : J + 1 ≤ N := by rw [drop_im l k 49 hlk] at hJN; simp [im] at hJN; omega
              clear hJN
              have hcp : ∀ ty, (Builtin.copy_ #[72, 72] ty #[.slice (some ⟨wq.heap.size, J, none⟩) (N - J) (N - J), .slice (some A) 1 d]).run Tryz.prog wr.drew = .ok (.int .i64 1) (wr.drew.setRow wq.heap.size ((cim l N k).toList.take J ++ [Value.int .u8 48] ++ (cim l N k).toList.drop (J + 1)).toArray) := fun ty => by
                have h := run_copy_row (P := Tryz.prog) wr.drew 72 72 ty 5 wq.heap.size J (N - J) (N - J) A 1 d (cim l N k) 5 [Value.int .u8 48] Tryz.underlying72 hs5 HROW.out (by show 1 = min 1 (N - J); omega)
                  (fun j v hj => by
                    match j, hj with
                    | 0, hj => rw [World.cell?_drew, hb.cell (by rw [addr_block]; exact a2)]; simp at hj; rw [← hj]; exact a3)
                  (by rw [cells_im l N k (by rw [← HJ.out]; omega)]; simp; omega) (fun v hv => by simp at hv; first | (rcases hv with rfl | rfl <;> rfl) | (rw [hv]; rfl))
                exact h
              have hnx := cim_next l N k J 49 hlk HJ.out (by simp [im]; omega)
              have HX := Lib.hid hnx
              clear hnx
              go_wp2_with fail
              go_region
              go_wp2_with fail
              go_roundw
              case rel =>
                refine ⟨k + 1, by omega, by go_num, ?_, ?_, below_setRow hb.drew (HBQ.size) _⟩
                · rw [im_take l k 49 hlk, ← HJ.out]; simp [im]
                · rw [← HX.out]
                  refine (setRow_heap wr.drew wq.heap.size _ _ 5 (0, 0) HROW.out).trans ?_
                  simp [im, Lib.byteCells]
              case measure => simp [intOf]; omega
          · obtain rfl : k = l.length := by omega
            have hcv : (convert 72 9 (.slice (some ⟨wq.heap.size, 0, none⟩) N N)).run Tryz.prog wr = .ok (.string (str (l.flatMap im))) wr := by
              have hNl : N = (l.flatMap im).length := by rw [HN0.out, HN.out, HC0.out]
              have h := run_convert_bytes_back (P := Tryz.prog) wr 72 9 5 ⟨wq.heap.size, 0, none⟩ N (l.flatMap im) Tryz.underlying72 Tryz.underlying5 Tryz.underlying9 (fun j hj => by
                rw [addr_head, cell_of_row _ _ j _ _ _ HROW.out]
                unfold cim
                rw [List.take_length, List.getElem?_toArray, List.getElem?_append_left (by rw [Lib.byteCells_length]; exact hj)]
                simp only [Lib.byteCells, List.getElem?_map, List.getElem?_eq_getElem hj, Option.map_some])
              rw [← hNl] at h
              exact h
            go_wp2_with fail
            go_ret
            exact ⟨rfl, hb⟩

  · have hd16 : decide ((16 : Int) ≤ (l.length : Int)) = false := decide_eq_false (by omega)
    go_enter Tryz.func105, Tryz.ntmps105
    go_wp2_with fail
    go_loop [5, 6, 10, 11] (fun new any i _ => ∃ k : Nat, k ≤ l.length ∧ i = .int .i64 k ∧ new = .int .i64 ((l.length + (l.take k).count 48 : Nat) : Int) ∧ ((k = 0 ∧ any = .bool false) ∨ (0 < k ∧ any = .bool true))) (fun _ _ i _ => l.length - (intOf i).toNat)
    case atStart => exact ⟨0, Nat.zero_le _, rfl, rfl, .inl ⟨rfl, rfl⟩⟩
    case round =>
      obtain ⟨k, hk, rfl, rfl, hany⟩ := hrel
      by_cases hkn : k < l.length
      · clear hany
        rcases hab' k hkn with hlk | hlk
        · have hxk := strget l k 48 hlk
          have hct : (l.take (k + 1)).count 48 = (l.take k).count 48 + 1 := by rw [List.take_add_one, hlk]; simp
          obtain ⟨C, hC⟩ : ∃ C, C = (l.take k).count 48 := ⟨_, rfl⟩
          have hC2 : C ≤ l.length := by rw [hC]; exact Nat.le_trans (List.count_le_length) (by rw [List.length_take]; omega)
          rw [← hC]
          have HC := Lib.hid hC
          have HCT := Lib.hid hct
          clear hC hct
          go_wp2_with fail
          go_round
          case rel => exact ⟨k + 1, by omega, by go_num, by rw [HCT.out, ← HC.out]; go_num, .inr ⟨by omega, rfl⟩⟩
          case measure => simp [intOf]; omega
        · have hxk := strget l k 49 hlk
          have hct : (l.take (k + 1)).count 48 = (l.take k).count 48 + 0 := by rw [List.take_add_one, hlk]; simp
          obtain ⟨C, hC⟩ : ∃ C, C = (l.take k).count 48 := ⟨_, rfl⟩
          have hC2 : C ≤ l.length := by rw [hC]; exact Nat.le_trans (List.count_le_length) (by rw [List.length_take]; omega)
          rw [← hC]
          have HC := Lib.hid hC
          have HCT := Lib.hid hct
          clear hC hct
          go_wp2_with fail
          go_round
          case rel => exact ⟨k + 1, by omega, by go_num, by rw [HCT.out, ← HC.out]; go_num, .inr ⟨by omega, rfl⟩⟩
          case measure => simp [intOf]; omega
      · obtain rfl : k = l.length := by omega
        rw [List.take_length, ← HC0.out, ← HN.out]
        rcases hany with ⟨h0, rfl⟩ | ⟨h0, rfl⟩
        · have hnil : l = [] := List.eq_nil_of_length_eq_zero h0
          have HNIL := Lib.hid hnil
          clear hnil
          go_wp2_with fail
          go_ret
          refine ⟨?_, Below.refl _ _⟩
          rw [HNIL.out]; rfl
        · have HBQ := Below.refl w.heap.size w
          go_wp2_with fail
          go_loopw [13, 14, 15] (fun j i _ wr => ∃ k : Nat, k ≤ l.length ∧ i = .int .i64 k ∧ j = .int .i64 (((l.take k).flatMap im).length : Nat) ∧ wr.heap[w.heap.size]? = some (.cells (cim l N k) 5 (0, 0)) ∧ Below w.heap.size w wr) (fun _ i _ _ => l.length - (intOf i).toNat)
          case atStart => exact ⟨0, Nat.zero_le _, rfl, rfl, by rw [heap_alloc_new, HM.out], HBQ.alloc HBQ.size _⟩
          case round =>
            obtain ⟨k, hk, rfl, rfl, hrow, hb⟩ := hrel
            obtain ⟨J, hJ⟩ : ∃ J, J = ((l.take k).flatMap im).length := ⟨_, rfl⟩
            have hJN : J + ((l.drop k).flatMap im).length = N := by
              rw [hJ, ← List.length_append, ← List.flatMap_append, List.take_append_drop, HN0.out, HN.out, HC0.out]
            have HROW := Lib.hid hrow
            rw [← hJ]
            have HJ := Lib.hid hJ
            clear hJ hrow
            have T1 := (hb.cell (p := ⟨g, 256, none⟩) lt).trans t1
            have T3 := (hb.cell (p := ⟨q, 0, none⟩) t2).trans t3
            have T4 := (hb.cell (p := ⟨q, 1, none⟩) t2).trans t4
            have A1 := (hb.cell (p := ⟨g, 49, none⟩) lt).trans a1
            have B1 := (hb.cell (p := ⟨g, 48, none⟩) lt).trans b1
            by_cases hkn : k < l.length
            · rcases hab' k hkn with hlk | hlk
              · have hxk := strget l k 48 hlk
                have hJ2 : J + 2 ≤ N := by rw [drop_im l k 48 hlk] at hJN; simp [im] at hJN; omega
                clear hJN
                have hcp : ∀ ty, (Builtin.copy_ #[72, 72] ty #[.slice (some ⟨w.heap.size, J, none⟩) (N - J) (N - J), .slice (some B) 2 e]).run Tryz.prog wr.drew = .ok (.int .i64 2) (wr.drew.setRow w.heap.size ((cim l N k).toList.take J ++ [Value.int .u8 48, Value.int .u8 49] ++ (cim l N k).toList.drop (J + 2)).toArray) := fun ty => by
                  have h := run_copy_row (P := Tryz.prog) wr.drew 72 72 ty 5 w.heap.size J (N - J) (N - J) B 2 e (cim l N k) 5 [Value.int .u8 48, Value.int .u8 49] Tryz.underlying72 hs5 HROW.out (by show 2 = min 2 (N - J); omega)
                    (fun j v hj => by
                      match j, hj with
                      | 0, hj => rw [World.cell?_drew, hb.cell (by rw [addr_block]; exact b2)]; simp at hj; rw [← hj]; exact b3
                      | 1, hj => rw [World.cell?_drew, hb.cell (by rw [addr_block]; exact b2)]; simp at hj; rw [← hj]; exact b4)
                    (by rw [cells_im l N k (by rw [← HJ.out]; omega)]; simp; omega) (fun v hv => by simp at hv; first | (rcases hv with rfl | rfl <;> rfl) | (rw [hv]; rfl))
                  exact h
                have hnx := cim_next l N k J 48 hlk HJ.out (by simp [im]; omega)
                have HX := Lib.hid hnx
                clear hnx
                go_wp2_with fail
                go_region
                go_wp2_with fail
                go_roundw
                case rel =>
                  refine ⟨k + 1, by omega, by go_num, ?_, ?_, below_setRow hb.drew (HBQ.size) _⟩
                  · rw [im_take l k 48 hlk, ← HJ.out]; simp [im]
                  · rw [← HX.out]
                    refine (setRow_heap wr.drew w.heap.size _ _ 5 (0, 0) HROW.out).trans ?_
                    simp [im, Lib.byteCells]
                case measure => simp [intOf]; omega
              · have hxk := strget l k 49 hlk
                have hJ2 : J + 1 ≤ N := by rw [drop_im l k 49 hlk] at hJN; simp [im] at hJN; omega
                clear hJN
                have hcp : ∀ ty, (Builtin.copy_ #[72, 72] ty #[.slice (some ⟨w.heap.size, J, none⟩) (N - J) (N - J), .slice (some A) 1 d]).run Tryz.prog wr.drew = .ok (.int .i64 1) (wr.drew.setRow w.heap.size ((cim l N k).toList.take J ++ [Value.int .u8 48] ++ (cim l N k).toList.drop (J + 1)).toArray) := fun ty => by
                  have h := run_copy_row (P := Tryz.prog) wr.drew 72 72 ty 5 w.heap.size J (N - J) (N - J) A 1 d (cim l N k) 5 [Value.int .u8 48] Tryz.underlying72 hs5 HROW.out (by show 1 = min 1 (N - J); omega)
                    (fun j v hj => by
                      match j, hj with
                      | 0, hj => rw [World.cell?_drew, hb.cell (by rw [addr_block]; exact a2)]; simp at hj; rw [← hj]; exact a3)
                    (by rw [cells_im l N k (by rw [← HJ.out]; omega)]; simp; omega) (fun v hv => by simp at hv; first | (rcases hv with rfl | rfl <;> rfl) | (rw [hv]; rfl))
                  exact h
                have hnx := cim_next l N k J 49 hlk HJ.out (by simp [im]; omega)
                have HX := Lib.hid hnx
                clear hnx
                go_wp2_with fail
                go_region
                go_wp2_with fail
                go_roundw
                case rel =>
                  refine ⟨k + 1, by omega, by go_num, ?_, ?_, below_setRow hb.drew (HBQ.size) _⟩
                  · rw [im_take l k 49 hlk, ← HJ.out]; simp [im]
                  · rw [← HX.out]
                    refine (setRow_heap wr.drew w.heap.size _ _ 5 (0, 0) HROW.out).trans ?_
                    simp [im, Lib.byteCells]
                case measure => simp [intOf]; omega
            · obtain rfl : k = l.length := by omega
              have hcv : (convert 72 9 (.slice (some ⟨w.heap.size, 0, none⟩) N N)).run Tryz.prog wr = .ok (.string (str (l.flatMap im))) wr := by
                have hNl : N = (l.flatMap im).length := by rw [HN0.out, HN.out, HC0.out]
                have h := run_convert_bytes_back (P := Tryz.prog) wr 72 9 5 ⟨w.heap.size, 0, none⟩ N (l.flatMap im) Tryz.underlying72 Tryz.underlying5 Tryz.underlying9 (fun j hj => by
                  rw [addr_head, cell_of_row _ _ j _ _ _ HROW.out]
                  unfold cim
                  rw [List.take_length, List.getElem?_toArray, List.getElem?_append_left (by rw [Lib.byteCells_length]; exact hj)]
                  simp only [Lib.byteCells, List.getElem?_map, List.getElem?_eq_getElem hj, Option.map_some])
                rw [← hNl] at h
                exact h
              go_wp2_with fail
              go_ret
              exact ⟨rfl, hb⟩
end Go.Proofs.YtkmnelmgckbmpaaGreatDoor
