/- The walks of parts.List, same, awake. -/
import Derived.Test.YtpgpkgnljoedaaaG
namespace Go.Proofs.Ytpgpkgnljoedaaa
open Go.RowKit

theorem prt_size : ∀ n, n ≤ 20 → (prt n n n).length ≤ 1000 := by decide +kernel
/-- all partitions of n -/
def allp (n : Nat) : List (List Int) := prt n n n

def Listed (p : Pl) (w : World) (n : Nat) (e : Ending) (w' : World) : Prop :=
  ∃ vo vs B', e = .returned (.tuple #[]) ∧ w'.heap[p.o]? = some (.cells #[vo] 22 (0, 0)) ∧ w'.ownsRow p.B 33 1 vo (allp n).length vs ∧ Elts w' B' vs (allp n) ∧ Below p.B w w'
set_option maxRecDepth 100000 in
set_option maxHeartbeats 4000000 in
theorem list_any56 (n o : Nat) (hn : n ≤ 20) (w : World) (ho : w.heap[o]? = some (.cells #[.slice none 0 0] 22 (0, 0))) :
    Calls Try.prog 56 #[.int .i64 n, .int .i64 n, .func (Fn.func 57) #[] #[.pointer (some ⟨o, 0, none⟩)]] w (Listed ⟨o, o, w.heap.size + 1, w.heap.size + 1 + 1, w.heap.size⟩ w n) := by
  have lo := ltOf ho
  have hp : Pl.Ok ⟨o, o, w.heap.size + 1, w.heap.size + 1 + 1, w.heap.size⟩ := by
    constructor <;> simp only <;> omega
  have HO := Lib.hid ho
  have HP := Lib.hid hp
  have HS := Lib.hid (prt_size n hn)
  clear ho hp
  go_enter Try.func56, Try.ntmps56
  go_wp2_with fail
  have hgs : GS ⟨o, o, w.heap.size + 1, w.heap.size + 1 + 1, w.heap.size⟩ (((w.alloc (Obj.cells #[Value.func (Fn.func 57) #[] #[Value.pointer (some { block := o, off := 0 })]] 55)).alloc (Obj.cells #[Value.slice none 0 0] 53)).alloc
      (Obj.cells #[Value.func (Fn.func 84) #[] #[Value.pointer (some { block := w.heap.size, off := 0 }), Value.pointer (some { block := w.heap.size + 1, off := 0 }), Value.pointer (some { block := w.heap.size + 1 + 1, off := 0 })]] 76))
      (.slice none 0 0) [] (.slice none 0 0) [] [] := by
    constructor
    · have := heap_alloc_new (w.alloc (Obj.cells #[Value.func (Fn.func 57) #[] #[Value.pointer (some { block := o, off := 0 })]] 55)) (Obj.cells #[Value.slice none 0 0] 53)
      rw [World.size_alloc] at this
      exact (Below.heap_alloc _ _ _ (by simp)).trans this
    · exact (Below.heap_alloc _ _ _ (by simp; omega)).trans ((Below.heap_alloc _ _ _ (by simp; omega)).trans ((Below.heap_alloc _ _ _ (by simp; omega)).trans HO.out))
    · have := heap_alloc_new ((w.alloc (Obj.cells #[Value.func (Fn.func 57) #[] #[Value.pointer (some { block := o, off := 0 })]] 55)).alloc (Obj.cells #[Value.slice none 0 0] 53)) (Obj.cells #[Value.func (Fn.func 84) #[] #[Value.pointer (some { block := w.heap.size, off := 0 }), Value.pointer (some { block := w.heap.size + 1, off := 0 }), Value.pointer (some { block := w.heap.size + 1 + 1, off := 0 })]] 76)
      rw [World.size_alloc, World.size_alloc] at this
      exact this
    · have := heap_alloc_new w (Obj.cells #[Value.func (Fn.func 57) #[] #[Value.pointer (some { block := o, off := 0 })]] 55)
      exact (Below.heap_alloc _ _ _ (by simp; omega)).trans ((Below.heap_alloc _ _ _ (by simp)).trans this)
    · simp; omega
    · exact Own.nil _ _
    · exact World.ownsRow_nil _ _ _ _
    · exact Elts.nil _ _
    · intro b e; simp [Value.ownBlock] at e
    · intro b e; simp [Value.ownBlock] at e
  refine (grow_any _ HP.out n n n (Nat.le_refl _) (by omega) (by omega) _ [] _ _ [] _ hgs (by simp; omega) (by have := HS.out; simp; omega)).mono ?_
  rintro e w1 ⟨vl, vo, vs, rfl, hg, hb⟩
  simp only [List.nil_append, List.map_id'] at hg
  have h1 := hg.ho
  have h2 := hg.row
  have h3 := hg.elts
  have H := Lib.hid (And.intro h1 (And.intro h2 (And.intro h3 hb)))
  clear h1 h2 h3 hb hg hgs
  go_wp2_with fail
  go_end0
  refine ⟨vo, vs, _, rfl, H.out.1, H.out.2.1, H.out.2.2.1, ?_⟩
  refine Below.trans ?_ H.out.2.2.2
  exact (((Below.refl _ _).alloc (Nat.le_of_lt lo) _).alloc (by simp; omega) _).alloc (by simp; omega) _

set_option maxRecDepth 100000 in
set_option maxHeartbeats 4000000 in
theorem List_ok (n : Nat) (hn : n ≤ 20) (w : World) :
    Calls Try.prog 17 #[.int .i64 n] w fun e w' => ∃ v, e = .returned (.tuple #[v, .int .i64 0]) ∧ IntsL w' v (allp n) ∧ Below w.heap.size w w' := by
  have HS := Lib.hid (prt_size n hn)
  have d1 : decide (20 < n) = false := decide_eq_false (by omega)
  go_enter Try.func17, Try.ntmps17
  go_wp2_with fail
  refine (list_any56 n w.heap.size hn _ (heap_alloc_new w _)).mono ?_
  rintro e w1 ⟨vo, vs, B', rfl, h1, h2, h3, h4⟩
  have c1 := cellOf h1
  have hi := intsL_of_own h2 h3 (by have := HS.out; unfold allp; omega)
  have HI := Lib.hid hi
  have HB := Lib.hid (((Below.refl w.heap.size w).alloc (Nat.le_refl _) _).trans h4)
  clear hi h1 h2 h3 h4
  obtain ⟨_, A, c, _, rfl, _⟩ := HI.out
  go_wp2_with fail
  go_ret2
  exact ⟨_, rfl, HI.out, HB.out⟩
set_option maxHeartbeats 1000000 in
theorem List_no (n : Int) (hn : n < 0 ∨ 20 < n) (w : World) :
    Calls Try.prog 17 #[.int .i64 n] w fun e w' => e = .returned (.tuple #[.slice none 0 0, .int .i64 2]) ∧ w = w' := by
  by_cases h0 : n < 0
  · have d0 : decide (n < 0) = true := decide_eq_true h0
    clear hn
    go_enter Try.func17, Try.ntmps17
    go_wp2_with fail
    go_ret2
    exact ⟨rfl, rfl⟩
  · have d0 : decide (n < 0) = false := decide_eq_false h0
    have d1 : decide (20 < n) = true := decide_eq_true (by omega)
    clear hn
    go_enter Try.func17, Try.ntmps17
    go_wp2_with fail
    go_ret2
    exact ⟨rfl, rfl⟩

set_option maxRecDepth 100000 in
set_option maxHeartbeats 4000000 in
theorem equalFunc_yes (v1 v2 : Value) (xss : List (List Int)) (w : World) (h1 : IntsL w v1 xss) (h2 : IntsL w v2 xss) :
    Calls Try.prog 61 #[v1, v2, .func (Fn.func 29) #[] #[]] w fun e w' => e = .returned (.bool true) ∧ Below w.heap.size w w' := by
  obtain ⟨hl, A1, c1, vs1, rfl, hc1, he1, hr1⟩ := h1
  obtain ⟨_, A2, c2, vs2, rfl, hc2, he2, hr2⟩ := h2
  have HR1 := Lib.hid hr1
  have HR2 := Lib.hid hr2
  have HE1 := Lib.hid he1
  have HE2 := Lib.hid he2
  clear hr1 hr2 he1 he2
  go_enter Try.func61, Try.ntmps61
  go_wp2_with fail
  go_loopw [17] (fun i wr => ∃ k : Nat, k ≤ xss.length ∧ i = .int .i64 k ∧ Below w.heap.size w wr) (fun i _ => xss.length - (intOf i).toNat)
  case atStart => exact ⟨0, Nat.zero_le _, rfl, Below.refl _ _⟩
  case round =>
    obtain ⟨k, hk, rfl, hb⟩ := hrel
    by_cases hlt : k < xss.length
    · obtain ⟨a1, rfl, hbl1, hcell1⟩ := HR1.out (by omega)
      obtain ⟨a2, rfl, hbl2, hcell2⟩ := HR2.out (by omega)
      have l1 : k < vs1.length := by rw [HE1.out.1]; exact hlt
      have l2 : k < vs2.length := by rw [HE2.out.1]; exact hlt
      have g1 := List.getElem?_eq_getElem l1
      have g2 := List.getElem?_eq_getElem l2
      have gx := List.getElem?_eq_getElem hlt
      have k1 := (hb.cell (p := a1.add k) (by rw [addr_block]; exact hbl1)).trans (hcell1 k _ g1)
      have k2 := (hb.cell (p := a2.add k) (by rw [addr_block]; exact hbl2)).trans (hcell2 k _ g2)
      have i1 := (HE1.out.2 k _ _ g1 gx).1.keep hb
      have i2 := (HE2.out.2 k _ _ g2 gx).1.keep hb
      generalize vs1[k] = s1 at *
      generalize vs2[k] = s2 at *
      generalize xss[k] = xs at *
      have I1 := Lib.hid i1
      have I2 := Lib.hid i2
      obtain ⟨_, B1, d1, rfl, _⟩ := i1
      obtain ⟨_, B2, d2, rfl, _⟩ := i2
      clear g1 g2 gx hcell1 hcell2 l1 l2
      go_wp2_with fail
      refine (equal_yes _ _ xs _ I1.out I2.out).mono ?_
      rintro e w1 ⟨rfl, hb1⟩
      have hb2 := hb.trans (hb1.mono hb.size)
      clear hb hb1 k1 k2
      go_wp2_with fail
      go_roundw
      case rel => exact ⟨k + 1, by omega, by go_num, hb2⟩
      case measure => simp [intOf]; omega
    · obtain rfl : k = xss.length := by omega
      go_wp2_with fail
      go_ret
      exact ⟨rfl, hb⟩
set_option maxHeartbeats 1000000 in
theorem same_yes (v1 v2 : Value) (xss : List (List Int)) (w : World) (h1 : IntsL w v1 xss) (h2 : IntsL w v2 xss) :
    Calls Try.prog 19 #[v1, v2] w fun e w' => e = .returned (.bool true) ∧ Below w.heap.size w w' := by
  have H1 := Lib.hid h1
  have H2 := Lib.hid h2
  obtain ⟨hl, A1, c1, vs1, rfl, _⟩ := h1
  obtain ⟨_, A2, c2, vs2, rfl, _⟩ := h2
  go_enter Try.func19, Try.ntmps19
  go_wp2_with fail
  refine (equalFunc_yes _ _ xss _ H1.out H2.out).mono ?_
  rintro e w1 ⟨rfl, hb⟩
  go_wp2_with fail
  go_ret
  exact ⟨rfl, hb⟩
theorem allp2 : allp 2 = [[1, 1], [2]] := by decide +kernel
/-- a literal of two rows -/
theorem intsL_lit2 {w : World} {s1 s2 : Value} {xs1 xs2 : List Int} (h1 : Ints w s1 xs1) (h2 : Ints w s2 xs2) (b1 : ∀ b, s1.ownBlock = some b → b < w.heap.size) (b2 : ∀ b, s2.ownBlock = some b → b < w.heap.size) :
    IntsL (w.alloc (.cells #[s1, s2] 33)) (.slice (some ⟨w.heap.size, 0, none⟩) 2 2) [xs1, xs2] := by
  refine ⟨by simp, _, _, [s1, s2], rfl, by simp, ?_, fun _ => ⟨_, rfl, by simp, fun j u hu => ?_⟩⟩
  · refine Elts.keep (w := w) (B := fun _ => True) ?_ (by simp) (fun b hlt _ => Below.heap_alloc w _ b hlt) (fun _ _ _ => trivial)
    exact Elts.append (vs := [s1]) (vs' := [s2]) (xss := [xs1]) (xss' := [xs2]) (Elts.one h1 (fun b e => ⟨b1 b e, trivial⟩)) (Elts.one h2 (fun b e => ⟨b2 b e, trivial⟩))
  · exact World.news_of_block (heap_alloc_new w (.cells #[s1, s2] 33)) j u (by simpa using hu)
set_option maxRecDepth 100000 in
set_option maxHeartbeats 2000000 in
theorem awake_any (w : World) : Calls Try.prog 21 #[] w fun e w' => e = .returned (.bool true) ∧ Below w.heap.size w w' := by
  go_enter Try.func21, Try.ntmps21
  go_wp2_with fail
  refine (List_ok 2 (by omega) _).mono ?_
  rintro e w1 ⟨v, rfl, hi, hb⟩
  rw [allp2] at hi
  have HI := Lib.hid hi
  obtain ⟨_, A, c, vs, rfl, _⟩ := hi
  have i1 : Ints ((w1.alloc (Obj.cells #[Value.int IntKind.i64 1, Value.int IntKind.i64 1] 3)).alloc (Obj.cells #[Value.int IntKind.i64 2] 3)) (.slice (some ⟨w1.heap.size, 0, none⟩) 2 2) [1, 1] :=
    (Ints.lit w1 #[.int .i64 1, .int .i64 1] [1, 1] 2 rfl rfl (by simp)).keep ((Below.refl _ _).alloc (Nat.le_refl _) _)
  have i2 := Ints.lit (w1.alloc (Obj.cells #[Value.int IntKind.i64 1, Value.int IntKind.i64 1] 3)) #[.int .i64 2] [2] 1 rfl rfl (by simp)
  rw [World.size_alloc] at i2
  have i3 := intsL_lit2 i1 i2 (fun b e => by have := ownBlock_some e; simp only at this; subst this; simp; omega) (fun b e => by have := ownBlock_some e; simp only at this; subst this; simp)
  rw [World.size_alloc, World.size_alloc] at i3
  have tb : Below w1.heap.size w1 (((w1.alloc (Obj.cells #[Value.int IntKind.i64 1, Value.int IntKind.i64 1] 3)).alloc (Obj.cells #[Value.int IntKind.i64 2] 3)).alloc
      (Obj.cells #[Value.slice (some { block := w1.heap.size, off := 0 }) 2 2, Value.slice (some { block := w1.heap.size + 1, off := 0 }) 1 1] 33)) :=
    (((Below.refl _ _).alloc (Nat.le_refl _) _).alloc (by simp) _).alloc (by simp; omega) _
  have HI2 := Lib.hid (HI.out.keep tb)
  have HI3 := Lib.hid i3
  have t2 := hb.trans (tb.mono hb.size)
  clear i1 i2 i3 tb
  go_wp2_with fail
  refine (same_yes _ _ [[1, 1], [2]] _ HI2.out HI3.out).mono ?_
  rintro e w2 ⟨rfl, hb2⟩
  go_wp2_with fail
  go_ret
  exact ⟨rfl, t2.trans (hb2.mono t2.size)⟩
end Go.Proofs.Ytpgpkgnljoedaaa
