/- obey. -/
import Derived.Test.YtklnnpacfjnnlaaGreatDoorFo
import Derived.Laws.EntriesVeiled
namespace Go.Proofs.YtklnnpacfjnnlaaGreatDoor
open Go.RowKit
theorem alloc_one (w : World) (o : Obj) : Below w.heap.size w (w.alloc o) ∧ (w.alloc o).heap.size = w.heap.size + 1 :=
  ⟨(Below.refl _ _).alloc (Nat.le_refl _) _, World.size_alloc _ _⟩
theorem alloc_two (w : World) (a b : Value) (t : TypeId) : (w.alloc (.cells #[a, b] t)).cell? ⟨w.heap.size, 0, none⟩ = some a ∧ (w.alloc (.cells #[a, b] t)).cell? ⟨w.heap.size, 1, none⟩ = some b := by
  rw [World.cell?_alloc_at _ _ _ _ (by simp), World.cell?_alloc_at _ _ _ _ (by simp)]
  exact ⟨rfl, rfl⟩
set_option maxHeartbeats 4000000 in
set_option maxRecDepth 100000 in
theorem obey_meth (f : Nat) (x : Value) (so text : ByteArray) (r : Option (List ByteArray × List Int)) (w : World) (Q : Ending → World → Prop)
    (hcf : ∀ args w, (callFunc f args).run Tryz.prog w = .ok (.enter f args) w)
    (hf : ∀ w1, Below w.heap.size w w1 → Calls Tryz.prog 124 #[.string text, .string so] w1 (FormPost w1 r))
    (hnone : r = none → ∀ w', Below w.heap.size w w' → Q (.returned (.tuple #[.string ⟨#[]⟩, .int .i64 3])) w')
    (hsome : ∀ p, r = some p → ∀ w1 v1 v2, Below w.heap.size w w1 → Rw stEnc 9 w1 w.heap.size v1 p.1 → Own w1 w.heap.size v2 p.2 → Calls Tryz.prog f #[x, .agg #[v1, v2]] w1 fun e w' => ∃ a b, e = .returned (.tuple #[.string a, .int .i64 b]) ∧ Q e w') :
    Calls Tryz.prog 77 #[.agg #[.string so, .func (.func f) #[x] #[]], .string text] w Q := by
  have hnn : ∀ w, (binOp .eql 108 (.func (.func f) #[x] #[]) .nilFunc).run Tryz.prog w = .ok (.bool false) w := fun w => by kernel_rfl
  have hal := alloc_one w (.cells #[.string so, .func (.func f) #[x] #[]] 110)
  cases r with
  | none =>
    have HF := Lib.hid (hf _ hal.1)
    have HN := Lib.hid (hnone rfl)
    have HAL := Lib.hid hal
    have HAC := Lib.hid (alloc_two w (.string so) (.func (.func f) #[x] #[]) 110)
    clear hf hnone hsome hal
    go_enter Tryz.func77, Tryz.ntmps77
    go_wp2_with (
      go_at_call 124
      (with_reducible refine HF.out.mono ?_)
      rintro e w2 ⟨hb2, he⟩
      dsimp only at he
      subst he
      have HB2 := Lib.hid (HAL.out.1.trans (hb2.mono (by rw [HAL.out.2]; omega)))
      clear hb2)
    exact HN.out _ (HB2.out.alloc HB2.out.size _)
  | some p =>
    obtain ⟨ns, xs⟩ := p
    have HF := Lib.hid (hf _ hal.1)
    have HS := Lib.hid (hsome _ rfl)
    have HAL := Lib.hid hal
    have HAC := Lib.hid (alloc_two w (.string so) (.func (.func f) #[x] #[]) 110)
    clear hf hnone hsome hal
    go_enter Tryz.func77, Tryz.ntmps77
    go_wp2_with (first
      | (go_at_call 124
         (with_reducible refine HF.out.mono ?_)
         rintro e w2 ⟨hb2, he⟩
         dsimp only at he
         obtain ⟨v1, v2, he, hr1, hr2⟩ := he
         subst he
         obtain ⟨A1, k1, e1⟩ := hr1.form
         obtain ⟨A2, n2, k2, e2⟩ := hr2.isSlice
         subst e1
         subst e2
         have c0 := (hb2.cell (p := ⟨w.heap.size, 0, none⟩) (by show w.heap.size < _; rw [HAL.out.2]; omega)).trans HAC.out.1
         have c1 := (hb2.cell (p := ⟨w.heap.size, 1, none⟩) (by show w.heap.size < _; rw [HAL.out.2]; omega)).trans HAC.out.2
         have sz2 := hb2.size
         rw [HAL.out.2] at sz2
         have hlt : w.heap.size < w2.heap.size := by omega
         have hlt0 : (⟨w.heap.size, 1, none⟩ : Addr).block < w2.heap.size := hlt
         have HB2 := Lib.hid (HAL.out.1.trans (hb2.mono (by rw [HAL.out.2]; omega)))
         have HR1 := Lib.hid (hr1.base (Y := w.heap.size) (by rw [HAL.out.2]; omega))
         have HR2 := Lib.hid (hr2.base (b2 := w.heap.size) (by rw [HAL.out.2]; omega))
         clear hr1 hr2 hb2)
      | (refine (HS.out _ _ _ (HB2.out.alloc HB2.out.size _) (HR1.out.alloc _) (HR2.out.alloc _)).mono ?_
         rintro e w3 ⟨a, b, rfl, hq⟩))
    exact hq
set_option maxHeartbeats 4000000 in
set_option maxRecDepth 100000 in
theorem obey_clos (f : Nat) (x : Value) (so text : ByteArray) (r : Option (List ByteArray × List Int)) (w : World) (Q : Ending → World → Prop)
    (hcf : ∀ args w, (callFunc f args).run Tryz.prog w = .ok (.enter f args) w)
    (hf : ∀ w1, Below w.heap.size w w1 → Calls Tryz.prog 124 #[.string text, .string so] w1 (FormPost w1 r))
    (hnone : r = none → ∀ w', Below w.heap.size w w' → Q (.returned (.tuple #[.string ⟨#[]⟩, .int .i64 3])) w')
    (hsome : ∀ p, r = some p → ∀ w1 v1 v2, Below w.heap.size w w1 → Rw stEnc 9 w1 w.heap.size v1 p.1 → Own w1 w.heap.size v2 p.2 → Calls Tryz.prog f #[.agg #[v1, v2], x] w1 fun e w' => ∃ a b, e = .returned (.tuple #[.string a, .int .i64 b]) ∧ Q e w') :
    Calls Tryz.prog 77 #[.agg #[.string so, .func (.func f) #[] #[x]], .string text] w Q := by
  have hnn : ∀ w, (binOp .eql 108 (.func (.func f) #[] #[x]) .nilFunc).run Tryz.prog w = .ok (.bool false) w := fun w => by kernel_rfl
  have hal := alloc_one w (.cells #[.string so, .func (.func f) #[] #[x]] 110)
  cases r with
  | none =>
    have HF := Lib.hid (hf _ hal.1)
    have HN := Lib.hid (hnone rfl)
    have HAL := Lib.hid hal
    have HAC := Lib.hid (alloc_two w (.string so) (.func (.func f) #[] #[x]) 110)
    clear hf hnone hsome hal
    go_enter Tryz.func77, Tryz.ntmps77
    go_wp2_with (
      go_at_call 124
      (with_reducible refine HF.out.mono ?_)
      rintro e w2 ⟨hb2, he⟩
      dsimp only at he
      subst he
      have HB2 := Lib.hid (HAL.out.1.trans (hb2.mono (by rw [HAL.out.2]; omega)))
      clear hb2)
    exact HN.out _ (HB2.out.alloc HB2.out.size _)
  | some p =>
    obtain ⟨ns, xs⟩ := p
    have HF := Lib.hid (hf _ hal.1)
    have HS := Lib.hid (hsome _ rfl)
    have HAL := Lib.hid hal
    have HAC := Lib.hid (alloc_two w (.string so) (.func (.func f) #[] #[x]) 110)
    clear hf hnone hsome hal
    go_enter Tryz.func77, Tryz.ntmps77
    go_wp2_with (first
      | (go_at_call 124
         (with_reducible refine HF.out.mono ?_)
         rintro e w2 ⟨hb2, he⟩
         dsimp only at he
         obtain ⟨v1, v2, he, hr1, hr2⟩ := he
         subst he
         obtain ⟨A1, k1, e1⟩ := hr1.form
         obtain ⟨A2, n2, k2, e2⟩ := hr2.isSlice
         subst e1
         subst e2
         have c0 := (hb2.cell (p := ⟨w.heap.size, 0, none⟩) (by show w.heap.size < _; rw [HAL.out.2]; omega)).trans HAC.out.1
         have c1 := (hb2.cell (p := ⟨w.heap.size, 1, none⟩) (by show w.heap.size < _; rw [HAL.out.2]; omega)).trans HAC.out.2
         have sz2 := hb2.size
         rw [HAL.out.2] at sz2
         have hlt : w.heap.size < w2.heap.size := by omega
         have hlt0 : (⟨w.heap.size, 1, none⟩ : Addr).block < w2.heap.size := hlt
         have HB2 := Lib.hid (HAL.out.1.trans (hb2.mono (by rw [HAL.out.2]; omega)))
         have HR1 := Lib.hid (hr1.base (Y := w.heap.size) (by rw [HAL.out.2]; omega))
         have HR2 := Lib.hid (hr2.base (b2 := w.heap.size) (by rw [HAL.out.2]; omega))
         clear hr1 hr2 hb2)
      | (refine (HS.out _ _ _ (HB2.out.alloc HB2.out.size _) (HR1.out.alloc _) (HR2.out.alloc _)).mono ?_
         rintro e w3 ⟨a, b, rfl, hq⟩))
    exact hq
set_option maxHeartbeats 4000000 in
set_option maxRecDepth 100000 in
theorem obey_fun (f : Nat) (so text : ByteArray) (r : Option (List ByteArray × List Int)) (w : World) (Q : Ending → World → Prop)
    (hcf : ∀ args w, (callFunc f args).run Tryz.prog w = .ok (.enter f args) w)
    (hf : ∀ w1, Below w.heap.size w w1 → Calls Tryz.prog 124 #[.string text, .string so] w1 (FormPost w1 r))
    (hnone : r = none → ∀ w', Below w.heap.size w w' → Q (.returned (.tuple #[.string ⟨#[]⟩, .int .i64 3])) w')
    (hsome : ∀ p, r = some p → ∀ w1 v1 v2, Below w.heap.size w w1 → Rw stEnc 9 w1 w.heap.size v1 p.1 → Own w1 w.heap.size v2 p.2 → Calls Tryz.prog f #[.agg #[v1, v2]] w1 fun e w' => ∃ a b, e = .returned (.tuple #[.string a, .int .i64 b]) ∧ Q e w') :
    Calls Tryz.prog 77 #[.agg #[.string so, .func (.func f) #[] #[]], .string text] w Q := by
  have hnn : ∀ w, (binOp .eql 108 (.func (.func f) #[] #[]) .nilFunc).run Tryz.prog w = .ok (.bool false) w := fun w => by kernel_rfl
  have hal := alloc_one w (.cells #[.string so, .func (.func f) #[] #[]] 110)
  cases r with
  | none =>
    have HF := Lib.hid (hf _ hal.1)
    have HN := Lib.hid (hnone rfl)
    have HAL := Lib.hid hal
    have HAC := Lib.hid (alloc_two w (.string so) (.func (.func f) #[] #[]) 110)
    clear hf hnone hsome hal
    go_enter Tryz.func77, Tryz.ntmps77
    go_wp2_with (
      go_at_call 124
      (with_reducible refine HF.out.mono ?_)
      rintro e w2 ⟨hb2, he⟩
      dsimp only at he
      subst he
      have HB2 := Lib.hid (HAL.out.1.trans (hb2.mono (by rw [HAL.out.2]; omega)))
      clear hb2)
    exact HN.out _ (HB2.out.alloc HB2.out.size _)
  | some p =>
    obtain ⟨ns, xs⟩ := p
    have HF := Lib.hid (hf _ hal.1)
    have HS := Lib.hid (hsome _ rfl)
    have HAL := Lib.hid hal
    have HAC := Lib.hid (alloc_two w (.string so) (.func (.func f) #[] #[]) 110)
    clear hf hnone hsome hal
    go_enter Tryz.func77, Tryz.ntmps77
    go_wp2_with (first
      | (go_at_call 124
         (with_reducible refine HF.out.mono ?_)
         rintro e w2 ⟨hb2, he⟩
         dsimp only at he
         obtain ⟨v1, v2, he, hr1, hr2⟩ := he
         subst he
         obtain ⟨A1, k1, e1⟩ := hr1.form
         obtain ⟨A2, n2, k2, e2⟩ := hr2.isSlice
         subst e1
         subst e2
         have c0 := (hb2.cell (p := ⟨w.heap.size, 0, none⟩) (by show w.heap.size < _; rw [HAL.out.2]; omega)).trans HAC.out.1
         have c1 := (hb2.cell (p := ⟨w.heap.size, 1, none⟩) (by show w.heap.size < _; rw [HAL.out.2]; omega)).trans HAC.out.2
         have sz2 := hb2.size
         rw [HAL.out.2] at sz2
         have hlt : w.heap.size < w2.heap.size := by omega
         have hlt0 : (⟨w.heap.size, 1, none⟩ : Addr).block < w2.heap.size := hlt
         have HB2 := Lib.hid (HAL.out.1.trans (hb2.mono (by rw [HAL.out.2]; omega)))
         have HR1 := Lib.hid (hr1.base (Y := w.heap.size) (by rw [HAL.out.2]; omega))
         have HR2 := Lib.hid (hr2.base (b2 := w.heap.size) (by rw [HAL.out.2]; omega))
         clear hr1 hr2 hb2)
      | (refine (HS.out _ _ _ (HB2.out.alloc HB2.out.size _) (HR1.out.alloc _) (HR2.out.alloc _)).mono ?_
         rintro e w3 ⟨a, b, rfl, hq⟩))
    exact hq
set_option maxHeartbeats 4000000 in
set_option maxRecDepth 100000 in
theorem obey_nil (so text : ByteArray) (w : World) :
    Calls Tryz.prog 77 #[.agg #[.string so, .nilFunc], .string text] w fun e w' => e = .returned (.tuple #[.string ⟨#[]⟩, .int .i64 3]) ∧ Below w.heap.size w w' := by
  have hnn : ∀ w, (binOp .eql 108 .nilFunc .nilFunc).run Tryz.prog w = .ok (.bool true) w := fun w => by kernel_rfl
  go_enter Tryz.func77, Tryz.ntmps77
  go_wp2_with fail
  first
    | (go_ret2; exact ⟨rfl, (Below.refl _ _).alloc (Nat.le_refl _) _⟩)
    | exact ⟨rfl, (Below.refl _ _).alloc (Nat.le_refl _) _⟩
end Go.Proofs.YtklnnpacfjnnlaaGreatDoor
