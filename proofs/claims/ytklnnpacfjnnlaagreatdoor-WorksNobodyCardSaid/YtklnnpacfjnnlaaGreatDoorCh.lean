/- The rules of changes, of questions. -/
import Derived.Test.YtklnnpacfjnnlaaGreatDoorSy
import Derived.Laws.EntriesVeiled
namespace Go.Proofs.YtklnnpacfjnnlaaGreatDoor
open Go.RowKit
/-- the rule of a change at the state s -/
def changeOf (s b : Nat) (wd : ByteArray) : ByteArray × Value :=
  if (wd.toList == [118, 97, 116]) = true then (⟨#[110, 100, 100]⟩, .func (.func 156) #[.pointer (some ⟨s, 0, none⟩)] #[]) else
  if (wd.toList == [103, 114, 111, 119, 101, 114]) = true then (⟨#[110, 100, 100]⟩, .func (.func 157) #[.pointer (some ⟨s, 0, none⟩)] #[]) else
  if (wd.toList == [112, 97, 99, 107]) = true then (⟨#[110, 100, 43]⟩, .func (.func 158) #[.pointer (some ⟨s, 0, none⟩)] #[]) else
  if (wd.toList == [103, 114, 105, 100]) = true then (⟨#[115, 115, 115, 115]⟩, .func (.func 159) #[.pointer (some ⟨s, 0, none⟩)] #[]) else
  if (wd.toList == [99, 114, 97, 116, 101]) = true then (⟨#[115, 115]⟩, .func (.func 160) #[.pointer (some ⟨s, 0, none⟩)] #[]) else
  if (wd.toList == [100, 114, 111, 112]) = true then (⟨#[110]⟩, .func (.func 161) #[.pointer (some ⟨s, 0, none⟩)] #[]) else
  (⟨#[]⟩, .nilFunc)
/-- the rule of a question at the state s, which block b names -/
def questionOf (s b : Nat) (wd : ByteArray) : ByteArray × Value :=
  if (wd.toList == [115, 116, 105, 114]) = true then (⟨#[100]⟩, .func (.func 105) #[.pointer (some ⟨s, 0, none⟩)] #[]) else
  if (wd.toList == [105, 100, 108, 101]) = true then (⟨#[]⟩, .func (.func 106) #[.pointer (some ⟨s, 0, none⟩)] #[]) else
  if (wd.toList == [114, 101, 115, 116]) = true then (⟨#[]⟩, .func (.func 107) #[.pointer (some ⟨s, 0, none⟩)] #[]) else
  if (wd.toList == [115, 117, 109]) = true then (⟨#[110]⟩, .func (.func 108) #[.pointer (some ⟨s, 0, none⟩)] #[]) else
  if (wd.toList == [98, 111, 120]) = true then (⟨#[110]⟩, .func (.func 109) #[.pointer (some ⟨s, 0, none⟩)] #[]) else
  if (wd.toList == [99, 111, 114, 101]) = true then (⟨#[110, 100]⟩, .func (.func 110) #[.pointer (some ⟨s, 0, none⟩)] #[]) else
  if (wd.toList == [110, 101, 97, 114]) = true then (⟨#[115, 115]⟩, .func (.func 111) #[] #[.pointer (some ⟨b, 0, none⟩)]) else
  if (wd.toList == [99, 114, 97, 116, 101, 115]) = true then (⟨#[]⟩, .func (.func 114) #[.pointer (some ⟨s, 0, none⟩)] #[]) else
  if (wd.toList == [98, 114, 105, 110, 101]) = true then (⟨#[100, 100]⟩, .func (.func 115) #[] #[]) else
  if (wd.toList == [108, 97, 98, 101, 108]) = true then (⟨#[100]⟩, .func (.func 116) #[] #[]) else
  if (wd.toList == [114, 111, 111, 116]) = true then (⟨#[100, 100]⟩, .func (.func 118) #[] #[]) else
  if (wd.toList == [108, 105, 102, 116]) = true then (⟨#[115, 100, 100]⟩, .func (.func 120) #[] #[]) else
  if (wd.toList == [115, 104, 97, 112, 101]) = true then (⟨#[100, 100, 100]⟩, .func (.func 122) #[] #[]) else
  (⟨#[]⟩, .nilFunc)
set_option maxHeartbeats 4000000 in
set_option maxRecDepth 100000 in
theorem change_any (s : Nat) (wd : ByteArray) (w : World) :
    Calls Tryz.prog 100 #[.pointer (some ⟨s, 0, none⟩), .string wd] w fun e w' => e = .returned (.agg #[.string (changeOf s w.heap.size wd).1, (changeOf s w.heap.size wd).2]) ∧ Below w.heap.size w w' := by
  cases h0 : (wd.toList == [118, 97, 116]) with
  | true =>
    have hr : changeOf s w.heap.size wd = (⟨#[110, 100, 100]⟩, .func (.func 156) #[.pointer (some ⟨s, 0, none⟩)] #[]) := by unfold changeOf; simp only [h0, if_true, Bool.false_eq_true, if_false]
    rw [hr]
    clear hr
    go_enter Tryz.func100, Tryz.ntmps100
    go_wp2_with fail
    refine bodyPost_ret (v := .agg #[.string ⟨#[110, 100, 100]⟩, .func (.func 156) #[.pointer (some ⟨s, 0, none⟩)] #[]]) (by simp [results, Tryz.results100, go_sem]) rfl ⟨rfl, (Below.refl _ w).alloc (Nat.le_refl _) _⟩
  | false =>
    cases h1 : (wd.toList == [103, 114, 111, 119, 101, 114]) with
    | true =>
      have hr : changeOf s w.heap.size wd = (⟨#[110, 100, 100]⟩, .func (.func 157) #[.pointer (some ⟨s, 0, none⟩)] #[]) := by unfold changeOf; simp only [h0, h1, if_true, Bool.false_eq_true, if_false]
      rw [hr]
      clear hr
      go_enter Tryz.func100, Tryz.ntmps100
      go_wp2_with fail
      refine bodyPost_ret (v := .agg #[.string ⟨#[110, 100, 100]⟩, .func (.func 157) #[.pointer (some ⟨s, 0, none⟩)] #[]]) (by simp [results, Tryz.results100, go_sem]) rfl ⟨rfl, (Below.refl _ w).alloc (Nat.le_refl _) _⟩
    | false =>
      cases h2 : (wd.toList == [112, 97, 99, 107]) with
      | true =>
        have hr : changeOf s w.heap.size wd = (⟨#[110, 100, 43]⟩, .func (.func 158) #[.pointer (some ⟨s, 0, none⟩)] #[]) := by unfold changeOf; simp only [h0, h1, h2, if_true, Bool.false_eq_true, if_false]
        rw [hr]
        clear hr
        go_enter Tryz.func100, Tryz.ntmps100
        go_wp2_with fail
        refine bodyPost_ret (v := .agg #[.string ⟨#[110, 100, 43]⟩, .func (.func 158) #[.pointer (some ⟨s, 0, none⟩)] #[]]) (by simp [results, Tryz.results100, go_sem]) rfl ⟨rfl, (Below.refl _ w).alloc (Nat.le_refl _) _⟩
      | false =>
        cases h3 : (wd.toList == [103, 114, 105, 100]) with
        | true =>
          have hr : changeOf s w.heap.size wd = (⟨#[115, 115, 115, 115]⟩, .func (.func 159) #[.pointer (some ⟨s, 0, none⟩)] #[]) := by unfold changeOf; simp only [h0, h1, h2, h3, if_true, Bool.false_eq_true, if_false]
          rw [hr]
          clear hr
          go_enter Tryz.func100, Tryz.ntmps100
          go_wp2_with fail
          refine bodyPost_ret (v := .agg #[.string ⟨#[115, 115, 115, 115]⟩, .func (.func 159) #[.pointer (some ⟨s, 0, none⟩)] #[]]) (by simp [results, Tryz.results100, go_sem]) rfl ⟨rfl, (Below.refl _ w).alloc (Nat.le_refl _) _⟩
        | false =>
          cases h4 : (wd.toList == [99, 114, 97, 116, 101]) with
          | true =>
            have hr : changeOf s w.heap.size wd = (⟨#[115, 115]⟩, .func (.func 160) #[.pointer (some ⟨s, 0, none⟩)] #[]) := by unfold changeOf; simp only [h0, h1, h2, h3, h4, if_true, Bool.false_eq_true, if_false]
            rw [hr]
            clear hr
            go_enter Tryz.func100, Tryz.ntmps100
            go_wp2_with fail
            refine bodyPost_ret (v := .agg #[.string ⟨#[115, 115]⟩, .func (.func 160) #[.pointer (some ⟨s, 0, none⟩)] #[]]) (by simp [results, Tryz.results100, go_sem]) rfl ⟨rfl, (Below.refl _ w).alloc (Nat.le_refl _) _⟩
          | false =>
            cases h5 : (wd.toList == [100, 114, 111, 112]) with
            | true =>
              have hr : changeOf s w.heap.size wd = (⟨#[110]⟩, .func (.func 161) #[.pointer (some ⟨s, 0, none⟩)] #[]) := by unfold changeOf; simp only [h0, h1, h2, h3, h4, h5, if_true, Bool.false_eq_true, if_false]
              rw [hr]
              clear hr
              go_enter Tryz.func100, Tryz.ntmps100
              go_wp2_with fail
              refine bodyPost_ret (v := .agg #[.string ⟨#[110]⟩, .func (.func 161) #[.pointer (some ⟨s, 0, none⟩)] #[]]) (by simp [results, Tryz.results100, go_sem]) rfl ⟨rfl, (Below.refl _ w).alloc (Nat.le_refl _) _⟩
            | false =>
              have hr : changeOf s w.heap.size wd = (⟨#[]⟩, .nilFunc) := by unfold changeOf; simp only [h0, h1, h2, h3, h4, h5, if_true, Bool.false_eq_true, if_false]
              rw [hr]
              clear hr
              go_enter Tryz.func100, Tryz.ntmps100
              go_wp2_with fail
              refine bodyPost_ret (v := .agg #[.string ⟨#[]⟩, .nilFunc]) (by simp [results, Tryz.results100, go_sem]) rfl ⟨rfl, (Below.refl _ w).alloc (Nat.le_refl _) _⟩
set_option maxHeartbeats 4000000 in
set_option maxRecDepth 100000 in
theorem question_any (s : Nat) (wd : ByteArray) (w : World) :
    Calls Tryz.prog 76 #[.pointer (some ⟨s, 0, none⟩), .string wd] w fun e w' => e = .returned (.agg #[.string (questionOf s w.heap.size wd).1, (questionOf s w.heap.size wd).2]) ∧ Below w.heap.size w w' ∧ w'.cell? ⟨w.heap.size, 0, none⟩ = some (.pointer (some ⟨s, 0, none⟩)) := by
  cases h0 : (wd.toList == [115, 116, 105, 114]) with
  | true =>
    have hr : questionOf s w.heap.size wd = (⟨#[100]⟩, .func (.func 105) #[.pointer (some ⟨s, 0, none⟩)] #[]) := by unfold questionOf; simp only [h0, if_true, Bool.false_eq_true, if_false]
    rw [hr]
    clear hr
    go_enter Tryz.func76, Tryz.ntmps76
    go_wp2_with fail
    refine bodyPost_ret (v := .agg #[.string ⟨#[100]⟩, .func (.func 105) #[.pointer (some ⟨s, 0, none⟩)] #[]]) (by simp [results, Tryz.results76, go_sem]) rfl ⟨rfl, ((Below.refl _ w).alloc (Nat.le_refl _) _).alloc (by simp) _, by rw [World.cell?_alloc_past _ _ _ (by simp), World.cell?_alloc_at _ _ _ _ (by simp)]; rfl⟩
  | false =>
    cases h1 : (wd.toList == [105, 100, 108, 101]) with
    | true =>
      have hr : questionOf s w.heap.size wd = (⟨#[]⟩, .func (.func 106) #[.pointer (some ⟨s, 0, none⟩)] #[]) := by unfold questionOf; simp only [h0, h1, if_true, Bool.false_eq_true, if_false]
      rw [hr]
      clear hr
      go_enter Tryz.func76, Tryz.ntmps76
      go_wp2_with fail
      refine bodyPost_ret (v := .agg #[.string ⟨#[]⟩, .func (.func 106) #[.pointer (some ⟨s, 0, none⟩)] #[]]) (by simp [results, Tryz.results76, go_sem]) rfl ⟨rfl, ((Below.refl _ w).alloc (Nat.le_refl _) _).alloc (by simp) _, by rw [World.cell?_alloc_past _ _ _ (by simp), World.cell?_alloc_at _ _ _ _ (by simp)]; rfl⟩
    | false =>
      cases h2 : (wd.toList == [114, 101, 115, 116]) with
      | true =>
        have hr : questionOf s w.heap.size wd = (⟨#[]⟩, .func (.func 107) #[.pointer (some ⟨s, 0, none⟩)] #[]) := by unfold questionOf; simp only [h0, h1, h2, if_true, Bool.false_eq_true, if_false]
        rw [hr]
        clear hr
        go_enter Tryz.func76, Tryz.ntmps76
        go_wp2_with fail
        refine bodyPost_ret (v := .agg #[.string ⟨#[]⟩, .func (.func 107) #[.pointer (some ⟨s, 0, none⟩)] #[]]) (by simp [results, Tryz.results76, go_sem]) rfl ⟨rfl, ((Below.refl _ w).alloc (Nat.le_refl _) _).alloc (by simp) _, by rw [World.cell?_alloc_past _ _ _ (by simp), World.cell?_alloc_at _ _ _ _ (by simp)]; rfl⟩
      | false =>
        cases h3 : (wd.toList == [115, 117, 109]) with
        | true =>
          have hr : questionOf s w.heap.size wd = (⟨#[110]⟩, .func (.func 108) #[.pointer (some ⟨s, 0, none⟩)] #[]) := by unfold questionOf; simp only [h0, h1, h2, h3, if_true, Bool.false_eq_true, if_false]
          rw [hr]
          clear hr
          go_enter Tryz.func76, Tryz.ntmps76
          go_wp2_with fail
          refine bodyPost_ret (v := .agg #[.string ⟨#[110]⟩, .func (.func 108) #[.pointer (some ⟨s, 0, none⟩)] #[]]) (by simp [results, Tryz.results76, go_sem]) rfl ⟨rfl, ((Below.refl _ w).alloc (Nat.le_refl _) _).alloc (by simp) _, by rw [World.cell?_alloc_past _ _ _ (by simp), World.cell?_alloc_at _ _ _ _ (by simp)]; rfl⟩
        | false =>
          cases h4 : (wd.toList == [98, 111, 120]) with
          | true =>
            have hr : questionOf s w.heap.size wd = (⟨#[110]⟩, .func (.func 109) #[.pointer (some ⟨s, 0, none⟩)] #[]) := by unfold questionOf; simp only [h0, h1, h2, h3, h4, if_true, Bool.false_eq_true, if_false]
            rw [hr]
            clear hr
            go_enter Tryz.func76, Tryz.ntmps76
            go_wp2_with fail
            refine bodyPost_ret (v := .agg #[.string ⟨#[110]⟩, .func (.func 109) #[.pointer (some ⟨s, 0, none⟩)] #[]]) (by simp [results, Tryz.results76, go_sem]) rfl ⟨rfl, ((Below.refl _ w).alloc (Nat.le_refl _) _).alloc (by simp) _, by rw [World.cell?_alloc_past _ _ _ (by simp), World.cell?_alloc_at _ _ _ _ (by simp)]; rfl⟩
          | false =>
            cases h5 : (wd.toList == [99, 111, 114, 101]) with
            | true =>
              have hr : questionOf s w.heap.size wd = (⟨#[110, 100]⟩, .func (.func 110) #[.pointer (some ⟨s, 0, none⟩)] #[]) := by unfold questionOf; simp only [h0, h1, h2, h3, h4, h5, if_true, Bool.false_eq_true, if_false]
              rw [hr]
              clear hr
              go_enter Tryz.func76, Tryz.ntmps76
              go_wp2_with fail
              refine bodyPost_ret (v := .agg #[.string ⟨#[110, 100]⟩, .func (.func 110) #[.pointer (some ⟨s, 0, none⟩)] #[]]) (by simp [results, Tryz.results76, go_sem]) rfl ⟨rfl, ((Below.refl _ w).alloc (Nat.le_refl _) _).alloc (by simp) _, by rw [World.cell?_alloc_past _ _ _ (by simp), World.cell?_alloc_at _ _ _ _ (by simp)]; rfl⟩
            | false =>
              cases h6 : (wd.toList == [110, 101, 97, 114]) with
              | true =>
                have hr : questionOf s w.heap.size wd = (⟨#[115, 115]⟩, .func (.func 111) #[] #[.pointer (some ⟨w.heap.size, 0, none⟩)]) := by unfold questionOf; simp only [h0, h1, h2, h3, h4, h5, h6, if_true, Bool.false_eq_true, if_false]
                rw [hr]
                clear hr
                go_enter Tryz.func76, Tryz.ntmps76
                go_wp2_with fail
                refine bodyPost_ret (v := .agg #[.string ⟨#[115, 115]⟩, .func (.func 111) #[] #[.pointer (some ⟨w.heap.size, 0, none⟩)]]) (by simp [results, Tryz.results76, go_sem]) rfl ⟨rfl, ((Below.refl _ w).alloc (Nat.le_refl _) _).alloc (by simp) _, by rw [World.cell?_alloc_past _ _ _ (by simp), World.cell?_alloc_at _ _ _ _ (by simp)]; rfl⟩
              | false =>
                cases h7 : (wd.toList == [99, 114, 97, 116, 101, 115]) with
                | true =>
                  have hr : questionOf s w.heap.size wd = (⟨#[]⟩, .func (.func 114) #[.pointer (some ⟨s, 0, none⟩)] #[]) := by unfold questionOf; simp only [h0, h1, h2, h3, h4, h5, h6, h7, if_true, Bool.false_eq_true, if_false]
                  rw [hr]
                  clear hr
                  go_enter Tryz.func76, Tryz.ntmps76
                  go_wp2_with fail
                  refine bodyPost_ret (v := .agg #[.string ⟨#[]⟩, .func (.func 114) #[.pointer (some ⟨s, 0, none⟩)] #[]]) (by simp [results, Tryz.results76, go_sem]) rfl ⟨rfl, ((Below.refl _ w).alloc (Nat.le_refl _) _).alloc (by simp) _, by rw [World.cell?_alloc_past _ _ _ (by simp), World.cell?_alloc_at _ _ _ _ (by simp)]; rfl⟩
                | false =>
                  cases h8 : (wd.toList == [98, 114, 105, 110, 101]) with
                  | true =>
                    have hr : questionOf s w.heap.size wd = (⟨#[100, 100]⟩, .func (.func 115) #[] #[]) := by unfold questionOf; simp only [h0, h1, h2, h3, h4, h5, h6, h7, h8, if_true, Bool.false_eq_true, if_false]
                    rw [hr]
                    clear hr
                    go_enter Tryz.func76, Tryz.ntmps76
                    go_wp2_with fail
                    refine bodyPost_ret (v := .agg #[.string ⟨#[100, 100]⟩, .func (.func 115) #[] #[]]) (by simp [results, Tryz.results76, go_sem]) rfl ⟨rfl, ((Below.refl _ w).alloc (Nat.le_refl _) _).alloc (by simp) _, by rw [World.cell?_alloc_past _ _ _ (by simp), World.cell?_alloc_at _ _ _ _ (by simp)]; rfl⟩
                  | false =>
                    cases h9 : (wd.toList == [108, 97, 98, 101, 108]) with
                    | true =>
                      have hr : questionOf s w.heap.size wd = (⟨#[100]⟩, .func (.func 116) #[] #[]) := by unfold questionOf; simp only [h0, h1, h2, h3, h4, h5, h6, h7, h8, h9, if_true, Bool.false_eq_true, if_false]
                      rw [hr]
                      clear hr
                      go_enter Tryz.func76, Tryz.ntmps76
                      go_wp2_with fail
                      refine bodyPost_ret (v := .agg #[.string ⟨#[100]⟩, .func (.func 116) #[] #[]]) (by simp [results, Tryz.results76, go_sem]) rfl ⟨rfl, ((Below.refl _ w).alloc (Nat.le_refl _) _).alloc (by simp) _, by rw [World.cell?_alloc_past _ _ _ (by simp), World.cell?_alloc_at _ _ _ _ (by simp)]; rfl⟩
                    | false =>
                      cases h10 : (wd.toList == [114, 111, 111, 116]) with
                      | true =>
                        have hr : questionOf s w.heap.size wd = (⟨#[100, 100]⟩, .func (.func 118) #[] #[]) := by unfold questionOf; simp only [h0, h1, h2, h3, h4, h5, h6, h7, h8, h9, h10, if_true, Bool.false_eq_true, if_false]
                        rw [hr]
                        clear hr
                        go_enter Tryz.func76, Tryz.ntmps76
                        go_wp2_with fail
                        refine bodyPost_ret (v := .agg #[.string ⟨#[100, 100]⟩, .func (.func 118) #[] #[]]) (by simp [results, Tryz.results76, go_sem]) rfl ⟨rfl, ((Below.refl _ w).alloc (Nat.le_refl _) _).alloc (by simp) _, by rw [World.cell?_alloc_past _ _ _ (by simp), World.cell?_alloc_at _ _ _ _ (by simp)]; rfl⟩
                      | false =>
                        cases h11 : (wd.toList == [108, 105, 102, 116]) with
                        | true =>
                          have hr : questionOf s w.heap.size wd = (⟨#[115, 100, 100]⟩, .func (.func 120) #[] #[]) := by unfold questionOf; simp only [h0, h1, h2, h3, h4, h5, h6, h7, h8, h9, h10, h11, if_true, Bool.false_eq_true, if_false]
                          rw [hr]
                          clear hr
                          go_enter Tryz.func76, Tryz.ntmps76
                          go_wp2_with fail
                          refine bodyPost_ret (v := .agg #[.string ⟨#[115, 100, 100]⟩, .func (.func 120) #[] #[]]) (by simp [results, Tryz.results76, go_sem]) rfl ⟨rfl, ((Below.refl _ w).alloc (Nat.le_refl _) _).alloc (by simp) _, by rw [World.cell?_alloc_past _ _ _ (by simp), World.cell?_alloc_at _ _ _ _ (by simp)]; rfl⟩
                        | false =>
                          cases h12 : (wd.toList == [115, 104, 97, 112, 101]) with
                          | true =>
                            have hr : questionOf s w.heap.size wd = (⟨#[100, 100, 100]⟩, .func (.func 122) #[] #[]) := by unfold questionOf; simp only [h0, h1, h2, h3, h4, h5, h6, h7, h8, h9, h10, h11, h12, if_true, Bool.false_eq_true, if_false]
                            rw [hr]
                            clear hr
                            go_enter Tryz.func76, Tryz.ntmps76
                            go_wp2_with fail
                            refine bodyPost_ret (v := .agg #[.string ⟨#[100, 100, 100]⟩, .func (.func 122) #[] #[]]) (by simp [results, Tryz.results76, go_sem]) rfl ⟨rfl, ((Below.refl _ w).alloc (Nat.le_refl _) _).alloc (by simp) _, by rw [World.cell?_alloc_past _ _ _ (by simp), World.cell?_alloc_at _ _ _ _ (by simp)]; rfl⟩
                          | false =>
                            have hr : questionOf s w.heap.size wd = (⟨#[]⟩, .nilFunc) := by unfold questionOf; simp only [h0, h1, h2, h3, h4, h5, h6, h7, h8, h9, h10, h11, h12, if_true, Bool.false_eq_true, if_false]
                            rw [hr]
                            clear hr
                            go_enter Tryz.func76, Tryz.ntmps76
                            go_wp2_with fail
                            refine bodyPost_ret (v := .agg #[.string ⟨#[]⟩, .nilFunc]) (by simp [results, Tryz.results76, go_sem]) rfl ⟨rfl, ((Below.refl _ w).alloc (Nat.le_refl _) _).alloc (by simp) _, by rw [World.cell?_alloc_past _ _ _ (by simp), World.cell?_alloc_at _ _ _ _ (by simp)]; rfl⟩
end Go.Proofs.YtklnnpacfjnnlaaGreatDoor
