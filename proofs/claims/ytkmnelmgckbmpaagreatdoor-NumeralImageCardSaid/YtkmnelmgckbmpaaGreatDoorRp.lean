/- strings.Replacer: the table is built once, by sync.Once. -/
import Derived.Test.YtkmnelmgckbmpaaGreatDoorBu
import Derived.Test.YtkmnelmgckbmpaaGreatDoorOn
namespace Go.Proofs.YtkmnelmgckbmpaaGreatDoor
open Go.RowKit
set_option maxRecDepth 100000 in
set_option maxHeartbeats 1600000 in
theorem buildOnce_any (b : Nat) (c : Nat) (ob : Nat) (x3 : Value) (w : World) (h3 : w.cell? ⟨b, 3, none⟩ = some x3) (h4 : w.cell? ⟨b, 4, none⟩ = some (.slice (some ⟨ob, 0, none⟩) 4 c)) (hb : b < w.heap.size) (hob : ob < w.heap.size)
    (f3 : w.frozen? ⟨b, 3, none⟩ = false) (f4 : w.frozen? ⟨b, 4, none⟩ = false)
    (o0 : w.cell? ⟨ob, 0, none⟩ = some (.string ⟨#[48]⟩)) (o1 : w.cell? ⟨ob, 1, none⟩ = some (.string ⟨#[48, 49]⟩)) (o2 : w.cell? ⟨ob, 2, none⟩ = some (.string ⟨#[49]⟩)) (o3 : w.cell? ⟨ob, 3, none⟩ = some (.string ⟨#[48]⟩)) :
    Calls Tryz.prog 14 #[.pointer (some ⟨b, 0, none⟩)] w fun e w' => e = .returned (.tuple #[]) ∧ ∃ g w1, Tab w g 2 w1 ∧ w' = (w1.setCell ⟨b, 3, none⟩ (.iface 89 (.pointer (some ⟨g, 0, none⟩)))).setCell ⟨b, 4, none⟩ (.slice none 0 0) := by
  go_enter Tryz.func14, Tryz.ntmps14
  go_wp2_with (
    go_at_call 28
    refine (build_any b c ob w h4 hb hob o0 o1 o2 o3).mono ?_
    rintro e w1 ⟨g, rfl, ht⟩
    have bel := ht.below
    have c3 := (bel.cell (p := ⟨b, 3, none⟩) hb).trans h3
    have c4 := (bel.cell (p := ⟨b, 4, none⟩) hb).trans h4
    have g3 := (bel.frozen (p := ⟨b, 3, none⟩) hb).trans f3
    have g4 := (bel.frozen (p := ⟨b, 4, none⟩) hb).trans f4
    have HT := Lib.hid ht
    clear ht bel)
  go_end0
  exact ⟨rfl, g, w1, HT.out, rfl⟩
set_option maxRecDepth 100000 in
set_option maxHeartbeats 1600000 in
theorem slow_any (b : Nat) (c : Nat) (ob : Nat) (x3 : Value) (w : World) (h3 : w.cell? ⟨b, 3, none⟩ = some x3) (h4 : w.cell? ⟨b, 4, none⟩ = some (.slice (some ⟨ob, 0, none⟩) 4 c)) (hb : b < w.heap.size) (hob : ob < w.heap.size) (hne : ob ≠ b)
    (fr : ∀ j, w.frozen? ⟨b, j, none⟩ = false) (h0 : w.cell? ⟨b, 0, none⟩ = some (.int .u32 0)) (h1 : w.cell? ⟨b, 1, none⟩ = some (.int .i32 0))
    (o0 : w.cell? ⟨ob, 0, none⟩ = some (.string ⟨#[48]⟩)) (o1 : w.cell? ⟨ob, 1, none⟩ = some (.string ⟨#[48, 49]⟩)) (o2 : w.cell? ⟨ob, 2, none⟩ = some (.string ⟨#[49]⟩)) (o3 : w.cell? ⟨ob, 3, none⟩ = some (.string ⟨#[48]⟩)) :
    Calls Tryz.prog 27 #[.pointer (some ⟨b, 0, none⟩), .func (.func 14) #[.pointer (some ⟨b, 0, none⟩)] #[]] w fun e w' => e = .returned (.tuple #[]) ∧
      ∃ g w1, Tab (w.setCell ⟨b, 1, none⟩ (.int .i32 1)) g 2 w1 ∧ w' = ((((w1.setCell ⟨b, 3, none⟩ (.iface 89 (.pointer (some ⟨g, 0, none⟩)))).setCell ⟨b, 4, none⟩ (.slice none 0 0)).drew.setCell ⟨b, 0, none⟩ (.int .u32 1)).setCell ⟨b, 1, none⟩ (.int .i32 0)) := by
  obtain ⟨w0, hw0⟩ : ∃ w0, w0 = w.setCell ⟨b, 1, none⟩ (.int .i32 1) := ⟨_, rfl⟩
  have s0 : w0.heap.size = w.heap.size := by rw [hw0, size_setCell]
  have k0 : w0.cell? ⟨b, 0, none⟩ = some (.int .u32 0) := by rw [hw0, World.cell?_setCell_other _ _ _ _ (by simp)]; exact h0
  have k1 : w0.cell? ⟨b, 1, none⟩ = some (.int .i32 1) := by rw [hw0]; exact World.cell?_setCell_same _ _ _ h1
  have k3 : w0.cell? ⟨b, 3, none⟩ = some x3 := by rw [hw0, World.cell?_setCell_other _ _ _ _ (by simp)]; exact h3
  have k4 : w0.cell? ⟨b, 4, none⟩ = some (.slice (some ⟨ob, 0, none⟩) 4 c) := by rw [hw0, World.cell?_setCell_other _ _ _ _ (by simp)]; exact h4
  have fo : ∀ j, w0.frozen? ⟨b, j, none⟩ = false := fun j => by rw [hw0, World.frozen?_setCell]; exact fr j
  have ko : ∀ j, w0.cell? ⟨ob, j, none⟩ = w.cell? ⟨ob, j, none⟩ := fun j => by rw [hw0, World.cell?_setCell_other _ _ _ _ (by first | (simp; done) | (simp; exact fun e => hne e.symm))]
  have HC := Lib.hid (buildOnce_any b c ob x3 w0 k3 k4 (by omega) (by omega) (fo 3) (fo 4) ((ko 0).trans o0) ((ko 1).trans o1) ((ko 2).trans o2) ((ko 3).trans o3))
  have f1 := fr 1
  have hl := run_call_load (P := Tryz.prog) Tryz.func34 (by kernel_rfl) (by kernel_rfl) (by kernel_rfl) .u32 (by kernel_rfl) k0
  have hnot : ∀ (x : Bool) (w : World), (Op.unary .not (.bool x)).run Tryz.prog w = .ok (.bool (!x)) w := fun _ _ => rfl
  have KO := Lib.hid ko
  have FO := Lib.hid fo
  have HW := Lib.hid hw0
  clear ko fo o0 o1 o2 o3 fr hw0
  go_enter_defers Tryz.func27, Tryz.ntmps27
  go_wp2_with (go_at_call 35; refine (lock_free ⟨b, 1, none⟩ _ h1 f1).mono ?_; rintro e w' ⟨rfl, hw1⟩; rw [hw1, ← HW.out]; clear hw1)
  go_wp2_with (first | (go_at_call 14; refine HC.out.mono ?_; rintro e w' ⟨rfl, g, w1, ht, rfl⟩) | (go_at_call 26; go_in))
  -- the door: two deferred calls, the last laid first
  have s1 := ht.below
  have b1 : b < w0.heap.size := by omega
  have q0 := (s1.cell (p := ⟨b, 0, none⟩) b1).trans k0
  have q1 := (s1.cell (p := ⟨b, 1, none⟩) b1).trans k1
  have g0 := (s1.frozen (p := ⟨b, 0, none⟩) b1).trans (FO.out 0)
  have g1 := (s1.frozen (p := ⟨b, 1, none⟩) b1).trans (FO.out 1)
  refine leaves_cons (f := 37) (args := #[.pointer (some ⟨b, 0, none⟩), .bool true]) (by simp) (by simp [go_sem]) ?_
  refine (store_deferred ⟨b, 0, none⟩ (.int .u32 0) .returning _ ?_ (by simp [g0])).mono ?_
  · rw [World.cell?_setCell_other _ _ _ _ (by simp), World.cell?_setCell_other _ _ _ _ (by simp)]
    exact q0
  rintro e u' w'' ⟨rfl, rfl, rfl⟩
  refine leaves_cons (f := 36) (args := #[.pointer (some ⟨b, 1, none⟩)]) (by simp [settle]) (by simp [go_sem]) ?_
  refine (unlock_deferred ⟨b, 1, none⟩ _ _ ?_ (by simp [g1])).mono ?_
  · rw [World.cell?_setCell_other _ _ _ _ (by simp), World.cell?_drew, World.cell?_setCell_other _ _ _ _ (by simp), World.cell?_setCell_other _ _ _ _ (by simp)]
    exact q1
  rintro e u' w'' ⟨rfl, rfl, rfl⟩
  have H : ∃ g' w1', Tab (w.setCell ⟨b, 1, none⟩ (.int .i32 1)) g' 2 w1' ∧ ((((w1.setCell ⟨b, 3, none⟩ (.iface 89 (.pointer (some ⟨g, 0, none⟩)))).setCell ⟨b, 4, none⟩ (.slice none 0 0)).drew.setCell ⟨b, 0, none⟩ (.int .u32 1)).setCell ⟨b, 1, none⟩ (.int .i32 0)) =
      ((((w1'.setCell ⟨b, 3, none⟩ (.iface 89 (.pointer (some ⟨g', 0, none⟩)))).setCell ⟨b, 4, none⟩ (.slice none 0 0)).drew.setCell ⟨b, 0, none⟩ (.int .u32 1)).setCell ⟨b, 1, none⟩ (.int .i32 0)) := ⟨g, w1, by rw [← HW.out]; exact ht, rfl⟩
  have HH := Lib.hid H
  clear H ht
  simp only [Leaves, settle]
  refine ⟨_, by simp [results, Tryz.results27], rfl, HH.out⟩
end Go.Proofs.YtkmnelmgckbmpaaGreatDoor
