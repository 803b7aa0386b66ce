/- strings.Replacer: NewReplacer and Replace. -/
import Derived.Test.YtkmnelmgckbmpaaGreatDoorBr
namespace Go.Proofs.YtkmnelmgckbmpaaGreatDoor
open Go.RowKit
set_option maxRecDepth 100000 in
set_option maxHeartbeats 1600000 in
theorem do_any (b : Nat) (c : Nat) (ob : Nat) (x3 : Value) (w : World) (h3 : w.cell? ⟨b, 3, none⟩ = some x3) (h4 : w.cell? ⟨b, 4, none⟩ = some (.slice (some ⟨ob, 0, none⟩) 4 c)) (hb : b < w.heap.size) (hob : ob < w.heap.size) (hne : ob ≠ b)
    (fr : ∀ j, w.frozen? ⟨b, j, none⟩ = false) (h0 : w.cell? ⟨b, 0, none⟩ = some (.int .u32 0)) (h1 : w.cell? ⟨b, 1, none⟩ = some (.int .i32 0))
    (o0 : w.cell? ⟨ob, 0, none⟩ = some (.string ⟨#[48]⟩)) (o1 : w.cell? ⟨ob, 1, none⟩ = some (.string ⟨#[48, 49]⟩)) (o2 : w.cell? ⟨ob, 2, none⟩ = some (.string ⟨#[49]⟩)) (o3 : w.cell? ⟨ob, 3, none⟩ = some (.string ⟨#[48]⟩)) (B : Nat) (hB : B ≤ b) :
    Calls Tryz.prog 13 #[.pointer (some ⟨b, 0, none⟩), .func (.func 14) #[.pointer (some ⟨b, 0, none⟩)] #[]] w fun e w' => e = .returned (.tuple #[]) ∧
      ∃ g, Ready w' g ∧ w'.cell? ⟨b, 3, none⟩ = some (.iface 89 (.pointer (some ⟨g, 0, none⟩))) ∧ Below B w w' := by
  have HS := Lib.hid (slow_any b c ob x3 w h3 h4 hb hob hne fr h0 h1 o0 o1 o2 o3)
  have hl := run_call_load (P := Tryz.prog) Tryz.func34 (by kernel_rfl) (by kernel_rfl) (by kernel_rfl) .u32 (by kernel_rfl) h0
  have hnot : ∀ (x : Bool) (w : World), (Op.unary .not (.bool x)).run Tryz.prog w = .ok (.bool (!x)) w := fun _ _ => rfl
  clear o0 o1 o2 o3 fr
  go_enter Tryz.func13, Tryz.ntmps13
  go_wp2_with (first | (go_at_call 27; refine HS.out.mono ?_; rintro e w' ⟨rfl, g, w1, ht, hw⟩; have HW := Lib.hid hw; have HT := Lib.hid ht; clear hw ht) | (go_at_call 26; go_in))
  go_end0
  have ht := HT.out
  have hw := HW.out
  have bel := ht.below
  rw [size_setCell] at bel
  have hsz1 : w.heap.size ≤ w1.heap.size := by have := bel.size; rwa [size_setCell] at this
  have hsz : w'.heap.size = w1.heap.size := by rw [hw]; simp [World.setCell, World.drew]
  have hoth : ∀ k, k ≠ b → w'.heap[k]? = w1.heap[k]? := fun k hk => by
    rw [hw, heap_setCell_ne _ _ _ _ (by exact hk), heap_setCell_ne _ _ _ _ (by exact hk)]
    show ((w1.setCell _ _).setCell _ _).heap[k]? = _
    rw [heap_setCell_ne _ _ _ _ (by exact hk), heap_setCell_ne _ _ _ _ (by exact hk)]
  have hfresh : w.heap.size ≤ g := by have := ht.fresh; rwa [size_setCell] at this
  refine ⟨rfl, g, ?_, ?_, ?_⟩
  · refine ht.ready.move (by omega) b (fun k _ hk => hoth k hk) (by omega) ?_ ?_ ?_
    · intro q c' hq
      obtain ⟨T, e1, -, hR⟩ := ht.top
      obtain rfl := Option.some.inj (e1.symm.trans hq)
      obtain ⟨g2, c2, e2, hge, -⟩ := hR.seen (by simp)
      simp at e2
      rw [size_setCell] at hge
      omega
    · intro A c' hq
      obtain ⟨v, e1, -, hv⟩ := ht.at49
      obtain rfl := Option.some.inj (e1.symm.trans hq)
      have := (hv (by omega)).2.2 A.block rfl
      rw [size_setCell] at this
      omega
    · intro A c' hq
      obtain ⟨v, e1, -, hv⟩ := ht.at48
      obtain rfl := Option.some.inj (e1.symm.trans hq)
      have := (hv (by omega)).2.2 A.block rfl
      rw [size_setCell] at this
      omega
  · have c3 : w1.cell? ⟨b, 3, none⟩ = some x3 := by
      rw [bel.cell (p := ⟨b, 3, none⟩) hb, World.cell?_setCell_other _ _ _ _ (by simp)]; exact h3
    rw [hw, World.cell?_setCell_other _ _ _ _ (by simp), World.cell?_setCell_other _ _ _ _ (by simp), World.cell?_drew, World.cell?_setCell_other _ _ _ _ (by simp)]
    exact World.cell?_setCell_same _ _ _ c3
  · have e0 : Below B w (w.setCell ⟨b, 1, none⟩ (.int .i32 1)) := (Below.refl _ w).setCell (p := ⟨b, 1, none⟩) hB _
    have e1 : Below B w w1 := e0.trans (ht.below.mono (by rw [size_setCell]; omega))
    rw [hw]
    exact ((((e1.setCell (p := ⟨b, 3, none⟩) hB _).setCell (p := ⟨b, 4, none⟩) hB _).drew).setCell (p := ⟨b, 0, none⟩) hB _).setCell (p := ⟨b, 1, none⟩) hB _
set_option maxRecDepth 100000 in
set_option maxHeartbeats 1600000 in
/-- strings.NewReplacer("0", "01", "1", "0"), and its Replace -/
theorem replace_any (b : Nat) (c : Nat) (ob : Nat) (x3 : Value) (l : List UInt8) (hl : l.length ≤ 2000) (hab : ∀ c ∈ l, c = 48 ∨ c = 49) (w : World) (h3 : w.cell? ⟨b, 3, none⟩ = some x3) (h4 : w.cell? ⟨b, 4, none⟩ = some (.slice (some ⟨ob, 0, none⟩) 4 c)) (hb : b < w.heap.size) (hob : ob < w.heap.size) (hne : ob ≠ b)
    (fr : ∀ j, w.frozen? ⟨b, j, none⟩ = false) (h0 : w.cell? ⟨b, 0, none⟩ = some (.int .u32 0)) (h1 : w.cell? ⟨b, 1, none⟩ = some (.int .i32 0))
    (o0 : w.cell? ⟨ob, 0, none⟩ = some (.string ⟨#[48]⟩)) (o1 : w.cell? ⟨ob, 1, none⟩ = some (.string ⟨#[48, 49]⟩)) (o2 : w.cell? ⟨ob, 2, none⟩ = some (.string ⟨#[49]⟩)) (o3 : w.cell? ⟨ob, 3, none⟩ = some (.string ⟨#[48]⟩)) (B : Nat) (hB : B ≤ b) :
    Calls Tryz.prog 7 #[.pointer (some ⟨b, 0, none⟩), .string (str l)] w fun e w' => e = .returned (.string (str (l.flatMap im))) ∧ Below B w w' := by
  have HD := Lib.hid (do_any b c ob x3 w h3 h4 hb hob hne fr h0 h1 o0 o1 o2 o3 B hB)
  have hmf : ∀ (fn : Fn) (first cap : Array Value) (w : World), (Instr.makeFunc fn first cap).run Tryz.prog w = .ok (.func fn first cap) w := fun _ _ _ _ => rfl
  have hm : ∀ (a : Addr) (w : World), (method 266 89 (.pointer (some a)) "Replace").run Tryz.prog w = .ok (105, .pointer (some a)) w := fun a w => by kernel_rfl
  have HAB := Lib.hid hab
  clear o0 o1 o2 o3 fr hab
  go_enter Tryz.func7, Tryz.ntmps7
  go_wp2_with (
    go_at_call 13
    refine HD.out.mono ?_
    rintro e w1 ⟨rfl, g, hr, c3, bel⟩
    have HR := Lib.hid hr
    clear hr)
  go_wp2_with (go_at_call 105; refine (repl_any g l _ hl HAB.out HR.out).mono ?_; rintro e w2 ⟨rfl, hb2⟩)
  go_ret
  exact ⟨rfl, bel.trans (hb2.mono (by have := bel.size; omega))⟩
end Go.Proofs.YtkmnelmgckbmpaaGreatDoor
