/- New books. -/
import Derived.Test.YtklnnpacfjnnlaaGreatDoorCl
import Derived.WideMake
namespace Go.Proofs.YtklnnpacfjnnlaaGreatDoor
open Go.RowKit
attribute [local go_sem] run_makeMap_plain
set_option maxHeartbeats 4000000 in
set_option maxRecDepth 100000 in
theorem begin_any (w : World) :
    Calls Tryz.prog 69 #[] w fun e w' => e = .returned (.pointer (some ⟨w.heap.size + 2, 0, none⟩)) ∧ Below w.heap.size w w' ∧ Sta w' w.heap.size (w.heap.size + 2) [] [] (#[], 0) (#[], 0) (.slice none 0 0) := by
  go_enter Tryz.func69, Tryz.ntmps69
  go_wp2_with fail
  go_ret
  have b1 := alloc_plain w (.map #[] 0)
  have b2 := alloc_plain (w.alloc (.map #[] 0)) (.map #[] 0)
  have b3 := alloc_plain ((w.alloc (.map #[] 0)).alloc (.map #[] 0)) (.cells #[.slice none 0 0, .map (some w.heap.size), .map (some (w.heap.size + 1)), .slice none 0 0, .slice none 0 0] 130)
  rw [b1.2.1] at b2
  rw [b2.2.1] at b3
  refine ⟨rfl, (b1.1.trans (b2.1.mono (by omega))).trans (b3.1.mono (by omega)), _, _, w.heap.size, w.heap.size + 1, Row5.of b3.2.2, Rw.nil _ _, Rw.nil _ _, ?_, ?_, by omega, by omega, by omega, by omega, by simp [Value.ownBlock], by simp [Value.ownBlock], by simp [Value.ownBlock]⟩
  · rw [b3.1.block _ (by omega), b2.1.block _ (by omega)]; exact b1.2.2
  · rw [b3.1.block _ (by omega)]; exact b2.2.2
end Go.Proofs.YtklnnpacfjnnlaaGreatDoor
