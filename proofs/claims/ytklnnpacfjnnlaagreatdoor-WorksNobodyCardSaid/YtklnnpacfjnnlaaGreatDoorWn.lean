/- Nobody's disks and works. -/
import Derived.Test.YtklnnpacfjnnlaaGreatDoorWa
namespace Go.Proofs.YtklnnpacfjnnlaaGreatDoor
open Go.RowKit
/-- a disk that no call returned -/
def NoD (w : World) (b : Option Nat) : Prop := match b with | none => True | some d => w.cell? ⟨d, 0, none⟩ = some (.slice none 0 0)
def pB (b : Option Nat) : Value := .pointer (b.map fun d => ⟨d, 0, none⟩)
/-- works that no call returned -/
def NoW (w : World) (b : Option Nat) : Prop := match b with | none => True | some d => w.cell? ⟨d, 1, none⟩ = some (.pointer none)
set_option maxHeartbeats 4000000 in
set_option maxRecDepth 100000 in
theorem noD_none (b : Option Nat) (w : World) (h : NoD w b) : Calls Tryz.prog 68 #[pB b] w fun e w' => e = .returned (.bool true) ∧ w' = w := by
  cases b with
  | none =>
    show Calls Tryz.prog 68 #[.pointer none] w _
    go_enter Tryz.func68, Tryz.ntmps68
    go_wp2_with fail
    go_ret
    exact ⟨rfl, rfl⟩
  | some d =>
    have h0 : w.cell? ⟨d, 0, none⟩ = some (.slice none 0 0) := h
    clear h
    show Calls Tryz.prog 68 #[.pointer (some ⟨d, 0, none⟩)] w _
    go_enter Tryz.func68, Tryz.ntmps68
    go_wp2_with fail
    go_ret
    exact ⟨rfl, rfl⟩
set_option maxHeartbeats 4000000 in
set_option maxRecDepth 100000 in
theorem noD_fuse (b : Option Nat) (k : Int) (w : World) (h : NoD w b) : Calls Tryz.prog 40 #[pB b, .int .i64 k] w fun e w' => e = .returned (.tuple #[]) ∧ w' = w := by
  have HN := Lib.hid (noD_none b w h)
  generalize pB b = v at *
  clear h
  go_enter Tryz.func40, Tryz.ntmps40
  go_wp2_with (go_at_call 68; refine HN.out.mono ?_; rintro e w1 ⟨rfl, hw⟩; rw [hw]; clear hw w1)
  go_end0
  exact ⟨rfl, rfl⟩
set_option maxHeartbeats 4000000 in
set_option maxRecDepth 100000 in
theorem noD_crash (b : Option Nat) (A : Option Addr) (n c : Nat) (w : World) (h : NoD w b) : Calls Tryz.prog 41 #[pB b, .slice A n c] w fun e w' => e = .returned (.tuple #[]) ∧ w' = w := by
  have HN := Lib.hid (noD_none b w h)
  generalize pB b = v at *
  clear h
  go_enter Tryz.func41, Tryz.ntmps41
  go_wp2_with (go_at_call 68; refine HN.out.mono ?_; rintro e w1 ⟨rfl, hw⟩; rw [hw]; clear hw w1)
  refine bodyPost_ret (results_none (by rfl) _ _ _) rfl ?_

  exact ⟨rfl, rfl⟩
set_option maxHeartbeats 4000000 in
set_option maxRecDepth 100000 in
theorem noD_reach (b : Option Nat) (i : Int) (w : World) (h : NoD w b) : Calls Tryz.prog 57 #[pB b, .int .i64 i] w fun e w' => e = .returned (.int .i64 1) ∧ w' = w := by
  have HN := Lib.hid (noD_none b w h)
  generalize pB b = v at *
  clear h
  go_enter Tryz.func57, Tryz.ntmps57
  go_wp2_with (go_at_call 68; refine HN.out.mono ?_; rintro e w1 ⟨rfl, hw⟩; rw [hw]; clear hw w1)
  go_ret
  exact ⟨rfl, rfl⟩
set_option maxHeartbeats 4000000 in
set_option maxRecDepth 100000 in
theorem noD_read (b : Option Nat) (i : Int) (w : World) (h : NoD w b) : Calls Tryz.prog 25 #[pB b, .int .i64 i] w fun e w' => e = .returned (.tuple #[.string ⟨#[]⟩, .int .i64 1]) ∧ w' = w := by
  have HN := Lib.hid (noD_reach b i w h)
  generalize pB b = v at *
  clear h
  go_enter Tryz.func25, Tryz.ntmps25
  go_wp2_with (go_at_call 57; refine HN.out.mono ?_; rintro e w1 ⟨rfl, hw⟩; rw [hw]; clear hw w1)
  go_ret2
  exact ⟨rfl, rfl⟩
set_option maxHeartbeats 4000000 in
set_option maxRecDepth 100000 in
theorem noD_write (b : Option Nat) (i : Int) (t : ByteArray) (w : World) (h : NoD w b) : Calls Tryz.prog 43 #[pB b, .int .i64 i, .string t] w fun e w' => e = .returned (.int .i64 1) ∧ w' = w := by
  have HN := Lib.hid (noD_reach b i w h)
  generalize pB b = v at *
  clear h
  go_enter Tryz.func43, Tryz.ntmps43
  go_wp2_with (go_at_call 57; refine HN.out.mono ?_; rintro e w1 ⟨rfl, hw⟩; rw [hw]; clear hw w1)
  go_ret
  exact ⟨rfl, rfl⟩
set_option maxHeartbeats 4000000 in
set_option maxRecDepth 100000 in
theorem noD_sync (b : Option Nat) (w : World) (h : NoD w b) : Calls Tryz.prog 44 #[pB b] w fun e w' => e = .returned (.int .i64 1) ∧ w' = w := by
  have HN := Lib.hid (noD_none b w h)
  generalize pB b = v at *
  clear h
  go_enter Tryz.func44, Tryz.ntmps44
  go_wp2_with (go_at_call 68; refine HN.out.mono ?_; rintro e w1 ⟨rfl, hw⟩; rw [hw]; clear hw w1)
  go_ret
  exact ⟨rfl, rfl⟩
set_option maxHeartbeats 4000000 in
set_option maxRecDepth 100000 in
theorem noD_open (b : Option Nat) (w : World) (h : NoD w b) : Calls Tryz.prog 39 #[pB b] w fun e w' => e = .returned (.tuple #[.pointer none, .int .i64 1]) ∧ w' = w := by
  have HN := Lib.hid (noD_none b w h)
  generalize pB b = v at *
  clear h
  go_enter Tryz.func39, Tryz.ntmps39
  go_wp2_with (go_at_call 68; refine HN.out.mono ?_; rintro e w1 ⟨rfl, hw⟩; rw [hw]; clear hw w1)
  go_ret2
  exact ⟨rfl, rfl⟩
set_option maxHeartbeats 4000000 in
set_option maxRecDepth 100000 in
theorem noW_none (b : Option Nat) (w : World) (h : NoW w b) : Calls Tryz.prog 45 #[pB b] w fun e w' => e = .returned (.bool true) ∧ w' = w := by
  cases b with
  | none =>
    show Calls Tryz.prog 45 #[.pointer none] w _
    go_enter Tryz.func45, Tryz.ntmps45
    go_wp2_with fail
    go_ret
    exact ⟨rfl, rfl⟩
  | some d =>
    have h0 : w.cell? ⟨d, 1, none⟩ = some (.pointer none) := h
    clear h
    show Calls Tryz.prog 45 #[.pointer (some ⟨d, 0, none⟩)] w _
    go_enter Tryz.func45, Tryz.ntmps45
    go_wp2_with fail
    go_ret
    exact ⟨rfl, rfl⟩
set_option maxHeartbeats 4000000 in
set_option maxRecDepth 100000 in
theorem noW_ready (b : Option Nat) (w : World) (h : NoW w b) : Calls Tryz.prog 59 #[pB b] w fun e w' => e = .returned (.int .i64 1) ∧ w' = w := by
  have HN := Lib.hid (noW_none b w h)
  generalize pB b = v at *
  clear h
  go_enter Tryz.func59, Tryz.ntmps59
  go_wp2_with (go_at_call 45; refine HN.out.mono ?_; rintro e w1 ⟨rfl, hw⟩; rw [hw]; clear hw w1)
  go_ret
  exact ⟨rfl, rfl⟩
set_option maxHeartbeats 4000000 in
set_option maxRecDepth 100000 in
theorem noW_do (b : Option Nat) (t : ByteArray) (w : World) (h : NoW w b) : Calls Tryz.prog 31 #[pB b, .string t] w fun e w' => e = .returned (.tuple #[.string ⟨#[]⟩, .int .i64 1]) ∧ w' = w := by
  have HN := Lib.hid (noW_ready b w h)
  generalize pB b = v at *
  clear h
  go_enter Tryz.func31, Tryz.ntmps31
  go_wp2_with (go_at_call 59; refine HN.out.mono ?_; rintro e w1 ⟨rfl, hw⟩; rw [hw]; clear hw w1)
  go_ret2
  exact ⟨rfl, rfl⟩
set_option maxHeartbeats 4000000 in
set_option maxRecDepth 100000 in
theorem noW_ask (b : Option Nat) (t : ByteArray) (w : World) (h : NoW w b) : Calls Tryz.prog 16 #[pB b, .string t] w fun e w' => e = .returned (.tuple #[.string ⟨#[]⟩, .int .i64 1]) ∧ w' = w := by
  have HN := Lib.hid (noW_none b w h)
  generalize pB b = v at *
  clear h
  go_enter Tryz.func16, Tryz.ntmps16
  go_wp2_with (go_at_call 45; refine HN.out.mono ?_; rintro e w1 ⟨rfl, hw⟩; rw [hw]; clear hw w1)
  go_ret2
  exact ⟨rfl, rfl⟩
set_option maxHeartbeats 4000000 in
set_option maxRecDepth 100000 in
theorem noW_commit (b : Option Nat) (w : World) (h : NoW w b) : Calls Tryz.prog 28 #[pB b] w fun e w' => e = .returned (.int .i64 1) ∧ w' = w := by
  have HN := Lib.hid (noW_ready b w h)
  generalize pB b = v at *
  clear h
  go_enter Tryz.func28, Tryz.ntmps28
  go_wp2_with (go_at_call 59; refine HN.out.mono ?_; rintro e w1 ⟨rfl, hw⟩; rw [hw]; clear hw w1)
  go_ret
  exact ⟨rfl, rfl⟩
set_option maxHeartbeats 4000000 in
set_option maxRecDepth 100000 in
theorem noW_journal (b : Option Nat) (w : World) (h : NoW w b) : Calls Tryz.prog 26 #[pB b] w fun e w' => e = .returned (.slice none 0 0) ∧ w' = w := by
  have HN := Lib.hid (noW_none b w h)
  generalize pB b = v at *
  clear h
  go_enter Tryz.func26, Tryz.ntmps26
  go_wp2_with (go_at_call 45; refine HN.out.mono ?_; rintro e w1 ⟨rfl, hw⟩; rw [hw]; clear hw w1)
  go_ret
  exact ⟨rfl, rfl⟩
set_option maxHeartbeats 4000000 in
set_option maxRecDepth 100000 in
theorem noW_state (b : Option Nat) (w : World) (h : NoW w b) : Calls Tryz.prog 29 #[pB b] w fun e w' => e = .returned (.string ⟨#[]⟩) ∧ w' = w := by
  have HN := Lib.hid (noW_none b w h)
  generalize pB b = v at *
  clear h
  go_enter Tryz.func29, Tryz.ntmps29
  go_wp2_with (go_at_call 45; refine HN.out.mono ?_; rintro e w1 ⟨rfl, hw⟩; rw [hw]; clear hw w1)
  go_ret
  exact ⟨rfl, rfl⟩
end Go.Proofs.YtklnnpacfjnnlaaGreatDoor
