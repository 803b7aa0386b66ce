/- Works: paged, ready; Do, Ask by the state's contracts. -/
import Derived.Test.YtklnnpacfjnnlaaGreatDoorWp
import Derived.Lib.ItoaLen
import Derived.Deep.RegionHeld3
namespace Go.Proofs.YtklnnpacfjnnlaaGreatDoor
open Go.RowKit
set_option maxHeartbeats 4000000 in
set_option maxRecDepth 100000 in
theorem paged_any (n : Int) (t : ByteArray) (h0 : 0 ≤ n) (h1 : n ≤ 1000) (ht : t.size ≤ 1000) (w : World) (hg : Glob w) :
    Calls Tryz.prog 65 #[.int .i64 n, .string t] w fun e w' => e = .returned (.string (pagedB n t)) ∧ Below w.heap.size w w' := by
  have HI := Lib.hid (Itoa_any n (by omega) (by omega) w hg)
  have hl := Lib.itoa_length_le n (by omega) (by omega)
  obtain ⟨I, hI⟩ : ∃ I : ByteArray, I = ⟨(Lib.itoa n).toArray⟩ := ⟨_, rfl⟩
  have hsz : I.size ≤ 21 := by rw [hI]; simpa [ByteArray.size] using hl
  have hres : pagedB n t = I ++ ⟨#[32]⟩ ++ t := by unfold pagedB; rw [hI]
  rw [← hI] at HI
  rw [hres]
  clear hI hl hres
  go_enter Tryz.func65, Tryz.ntmps65
  go_wp2_with (go_at_call 27; refine HI.out.mono ?_; rintro e w1 ⟨rfl, hb1⟩)
  go_ret
  exact ⟨rfl, hb1⟩
set_option maxHeartbeats 4000000 in
set_option maxRecDepth 100000 in
theorem wnone_any {w : World} {F : Nat → Prop} {wk d pg : Nat} {D : Dk} {S : SPred} {done : List ByteArray} {sf : Int} {lo : Bool} (h : Wks w F wk d pg D S done sf lo) :
    Calls Tryz.prog 45 #[.pointer (some ⟨wk, 0, none⟩)] w fun e w' => e = .returned (.bool false) ∧ w' = w := by
  obtain ⟨s, dv, G, c0, c1, c2, st, dn, hG, hdv⟩ := h.ex
  clear h st dn hG hdv
  go_enter Tryz.func45, Tryz.ntmps45
  go_wp2_with fail
  go_ret
  exact ⟨rfl, rfl⟩
set_option maxHeartbeats 4000000 in
set_option maxRecDepth 100000 in
theorem ready_any {w : World} {F : Nat → Prop} {wk d pg : Nat} {D : Dk} {S : SPred} {done : List ByteArray} {sf : Int} {lo : Bool} (h : Wks w F wk d pg D S done sf lo) :
    Calls Tryz.prog 59 #[.pointer (some ⟨wk, 0, none⟩)] w fun e w' => e = .returned (.int .i64 (if lo = true then 5 else 0)) ∧ w' = w := by
  have HN := Lib.hid (wnone_any h)
  have hlo := h.lost
  clear h
  cases lo with
  | true =>
    go_enter Tryz.func59, Tryz.ntmps59
    go_wp2_with (go_at_call 45; refine HN.out.mono ?_; rintro e w1 ⟨rfl, rfl⟩)
    go_ret
    exact ⟨rfl, rfl⟩
  | false =>
    go_enter Tryz.func59, Tryz.ntmps59
    go_wp2_with (go_at_call 45; refine HN.out.mono ?_; rintro e w1 ⟨rfl, rfl⟩)
    go_ret
    exact ⟨rfl, rfl⟩
set_option maxHeartbeats 4000000 in
set_option maxRecDepth 100000 in
theorem wdo_lost (text : ByteArray) {w : World} {F : Nat → Prop} {wk d pg : Nat} {D : Dk} {S : SPred} {done : List ByteArray} {sf : Int} (h : Wks w F wk d pg D S done sf true) :
    Calls Tryz.prog 31 #[.pointer (some ⟨wk, 0, none⟩), .string text] w fun e w' => e = .returned (.tuple #[.string ⟨#[]⟩, .int .i64 5]) ∧ w' = w := by
  have HR := Lib.hid (ready_any h)
  clear h
  go_enter Tryz.func31, Tryz.ntmps31
  go_wp2_with (go_at_call 59; refine HR.out.mono ?_; rintro e w1 ⟨rfl, hw⟩; rw [hw]; clear hw w1; rw [if_pos rfl])
  go_ret2
  exact ⟨rfl, rfl⟩
set_option maxHeartbeats 4000000 in
set_option maxRecDepth 100000 in
theorem wask_any (text rep : ByteArray) (er : Int) {w : World} {F : Nat → Prop} {wk d pg : Nat} {D : Dk} {S : SPred} {done : List ByteArray} {sf : Int} {lo : Bool} (h : Wks w F wk d pg D S done sf lo) (hc : AskC w S text er rep) :
    Calls Tryz.prog 16 #[.pointer (some ⟨wk, 0, none⟩), .string text] w fun e w' => e = .returned (.tuple #[.string rep, .int .i64 er]) ∧ Below w.heap.size w w' := by
  have HN := Lib.hid (wnone_any h)
  obtain ⟨s, dv, G, c0, c1, c2, st, dn, hG, hdv⟩ := h.ex
  have HC := Lib.hid (hc G s st)
  clear h st dn hG hdv hc
  go_enter Tryz.func16, Tryz.ntmps16
  go_wp2_with (first
    | (go_at_call 45; refine HN.out.mono ?_; rintro e w1 ⟨rfl, hw⟩; rw [hw]; clear hw w1)
    | (go_at_call 46; refine HC.out.mono ?_; rintro e w2 ⟨hb, rfl⟩))
  go_ret2
  exact ⟨rfl, hb⟩
end Go.Proofs.YtklnnpacfjnnlaaGreatDoor
