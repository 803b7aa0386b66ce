/- Works: Open of a disk whose pages are empty. -/
import Derived.Test.YtklnnpacfjnnlaaGreatDoorWe
namespace Go.Proofs.YtklnnpacfjnnlaaGreatDoor
open Go.RowKit
/-- a disk that is on, with empty pages -/
def Dk.bare (D : Dk) : Prop := D.off = false ∧ ∀ (j : Nat) (p : ByteArray × ByteArray), D.pages[j]? = some p → p.1 = ⟨#[]⟩
theorem Dk.bare_read {D : Dk} (h : D.bare) (j : Nat) (hj : j < D.pages.length) : D.read (j : Int) = (⟨#[]⟩, 0) := by
  have hhas : D.has (j : Int) := ⟨by omega, by omega⟩
  obtain ⟨i, p, e, hi, hp, hgd⟩ := Dk.has_nat hhas
  unfold Dk.read
  rw [if_neg (by simp [hhas]), if_neg (by simp [h.1]), hgd, h.2 i p hp]
set_option maxHeartbeats 4000000 in
set_option maxRecDepth 100000 in
theorem wread_bare {w : World} {F : Nat → Prop} {wk d pg : Nat} {D : Dk} {S : SPred} {sf : Int} (h : Wks w F wk d pg D S [] sf false) (hb : D.bare) (hg : Glob w) :
    Calls Tryz.prog 70 #[.pointer (some ⟨wk, 0, none⟩)] w fun e w' => e = .returned (.int .i64 0) ∧ Below w.heap.size w w' := by
  obtain ⟨s, dv, G, c0, c1, c2, st, dn, hG, hdv⟩ := h.ex
  obtain ⟨k, p0, -⟩ := h.dsk.row
  have hpos := h.dsk.pos0
  have HRD := Lib.hid (dread_any 0 d pg D 0 w h.dsk)
  have hr0 := Dk.bare_read hb 0 hpos
  rw [show ((0 : Nat) : Int) = 0 from rfl] at hr0
  rw [hr0] at HRD
  have HPG := Lib.hid (paged_any 0 ⟨#[]⟩ (by omega) (by omega) (by decide) w hg)
  have hno : Lib.hasPrefix (⟨#[]⟩ : ByteArray).data.toList (pagedB 0 ⟨#[]⟩).data.toList = false := by decide +kernel
  have HNO := Lib.hid hno
  have hd : decide ((0 : Int) < (D.pages.length : Int)) = true := decide_eq_true (by omega)
  clear h st dn hG hdv hno hr0
  go_enter Tryz.func70, Tryz.ntmps70
  go_wp2_with fail
  go_loopw [3, 4, 5, 6, 7, 8, 9, 18] (fun _ _ _ _ _ _ _ i wr => i = .int .i64 0 ∧ wr = w) (fun _ _ _ _ _ _ _ _ _ => 0)
  case atStart => exact ⟨rfl, rfl⟩
  case round =>
    obtain ⟨rfl, rfl⟩ := hrel
    go_wp2_with (first
      | (go_at_call 25; refine HRD.out.mono ?_; rintro e w3 ⟨rfl, hw⟩; rw [hw]; clear hw w3)
      | (go_at_call 65; refine HPG.out.mono ?_; rintro e w4 ⟨rfl, hb4⟩)
      | (go_at_call 101; refine (Any.strings_CutPrefix l101 _ _ _).mono ?_; rintro e w5 ⟨rfl, hw⟩; rw [hw]; clear hw w5; rw [HNO.out]))
    go_ret
    exact ⟨rfl, hb4⟩
set_option maxHeartbeats 4000000 in
set_option maxRecDepth 100000 in
theorem wclean_bare {w : World} {F : Nat → Prop} {wk d pg : Nat} {D : Dk} {S : SPred} {sf : Int} (h : Wks w F wk d pg D S [] sf false) (hb : D.bare) :
    Calls Tryz.prog 71 #[.pointer (some ⟨wk, 0, none⟩)] w fun e w' => e = .returned (.int .i64 0) ∧ w' = w := by
  obtain ⟨s, dv, G, c0, c1, c2, st, dn, hG, hdv⟩ := h.ex
  obtain ⟨A, c, hf⟩ := dn.form
  subst hf
  rw [show ([] : List ByteArray).length = 0 from rfl] at c2
  obtain ⟨k, p0, hrow⟩ := h.dsk.row
  have h200 := h.dsk.most
  have HROW := Lib.hid hrow
  have HB := Lib.hid hb.2
  clear h st dn hG hdv hrow hb
  go_enter Tryz.func71, Tryz.ntmps71
  go_wp2_with fail
  go_loopw [3, 4, 5] (fun f i _ wr => f = .bool false ∧ wr = w ∧ ∃ m : Nat, m ≤ D.pages.length ∧ i = .int .i64 m) (fun _ i _ _ => D.pages.length - (intOf i).toNat)
  case atStart => exact ⟨rfl, rfl, 0, by omega, rfl⟩
  case round =>
    obtain ⟨rfl, rfl, m, hm, rfl⟩ := hrel
    by_cases hlt : m < D.pages.length
    · obtain ⟨p, hp⟩ : ∃ p, D.pages[m]? = some p := ⟨_, List.getElem?_eq_getElem hlt⟩
      have hp1 := HB.out m p hp
      have hc := HROW.out.cell hp (i := 0) rfl
      rw [hp1, Nat.add_zero] at hc
      clear hp hp1
      go_wp2_with fail
      go_roundw
      case rel => exact ⟨by first | rfl | trivial, by first | rfl | trivial, m + 1, by omega, by go_num⟩
      case measure => simp [intOf]; omega
    · obtain rfl : m = D.pages.length := by omega
      go_wp2_with fail
      go_ret
      exact ⟨rfl, rfl⟩
end Go.Proofs.YtklnnpacfjnnlaaGreatDoor
