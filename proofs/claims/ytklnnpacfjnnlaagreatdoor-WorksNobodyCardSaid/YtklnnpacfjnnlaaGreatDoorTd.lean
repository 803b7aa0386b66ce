/- touched, same: a disk and the reference's go along. -/
import Derived.Test.YtklnnpacfjnnlaaGreatDoorDw
namespace Go.Proofs.YtklnnpacfjnnlaaGreatDoor
open Go.RowKit
/-- a disk and the reference's -/
def Two (w : World) (X d pg r p : Nat) (D : Dk) : Prop := ∃ q, Dsk w X d pg D ∧ RDsk w X r p q (rk D) ∧ d < r ∧ pg < r ∧ d < p ∧ pg < p ∧ d < q ∧ pg < q
theorem Two.keep {w w' : World} {X d pg r p : Nat} {D : Dk} (h : Two w X d pg r p D) (hb : Below w.heap.size w w') : Two w' X d pg r p D := by
  obtain ⟨q, a, b, c⟩ := h
  exact ⟨q, a.keep hb, b.keep hb, c⟩
theorem Two.go {w w1 w2 : World} {X d pg r p : Nat} {D D' : Dk} (h : Two w X d pg r p D) (h1 : Dsk w1 X d pg D') (o1 : Oth [d, pg] w w1)
    (k : ∀ q, RDsk w1 X r p q (rk D) → RNew w1 w2 X r p q (rk D') ∧ Oth [r, p] w1 w2) : Two w2 X d pg r p D' ∧ Oth [d, pg, r, p] w w2 := by
  obtain ⟨q, a, b, c1, c2, c3, c4, c5, c6⟩ := h
  have hb : RDsk w1 X r p q (rk D) := b.same (o1.block r b.ltr (by simp; omega)) (o1.block p b.ltp (by simp; omega)) (o1.block q b.ltq (by simp; omega))
  obtain ⟨⟨q', hq, hr⟩, o2⟩ := k q hb
  have hd : Dsk w2 X d pg D' := h1.same (o2.block d h1.ltd (by simp; omega)) (o2.block pg h1.ltp (by simp; omega))
  have l1 := h1.ltd
  have l2 := h1.ltp
  exact ⟨⟨q', hd, hr, c1, c2, c3, c4, by rcases hq with rfl | hq <;> omega, by rcases hq with rfl | hq <;> omega⟩, (o1.more (T := [d, pg, r, p]) fun b hb => by simp at hb ⊢; omega).trans (o2.more (T := [d, pg, r, p]) fun b hb => by simp at hb ⊢; omega)⟩
/-- an act -/
structure AcT where
  kind : Int
  n : Int
  line : ByteArray
  keep : List Int
def AcT.on (a : AcT) (D : Dk) : Dk := if a.kind = 3 then D.fused a.n else if a.kind = 4 then D.crash (a.keep.take 40) else if a.kind = 6 then (D.write a.n a.line).1 else if a.kind = 7 then D.sync.1 else D
set_option maxHeartbeats 4000000 in
set_option maxRecDepth 100000 in
theorem same_any (X d pg r p : Nat) (D : Dk) (w : World) (h : Two w X d pg r p D) :
    Calls Tryz.prog 24 #[.pointer (some ⟨d, 0, none⟩), .pointer (some ⟨r, 0, none⟩)] w fun e w' => e = .returned (.bool true) ∧ w' = w := by
  obtain ⟨q, hd, hr, -⟩ := h
  obtain ⟨k, c0, hrow⟩ := hr.row
  have hlen : (rk D).pages.length = D.pages.length := by simp [rk]
  rw [hlen] at c0 hrow
  have c2 := hr.dark
  have HD := Lib.hid hd
  have HROW := Lib.hid hrow
  have h200 := hd.most
  have e2 : (rk D).dark = D.off := rfl
  rw [e2] at c2
  clear hd hr hrow hlen e2
  go_enter Tryz.func24, Tryz.ntmps24
  go_wp2_with fail
  go_loopw [5, 6, 7, 8, 14] (fun _ _ _ _ i wr => ∃ m : Nat, m ≤ D.pages.length ∧ i = .int .i64 m ∧ wr = w) (fun _ _ _ _ i _ => D.pages.length - (intOf i).toNat)
  case atStart => exact ⟨0, Nat.zero_le _, rfl, rfl⟩
  case round =>
    obtain ⟨m, hm, rfl, rfl⟩ := hrel
    by_cases hlt : m < D.pages.length
    · obtain ⟨pp, hp⟩ : ∃ pp, D.pages[m]? = some pp := ⟨_, List.getElem?_eq_getElem hlt⟩
      have cp := HROW.out.cell (j := m) (x := pp.1) (by unfold rk; rw [List.getElem?_map, hp]; rfl) (i := 0) rfl
      rw [Nat.mul_one, Nat.add_zero] at cp
      have hrd := dread_any X d pg D (m : Int) _ HD.out
      have hhas : D.has (m : Int) := ⟨by omega, by omega⟩
      cases hoff : D.off with
      | true =>
        have e : D.read (m : Int) = (⟨#[]⟩, 8) := by unfold Dk.read; rw [if_neg (by simp [hhas]), if_pos hoff]
        rw [e] at hrd
        rw [hoff] at c2
        have HRD := Lib.hid hrd
        clear e hrd hhas hoff hp
        go_wp2_with (go_at_call 25; refine HRD.out.mono ?_; rintro e w3 ⟨rfl, hw⟩; rw [hw]; clear hw w3)
        go_roundw
        case rel => exact ⟨m + 1, by omega, by go_num, by first | trivial | rfl⟩
        case measure => simp [intOf]; omega
      | false =>
        have hgd : D.pages.getD ((m : Int)).toNat (⟨#[]⟩, ⟨#[]⟩) = pp := by rw [Int.toNat_natCast, List.getD_eq_getElem?_getD, hp]; rfl
        have e : D.read (m : Int) = (pp.1, 0) := by unfold Dk.read; rw [if_neg (by simp [hhas]), if_neg (by simp [hoff]), hgd]
        rw [e] at hrd
        rw [hoff] at c2
        have hsame : (pp.1.toList == pp.1.toList) = true := by simp
        have HRD := Lib.hid hrd
        clear e hrd hhas hoff hp hgd
        go_wp2_with (go_at_call 25; refine HRD.out.mono ?_; rintro e w3 ⟨rfl, hw⟩; rw [hw]; clear hw w3)
        go_roundw
        case rel => exact ⟨m + 1, by omega, by go_num, by first | trivial | rfl⟩
        case measure => simp [intOf]; omega
    · obtain rfl : m = D.pages.length := by omega
      go_wp2_with fail
      go_ret
      exact ⟨rfl, rfl⟩
end Go.Proofs.YtklnnpacfjnnlaaGreatDoor
