/- disks; none, ready of works. -/
import Derived.Test.YtklnnpacfjnnlaaGreatDoorDn
namespace Go.Proofs.YtklnnpacfjnnlaaGreatDoor
open Go.RowKit
theorem RDsk.keep {w w' : World} {X r p q : Nat} {D : Rk} (h : RDsk w X r p q D) (hb : Below w.heap.size w w') : RDsk w' X r p q D := by
  obtain ⟨k, a, b⟩ := h.row
  obtain ⟨l, c, d⟩ := h.row1
  have hr : r < w.heap.size := block_lt_of_cell h.dark
  exact ⟨⟨k, (hb.cell (p := ⟨r, 0, none⟩) hr).trans a, b.keep hb⟩, ⟨l, (hb.cell (p := ⟨r, 1, none⟩) hr).trans c, d.keep hb⟩, (hb.cell (p := ⟨r, 2, none⟩) hr).trans h.dark, (hb.cell (p := ⟨r, 3, none⟩) hr).trans h.left, fun j => (hb.frozen (p := ⟨r, j, none⟩) hr).trans (h.fr j), h.ne1, h.ne2, h.ne3, h.low, h.len, h.pos0, h.most, h.lo, h.hi⟩
set_option maxHeartbeats 4000000 in
set_option maxRecDepth 100000 in
theorem disks_any (n : Nat) (h1 : 1 ≤ n) (h2 : n ≤ 200) (w : World) :
    Calls Tryz.prog 22 #[.int .i64 n] w fun e w' => ∃ d pg r p q, e = .returned (.tuple #[.pointer (some ⟨d, 0, none⟩), .pointer (some ⟨r, 0, none⟩), .bool true]) ∧ Dsk w' w.heap.size d pg (newDk n) ∧ RDsk w' w.heap.size r p q (newRk n) ∧ d < r ∧ pg < p ∧ pg < q ∧ d < p ∧ d < q ∧ pg < r ∧ Below w.heap.size w w' := by
  have HN := Lib.hid (newdisk_any n h1 h2 w)
  go_enter Tryz.func22, Tryz.ntmps22
  go_wp2_with (first
    | (go_at_call 51; refine HN.out.mono ?_; rintro e w1 ⟨rfl, hd, hb⟩; have HD := Lib.hid hd; have HB := Lib.hid hb; clear hd hb)
    | (go_at_call 52; refine (rnewdisk_any n h1 h2 _).mono ?_; rintro e w2 ⟨rfl, ⟨p, q, hr⟩, hb⟩; have HR := Lib.hid hr; have HB2 := Lib.hid hb; clear hr hb))
  go_ret3
  have s1 := HD.out.ltd
  have s2 := HD.out.ltp
  have lp : w1.heap.size ≤ p := by obtain ⟨k, -, b⟩ := HR.out.row; exact (World.ownsRow.lt b p rfl).1
  have lq : w1.heap.size ≤ q := by obtain ⟨k, -, b⟩ := HR.out.row1; exact (World.ownsRow.lt b q rfl).1
  have h3 := HR.out
  have sb := HB.out.size
  refine ⟨_, _, _, p, q, rfl, HD.out.keep HB2.out, ?_, by omega, by omega, by omega, by omega, by omega, by omega, HB.out.trans (HB2.out.mono sb)⟩
  obtain ⟨k, a, b⟩ := h3.row
  obtain ⟨l, c, d⟩ := h3.row1
  exact ⟨⟨k, a, b.base sb⟩, ⟨l, c, d.base sb⟩, h3.dark, h3.left, h3.fr, h3.ne1, h3.ne2, h3.ne3, by omega, h3.len, h3.pos0, h3.most, h3.lo, h3.hi⟩
set_option maxHeartbeats 4000000 in
set_option maxRecDepth 100000 in
theorem disks_bad (n : Int) (h : n < 1 ∨ 200 < n) (w : World) :
    Calls Tryz.prog 22 #[.int .i64 n] w fun e w' => e = .returned (.tuple #[.pointer none, .pointer none, .bool true]) ∧ w' = w := by
  have HN := Lib.hid (newdisk_bad n h)
  have HR := Lib.hid (rnewdisk_bad n h)
  clear h
  go_enter Tryz.func22, Tryz.ntmps22
  go_wp2_with (first
    | (go_at_call 51; refine (HN.out _).mono ?_; rintro e w1 ⟨rfl, hw⟩; rw [hw]; clear hw w1)
    | (go_at_call 52; refine (HR.out _).mono ?_; rintro e w1 ⟨rfl, hw⟩; rw [hw]; clear hw w1))
  go_ret3
  exact ⟨rfl, rfl⟩
end Go.Proofs.YtklnnpacfjnnlaaGreatDoor
