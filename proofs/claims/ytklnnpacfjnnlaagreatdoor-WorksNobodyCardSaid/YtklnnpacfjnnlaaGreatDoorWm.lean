/- WorksNobody: the walk. -/
import Derived.Test.YtklnnpacfjnnlaaGreatDoorWn
import Derived.Test.YtklnnpacfjnnlaaGreatDoorTu
namespace Go.Proofs.YtklnnpacfjnnlaaGreatDoor
open Go.RowKit
theorem NoD.keep {w w' : World} {b : Option Nat} (h : NoD w b) (hb : Below w.heap.size w w') : NoD w' b := by
  cases b with
  | none => trivial
  | some d => exact (hb.cell (p := ⟨d, 0, none⟩) (block_lt_of_cell (a := ⟨d, 0, none⟩) h)).trans h
theorem NoW.keep {w w' : World} {b : Option Nat} (h : NoW w b) (hb : Below w.heap.size w w') : NoW w' b := by
  cases b with
  | none => trivial
  | some d => exact (hb.cell (p := ⟨d, 1, none⟩) (block_lt_of_cell (a := ⟨d, 1, none⟩) h)).trans h
def nth2 (d : Nat) (m : Nat) : Option Nat := if m = 0 then none else some d
set_option maxHeartbeats 4000000 in
set_option maxRecDepth 100000 in
theorem worksNobody_walk (w : World) (hg : Glob w) (line : ByteArray) (hl : line.size ≤ maxLen) (n : Int) (hn : -9223372036854775808 ≤ n ∧ n ≤ 9223372036854775807) (kv : Value) (keep : List Int) (hk : Ints w kv keep) :
    Calls Tryz.prog 13 #[.string line, .int .i64 n, kv] w fun e w' => e = .returned (.bool true) ∧ Below w.heap.size w w' := by
  have HG := Lib.hid hg
  have HK := Lib.hid hk
  obtain ⟨A, kn, kc, e0⟩ : ∃ A n c, kv = Value.slice A n c := by obtain ⟨_, A, c, e, _⟩ := hk; exact ⟨_, _, _, e⟩
  subst e0
  clear hg hk
  go_enter Tryz.func13, Tryz.ntmps13
  go_wp2_with fail
  obtain ⟨W, hW⟩ : ∃ W, W = (w.alloc (.cells #[.slice none 0 0, .bool false, .int .i64 0] 69)).alloc (.cells #[.pointer none, .pointer (some ⟨w.heap.size, 0, none⟩)] 24) := ⟨_, rfl⟩
  have hbW : Below w.heap.size w W := by rw [hW]; exact ((Below.refl _ _).alloc (Nat.le_refl _) _).alloc (by simp) _
  have hzW : W.heap.size = w.heap.size + 2 := by rw [hW]; simp
  have hd : W.cell? ⟨w.heap.size, 0, none⟩ = some (.slice none 0 0) := by rw [hW]; simp
  have e0 : W.cell? ⟨w.heap.size + 1, 0, none⟩ = some (pB (nth2 w.heap.size 0)) := by rw [hW]; simp [pB, nth2]
  have e1 : W.cell? ⟨w.heap.size + 1, 1, none⟩ = some (pB (nth2 w.heap.size 1)) := by rw [hW]; simp [pB, nth2]
  have HBW := Lib.hid hbW
  have hno : ∀ m, NoD W (nth2 w.heap.size m) := fun m => by unfold nth2; split; trivial; exact hd
  have HNO := Lib.hid hno
  have hee : ∀ m, m < 2 → W.cell? ⟨w.heap.size + 1, m, none⟩ = some (pB (nth2 w.heap.size m)) := fun m hm => by
    match m, hm with
    | 0, _ => exact e0
    | 1, _ => exact e1
  have HEE := Lib.hid hee
  rw [← hW]
  clear hW hbW hd e0 e1 hno hee
  go_loopw [8, 9, 10, 11, 12, 23] (fun _ _ _ _ _ i wr => ∃ m : Nat, m ≤ 2 ∧ i = .int .i64 m ∧ Below W.heap.size W wr) (fun _ _ _ _ _ i _ => 2 - (intOf i).toNat)
  case atStart => exact ⟨0, by omega, rfl, Below.refl _ _⟩
  case round =>
    obtain ⟨m, hm, rfl, hb⟩ := hrel
    by_cases hlt : m < 2
    · have ee := (hb.cell (p := ⟨w.heap.size + 1, m, none⟩) (by show w.heap.size + 1 < _; omega)).trans (HEE.out m hlt)
      have HN := Lib.hid ((HNO.out m).keep hb)
      have HB := Lib.hid hb
      clear hb
      go_wp2_with (first
        | (go_at_call 40
           (with_reducible refine (noD_fuse _ n _ HN.out).mono ?_)
           rintro e w1 ⟨rfl, hw⟩
           rw [hw]
           clear hw w1)
        | (go_at_call 42
           (with_reducible refine (list_any _ keep wr (HK.out.keep (HBW.out.trans (HB.out.mono (by omega))))).mono ?_)
           rintro e w2 ⟨v2, rfl, hv2, hb2⟩
           obtain ⟨A2, n2, k2, e2⟩ := hv2.isSlice
           subst e2
           have HN2 := Lib.hid (HN.out.keep hb2)
           have HB2 := Lib.hid (HB.out.trans (hb2.mono HB.out.size))
           clear hv2 hb2)
        | (go_at_call 41
           (with_reducible refine (noD_crash _ A2 n2 k2 w2 HN2.out).mono ?_)
           rintro e w3 ⟨rfl, hw⟩
           rw [hw]
           clear hw w3)
        | (go_at_call 25
           (with_reducible refine (noD_read _ n w2 HN2.out).mono ?_)
           rintro e w3 ⟨rfl, hw⟩
           rw [hw]
           clear hw w3)
        | (go_at_call 39
           (with_reducible refine (noD_open _ w2 HN2.out).mono ?_)
           rintro e w3 ⟨rfl, hw⟩
           rw [hw]
           clear hw w3)
        | (go_at_call 43
           (with_reducible refine (noD_write _ n line w2 HN2.out).mono ?_)
           rintro e w3 ⟨rfl, hw⟩
           rw [hw]
           clear hw w3)
        | (go_at_call 44
           (with_reducible refine (noD_sync _ w2 HN2.out).mono ?_)
           rintro e w3 ⟨rfl, hw⟩
           rw [hw]
           clear hw w3))
      go_roundw
      case rel => exact ⟨m + 1, by omega, by go_num, HB2.out⟩
      case measure => simp [intOf]; omega
    · obtain rfl : m = 2 := by omega
      have HB := Lib.hid hb
      clear hb
      rw [show ((2 : Nat) : Int) = 2 from rfl]
      go_wp2_with fail
      obtain ⟨V, hV⟩ : ∃ V, V = (wr.alloc (.cells #[.pointer none, .pointer none, .slice none 0 0, .int .i64 0, .bool false] 77)).alloc (.cells #[.pointer none, .pointer (some ⟨wr.heap.size, 0, none⟩)] 23) := ⟨_, rfl⟩
      have hbV : Below wr.heap.size wr V := by rw [hV]; exact ((Below.refl _ _).alloc (Nat.le_refl _) _).alloc (by simp) _
      have hzV : V.heap.size = wr.heap.size + 2 := by rw [hV]; simp
      have hd : V.cell? ⟨wr.heap.size, 1, none⟩ = some (.pointer none) := by rw [hV]; simp
      have e0 : V.cell? ⟨wr.heap.size + 1, 0, none⟩ = some (pB (nth2 wr.heap.size 0)) := by rw [hV]; simp [pB, nth2]
      have e1 : V.cell? ⟨wr.heap.size + 1, 1, none⟩ = some (pB (nth2 wr.heap.size 1)) := by rw [hV]; simp [pB, nth2]
      have HBV := Lib.hid (HBW.out.trans ((HB.out.trans (hbV.mono HB.out.size)).mono (by omega)))
      have hno : ∀ m, NoW V (nth2 wr.heap.size m) := fun m => by unfold nth2; split; trivial; exact hd
      have HNV := Lib.hid hno
      have hee : ∀ m, m < 2 → V.cell? ⟨wr.heap.size + 1, m, none⟩ = some (pB (nth2 wr.heap.size m)) := fun m hm => by
        match m, hm with
        | 0, _ => exact e0
        | 1, _ => exact e1
      have HEV := Lib.hid hee
      rw [← hV]
      clear hV hbV hd e0 e1 hno hee
      go_loopw [14, 15, 16, 17, 18, 76] (fun _ _ _ _ _ i wr2 => ∃ m : Nat, m ≤ 2 ∧ i = .int .i64 m ∧ wr2 = V) (fun _ _ _ _ _ i _ => 2 - (intOf i).toNat)
      case atStart => exact ⟨0, by omega, rfl, rfl⟩
      case round =>
        obtain ⟨m, hm, rfl, rfl⟩ := hrel
        by_cases hlt : m < 2
        · have ee := HEV.out m hlt
          have HN := Lib.hid (HNV.out m)
          go_wp2_with (first
            | (go_at_call 31
               (with_reducible refine (noW_do _ line _ HN.out).mono ?_)
               rintro e w1 ⟨rfl, hw⟩
               rw [hw]
               clear hw w1)
            | (go_at_call 16
               (with_reducible refine (noW_ask _ line _ HN.out).mono ?_)
               rintro e w1 ⟨rfl, hw⟩
               rw [hw]
               clear hw w1)
            | (go_at_call 28
               (with_reducible refine (noW_commit _ _ HN.out).mono ?_)
               rintro e w1 ⟨rfl, hw⟩
               rw [hw]
               clear hw w1)
            | (go_at_call 26
               (with_reducible refine (noW_journal _ _ HN.out).mono ?_)
               rintro e w1 ⟨rfl, hw⟩
               rw [hw]
               clear hw w1)
            | (go_at_call 29
               (with_reducible refine (noW_state _ _ HN.out).mono ?_)
               rintro e w1 ⟨rfl, hw⟩
               rw [hw]
               clear hw w1))
          go_roundw
          case rel => exact ⟨m + 1, by omega, by go_num, by first | trivial | rfl⟩
          case measure => simp [intOf]; omega
        · obtain rfl : m = 2 := by omega
          go_wp2_with (go_at_call 21; refine (awake_any _ (HG.out.next HBV.out)).mono ?_; rintro e w2 ⟨rfl, hb2⟩)
          go_ret
          exact ⟨rfl, HBV.out.trans (hb2.mono HBV.out.size)⟩
end Go.Proofs.YtklnnpacfjnnlaaGreatDoor
