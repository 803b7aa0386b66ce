/- do, ask: what they are by the rules' contracts. -/
import Derived.Test.YtklnnpacfjnnlaaGreatDoorOb
import Derived.Test.YtklnnpacfjnnlaaGreatDoorCh
import Derived.Test.YtklnnpacfjnnlaaGreatDoorBg
namespace Go.Proofs.YtklnnpacfjnnlaaGreatDoor
open Go.RowKit
/-- the first word -/
def headWord (s : ByteArray) : ByteArray := ⟨(Lib.cut s.data.toList [32]).1.toArray⟩
theorem cut_any (s : ByteArray) (w : World) (hs : s.size ≤ 100) (hg : Glob w) :
    Calls Tryz.prog 18 #[.string s, .string ⟨#[32]⟩] w fun e w' => (∃ b c, e = .returned (.tuple #[.string (headWord s), .string b, .bool c])) ∧ Below w.heap.size w w' := by
  obtain ⟨m, hm⟩ := hg.max
  refine (Any.strings_Cut l18 s ⟨#[32]⟩ m w (by omega) hm).mono ?_
  rintro e w' ⟨rfl, n, rfl⟩
  exact ⟨⟨_, _, rfl⟩, below_drewN (Below.refl _ w) n⟩
/-- a state's books -/
structure Bk where
  vats : List Vat
  crates : List (Int × Int)
  gr : Array MapEntry × Nat
  pk : Array MapEntry × Nat
  gA : Option Addr
  gn : Nat
  gc : Nat
def Stb (w : World) (B s : Nat) (b : Bk) : Prop := Sta w B s b.vats b.crates b.gr b.pk (.slice b.gA b.gn b.gc)
def okRes (er : Int) (s s1 : Nat) (rep : ByteArray) : Value := if er = 0 then .tuple #[.pointer (some ⟨s1, 0, none⟩), .string rep, .int .i64 0] else .tuple #[.pointer (some ⟨s, 0, none⟩), .string ⟨#[]⟩, .int .i64 er]
theorem changeOf_free (s b c : Nat) (wd : ByteArray) : changeOf s b wd = changeOf s c wd := rfl
set_option maxHeartbeats 4000000 in
set_option maxRecDepth 100000 in
theorem do_gen (s X : Nat) (text : ByteArray) (b : Bk) (w : World) (hbig : text.size ≤ 9223372036854775807) (hg : Glob w) (hl : b.vats.length ≤ 100) (hC : b.crates.length ≤ 100) (hst : Stb w X s b) (R : Nat → ByteArray → Int → World → Prop)
    (hobey : isLn text = true → ∀ w1 s1, Below w.heap.size w w1 → w.heap.size ≤ s1 → s1 < w1.heap.size → Stb w1 s1 s1 b →
      Calls Tryz.prog 77 #[.agg #[.string (changeOf s1 0 (headWord text)).1, (changeOf s1 0 (headWord text)).2], .string text] w1 fun e w2 => Below s1 w1 w2 ∧ ∃ rep er, e = .returned (.tuple #[.string rep, .int .i64 er]) ∧ R s1 rep er w2) :
    Calls Tryz.prog 64 #[.pointer (some ⟨s, 0, none⟩), .string text] w fun e w' => Below w.heap.size w w' ∧
      if isLn text = true then ∃ s1 rep er, w.heap.size ≤ s1 ∧ R s1 rep er w' ∧ e = .returned (okRes er s s1 rep) else e = .returned (.tuple #[.pointer (some ⟨s, 0, none⟩), .string ⟨#[]⟩, .int .i64 3]) := by
  have HIL := Lib.hid (isLine_any text w hbig hg)
  have HG := Lib.hid hg
  have HST := Lib.hid hst
  have hlt : s < w.heap.size := by obtain ⟨_, _, _, _, h1, -⟩ := hst; exact h1.lt
  cases hln : isLn text with
  | false =>
    clear hobey hg hst
    go_enter Tryz.func64, Tryz.ntmps64
    go_wp2_with (go_at_call 75; refine HIL.out.mono ?_; rintro e w1 ⟨rfl, hb1⟩; rw [hln])
    go_ret3
    exact ⟨hb1, rfl⟩
  | true =>
    have hsz := (isLn_ascii text hln).1
    have HO := Lib.hid (hobey hln)
    clear hobey hg hst
    go_enter Tryz.func64, Tryz.ntmps64
    go_wp2_with (first
      | (go_at_call 75
         refine HIL.out.mono ?_
         rintro e w1 ⟨rfl, hb1⟩
         rw [hln]
         have HB1 := Lib.hid hb1
         clear hb1)
      | (go_at_call 18
         refine (cut_any text _ (by omega) (HG.out.next HB1.out)).mono ?_
         rintro e w2 ⟨⟨bb, cc, rfl⟩, hb2⟩
         have HB2 := Lib.hid (HB1.out.trans (hb2.mono HB1.out.size))
         clear hb2)
      | (go_at_call 99
         refine (clone_any s X _ _ _ _ _ _ _ _ _ _ hl hC (HST.out.keep HB2.out)).mono ?_
         rintro e w3 ⟨rfl, hb3, hst3⟩
         have HST3 := Lib.hid hst3
         have hsz3 : w2.heap.size < w3.heap.size := by obtain ⟨_, _, _, _, h1, -⟩ := hst3; exact h1.lt
         have hsz2 : w.heap.size ≤ w2.heap.size := HB2.out.size
         have HB23 := Lib.hid hb3
         have HB3 := Lib.hid (HB2.out.trans (hb3.mono HB2.out.size))
         clear hb3 hst3)
      | (go_at_call 100
         refine (change_any _ (headWord text) _).mono ?_
         rintro e w4 ⟨rfl, hb4⟩
         rw [changeOf_free _ _ 0]
         have HB34 := Lib.hid hb4
         have HB4 := Lib.hid (HB3.out.trans (hb4.mono HB3.out.size))
         clear hb4)
      | (go_at_call 77
         refine (HO.out _ w2.heap.size HB4.out hsz2 (by have := HB34.out.size; omega) (HST3.out.keep HB34.out)).mono ?_
         rintro e w5 ⟨hb5, rep, er, rfl, hR⟩
         have HB5 := Lib.hid (HB4.out.trans (hb5.mono hsz2))
         have HR := Lib.hid hR
         clear hb5 hR))
    · skip
      go_ret3
      exact ⟨HB5.out, _, hsz2, _, _, HR.out, by unfold okRes; rw [if_neg (by simp_all)]; rfl⟩
    · go_ret3
      exact ⟨HB5.out, _, hsz2, _, _, HR.out, by unfold okRes; rw [if_pos (by simp_all)]; rfl⟩
set_option maxHeartbeats 4000000 in
set_option maxRecDepth 100000 in
theorem ask_gen (s : Nat) (text : ByteArray) (w : World) (hs : s < w.heap.size) (hbig : text.size ≤ 9223372036854775807) (hg : Glob w) (R : ByteArray → Int → Prop)
    (hobey : isLn text = true → ∀ w1 bx, Below w.heap.size w w1 → w.heap.size ≤ bx → bx < w1.heap.size → w1.cell? ⟨bx, 0, none⟩ = some (.pointer (some ⟨s, 0, none⟩)) →
      Calls Tryz.prog 77 #[.agg #[.string (questionOf s bx (headWord text)).1, (questionOf s bx (headWord text)).2], .string text] w1 fun e w2 => Below w1.heap.size w1 w2 ∧ ∃ rep er, e = .returned (.tuple #[.string rep, .int .i64 er]) ∧ R rep er) :
    Calls Tryz.prog 46 #[.pointer (some ⟨s, 0, none⟩), .string text] w fun e w' => Below w.heap.size w w' ∧
      if isLn text = true then ∃ rep er, R rep er ∧ e = .returned (.tuple #[.string rep, .int .i64 er]) else e = .returned (.tuple #[.string ⟨#[]⟩, .int .i64 3]) := by
  have HIL := Lib.hid (isLine_any text w hbig hg)
  have HG := Lib.hid hg
  cases hln : isLn text with
  | false =>
    clear hobey hg
    go_enter Tryz.func46, Tryz.ntmps46
    go_wp2_with (go_at_call 75; refine HIL.out.mono ?_; rintro e w1 ⟨rfl, hb1⟩; rw [hln])
    go_ret2
    exact ⟨hb1, rfl⟩
  | true =>
    have hsz := (isLn_ascii text hln).1
    have HO := Lib.hid (hobey hln)
    clear hobey hg
    go_enter Tryz.func46, Tryz.ntmps46
    go_wp2_with (first
      | (go_at_call 75
         refine HIL.out.mono ?_
         rintro e w1 ⟨rfl, hb1⟩
         rw [hln]
         have HB1 := Lib.hid hb1
         clear hb1)
      | (go_at_call 18
         refine (cut_any text _ (by omega) (HG.out.next HB1.out)).mono ?_
         rintro e w2 ⟨⟨bb, cc, rfl⟩, hb2⟩
         have HB2 := Lib.hid (HB1.out.trans (hb2.mono HB1.out.size))
         clear hb2)
      | (go_at_call 76
         refine (question_any _ (headWord text) _).mono ?_
         rintro e w3 ⟨rfl, hb3, hc3⟩
         have hsz2 : w.heap.size ≤ w2.heap.size := HB2.out.size
         have HB3 := Lib.hid (HB2.out.trans (hb3.mono HB2.out.size))
         have HC3 := Lib.hid hc3
         have hsz3 : w2.heap.size < w3.heap.size := block_lt_of_cell hc3
         clear hb3 hc3)
      | (go_at_call 77
         refine (HO.out _ w2.heap.size HB3.out hsz2 hsz3 HC3.out).mono ?_
         rintro e w4 ⟨hb4, rep, er, rfl, hR⟩
         have HB4 := Lib.hid (HB3.out.trans (hb4.mono HB3.out.size))
         have HR := Lib.hid hR
         clear hb4 hR))
    go_ret2
    exact ⟨HB4.out, _, _, HR.out, rfl⟩
end Go.Proofs.YtklnnpacfjnnlaaGreatDoor
