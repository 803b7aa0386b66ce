/- The package variables that the works read; numerals. -/
import Derived.Test.YtklnnpacfjnnlaaGreatDoorShp
import Derived.Test.YtklnnpacfjnnlaaGreatDoorNa
namespace Go.Proofs.YtklnnpacfjnnlaaGreatDoor
open Go.RowKit
/-- what the package variables hold -/
structure Glob (w : World) : Prop where
  big : 8 ≤ w.heap.size
  tab : Lib.TabIs Tryz.prog w "internal/strconv.uint64pow10" .u64 Lib.pow10Tab
  max : ∃ m, w.cell? ⟨0, 0, none⟩ = some (.int .i64 m)
  syn : ∃ ev, w.cell? ⟨1, 0, none⟩ = some ev ∧ (ev = .nilIface ∨ ∃ te pe, ev = .iface te pe)
  rng : ∃ ev, w.cell? ⟨2, 0, none⟩ = some ev ∧ (ev = .nilIface ∨ ∃ te pe, ev = .iface te pe)
theorem gPow : Tryz.prog.globalNamed "internal/strconv.uint64pow10" = some 3 := by kernel_rfl
theorem Glob.same {w w' : World} (h : Glob w) (hs : w.heap.size ≤ w'.heap.size) (hb : ∀ k, k < 8 → w'.heap[k]? = w.heap[k]?) : Glob w' := by
  obtain ⟨big, tab, ⟨m, hm⟩, ⟨e1, h1, h1b⟩, ⟨e2, h2, h2b⟩⟩ := h
  refine ⟨by omega, ?_, ⟨m, ?_⟩, ⟨e1, ?_, h1b⟩, ⟨e2, ?_, h2b⟩⟩
  · unfold Lib.TabIs World.var? at tab ⊢
    rw [gPow] at tab ⊢
    simp only [Option.bind_some] at tab ⊢
    rw [hb 3 (by omega)]
    exact tab
  · rw [World.cell?_of_block (w := w) (a := ⟨0, 0, none⟩) (hb 0 (by omega))]; exact hm
  · rw [World.cell?_of_block (w := w) (a := ⟨1, 0, none⟩) (hb 1 (by omega))]; exact h1
  · rw [World.cell?_of_block (w := w) (a := ⟨2, 0, none⟩) (hb 2 (by omega))]; exact h2
theorem Glob.keep {w w' : World} {B : Nat} (h : Glob w) (hb : Below B w w') (hB : 8 ≤ B) : Glob w' := h.same hb.size fun k hk => hb.block k (by omega)
theorem Glob.next {w w' : World} (h : Glob w) (hb : Below w.heap.size w w') : Glob w' := h.keep hb h.big

theorem grow_below (w : World) (k : Nat) (os : Array Obj) : Below w.heap.size w («Sort».grow (w.drewN k) os) :=
  ⟨rfl, rfl, rfl, by simp [«Sort».grow, World.drewN], fun i hi => by
    show (w.heap ++ os)[i]? = _
    rw [Array.getElem?_append_left hi]⟩
theorem Itoa_any (n : Int) (h0 : -9223372036854775808 ≤ n) (h1 : n ≤ 9223372036854775807) (w : World) (hg : Glob w) :
    Calls Tryz.prog 27 #[.int .i64 n] w fun e w' => e = .returned (.string ⟨(Lib.itoa n).toArray⟩) ∧ Below w.heap.size w w' := by
  refine (Any.strconv_Itoa l27 n h0 h1 w hg.tab).mono ?_
  rintro e w' ⟨rfl, k, os, rfl⟩
  exact ⟨rfl, grow_below w k os⟩
/-- an error that is not nil -/
def Err (e : Value) : Prop := ∃ t a, e = .iface t (.pointer (some a))
theorem Atoi_any (s : ByteArray) (hs : s.size ≤ 1000) (w : World) (hg : Glob w) :
    Calls Tryz.prog 49 #[.string s] w fun e w' => ∃ n er, e = .returned (.tuple #[.int .i64 n, er]) ∧ ((Lib.atoiAll s.data.toList = .ok n ∧ er = .nilIface) ∨ ((∀ v, Lib.atoiAll s.data.toList ≠ .ok v) ∧ Err er)) ∧ Below w.heap.size w w' := by
  cases h : Lib.atoiAll s.data.toList with
  | ok v =>
    refine (Any.strconv_Atoi_ok l49 s (by omega) v h w).mono ?_
    rintro e w' ⟨rfl, hw⟩
    refine ⟨v, .nilIface, rfl, .inl ⟨rfl, rfl⟩, ?_⟩
    rcases hw with rfl | ⟨t, rfl⟩
    · exact Below.refl _ _
    · exact Lib.bytesWorld_below _ _ _
  | range =>
    obtain ⟨ev, h1, h2⟩ := hg.rng
    refine (Any.strconv_Atoi_range l49 s (by omega) h ev w h1 h2).mono ?_
    rintro e w' ⟨N, rfl, -, -, hb⟩
    exact ⟨_, _, rfl, .inr ⟨(fun v hv => by cases hv), _, _, rfl⟩, hb⟩
  | _ =>
    obtain ⟨ev, h1, h2⟩ := hg.syn
    refine (Any.strconv_Atoi_syntax l49 s (by omega) h ev w h1 h2).mono ?_
    rintro e w' ⟨N, rfl, -, -, hb⟩
    exact ⟨0, _, rfl, .inr ⟨(fun v hv => by cases hv), _, _, rfl⟩, hb⟩
/-- the digits of a number of a line -/
def digs (s : ByteArray) : List UInt8 := Lib.trimPrefix s.data.toList [45]
/-- whether a minus is ahead -/
def mins (s : ByteArray) : Bool := Lib.hasPrefix s.data.toList [45]
/-- a number of a line -/
def numOf (s : ByteArray) (sg : Bool) : Option Int :=
  match Lib.atoiAll (digs s) with
  | .ok n => if 6 < (digs s).length ∨ Lib.itoa n ≠ digs s ∨ n < 0 ∨ (mins s = true ∧ (sg = false ∨ n = 0)) then none else some (if mins s then -n else n)
  | _ => none
theorem numOf_bad (s : ByteArray) (sg : Bool) (h : ∀ v, Lib.atoiAll (digs s) ≠ .ok v) : numOf s sg = none := by
  unfold numOf
  split
  · rename_i n hn; exact absurd hn (h n)
  · rfl
theorem numOf_ok (s : ByteArray) (sg : Bool) (n : Int) (h : Lib.atoiAll (digs s) = .ok n) : numOf s sg = if 6 < (digs s).length ∨ Lib.itoa n ≠ digs s ∨ n < 0 ∨ (mins s = true ∧ (sg = false ∨ n = 0)) then none else some (if mins s then -n else n) := by
  unfold numOf; rw [h]
theorem digs_le (s : ByteArray) : (digs s).length ≤ s.size := by
  unfold digs Lib.trimPrefix
  rw [Lib.size_eq]
  split
  · rw [List.length_drop]; omega
  · exact Nat.le_refl _
theorem atoi_bounds (l : List UInt8) (n : Int) (h : Lib.atoiAll l = .ok n) : -9223372036854775808 ≤ n ∧ n ≤ 9223372036854775807 := by
  unfold Lib.atoiAll at h
  cases l with
  | nil => cases h
  | cons c r =>
    simp only at h
    split at h
    · cases h
    · cases h
    · rename_i u hu
      split at h
      · cases h
      · split at h
        · cases h
        · rename_i h1 h2
          injection h with h
          subst h
          split
          · rename_i h3
            have : ¬ 9223372036854775808 < u := fun hlt => h2 ⟨h3, hlt⟩
            omega
          · rename_i h3
            have : ¬ 9223372036854775808 ≤ u := fun hlt => h1 ⟨h3, hlt⟩
            omega
/-- the two results of number -/
def numRes : Option Int → Ending
  | some n => .returned (.tuple #[.int .i64 n, .bool true])
  | none => .returned (.tuple #[.int .i64 0, .bool false])
set_option maxHeartbeats 4000000 in
set_option maxRecDepth 100000 in
theorem number_any (s : ByteArray) (sg : Bool) (hs : s.size ≤ 1000) (w : World) (hg : Glob w) :
    Calls Tryz.prog 183 #[.string s, .bool sg] w fun e w' => e = numRes (numOf s sg) ∧ Below w.heap.size w w' := by
  have hdl := digs_le s
  have hp := Any.strings_CutPrefix l101 s ⟨#[45]⟩ w
  have hp1 : Calls Tryz.prog 101 #[.string s, .string ⟨#[45]⟩] w fun e w' => e = .returned (.tuple #[.string ⟨(digs s).toArray⟩, .bool (mins s)]) ∧ w' = w := hp
  have HP := Lib.hid hp1
  clear hp hp1
  obtain ⟨D, hD⟩ : ∃ D, D = digs s := ⟨_, rfl⟩
  have hbd := numOf_bad s sg
  have hok := numOf_ok s sg
  rw [← hD] at HP hbd hok hdl
  obtain ⟨mi, hm⟩ : ∃ mi, mi = mins s := ⟨_, rfl⟩
  rw [← hm] at HP hok
  have HB := Lib.hid hbd
  have HO := Lib.hid hok
  clear hbd hok hD hm
  have hDs : (⟨D.toArray⟩ : ByteArray).size = D.length := Lib.size_mk D
  have hDl : (⟨D.toArray⟩ : ByteArray).data.toList = D := rfl
  have hA := fun w hg => Atoi_any ⟨D.toArray⟩ (by omega) w hg
  rw [hDl] at hA
  have HA := Lib.hid hA
  clear hA hDl
  have HG := Lib.hid hg
  clear hg
  go_enter Tryz.func183, Tryz.ntmps183
  go_wp2_with (go_at_call 101; refine HP.out.mono ?_; rintro e w1 ⟨rfl, hw⟩; rw [hw]; clear hw w1)
  refine (HA.out w HG.out).mono ?_
  rintro e w2 ⟨n, er, rfl, hcase, hb2⟩
  rcases hcase with ⟨hat, rfl⟩ | ⟨hbad, t, a, rfl⟩
  · have hval := HO.out n hat
    have HV := Lib.hid hval
    have HAT := Lib.hid hat
    clear hval hat
    have hnb := atoi_bounds _ _ HAT.out
    by_cases h6 : 6 < D.length
    · have hd6 : decide ((6 : Int) < (D.length : Int)) = true := decide_eq_true (by omega)
      have hres : numOf s sg = none := by rw [HV.out, if_pos (.inl h6)]
      have HR := Lib.hid hres
      clear hres
      go_wp2
      go_ret2
      exact ⟨by rw [HR.out]; rfl, hb2⟩
    · have hd6 : decide ((6 : Int) < (D.length : Int)) = false := decide_eq_false (by omega)
      have hI := Itoa_any n hnb.1 hnb.2 w2 (HG.out.next hb2)
      obtain ⟨I, hIe⟩ : ∃ I, I = Lib.itoa n := ⟨_, rfl⟩
      rw [← hIe] at hI HV
      have HI := Lib.hid hI
      have HIE := Lib.hid hIe
      clear hI hIe
      by_cases hit : I = D
      · subst hit
        by_cases hneg : n < 0
        · have hres : numOf s sg = none := by rw [HV.out, if_pos (.inr (.inr (.inl hneg)))]
          have HR := Lib.hid hres
          clear hres
          go_wp2_with (go_at_call 27; refine HI.out.mono ?_; rintro e w3 ⟨rfl, hb3⟩)
          go_ret2
          exact ⟨by rw [HR.out]; rfl, hb2.trans (hb3.mono hb2.size)⟩
        · have hneg' : decide (n < 0) = false := decide_eq_false hneg
          cases mi with
          | false =>
            have hres : numOf s sg = some n := by rw [HV.out, if_neg (by simp; omega)]; rfl
            have HR := Lib.hid hres
            clear hres
            go_wp2_with (go_at_call 27; refine HI.out.mono ?_; rintro e w3 ⟨rfl, hb3⟩)
            go_ret2
            exact ⟨by rw [HR.out]; rfl, hb2.trans (hb3.mono hb2.size)⟩
          | true =>
            cases sg with
            | false =>
              have hres : numOf s false = none := by rw [HV.out, if_pos (.inr (.inr (.inr ⟨rfl, .inl rfl⟩)))]
              have HR := Lib.hid hres
              clear hres
              go_wp2_with (go_at_call 27; refine HI.out.mono ?_; rintro e w3 ⟨rfl, hb3⟩)
              go_ret2
              exact ⟨by rw [HR.out]; rfl, hb2.trans (hb3.mono hb2.size)⟩
            | true =>
              by_cases hz : n = 0
              · subst hz
                have hres : numOf s true = none := by rw [HV.out, if_pos (.inr (.inr (.inr ⟨rfl, .inr rfl⟩)))]
                have HR := Lib.hid hres
                clear hres
                go_wp2_with (go_at_call 27; refine HI.out.mono ?_; rintro e w3 ⟨rfl, hb3⟩)
                go_ret2
                exact ⟨by rw [HR.out]; rfl, hb2.trans (hb3.mono hb2.size)⟩
              · have hres : numOf s true = some (-n) := by rw [HV.out, if_neg (by simp; omega)]; rfl
                have HR := Lib.hid hres
                have hzb : (n == 0) = false := by simpa using hz
                clear hres
                go_wp2_with (go_at_call 27; refine HI.out.mono ?_; rintro e w3 ⟨rfl, hb3⟩)
                go_ret2
                exact ⟨by rw [HR.out]; rfl, hb2.trans (hb3.mono hb2.size)⟩
      · have hres : numOf s sg = none := by rw [HV.out, if_pos (.inr (.inl hit))]
        have hsd : ((⟨I.toArray⟩ : ByteArray).toList == (⟨D.toArray⟩ : ByteArray).toList) = false := by
          rw [Lib.toList_data, Lib.toList_data]; exact beq_eq_false_iff_ne.2 hit
        have HR := Lib.hid hres
        clear hres
        go_wp2_with (go_at_call 27; refine HI.out.mono ?_; rintro e w3 ⟨rfl, hb3⟩)
        go_ret2
        exact ⟨by rw [HR.out]; rfl, hb2.trans (hb3.mono hb2.size)⟩
  · have hres := HB.out hbad
    have HR := Lib.hid hres
    clear hres hbad
    go_wp2
    go_ret2
    exact ⟨by rw [HR.out]; rfl, hb2⟩
end Go.Proofs.YtklnnpacfjnnlaaGreatDoor
