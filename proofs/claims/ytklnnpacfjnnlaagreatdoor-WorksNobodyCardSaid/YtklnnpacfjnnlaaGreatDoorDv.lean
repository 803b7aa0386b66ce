/- do of vat, ask of stir. -/
import Derived.Test.YtklnnpacfjnnlaaGreatDoorDx
import Derived.Test.YtklnnpacfjnnlaaGreatDoorVt
import Derived.Test.YtklnnpacfjnnlaaGreatDoorSr
namespace Go.Proofs.YtklnnpacfjnnlaaGreatDoor
open Go.RowKit
theorem enter156 (args : Array Value) (w : World) : (callFunc 156 args).run Tryz.prog w = .ok (.enter 156 args) w := by kernel_rfl
theorem enter105 (args : Array Value) (w : World) : (callFunc 105 args).run Tryz.prog w = .ok (.enter 105 args) w := by kernel_rfl
theorem numOf_bound (s : ByteArray) (sg : Bool) (n : Int) (h : numOf s sg = some n) : -1000000 < n ∧ n < 1000000 ∧ (sg = false → 0 ≤ n) := by
  unfold numOf at h
  split at h
  · rename_i m hm
    split at h
    · cases h
    · rename_i hc
      simp only [not_or] at hc
      obtain ⟨h1, h2, h3, h4⟩ := hc
      have h2 : Lib.itoa m = digs s := Decidable.not_not.1 h2
      have hlt : m < 1000000 := by
        have e1 : Lib.itoa m = Lib.decDigits m.toNat := by unfold Lib.itoa; rw [if_neg h3]
        have e2 := Lib.lt_pow_nDigits m.toNat
        rw [← Lib.decDigits_length, ← e1, h2] at e2
        have e3 : 10 ^ (digs s).length ≤ 10 ^ 6 := Nat.pow_le_pow_right (by omega) (by omega)
        have e4 : (10 : Nat) ^ 6 = 1000000 := by decide
        omega
      simp only [Option.some.injEq] at h
      by_cases hms : mins s = true
      · rw [if_pos hms] at h
        refine ⟨by omega, by omega, fun hs => ?_⟩
        exact absurd ⟨hms, Or.inl hs⟩ h4
      · rw [if_neg hms] at h
        exact ⟨by omega, by omega, fun _ => by omega⟩
  · cases h
theorem fm_ndd (ws : List ByteArray) (p : List ByteArray × List Int) (h : fm ws [110, 100, 100] = some p) : ∃ nm a m, p = ([nm], [a, m]) ∧ isNm nm = true ∧ 0 ≤ a ∧ a < 1000000 ∧ 0 ≤ m ∧ m < 1000000 := by
  have hl := fm_length _ _ _ h
  match ws, hl with
  | [x, y, z], _ =>
    have d1 : ¬ ((100 : UInt8) = 110) := by decide
    simp only [fm, if_true, if_neg d1] at h
    cases hx : isNm x with
    | false => rw [hx] at h; simp at h
    | true =>
      rw [hx] at h
      cases hy : numOf y ((100 : UInt8) == 115) with
      | none => rw [hy] at h; simp at h
      | some a =>
        rw [hy] at h
        cases hz : numOf z ((100 : UInt8) == 115) with
        | none => rw [hz] at h; simp at h
        | some m =>
          rw [hz] at h
          simp at h
          have b1 := numOf_bound _ _ _ hy
          have b2 := numOf_bound _ _ _ hz
          exact ⟨x, a, m, h.symm, hx, b1.2.2 rfl, b1.2.1, b2.2.2 rfl, b2.2.1⟩
theorem fm_d (ws : List ByteArray) (p : List ByteArray × List Int) (h : fm ws [100] = some p) : ∃ d, p = ([], [d]) ∧ 0 ≤ d ∧ d < 1000000 := by
  have hl := fm_length _ _ _ h
  match ws, hl with
  | [y], _ =>
    simp only [fm] at h
    rw [if_neg (by decide)] at h
    cases hy : numOf y ((100 : UInt8) == 115) with
    | none => rw [hy] at h; simp at h
    | some a =>
      rw [hy] at h
      simp at h
      have b1 := numOf_bound _ _ _ hy
      exact ⟨a, h.symm, b1.2.2 rfl, b1.2.1⟩
theorem Row5.notMap {w : World} {s gm : Nat} {v g p gv cv : Value} {es : Array MapEntry} {c : Nat} (h : Row5 w s v g p gv cv) (hg : w.heap[gm]? = some (.map es c)) : gm ≠ s := by
  rintro rfl
  have := h.cell 0
  simp [World.cell?, hg] at this
theorem Rw.obj {α : Type} {k : Nat} {E : Enc α k} {e : TypeId} {w : World} {X b : Nat} {v : Value} {L : List α} (h : Rw E e w X v L) (hb : v.ownBlock = some b) : ∃ cur, w.heap[b]? = some (.cells cur e (0, 0)) := by
  rcases h.2 with ⟨rfl, _⟩ | ⟨g, cap, cur, rfl, _, hg, _⟩
  · simp [Value.ownBlock] at hb
  · simp [Value.ownBlock] at hb
    subst hb
    exact ⟨cur, hg⟩
theorem Rw.notMap {α : Type} {k : Nat} {E : Enc α k} {e : TypeId} {w : World} {X gm : Nat} {v : Value} {L : List α} {es : Array MapEntry} {c : Nat} (h : Rw E e w X v L) (hg : w.heap[gm]? = some (.map es c)) : v.ownBlock ≠ some gm := by
  intro hb
  obtain ⟨cur, h1⟩ := h.obj hb
  rw [h1] at hg
  cases hg
theorem Rw.apart {α β : Type} {k l : Nat} {E : Enc α k} {F : Enc β l} {e f : TypeId} {w : World} {X Y b : Nat} {v u : Value} {L : List α} {M : List β} (h : Rw E e w X v L) (h2 : Rw F f w Y u M) (hne : e ≠ f) (hb : v.ownBlock = some b) : u.ownBlock ≠ some b := by
  intro hu
  obtain ⟨cur, h1⟩ := h.obj hb
  obtain ⟨cur2, h3⟩ := h2.obj hu
  rw [h1] at h3
  simp only [Option.some.injEq, Obj.cells.injEq] at h3
  exact hne h3.2.1
/-- what the change vat gives -/
def VR (b : Bk) (text : ByteArray) (s1 : Nat) (rep : ByteArray) (er : Int) (w2 : World) : Prop :=
  match fm ((words text).drop 1) [110, 100, 100] with
  | none => rep = ⟨#[]⟩ ∧ er = 3
  | some p => ∃ nm a m, p = ([nm], [a, m]) ∧ rep = vatWord (vatRes b.vats (nm, a, m)) ∧ er = vatRes b.vats (nm, a, m) ∧ (er = 0 → Stb w2 s1 s1 { b with vats := b.vats ++ [(nm, a, m)] })
set_option maxHeartbeats 4000000 in
set_option maxRecDepth 100000 in
theorem do_vat (s X : Nat) (text : ByteArray) (b : Bk) (w : World) (hbig : text.size ≤ 9223372036854775807) (hh : headWord text = ⟨#[118, 97, 116]⟩) (hg : Glob w) (hl : b.vats.length ≤ 10) (hC : b.crates.length ≤ 100) (hst : Stb w X s b) :
    Calls Tryz.prog 64 #[.pointer (some ⟨s, 0, none⟩), .string text] w fun e w' => Below w.heap.size w w' ∧
      if isLn text = true then ∃ s1 rep er, w.heap.size ≤ s1 ∧ VR b text s1 rep er w' ∧ e = .returned (okRes er s s1 rep) else e = .returned (.tuple #[.pointer (some ⟨s, 0, none⟩), .string ⟨#[]⟩, .int .i64 3]) := by
  refine do_gen s X text b w hbig hg (by omega) hC hst (VR b text) (fun hln w1 s1 hb1 hle hlt hst1 => ?_)
  rw [hh, show changeOf s1 0 ⟨#[118, 97, 116]⟩ = (⟨#[110, 100, 100]⟩, .func (.func 156) #[.pointer (some ⟨s1, 0, none⟩)] #[]) from by unfold changeOf; simp only [ByteArray.toList_eq]; rfl]
  refine obey_meth 156 _ ⟨#[110, 100, 100]⟩ text (fm ((words text).drop 1) [110, 100, 100]) w1 _ enter156 (fun W hW => form_plain text ⟨#[110, 100, 100]⟩ hln (by decide) (by decide) W ((hg.next hb1).next hW)) ?_ ?_
  · intro hr W hW
    exact ⟨hW.mono (by omega), _, _, rfl, by unfold VR; rw [hr]; exact ⟨rfl, rfl⟩⟩
  · intro p hr W v1 v2 hW hv1 hv2
    obtain ⟨nm, a, m, rfl, hnm, -⟩ := fm_ndd _ _ hr
    obtain ⟨v, cv, gm, pm, hrow, hv, hc, hgm, hpm, q1, q2, q3, q4, q5, q6, q7⟩ := hst1.keep hW
    have hws := hW.size
    refine (vat_any s1 s1 w1.heap.size s1 v v1 v2 b.vats nm a m W (Nat.le_refl _) (by omega) (hrow.cell 0) (hrow.free 0) hv (Nat.le_refl _) q5 hv1 hv2 hl).mono ?_
    rintro e w2 ⟨hb2, ho2, he, hok⟩
    refine ⟨_, _, he, (hW.mono (by omega)).trans hb2, _, _, he, ?_⟩
    unfold VR
    rw [hr]
    refine ⟨nm, a, m, rfl, rfl, rfl, fun h0 => ?_⟩
    obtain ⟨v', c1, c2, c3, c4, c5⟩ := hok h0
    have hgl : gm < W.heap.size := (Array.getElem?_eq_some_iff.1 hgm).1
    have hpl : pm < W.heap.size := (Array.getElem?_eq_some_iff.1 hpm).1
    refine ⟨v', cv, gm, pm, ⟨fun j => ?_, fun j => (c4 j).trans (hrow.free j)⟩, c2, hc.same (fun b hb hlt => ho2 b hlt (fun e => q6 (e ▸ hb)) (fun e => q7 b e hb)), ?_, ?_, q1, q2, q3, q4, c3, q6, ?_⟩
    · match j with
      | 0 => exact c1
      | j + 1 => exact (c5 (j + 1) (by omega)).trans (hrow.cell (j + 1))
    · rw [ho2 gm hgl (hrow.notMap hgm) (hv.notMap hgm)]; exact hgm
    · rw [ho2 pm hpl (hrow.notMap hpm) (hv.notMap hpm)]; exact hpm
    · intro b hb
      exact c2.apart (hc.same (fun b hb hlt => ho2 b hlt (fun e => q6 (e ▸ hb)) (fun e => q7 b e hb))) (by decide) hb
/-- what the question stir gives -/
def SR (b : Bk) (text : ByteArray) (rep : ByteArray) (er : Int) : Prop :=
  match fm ((words text).drop 1) [100] with
  | none => rep = ⟨#[]⟩ ∧ er = 3
  | some p => ∃ d, p = ([], [d]) ∧ rep = stirRep b.vats d ∧ er = 0
set_option maxHeartbeats 4000000 in
set_option maxRecDepth 100000 in
theorem ask_stir (s X : Nat) (text : ByteArray) (b : Bk) (w : World) (hbig : text.size ≤ 9223372036854775807) (hh : headWord text = ⟨#[115, 116, 105, 114]⟩) (hg : Glob w) (hf : Fit b.vats) (hst : Stb w X s b) :
    Calls Tryz.prog 46 #[.pointer (some ⟨s, 0, none⟩), .string text] w fun e w' => Below w.heap.size w w' ∧
      if isLn text = true then ∃ rep er, SR b text rep er ∧ e = .returned (.tuple #[.string rep, .int .i64 er]) else e = .returned (.tuple #[.string ⟨#[]⟩, .int .i64 3]) := by
  obtain ⟨v, cv, gm, pm, hrow, hv, -⟩ := hst
  refine ask_gen s text w hrow.lt hbig hg (SR b text) (fun hln w1 bx hb1 hle hlt hcx => ?_)
  rw [hh, show questionOf s bx ⟨#[115, 116, 105, 114]⟩ = (⟨#[100]⟩, .func (.func 105) #[.pointer (some ⟨s, 0, none⟩)] #[]) from by unfold questionOf; simp only [ByteArray.toList_eq]; rfl]
  refine obey_meth 105 _ ⟨#[100]⟩ text (fm ((words text).drop 1) [100]) w1 _ enter105 (fun W hW => form_plain text ⟨#[100]⟩ hln (by decide) (by decide) W ((hg.next hb1).next hW)) ?_ ?_
  · intro hr W hW
    exact ⟨hW, _, _, rfl, by unfold SR; rw [hr]; exact ⟨rfl, rfl⟩⟩
  · intro p hr W v1 v2 hW hv1 hv2
    obtain ⟨d, rfl, hd0, hd1⟩ := fm_d _ _ hr
    obtain ⟨A1, k1, rfl⟩ := hv1.form
    have hbW : Below w.heap.size w W := hb1.trans (hW.mono hb1.size)
    refine (stir_any s X w1.heap.size v A1 0 k1 v2 b.vats d ⟨by omega, by omega⟩ hf W ((hbW.cell (p := ⟨s, 0, none⟩) hrow.lt).trans (hrow.cell 0)) (hv.keep hbW) hv2).mono ?_
    rintro e w2 ⟨rfl, hb2⟩
    refine ⟨_, _, rfl, hW.trans (hb2.mono hW.size), _, _, rfl, ?_⟩
    unfold SR
    rw [hr]
    exact ⟨d, rfl, rfl, rfl⟩
end Go.Proofs.YtklnnpacfjnnlaaGreatDoor
