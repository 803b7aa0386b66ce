/- Lines: the words of a line, isLine. -/
import Derived.Test.YtklnnpacfjnnlaaGreatDoorGl
import Derived.Test.YtklnnpacfjnnlaaGreatDoorShn
import Derived.Lib.ConvBytes
namespace Go.Proofs.YtklnnpacfjnnlaaGreatDoor
open Go.RowKit
/-- strings in memory -/
def stEnc : Enc ByteArray 1 := ⟨fun s => [.string s], fun _ => rfl, fun _ v h => by simp at h; subst h; rfl⟩
theorem info9 : (Tryz.prog.info? 9).map (fun i => (i.zero, i.size, i.bytes)) = some (some (.string ByteArray.empty), 1, 16) := by kernel_rfl
theorem stElt : Elt stEnc 22 9 (.string ByteArray.empty) 16 := ⟨info9, rfl, by omega, Tryz.underlying22, by omega⟩
theorem st_flat (L : List ByteArray) : L.flatMap stEnc.enc = L.map Value.string := by
  induction L with
  | nil => rfl
  | cons x L ih => rw [List.flatMap_cons, ih]; rfl
def sp : ByteArray := ⟨#[32]⟩
/-- what Split gives -/
def splitAt' (s sep : ByteArray) : List ByteArray := Lib.splitB sep 0 (Lib.countB s sep) s
/-- the words of a line -/
def words (s : ByteArray) : List ByteArray := splitAt' s sp
theorem split_length (s sep : ByteArray) (h1 : 1 ≤ sep.size) : (splitAt' s sep).length = Lib.countB s sep + 1 := Lib.splitB_all sep h1 0 _ s rfl
theorem split_le (s sep : ByteArray) (h1 : 1 ≤ sep.size) : (splitAt' s sep).length ≤ s.size + 1 := by
  rw [split_length s sep h1]
  have := Lib.countB_le sep h1 s.size s (Nat.le_refl _)
  omega
theorem split_any (s sep : ByteArray) (hs : s.size ≤ 1000000) (h1 : 1 ≤ sep.size) (w : World) (hg : Glob w) :
    Calls Tryz.prog 17 #[.string s, .string sep] w fun e w' => e = .returned (.slice (some ⟨w.heap.size, 0, none⟩) (splitAt' s sep).length (splitAt' s sep).length) ∧ Rw stEnc 9 w' w.heap.size (.slice (some ⟨w.heap.size, 0, none⟩) (splitAt' s sep).length (splitAt' s sep).length) (splitAt' s sep) ∧ Below w.heap.size w w' := by
  obtain ⟨m, hm⟩ := hg.max
  refine (Any.strings_Split l17 info9 s sep m w (by omega) hm h1).mono ?_
  rintro e w' ⟨rfl, rfl⟩
  have hl := split_length s sep h1
  have hle := split_le s sep h1
  rw [hl]
  refine ⟨rfl, ?_, (Below.refl _ _).alloc (Nat.le_refl _) _⟩
  unfold Rw
  rw [st_flat, ← hl]
  have h := World.ownsRow_lit (base := w.heap.size) (e := 9) (size := 1) w ((splitAt' s sep).map Value.string).toArray (splitAt' s sep).length (Nat.le_refl _) (by unfold maxLen; omega) (by simp)
  simp only [List.toList_toArray] at h
  exact h
theorem contains_any (X : Nat) (v : Value) (L : List ByteArray) (x : ByteArray) (w : World) (h : Rw stEnc 9 w X v L) (hl : L.length ≤ 1000000000) :
    Calls Tryz.prog 20 #[v, .string x] w fun e w' => e = .returned (.bool (Lib.containsS L x)) ∧ w' = w := by
  by_cases h0 : L.length = 0
  · obtain rfl := List.eq_nil_of_length_eq_zero h0
    obtain ⟨A, c, rfl⟩ := h.form
    refine (Any.slices_Contains_string_empty l20 A c x w).mono ?_
    rintro e w' ⟨rfl, rfl⟩
    exact ⟨rfl, rfl⟩
  · obtain ⟨g, c, rfl, -, -⟩ := h.seen (by omega)
    refine (Any.slices_Contains_string l20 g 0 L.length c L x w (Nat.le_refl _) (by omega) (fun j hj => ?_)).mono ?_
    · have := h.cell (j := j) (x := L[j]) (List.getElem?_eq_getElem hj) (i := 0) (u := .string L[j]) rfl
      rw [Nat.zero_add, List.getD_eq_getElem?_getD, List.getElem?_eq_getElem hj]
      simpa using this
    · rintro e w' ⟨rfl, rfl⟩
      refine ⟨?_, rfl⟩
      rw [List.take_length]
theorem bytesWorld_below (w : World) (e : TypeId) (s : ByteArray) : Below w.heap.size w (Lib.bytesWorld w e s) :=
  ⟨rfl, rfl, rfl, by rw [Lib.bytesWorld_size]; omega, fun k hk => Lib.bytesWorld_at_old w e s k hk⟩
/-- a byte that no line has -/
def offB (c : UInt8) : Bool := c.toNat < 32 || 126 < c.toNat
def u8 (c : UInt8) : Value := .int .u8 c.toNat
theorem off_at (w : World) : PredAt Tryz.prog 104 #[] u8 offB w := by
  intro W x _
  by_cases h1 : x.toNat < 32
  · have h1' : decide ((x.toNat : Int) < 32) = true := decide_eq_true (by omega)
    have hr : offB x = true := by simp [offB, h1]
    have HR := Lib.hid hr
    clear hr
    change Calls Tryz.prog 104 #[.int .u8 x.toNat] W _
    go_enter Tryz.func104, Tryz.ntmps104
    go_wp2
    go_ret
    exact ⟨by rw [HR.out]; rfl, 0, rfl⟩
  · by_cases h2 : 126 < x.toNat
    · have h1' : decide ((x.toNat : Int) < 32) = false := decide_eq_false (by omega)
      have h2' : decide ((126 : Int) < (x.toNat : Int)) = true := decide_eq_true (by omega)
      have hr : offB x = true := by simp [offB, h2]
      have HR := Lib.hid hr
      clear hr
      change Calls Tryz.prog 104 #[.int .u8 x.toNat] W _
      go_enter Tryz.func104, Tryz.ntmps104
      go_wp2
      go_ret
      exact ⟨by rw [HR.out]; rfl, 0, rfl⟩
    · have h1' : decide ((x.toNat : Int) < 32) = false := decide_eq_false (by omega)
      have h2' : decide ((126 : Int) < (x.toNat : Int)) = false := decide_eq_false (by omega)
      have hr : offB x = false := by simp [offB]; omega
      have HR := Lib.hid hr
      clear hr
      change Calls Tryz.prog 104 #[.int .u8 x.toNat] W _
      go_enter Tryz.func104, Tryz.ntmps104
      go_wp2
      go_ret
      exact ⟨by rw [HR.out]; rfl, 0, rfl⟩
/-- a line -/
def isLn (s : ByteArray) : Bool := decide (s.size ≤ 60) && !(Lib.containsS (words s) ⟨#[]⟩) && !(s.data.toList.any offB)
set_option maxHeartbeats 4000000 in
set_option maxRecDepth 100000 in
theorem isLine_any (s : ByteArray) (w : World) (hbig : s.size ≤ 9223372036854775807) (hg : Glob w) :
    Calls Tryz.prog 75 #[.string s] w fun e w' => e = .returned (.bool (isLn s)) ∧ Below w.heap.size w w' := by
  have hcs : ∀ (W : World) (s : ByteArray), (convert 9 98 (.string s)).run Tryz.prog W = .ok (.slice (some ⟨W.heap.size, 0, none⟩) s.size (grownCap W s.size 0 5)) (Lib.bytesWorld W 5 s) := fun W s => Lib.run_convert_string_bytes W 9 98 5 s Tryz.underlying9 Tryz.underlying98 Tryz.underlying5
  by_cases h60 : s.size ≤ 60
  · have hd : decide ((s.size : Int) ≤ 60) = true := decide_eq_true (by omega)
    have HG := Lib.hid hg
    cases hc : Lib.containsS (words s) ⟨#[]⟩ with
    | true =>
      have hres : isLn s = false := by unfold isLn; rw [hc]; simp
      have HR := Lib.hid hres
      have HC := Lib.hid hc
      clear hres hc hg
      go_enter Tryz.func75, Tryz.ntmps75
      go_wp2_with (first
        | (go_at_call 17; refine (split_any s sp (by omega) (by decide) _ HG.out).mono ?_; rintro e w1 ⟨rfl, hv, hb1⟩; have HV := Lib.hid hv; clear hv)
        | (go_at_call 20; refine (contains_any _ _ _ ⟨#[]⟩ _ HV.out (by have := split_le s sp (by decide); omega)).mono ?_; rintro e w2 ⟨rfl, hw⟩; rw [hw]; clear hw w2; rw [show Lib.containsS (splitAt' s sp) ⟨#[]⟩ = true from HC.out]))
      go_ret
      exact ⟨by rw [HR.out]; rfl, hb1⟩
    | false =>
      obtain ⟨o, ho⟩ : ∃ o, o = s.data.toList.any offB := ⟨_, rfl⟩
      have hres : isLn s = !o := by unfold isLn; rw [hc, ho]; simp [h60]
      have HR := Lib.hid hres
      have HC := Lib.hid hc
      have HO := Lib.hid ho
      clear hres hc hg ho
      go_enter Tryz.func75, Tryz.ntmps75
      go_wp2_with (first
        | (go_at_call 17; refine (split_any s sp (by omega) (by decide) _ HG.out).mono ?_; rintro e w1 ⟨rfl, hv, hb1⟩; have HV := Lib.hid hv; clear hv)
        | (go_at_call 20; refine (contains_any _ _ _ ⟨#[]⟩ _ HV.out (by have := split_le s sp (by decide); omega)).mono ?_; rintro e w2 ⟨rfl, hw⟩; rw [hw]; clear hw w2; rw [show Lib.containsS (splitAt' s sp) ⟨#[]⟩ = false from HC.out]))
      have hcall := AnyE.slices_ContainsFunc l103 u8 offB 104 #[] (fun _ _ => rfl) w1.heap.size 0 s.size (grownCap w1 s.size 0 5) s.data.toList (Lib.bytesWorld w1 5 s) (off_at _) (by rw [← Lib.size_eq]; omega) hbig (fun j hj => by
        have hj' : j < s.size := by rw [Lib.size_eq]; exact hj
        rw [Nat.zero_add, Lib.bytesWorld_cell w1 5 s j hj', List.getD_eq_getElem?_getD, List.getElem!_eq_getElem?_getD]
        rfl)
      rw [show s.data.toList.take s.size = s.data.toList from List.take_of_length_le (by rw [← Lib.size_eq]; omega), ← HO.out] at hcall
      have HCALL := Lib.hid hcall
      clear hcall
      refine HCALL.out.mono ?_
      rintro e w3 ⟨rfl, q, rfl⟩
      go_wp2
      go_ret
      exact ⟨by rw [HR.out]; rfl, hb1.trans (below_drewN ((bytesWorld_below w1 5 s).mono hb1.size) q)⟩
  · have hd : decide ((s.size : Int) ≤ 60) = false := decide_eq_false (by omega)
    have hres : isLn s = false := by unfold isLn; simp [h60]
    have HR := Lib.hid hres
    clear hres hg
    go_enter Tryz.func75, Tryz.ntmps75
    go_wp2
    go_ret
    exact ⟨by rw [HR.out]; rfl, Below.refl _ _⟩
end Go.Proofs.YtklnnpacfjnnlaaGreatDoor
