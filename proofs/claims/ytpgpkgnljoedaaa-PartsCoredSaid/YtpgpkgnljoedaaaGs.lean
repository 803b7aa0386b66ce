/- Mathematics of PartsPairs: falling lists, insertion, Glaisher's steps, odd parts. -/
import Derived.Test.YtpgpkgnljoedaaaShp
namespace Go.Proofs.Ytpgpkgnljoedaaa
/-- Falling. -/
def Fal (l : List Int) : Prop := l.Pairwise (fun x y => y ≤ x)
def ins (x : Int) : List Int → List Int
  | [] => [x]
  | y :: ys => if x ≤ y then y :: ins x ys else x :: y :: ys
/-- The numbers of a list, falling. -/
def srt (l : List Int) : List Int := l.foldl (fun o x => ins x o) []
theorem srt_snoc (l : List Int) (x : Int) : srt (l ++ [x]) = ins x (srt l) := by simp [srt]
theorem ins_perm (x : Int) (l : List Int) : (ins x l).Perm (x :: l) := by
  induction l with
  | nil => exact .refl _
  | cons y ys ih =>
    unfold ins
    split
    · exact (ih.cons y).trans (.swap _ _ _)
    · exact .refl _
theorem foldl_perm (l o : List Int) : (l.foldl (fun o x => ins x o) o).Perm (o ++ l) := by
  induction l generalizing o with
  | nil => simp
  | cons x l ih => exact (ih _).trans (((ins_perm x o).append_right l).trans List.perm_middle.symm)
theorem srt_perm (l : List Int) : (srt l).Perm l := foldl_perm l []
theorem ins_fal (x : Int) (l : List Int) (h : Fal l) : Fal (ins x l) := by
  induction l with
  | nil => exact List.pairwise_singleton _ _
  | cons y ys ih =>
    have h' := List.pairwise_cons.1 h
    unfold ins
    split
    · refine List.pairwise_cons.2 ⟨fun z hz => ?_, ih h'.2⟩
      rcases List.mem_cons.1 ((ins_perm x ys).mem_iff.1 hz) with rfl | hz
      · assumption
      · exact h'.1 z hz
    · refine List.pairwise_cons.2 ⟨fun z hz => ?_, h⟩
      rcases List.mem_cons.1 hz with rfl | hz
      · omega
      · have := h'.1 z hz; omega
theorem srt_fal (l : List Int) : Fal (srt l) := by
  have : ∀ (l o : List Int), Fal o → Fal (l.foldl (fun o x => ins x o) o) := by
    intro l
    induction l with
    | nil => exact fun _ h => h
    | cons x l ih => exact fun o h => ih _ (ins_fal x o h)
  exact this l [] List.Pairwise.nil
theorem fal_unique : ∀ {l m : List Int}, Fal l → Fal m → l.Perm m → l = m
  | [], m, _, _, h => (List.nil_perm.1 h).symm
  | x :: l, [], _, _, h => absurd h.length_eq (by simp)
  | x :: l, y :: m, hl, hm, h => by
    have h1 := List.pairwise_cons.1 hl
    have h2 := List.pairwise_cons.1 hm
    have e : x = y := by
      rcases List.mem_cons.1 (h.mem_iff.1 (List.mem_cons_self)) with e | e
      · exact e
      · rcases List.mem_cons.1 (h.mem_iff.2 (List.mem_cons_self)) with e' | e'
        · exact e'.symm
        · have := h1.1 y e'; have := h2.1 x e; omega
    subst e
    rw [fal_unique h1.2 h2.2 (List.perm_cons x |>.1 h)]
theorem srt_of_fal {l : List Int} (h : Fal l) : srt l = l := fal_unique (srt_fal l) h (srt_perm l)
theorem srt_eq {l m : List Int} (h : l.Perm m) : srt l = srt m := fal_unique (srt_fal l) (srt_fal m) ((srt_perm l).trans (h.trans (srt_perm m).symm))
theorem srt_of {l m : List Int} (hm : Fal m) (h : m.Perm l) : m = srt l := fal_unique hm (srt_fal l) (h.trans (srt_perm l).symm)
/-- The first place of a number that is like the one ahead of it. -/
def NoDup (l : List Int) (n : Nat) : Prop := ∀ i, i + 1 < n → i + 1 < l.length → l.getD (i + 1) 0 ≠ l.getD i 0
/-- One step of Glaisher's: the numbers at i and i + 1 are one. -/
def mg (l : List Int) (i : Nat) : List Int := l.take i ++ 2 * l.getD i 0 :: l.drop (i + 2)
theorem mg_length (l : List Int) (i : Nat) (h : i + 1 < l.length) : (mg l i).length + 1 = l.length := by
  simp [mg]; omega
theorem mg_sum (l : List Int) (i : Nat) (h : i + 1 < l.length) (he : l.getD (i + 1) 0 = l.getD i 0) : (mg l i).sum = l.sum := by
  have h0 : l = l.take i ++ l.getD i 0 :: l.getD (i + 1) 0 :: l.drop (i + 2) := by
    have h1 := List.take_append_drop i l
    rw [List.drop_eq_getElem_cons (show i < l.length by omega), List.drop_eq_getElem_cons (show i + 1 < l.length by omega)] at h1
    rw [List.getD_eq_getElem?_getD, List.getD_eq_getElem?_getD, List.getElem?_eq_getElem h, List.getElem?_eq_getElem (show i < l.length by omega)]
    exact h1.symm
  conv => rhs; rw [h0]
  rw [he]; simp [mg]; omega
/-- What Glaisher's steps lead to. -/
inductive Gla : List Int → List Int → Prop
  | done {l} (h : NoDup l l.length) : Gla l l
  | step {l m} (i : Nat) (h : i + 1 < l.length) (he : l.getD (i + 1) 0 = l.getD i 0) (hn : NoDup l (i + 1)) (hm : Gla (srt (mg l i)) m) : Gla l m
theorem Gla.unique {l m m' : List Int} (h : Gla l m) (h' : Gla l m') : m = m' := by
  induction h generalizing m' with
  | done hd =>
    cases h' with
    | done _ => rfl
    | step i h he _ _ => exact absurd he (hd i h h)
  | step i h he hn _ ih =>
    cases h' with
    | done hd => exact absurd he (hd i h h)
    | step j hj hje hjn hm' =>
      have : i = j := by
        rcases Nat.lt_trichotomy i j with g | g | g
        · exact absurd he (hjn i (by omega) h)
        · exact g
        · exact absurd hje (hn j (by omega) hj)
      subst this
      exact ih hm'
end Go.Proofs.Ytpgpkgnljoedaaa
