/- Mathematics of PartsCores: beads, rim hooks, the order of lists; no program. -/
import Derived.Test.YtpgpkgnljoedaaaSt
import Derived.Test.YtpgpkgnljoedaaaGx
import Derived.Test.YtpgpkgnljoedaaaFn
import Derived.Test.YtpgpkgnljoedaaaEn
namespace Go.Proofs.Ytpgpkgnljoedaaa
theorem Part.fal {l : List Int} (h : Part l) : Fal l := by
  refine List.pairwise_iff_getElem.2 (fun i j hi hj hij => ?_)
  have key : ∀ d i, i + d < l.length → l.getD (i + d) 0 ≤ l.getD i 0 := by
    intro d
    induction d with
    | zero => intro i _; exact Int.le_refl _
    | succ d ih =>
      intro i hd
      have h1 := (h.1 (i + (d + 1)) hd).2.2 (by omega)
      rw [show i + (d + 1) - 1 = i + d by omega] at h1
      have h2 := ih i (by omega)
      omega
  have := key (j - i) i (by omega)
  rw [show i + (j - i) = j by omega] at this
  rwa [List.getD_eq_getElem?_getD, List.getD_eq_getElem?_getD, List.getElem?_eq_getElem hi, List.getElem?_eq_getElem hj] at this
theorem part_of {L : List Int} (h : Small L) (hf : Fal L) : Part L := by
  refine ⟨fun k hk => ⟨(h.at k hk).1, (h.at k hk).2, fun h1 => ?_⟩, h.2⟩
  have := List.pairwise_iff_getElem.1 hf (k - 1) k (by omega) hk (by omega)
  rw [List.getD_eq_getElem?_getD, List.getD_eq_getElem?_getD, List.getElem?_eq_getElem hk, List.getElem?_eq_getElem (by omega)]
  exact this
/-! ### beads -/
def bead (l : List Int) (k : Nat) : Int := l.getD k 0 + ((l.length : Int) - 1 - k)
def bds (l : List Int) : List Int := (List.range l.length).map (bead l)
theorem bds_length (l : List Int) : (bds l).length = l.length := by simp [bds]
theorem bds_get (l : List Int) (k : Nat) (h : k < l.length) : (bds l)[k]? = some (bead l k) := by simp [bds, h]
theorem getD_some {L : List Int} {k : Nat} {x : Int} (h : L[k]? = some x) : L.getD k 0 = x := by rw [List.getD_eq_getElem?_getD, h]; rfl
theorem bds_getD (l : List Int) (k : Nat) (h : k < l.length) : (bds l).getD k 0 = bead l k := getD_some (bds_get l k h)
/-- positive and falling -/
def Pf (l : List Int) : Prop := (∀ x ∈ l, 1 ≤ x) ∧ Fal l
theorem Pf.fall {l : List Int} (h : Pf l) {i j : Nat} (hij : i < j) (hj : j < l.length) : l.getD j 0 ≤ l.getD i 0 := by
  have := List.pairwise_iff_getElem.1 h.2 i j (by omega) hj hij
  rwa [List.getD_eq_getElem?_getD, List.getD_eq_getElem?_getD, List.getElem?_eq_getElem hj, List.getElem?_eq_getElem (by omega)]
theorem gd_in {L : List Int} {k : Nat} (h : k < L.length) : L.getD k 0 ∈ L := by
  rw [List.getD_eq_getElem?_getD, List.getElem?_eq_getElem h]; exact List.getElem_mem h
theorem gd_out {L : List Int} {k : Nat} (h : L.length ≤ k) : L.getD k 0 = 0 := by
  rw [List.getD_eq_getElem?_getD, List.getElem?_eq_none h]; rfl
theorem Pf.pos {l : List Int} (h : Pf l) {k : Nat} (hk : k < l.length) : 1 ≤ l.getD k 0 := h.1 _ (gd_in hk)
theorem Pf.nonneg {l : List Int} (h : Pf l) (k : Nat) : 0 ≤ l.getD k 0 := by
  by_cases hk : k < l.length
  · have := h.pos hk; omega
  · rw [gd_out (by omega)]; exact Int.le_refl _
theorem Pf.fall' {l : List Int} (h : Pf l) {i j : Nat} (hij : i ≤ j) : l.getD j 0 ≤ l.getD i 0 := by
  by_cases hj : j < l.length
  · by_cases e : i = j
    · subst e; exact Int.le_refl _
    · exact h.fall (by omega) hj
  · rw [gd_out (by omega)]; exact h.nonneg i
theorem bead_lt {l : List Int} (h : Pf l) {i j : Nat} (hij : i < j) : bead l j < bead l i := by
  have := h.fall' (Nat.le_of_lt hij)
  unfold bead; omega
theorem bead_ge {l : List Int} (h : Pf l) {k : Nat} (hk : k < l.length) : (l.length : Int) - k ≤ bead l k := by
  have := h.pos hk
  unfold bead; omega
theorem fal_of {L : List Int} (h : ∀ i j, i < j → j < L.length → L.getD j 0 ≤ L.getD i 0) : Fal L := by
  refine List.pairwise_iff_getElem.2 (fun i j hi hj hij => ?_)
  have := h i j hij hj
  rwa [List.getD_eq_getElem?_getD, List.getD_eq_getElem?_getD, List.getElem?_eq_getElem hj, List.getElem?_eq_getElem hi] at this
theorem list_ext {L M : List Int} (hl : L.length = M.length) (h : ∀ k, k < L.length → L.getD k 0 = M.getD k 0) : L = M := by
  apply List.ext_getElem hl
  intro k h1 h2
  have := h k h1
  rwa [List.getD_eq_getElem?_getD, List.getD_eq_getElem?_getD, List.getElem?_eq_getElem h1, List.getElem?_eq_getElem h2] at this
/-- two lists of positive numbers are one if they agree everywhere -/
theorem pos_ext {L M : List Int} (hL : ∀ x ∈ L, 1 ≤ x) (hM : ∀ x ∈ M, 1 ≤ x) (h : ∀ k, L.getD k 0 = M.getD k 0) : L = M := by
  have hl : L.length = M.length := by
    rcases Nat.lt_trichotomy L.length M.length with g | g | g
    · have := hM _ (gd_in g); rw [← h, gd_out (Nat.le_refl _)] at this; omega
    · exact g
    · have := hL _ (gd_in g); rw [h, gd_out (Nat.le_refl _)] at this; omega
  exact list_ext hl (fun k _ => h k)
/-! ### a bead that moves -/
/-- what the beads are when bead i has come to c, in order: it passes those up to q -/
def mvl (l : List Int) (i q : Nat) (c : Int) : List Int := (bds l).take i ++ (((bds l).drop (i + 1)).take (q - i) ++ c :: (bds l).drop (q + 1))
theorem mvl_perm (l : List Int) (i q : Nat) (c : Int) (hi : i < l.length) (hq : i ≤ q) : (mvl l i q c).Perm ((bds l).set i c) := by
  have e : (bds l).set i c = (bds l).take i ++ c :: (bds l).drop (i + 1) := by
    rw [List.set_eq_take_append_cons_drop, if_pos (by rw [bds_length]; exact hi)]
  have e2 : (bds l).drop (i + 1) = ((bds l).drop (i + 1)).take (q - i) ++ (bds l).drop (q + 1) := by
    have := List.take_append_drop (q - i) ((bds l).drop (i + 1))
    rw [List.drop_drop, show i + 1 + (q - i) = q + 1 by omega] at this
    exact this.symm
  rw [e]
  refine List.Perm.append_left _ ?_
  conv => rhs; rw [e2]
  exact List.perm_middle
theorem mvl_length (l : List Int) (i q : Nat) (c : Int) (hq : i ≤ q) (hn : q < l.length) : (mvl l i q c).length = l.length := by
  have := (mvl_perm l i q c (by omega) hq).length_eq
  rw [this, List.length_set, bds_length]
theorem mvl_get (l : List Int) (i q : Nat) (c : Int) (hq : i ≤ q) (hn : q < l.length) (k : Nat) (hk : k < l.length) :
    (mvl l i q c).getD k 0 = if k < i then bead l k else if k < q then bead l (k + 1) else if k = q then c else bead l k := by
  have hb := bds_length l
  unfold mvl
  rw [List.getD_eq_getElem?_getD]
  by_cases h1 : k < i
  · rw [if_pos h1, List.getElem?_append_left (by rw [List.length_take]; omega), List.getElem?_take_of_lt h1, bds_get l k hk]; rfl
  · rw [if_neg h1, List.getElem?_append_right (by rw [List.length_take]; omega), List.length_take]
    have e1 : min i (bds l).length = i := by omega
    rw [e1]
    have e2 : (((bds l).drop (i + 1)).take (q - i)).length = q - i := by rw [List.length_take, List.length_drop]; omega
    by_cases h2 : k < q
    · rw [if_pos h2, List.getElem?_append_left (by rw [e2]; omega), List.getElem?_take_of_lt (by omega), List.getElem?_drop, show i + 1 + (k - i) = k + 1 by omega, bds_get l (k + 1) (by omega)]; rfl
    · rw [if_neg h2, List.getElem?_append_right (by rw [e2]; omega), e2]
      by_cases h3 : k = q
      · rw [if_pos h3, show k - i - (q - i) = 0 by omega]; rfl
      · rw [if_neg h3, show k - i - (q - i) = (k - q - 1) + 1 by omega, List.getElem?_cons_succ, List.getElem?_drop, show q + 1 + (k - q - 1) = k by omega, bds_get l k hk]; rfl
/-- it comes to rest between q and q + 1 -/
def Rest (l : List Int) (i q : Nat) (c : Int) : Prop := i ≤ q ∧ q < l.length ∧ c < bead l q ∧ (q + 1 < l.length → bead l (q + 1) < c)
theorem mvl_fall {l : List Int} (h : Pf l) {i q : Nat} {c : Int} (hr : Rest l i q c) : ∀ a b, a < b → b < l.length → (mvl l i q c).getD b 0 < (mvl l i q c).getD a 0 := by
  obtain ⟨hq, hn, h1, h2⟩ := hr
  intro a b hab hb
  rw [mvl_get l i q c hq hn a (by omega), mvl_get l i q c hq hn b hb]
  have k1 : ∀ x y, x < y → bead l y < bead l x := fun x y hxy => bead_lt h hxy
  have e1 : ∀ x, x < q → c < bead l x := fun x hx => by have := k1 x q hx; omega
  have e2 : ∀ y, q < y → y < l.length → bead l y < c := fun y hy hyl => by
    have := h2 (by omega)
    by_cases e : y = q + 1
    · subst e; exact this
    · have := k1 (q + 1) y (by omega); omega
  by_cases a1 : a < i
  · rw [if_pos a1]
    by_cases b1 : b < i
    · rw [if_pos b1]; exact k1 a b hab
    · rw [if_neg b1]
      by_cases b2 : b < q
      · rw [if_pos b2]; exact k1 a (b + 1) (by omega)
      · rw [if_neg b2]
        by_cases b3 : b = q
        · rw [if_pos b3]; exact e1 a (by omega)
        · rw [if_neg b3]; exact k1 a b hab
  · rw [if_neg a1, if_neg (show ¬ b < i by omega)]
    by_cases a2 : a < q
    · rw [if_pos a2]
      by_cases b2 : b < q
      · rw [if_pos b2]; exact k1 (a + 1) (b + 1) (by omega)
      · rw [if_neg b2]
        by_cases b3 : b = q
        · rw [if_pos b3]
          by_cases e : a + 1 = q
          · rw [e]; exact h1
          · exact e1 (a + 1) (by omega)
        · rw [if_neg b3]; exact k1 (a + 1) b (by omega)
    · rw [if_neg a2, if_neg (show ¬ b < q by omega), if_neg (show ¬ b = q by omega)]
      by_cases a3 : a = q
      · rw [if_pos a3]; exact e2 b (by omega) hb
      · rw [if_neg a3]; exact k1 a b hab
theorem mvl_srt {l : List Int} (h : Pf l) {i q : Nat} {c : Int} (hr : Rest l i q c) : srt ((bds l).set i c) = mvl l i q c := by
  have hl := mvl_length l i q c hr.1 hr.2.1
  refine (srt_of (fal_of fun a b hab hb => ?_) (mvl_perm l i q c (by have := hr.1; have := hr.2.1; omega) hr.1)).symm
  have := mvl_fall h hr a b hab (by omega)
  omega
theorem rest_ex {l : List Int} {i : Nat} {c : Int} (hi : i < l.length) (hc : c < bead l i) (hn : ∀ k, k < l.length → bead l k ≠ c) : ∃ q, Rest l i q c := by
  have : ∀ d q, l.length - q = d → i ≤ q → q < l.length → c < bead l q → ∃ q, Rest l i q c := by
    intro d
    induction d with
    | zero => intro q h1 _ h2 _; omega
    | succ d ih =>
      intro q h1 h2 h3 h4
      by_cases e : q + 1 < l.length ∧ c < bead l (q + 1)
      · exact ih (q + 1) (by omega) (by omega) e.1 e.2
      · refine ⟨q, h2, h3, h4, fun h5 => ?_⟩
        have := hn (q + 1) h5
        have : ¬ c < bead l (q + 1) := fun h6 => e ⟨h5, h6⟩
        omega
  exact this _ i rfl (Nat.le_refl _) hi hc
/-! ### the partition of beads -/
def pts (b : List Int) : List Int := (List.range b.length).filterMap fun k => if 0 < b.getD k 0 - ((b.length : Int) - 1 - k) then some (b.getD k 0 - ((b.length : Int) - 1 - k)) else none
def rows (b : List Int) : List Int := (List.range b.length).map fun k => b.getD k 0 - ((b.length : Int) - 1 - k)
theorem pts_rows (b : List Int) : pts b = (rows b).filter (fun x => decide (0 < x)) := by
  unfold pts rows
  generalize List.range b.length = r
  induction r with
  | nil => rfl
  | cons k r ih =>
    rw [List.filterMap_cons, List.map_cons, List.filter_cons]
    by_cases h : 0 < b.getD k 0 - ((b.length : Int) - 1 - k)
    · rw [if_pos h, if_pos (by simpa using h)]; simp only [ih]
    · rw [if_neg h, if_neg (by simpa using h)]; exact ih
theorem rows_getD (b : List Int) (k : Nat) (h : k < b.length) : (rows b).getD k 0 = b.getD k 0 - ((b.length : Int) - 1 - k) := by
  refine getD_some ?_
  unfold rows
  rw [List.getElem?_map, List.getElem?_range h]; rfl
theorem rows_length (b : List Int) : (rows b).length = b.length := by simp [rows]
theorem filter_getD : ∀ {L : List Int}, Fal L → (∀ x ∈ L, 0 ≤ x) → ∀ k, (L.filter (fun x => decide (0 < x))).getD k 0 = L.getD k 0
  | [], _, _, k => rfl
  | x :: L, hf, h0, k => by
    have hf' := List.pairwise_cons.1 hf
    by_cases h : 0 < x
    · rw [List.filter_cons, if_pos (by simpa using h)]
      cases k with
      | zero => rfl
      | succ k =>
        have := filter_getD hf'.2 (fun y hy => h0 y (List.mem_cons_of_mem _ hy)) k
        simpa using this
    · have hx : x = 0 := by have := h0 x List.mem_cons_self; omega
      have hz : ∀ y ∈ L, y = 0 := fun y hy => by have := hf'.1 y hy; have := h0 y (List.mem_cons_of_mem _ hy); omega
      have he : (x :: L).filter (fun x => decide (0 < x)) = [] := by
        rw [List.filter_eq_nil_iff]
        intro y hy
        rcases List.mem_cons.1 hy with rfl | hy
        · simpa using h
        · rw [hz y hy]; simp
      rw [he]
      by_cases hk : k < (x :: L).length
      · have := gd_in hk
        rcases List.mem_cons.1 this with e | e
        · rw [e, hx]; rfl
        · rw [hz _ e]; rfl
      · rw [gd_out (L := x :: L) (by omega)]; rfl
/-- strictly falling numbers from 0 on -/
def Sf (b : List Int) : Prop := (∀ i j, i < j → j < b.length → b.getD j 0 < b.getD i 0) ∧ ∀ k, k < b.length → 0 ≤ b.getD k 0
theorem Sf.low {b : List Int} (h : Sf b) : ∀ d k, k + d + 1 = b.length → (d : Int) ≤ b.getD k 0
  | 0, k, hk => by have := h.2 k (by omega); omega
  | d + 1, k, hk => by
    have h1 := h.low d (k + 1) (by omega)
    have h2 := h.1 k (k + 1) (by omega) (by omega)
    omega
theorem Sf.rws {b : List Int} (h : Sf b) : Fal (rows b) ∧ ∀ x ∈ rows b, 0 ≤ x := by
  have hl := rows_length b
  constructor
  · refine fal_of (fun i j hij hj => ?_)
    rw [hl] at hj
    rw [rows_getD b i (by omega), rows_getD b j hj]
    have key : ∀ d i, i + d < b.length → b.getD (i + d) 0 + d ≤ b.getD i 0 := by
      intro d
      induction d with
      | zero => intro i _; simp
      | succ d ih =>
        intro i hd
        have h1 := ih i (by omega)
        have h2 := h.1 (i + d) (i + (d + 1)) (by omega) hd
        omega
    have := key (j - i) i (by omega)
    rw [show i + (j - i) = j by omega] at this
    omega
  · intro x hx
    obtain ⟨k, hk, rfl⟩ := List.getElem_of_mem hx
    have e : (rows b).getD k 0 = (rows b)[k] := by rw [List.getD_eq_getElem?_getD, List.getElem?_eq_getElem hk]; rfl
    rw [← e, rows_getD b k (by omega)]
    have := h.low (b.length - k - 1) k (by omega)
    omega
theorem pts_pf {b : List Int} (h : Sf b) : Pf (pts b) := by
  rw [pts_rows]
  refine ⟨fun x hx => ?_, (h.rws.1).sublist (List.filter_sublist)⟩
  have := (List.mem_filter.1 hx).2
  simp at this; omega
theorem pts_getD {b : List Int} (h : Sf b) (k : Nat) : (pts b).getD k 0 = if k < b.length then b.getD k 0 - ((b.length : Int) - 1 - k) else 0 := by
  rw [pts_rows, filter_getD h.rws.1 h.rws.2]
  by_cases hk : k < b.length
  · rw [if_pos hk, rows_getD b k hk]
  · rw [if_neg hk, gd_out (by rw [rows_length]; omega)]
/-! ### rim hooks -/
def sumTo (f : Nat → Int) : Nat → Int
  | 0 => 0
  | n + 1 => sumTo f n + f n
theorem sumTo_congr {f g : Nat → Int} : ∀ n, (∀ k, k < n → f k = g k) → sumTo f n = sumTo g n
  | 0, _ => rfl
  | n + 1, h => by rw [sumTo, sumTo, sumTo_congr n (fun k hk => h k (by omega)), h n (by omega)]
theorem take_sum' (L : List Int) (k : Nat) : (L.take (k + 1)).sum = (L.take k).sum + L.getD k 0 := by
  rw [List.take_add_one, List.sum_append, List.getD_eq_getElem?_getD]
  cases L[k]? <;> simp
theorem sumTo_take (L : List Int) : ∀ n, sumTo (fun k => L.getD k 0) n = (L.take n).sum
  | 0 => by simp [sumTo]
  | n + 1 => by rw [sumTo, sumTo_take L n, take_sum']
theorem sum_getD {L : List Int} {n : Nat} (h : L.length ≤ n) : L.sum = sumTo (fun k => L.getD k 0) n := by
  rw [sumTo_take, List.take_of_length_le h]
def shp (f : Nat → Int) (i q : Nat) (e : Int) (k : Nat) : Int := if k < i then f k else if k < q then f (k + 1) - 1 else if k = q then e else f k
theorem shp_sum (f : Nat → Int) (i q : Nat) (e : Int) (hq : i ≤ q) : ∀ n, q < n → sumTo (shp f i q e) n = sumTo f n - f i + e - ((q : Int) - i) := by
  have a1 : ∀ n, n ≤ i → sumTo (shp f i q e) n = sumTo f n := by
    intro n
    induction n with
    | zero => intro _; rfl
    | succ n ih =>
      intro h
      rw [sumTo, sumTo, ih (by omega)]
      unfold shp
      rw [if_pos (by omega)]
  have a2 : ∀ d, i + d ≤ q → sumTo (shp f i q e) (i + d) = sumTo f (i + d) - f i + f (i + d) - d := by
    intro d
    induction d with
    | zero => intro _; rw [Nat.add_zero, a1 i (Nat.le_refl _)]; omega
    | succ d ih =>
      intro h
      rw [show i + (d + 1) = i + d + 1 by omega, sumTo, sumTo, ih (by omega)]
      have : shp f i q e (i + d) = f (i + d + 1) - 1 := by unfold shp; rw [if_neg (by omega), if_pos (by omega)]
      rw [this]; omega
  intro n
  induction n with
  | zero => intro h; omega
  | succ n ih =>
    intro h
    rw [sumTo, sumTo]
    by_cases e1 : n = q
    · subst e1
      have h2 := a2 (n - i) (by omega)
      rw [show i + (n - i) = n by omega] at h2
      have : shp f i n e n = e := by unfold shp; rw [if_neg (by omega), if_neg (by omega), if_pos rfl]
      rw [h2, this]; omega
    · have : shp f i q e n = f n := by unfold shp; rw [if_neg (by omega), if_neg (by omega), if_neg e1]
      rw [ih (by omega), this]; omega
/-- m is l without a rim hook in the rows from i to q -/
def Shape (l m : List Int) (i q : Nat) : Prop :=
  i ≤ q ∧ q < l.length ∧ m.getD q 0 < l.getD q 0 ∧ ∀ k, m.getD k 0 = shp (fun k => l.getD k 0) i q (m.getD q 0) k
theorem Shape.sum {l m : List Int} {i q : Nat} (h : Shape l m i q) (hm : Pf m) : m.length ≤ l.length ∧ m.sum = l.sum - l.getD i 0 + m.getD q 0 - ((q : Int) - i) := by
  obtain ⟨h1, h2, h3, h4⟩ := h
  have hl : m.length ≤ l.length := by
    rcases Nat.lt_or_ge l.length m.length with g | g
    · have a := hm.pos g
      rw [h4 l.length] at a
      unfold shp at a
      rw [if_neg (by omega), if_neg (by omega), if_neg (by omega)] at a
      dsimp only at a
      rw [gd_out (Nat.le_refl _)] at a
      omega
    · exact g
  refine ⟨hl, ?_⟩
  rw [sum_getD hl, sum_getD (Nat.le_refl l.length), sumTo_congr _ (fun k _ => h4 k), shp_sum _ i q _ h1 _ h2]
/-- the bead's way down, and that of the rim hook -/
def moved (l : List Int) (i : Nat) (p : Int) : List Int := pts (srt ((bds l).set i (bead l i - p)))
/-- bead i may go p down -/
def Free (l : List Int) (i : Nat) (p : Int) : Prop := i < l.length ∧ p ≤ bead l i ∧ ∀ k, k < l.length → bead l k ≠ bead l i - p
theorem mvl_sf {l : List Int} (h : Pf l) {i q : Nat} {c : Int} (hr : Rest l i q c) (hc : 0 ≤ c) : Sf (mvl l i q c) := by
  have hl := mvl_length l i q c hr.1 hr.2.1
  refine ⟨fun a b hab hb => mvl_fall h hr a b hab (by omega), fun k hk => ?_⟩
  rw [hl] at hk
  rw [mvl_get l i q c hr.1 hr.2.1 k hk]
  have hb : ∀ x, x < l.length → 0 ≤ bead l x := fun x hx => by have := bead_ge h hx; omega
  have := hr.2.1
  split
  · exact hb k hk
  · split
    · exact hb (k + 1) (by omega)
    · split
      · exact hc
      · exact hb k hk
theorem mvl_at {l : List Int} (h : Pf l) {i q : Nat} {c : Int} (hr : Rest l i q c) (hc : 0 ≤ c) (k : Nat) :
    (pts (mvl l i q c)).getD k 0 = shp (fun k => l.getD k 0) i q (c - ((l.length : Int) - 1 - q)) k := by
  have hl := mvl_length l i q c hr.1 hr.2.1
  rw [pts_getD (mvl_sf h hr hc), hl]
  have hq := hr.1
  have hn := hr.2.1
  unfold shp
  by_cases hk : k < l.length
  · rw [if_pos hk, mvl_get l i q c hq hn k hk]
    by_cases a1 : k < i
    · rw [if_pos a1, if_pos a1]; dsimp only; unfold bead; omega
    · rw [if_neg a1, if_neg a1]
      by_cases a2 : k < q
      · rw [if_pos a2, if_pos a2]; dsimp only; unfold bead; omega
      · rw [if_neg a2, if_neg a2]
        by_cases a3 : k = q
        · rw [if_pos a3, if_pos a3, a3]
        · rw [if_neg a3, if_neg a3]; dsimp only; unfold bead; omega
  · rw [if_neg hk, if_neg (by omega), if_neg (by omega), if_neg (by omega)]; dsimp only; rw [gd_out (L := l) (by omega)]
/-- a bead that may go down: what comes of it is a partition without a rim hook -/
theorem moved_shape {l : List Int} (h : Pf l) {i : Nat} {p : Int} (hp : 1 ≤ p) (hf : Free l i p) :
    Pf (moved l i p) ∧ (moved l i p).sum = l.sum - p ∧ ∃ q, Shape l (moved l i p) i q := by
  obtain ⟨hi, hpb, hne⟩ := hf
  obtain ⟨q, hr⟩ := rest_ex hi (by omega : bead l i - p < bead l i) hne
  have hc : 0 ≤ bead l i - p := by omega
  have hpf := pts_pf (mvl_sf h hr hc)
  have hat := mvl_at h hr hc
  have e : moved l i p = pts (mvl l i q (bead l i - p)) := by unfold moved; rw [mvl_srt h hr]
  rw [← e] at hpf hat
  have hq : (moved l i p).getD q 0 = bead l i - p - ((l.length : Int) - 1 - q) := by
    rw [hat]; unfold shp; rw [if_neg (by have := hr.1; omega), if_neg (by omega), if_pos rfl]
  have hsh : Shape l (moved l i p) i q := ⟨hr.1, hr.2.1, by rw [hq]; have := hr.2.2.1; unfold bead at this ⊢; omega, fun k => by rw [hat, hq]⟩
  refine ⟨hpf, ?_, q, hsh⟩
  rw [(hsh.sum hpf).2, hq]
  unfold bead; omega
/-- a partition without a rim hook comes of a bead that may go down -/
theorem shape_moved {l m : List Int} (h : Pf l) (hm : Pf m) {i q : Nat} {p : Int} (hs : Shape l m i q) (hsum : m.sum = l.sum - p) : Free l i p ∧ m = moved l i p := by
  have h5 := (hs.sum hm).2
  obtain ⟨h1, h2, h3, h4⟩ := hs
  have hmq := hm.nonneg q
  obtain ⟨c, hc⟩ : ∃ c, c = m.getD q 0 + ((l.length : Int) - 1 - q) := ⟨_, rfl⟩
  have hcb : c = bead l i - p := by unfold bead; omega
  have hc0 : 0 ≤ c := by omega
  have hm1 : l.getD (q + 1) 0 ≤ m.getD q 0 := by
    have := hm.fall' (Nat.le_succ q)
    rw [h4 (q + 1)] at this
    unfold shp at this
    rw [if_neg (by omega), if_neg (by omega), if_neg (by omega)] at this
    exact this
  have hr : Rest l i q c := ⟨h1, h2, by unfold bead; omega, fun _ => by unfold bead; omega⟩
  have hfr : Free l i p := by
    refine ⟨by omega, by omega, fun k hk e => ?_⟩
    rw [← hcb] at e
    rcases Nat.lt_trichotomy k q with g | g | g
    · have := bead_lt h g; have := hr.2.2.1; omega
    · subst g; have := hr.2.2.1; omega
    · have h6 := hr.2.2.2 (by omega)
      by_cases e2 : k = q + 1
      · subst e2; omega
      · have := bead_lt h (show q + 1 < k by omega); omega
  refine ⟨hfr, ?_⟩
  unfold moved
  rw [← hcb, mvl_srt h hr]
  refine pos_ext hm.1 (pts_pf (mvl_sf h hr hc0)).1 (fun k => ?_)
  rw [mvl_at h hr hc0, h4 k, show c - ((l.length : Int) - 1 - q) = m.getD q 0 by omega]
/-- one partition comes of one bead alone -/
theorem moved_inj {l : List Int} (h : Pf l) {i j : Nat} {p : Int} (hp : 1 ≤ p) (hi : Free l i p) (hj : Free l j p) (e : moved l i p = moved l j p) : i = j := by
  have key : ∀ {i j : Nat}, Free l i p → Free l j p → moved l i p = moved l j p → ¬ i < j := by
    intro i j hi hj e hij
    obtain ⟨_, _, q, h1, h2, h3, h4⟩ := moved_shape h hp hi
    obtain ⟨_, _, q', g1, g2, g3, g4⟩ := moved_shape h hp hj
    have a := h4 i
    have b := g4 i
    rw [e] at a h3
    rw [b] at a
    unfold shp at a
    rw [if_pos hij, if_neg (Nat.lt_irrefl _)] at a
    by_cases e1 : i < q
    · rw [if_pos e1] at a
      dsimp only at a
      have := h.fall' (show i ≤ i + 1 by omega)
      omega
    · have : i = q := by omega
      subst this
      rw [if_neg (Nat.lt_irrefl _), if_pos rfl] at a
      rw [b] at h3
      unfold shp at h3
      rw [if_pos hij] at h3
      dsimp only at h3
      omega
  rcases Nat.lt_trichotomy i j with g | g | g
  · exact absurd g (key hi hj e)
  · exact g
  · exact absurd g (key hj hi e.symm)
/-- just these come of a bead -/
theorem rims_iff {l m : List Int} (h : Pf l) {p : Int} (hp : 1 ≤ p) : (Pf m ∧ m.sum = l.sum - p ∧ ∃ i q, Shape l m i q) ↔ ∃ i, Free l i p ∧ m = moved l i p := by
  constructor
  · rintro ⟨h1, h2, i, q, h3⟩
    obtain ⟨h4, h5⟩ := shape_moved h h1 h3 h2
    exact ⟨i, h4, h5⟩
  · rintro ⟨i, h1, rfl⟩
    obtain ⟨h2, h3, q, h4⟩ := moved_shape h hp h1
    exact ⟨h2, h3, i, q, h4⟩
/-! ### the order of lists -/
def cmpL : List Int → List Int → Int
  | [], [] => 0
  | [], _ :: _ => -1
  | _ :: _, [] => 1
  | x :: xs, y :: ys => if x < y then -1 else if y < x then 1 else cmpL xs ys
def ltL (a b : List Int) : Prop := cmpL a b < 0
theorem ltL_cons {x y : Int} {xs ys : List Int} : ltL (x :: xs) (y :: ys) ↔ x < y ∨ (x = y ∧ ltL xs ys) := by
  unfold ltL
  rw [cmpL]
  by_cases h : x < y
  · rw [if_pos h]; exact ⟨fun _ => .inl h, fun _ => by omega⟩
  · rw [if_neg h]
    by_cases h2 : y < x
    · rw [if_pos h2]; exact ⟨fun h => by omega, fun h => by omega⟩
    · rw [if_neg h2]; exact ⟨fun h3 => .inr ⟨by omega, h3⟩, fun h3 => by rcases h3 with h3 | h3; · omega
                                                                         · exact h3.2⟩
theorem ltL_irrefl : ∀ a, ¬ ltL a a
  | [] => by unfold ltL cmpL; omega
  | x :: xs => fun h => by
    rcases ltL_cons.1 h with h | h
    · omega
    · exact ltL_irrefl xs h.2
theorem ltL_trans : ∀ {a b c : List Int}, ltL a b → ltL b c → ltL a c
  | [], [], _, h, _ => absurd h (ltL_irrefl _)
  | [], _ :: _, [], _, h => by unfold ltL cmpL at h; omega
  | [], _ :: _, _ :: _, _, _ => by unfold ltL cmpL; omega
  | _ :: _, [], _, h, _ => by unfold ltL cmpL at h; omega
  | _ :: _, _ :: _, [], _, h => by unfold ltL cmpL at h; omega
  | x :: xs, y :: ys, z :: zs, h, g => by
    rw [ltL_cons] at h g ⊢
    rcases h with h | ⟨h, h'⟩
    · rcases g with g | ⟨g, g'⟩
      · exact .inl (by omega)
      · exact .inl (by omega)
    · rcases g with g | ⟨g, g'⟩
      · exact .inl (by omega)
      · exact .inr ⟨by omega, ltL_trans h' g'⟩
theorem ltL_total : ∀ a b, ltL a b ∨ a = b ∨ ltL b a
  | [], [] => .inr (.inl rfl)
  | [], _ :: _ => .inl (by unfold ltL cmpL; omega)
  | _ :: _, [] => .inr (.inr (by unfold ltL cmpL; omega))
  | x :: xs, y :: ys => by
    rcases Int.lt_trichotomy x y with h | h | h
    · exact .inl (ltL_cons.2 (.inl h))
    · subst h
      rcases ltL_total xs ys with h | h | h
      · exact .inl (ltL_cons.2 (.inr ⟨rfl, h⟩))
      · exact .inr (.inl (by rw [h]))
      · exact .inr (.inr (ltL_cons.2 (.inr ⟨rfl, h⟩)))
    · exact .inr (.inr (ltL_cons.2 (.inl h)))
theorem ltL_asymm {a b : List Int} (h : ltL a b) : ¬ ltL b a := fun g => ltL_irrefl a (ltL_trans h g)
/-- two risings of the same lists are one -/
theorem ris_unique : ∀ {L M : List (List Int)}, L.Pairwise (fun a b => ¬ ltL b a) → M.Pairwise ltL → L.Perm M → L = M
  | [], M, _, _, h => (List.nil_perm.1 h).symm
  | x :: L, [], _, _, h => absurd h.length_eq (by simp)
  | x :: L, y :: M, hl, hm, h => by
    have h1 := List.pairwise_cons.1 hl
    have h2 := List.pairwise_cons.1 hm
    have e : x = y := by
      rcases List.mem_cons.1 (h.mem_iff.1 (List.mem_cons_self)) with e | e
      · exact e
      · rcases List.mem_cons.1 (h.mem_iff.2 (List.mem_cons_self)) with e' | e'
        · exact e'.symm
        · exact absurd (h2.1 x e) (h1.1 y e')
    subst e
    rw [ris_unique h1.2 h2.2 (List.perm_cons x |>.1 h)]
/-! ### all partitions of a number -/
theorem prt_sound : ∀ (f n most : Nat) (l : List Int), l ∈ prt f n most → n ≤ f → Pf l ∧ l.sum = n ∧ ∀ x ∈ l, x ≤ most := by
  intro f
  induction f with
  | zero =>
    intro n most l hl hn
    obtain rfl : n = 0 := by omega
    rw [prt_zero] at hl
    simp at hl
    subst hl
    exact ⟨⟨by simp, List.Pairwise.nil⟩, rfl, by simp⟩
  | succ f ih =>
    intro n most l hl hn
    by_cases h0 : n = 0
    · subst h0
      rw [prt_zero] at hl
      simp at hl
      subst hl
      exact ⟨⟨by simp, List.Pairwise.nil⟩, rfl, by simp⟩
    · rw [prt_pos f n most h0] at hl
      obtain ⟨i, hi, hl⟩ := List.mem_flatMap.1 hl
      obtain ⟨m, hm, rfl⟩ := List.mem_map.1 hl
      have hi' := List.mem_range.1 hi
      obtain ⟨h1, h2, h3⟩ := ih (n - (i + 1)) (i + 1) m hm (by omega)
      refine ⟨⟨fun x hx => ?_, List.pairwise_cons.2 ⟨fun y hy => h3 y hy, h1.2⟩⟩, by rw [List.sum_cons, h2]; omega, fun x hx => ?_⟩
      · rcases List.mem_cons.1 hx with rfl | hx
        · omega
        · exact h1.1 x hx
      · rcases List.mem_cons.1 hx with rfl | hx
        · omega
        · have := h3 x hx; omega
theorem prt_rising : ∀ (f n most : Nat), (prt f n most).Pairwise ltL := by
  intro f
  induction f with
  | zero =>
    intro n most
    show ([[]] : List (List Int)).Pairwise ltL
    exact List.pairwise_singleton _ _
  | succ f ih =>
    intro n most
    by_cases h0 : n = 0
    · subst h0; rw [prt_zero]; exact List.pairwise_singleton _ _
    · rw [prt_pos f n most h0]
      have key : ∀ k, (prtk f n k).Pairwise ltL ∧ ∀ l ∈ prtk f n k, ∃ (x : Int) (m : List Int), l = x :: m ∧ x ≤ (k : Nat) := by
        intro k
        induction k with
        | zero => exact ⟨by rw [prtk_zero]; exact List.Pairwise.nil, fun l hl => by rw [prtk_zero] at hl; cases hl⟩
        | succ k ihk =>
          rw [prtk_succ]
          refine ⟨List.pairwise_append.2 ⟨ihk.1, ?_, ?_⟩, ?_⟩
          · rw [List.pairwise_map]
            exact (ih (n - (k + 1)) (k + 1)).imp (fun h => ltL_cons.2 (.inr ⟨rfl, h⟩))
          · intro a ha b hb
            obtain ⟨x, m, rfl, hx⟩ := ihk.2 a ha
            obtain ⟨m', _, rfl⟩ := List.mem_map.1 hb
            exact ltL_cons.2 (.inl (by omega))
          · intro a ha
            rcases List.mem_append.1 ha with ha | ha
            · obtain ⟨x, m, e, hx⟩ := ihk.2 a ha
              exact ⟨x, m, e, by omega⟩
            · obtain ⟨m', _, rfl⟩ := List.mem_map.1 ha
              exact ⟨_, m', rfl, by omega⟩
      exact (key _).1
/-! ### what is left without a rim hook -/
open Classical in
noncomputable def rimB (l m : List Int) : Bool := decide (∃ i q, Shape l m i q)
theorem rimB_iff {l m : List Int} : rimB l m = true ↔ ∃ i q, Shape l m i q := by unfold rimB; simp
/-- as the reference tells it -/
noncomputable def RmL (l : List Int) (p : Int) : List (List Int) := if l.sum < p then [] else (allp (l.sum - p).toNat).filter (rimB l)
/-- which beads may go down, and what comes of them -/
def freeB (l : List Int) (p : Int) (i : Nat) : Bool := decide (p ≤ bead l i) && !((bds l).contains (bead l i - p))
def OL (l : List Int) (p : Int) (n : Nat) : List (List Int) := ((List.range n).filter (freeB l p)).map fun i => moved l i p
theorem freeB_iff {l : List Int} {p : Int} {i : Nat} (hi : i < l.length) : freeB l p i = true ↔ Free l i p := by
  unfold freeB Free
  simp only [Bool.and_eq_true, decide_eq_true_eq, Bool.not_eq_true']
  constructor
  · rintro ⟨h1, h2⟩
    refine ⟨hi, h1, fun k hk e => ?_⟩
    have : (bds l).contains (bead l i - p) = true := by
      rw [List.contains_iff_mem, ← e]
      exact List.mem_of_getElem? (bds_get l k hk)
    rw [this] at h2; cases h2
  · rintro ⟨_, h1, h2⟩
    refine ⟨h1, ?_⟩
    cases hc : (bds l).contains (bead l i - p) with
    | false => rfl
    | true =>
      rw [List.contains_iff_mem] at hc
      unfold bds at hc
      obtain ⟨k, hk, e⟩ := List.mem_map.1 hc
      exact absurd e (h2 k (List.mem_range.1 hk))
theorem RmL_rising (l : List Int) (p : Int) : (RmL l p).Pairwise ltL := by
  unfold RmL
  split
  · exact List.Pairwise.nil
  · exact (prt_rising _ _ _).sublist List.filter_sublist
theorem OL_perm {l : List Int} (h : Part l) {p : Int} (hp : 1 ≤ p) : (OL l p l.length).Perm (RmL l p) := by
  have hpf : Pf l := ⟨h.small.1, h.fal⟩
  refine (List.perm_ext_iff_of_nodup ?_ (show (RmL l p).Nodup from (RmL_rising l p).imp (fun {a b} h (e : a = b) => ltL_irrefl a (by rw [← e] at h; exact h)))).2 (fun m => ?_)
  · unfold OL
    refine List.Pairwise.map (R := fun i j => i ≠ j ∧ freeB l p i = true ∧ freeB l p j = true ∧ i < l.length ∧ j < l.length) _ (fun i j hij e => hij.1 (moved_inj hpf hp ((freeB_iff hij.2.2.2.1).1 hij.2.1) ((freeB_iff hij.2.2.2.2).1 hij.2.2.1) e)) ?_
    rw [List.pairwise_iff_getElem]
    intro a b ha hb hab
    have h1 := List.mem_filter.1 (List.getElem_mem ha)
    have h2 := List.mem_filter.1 (List.getElem_mem hb)
    refine ⟨?_, h1.2, h2.2, List.mem_range.1 h1.1, List.mem_range.1 h2.1⟩
    have hn : ((List.range l.length).filter (freeB l p)).Nodup := List.Pairwise.sublist List.filter_sublist List.nodup_range
    intro e
    have := (List.pairwise_iff_getElem.1 hn) a b ha hb hab
    exact this e
  · have hiff := rims_iff (m := m) hpf hp
    have e1 : m ∈ OL l p l.length ↔ ∃ i, Free l i p ∧ m = moved l i p := by
      unfold OL
      rw [List.mem_map]
      constructor
      · rintro ⟨i, hi, rfl⟩
        have := List.mem_filter.1 hi
        exact ⟨i, (freeB_iff (List.mem_range.1 this.1)).1 this.2, rfl⟩
      · rintro ⟨i, hi, rfl⟩
        exact ⟨i, List.mem_filter.2 ⟨List.mem_range.2 hi.1, (freeB_iff hi.1).2 hi⟩, rfl⟩
    rw [e1, ← hiff]
    unfold RmL
    by_cases hs : l.sum < p
    · rw [if_pos hs]
      constructor
      · rintro ⟨h1, h2, _⟩
        have := len_le_sum h1.1
        omega
      · intro hm; cases hm
    · rw [if_neg hs, List.mem_filter, rimB_iff]
      constructor
      · rintro ⟨h1, h2, h3⟩
        refine ⟨?_, h3⟩
        have hm : Part m := part_of ⟨h1.1, by have := h.2; omega⟩ h1.2
        exact hm.mem _ (by rw [h2]; omega)
      · rintro ⟨h1, h3⟩
        obtain ⟨g1, g2, _⟩ := prt_sound _ _ _ m h1 (Nat.le_refl _)
        exact ⟨g1, by rw [g2]; omega, h3⟩
/-- a rising of what comes of the beads is what the reference tells -/
theorem OL_RmL {l : List Int} (h : Part l) {p : Int} (hp : 1 ≤ p) {S : List (List Int)} (hs : S.Perm (OL l p l.length)) (hr : S.Pairwise (fun a b => ¬ ltL b a)) : S = RmL l p :=
  ris_unique hr (RmL_rising l p) (hs.trans (OL_perm h hp))
theorem RmL_part {l m : List Int} (h : Part l) {p : Int} (hp : 1 ≤ p) (hm : m ∈ RmL l p) : Part m ∧ m.sum = l.sum - p := by
  unfold RmL at hm
  by_cases hs : l.sum < p
  · rw [if_pos hs] at hm; cases hm
  · rw [if_neg hs] at hm
    obtain ⟨g1, g2, _⟩ := prt_sound _ _ _ m (List.mem_filter.1 hm).1 (Nat.le_refl _)
    have := h.2
    exact ⟨part_of ⟨g1.1, by rw [g2]; omega⟩ g1.2, by rw [g2]; omega⟩
/-- what is left at last -/
inductive CoreR (p : Int) : List Int → List Int → Prop
  | done {l} (h : RmL l p = []) : CoreR p l l
  | step {l m c} {r : List (List Int)} (h : RmL l p = m :: r) (hc : CoreR p m c) : CoreR p l c
theorem CoreR.unique {p : Int} {l c d : List Int} (h : CoreR p l c) (g : CoreR p l d) : c = d := by
  induction h generalizing d with
  | done h =>
    cases g with
    | done _ => rfl
    | step g _ => rw [h] at g; cases g
  | step h _ ih =>
    cases g with
    | done g => rw [h] at g; cases g
    | step g gc =>
      rw [h] at g
      cases g
      exact ih gc
end Go.Proofs.Ytpgpkgnljoedaaa
