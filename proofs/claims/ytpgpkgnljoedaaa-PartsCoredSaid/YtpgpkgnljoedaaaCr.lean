/- Walk of the reference's rim. -/
import Derived.Test.YtpgpkgnljoedaaaCb
namespace Go.Proofs.Ytpgpkgnljoedaaa
open Go.RowKit
theorem shape_lt {l m : List Int} (h : Pf l) {i q : Nat} (hs : Shape l m i q) : m.getD i 0 < l.getD i 0 := by
  obtain ⟨h1, _, h3, h4⟩ := hs
  by_cases e : i = q
  · subst e; exact h3
  · have := h4 i
    unfold shp at this
    rw [if_neg (by omega), if_pos (by omega)] at this
    dsimp only at this
    have := h.fall' (show i ≤ i + 1 by omega)
    omega
theorem shape_le {l m : List Int} (h : Pf l) {i q : Nat} (hs : Shape l m i q) (k : Nat) : m.getD k 0 ≤ l.getD k 0 := by
  obtain ⟨h1, _, h3, h4⟩ := hs
  have := h4 k
  unfold shp at this
  dsimp only at this
  have h5 := h.fall' (show k ≤ k + 1 by omega)
  split at this
  · omega
  · split at this
    · omega
    · split at this
      · rename_i e; subst e; omega
      · omega
/-- the first k rows: none is shorter, or a is the first one and b the last -/
def Seen (l m : List Int) (k : Nat) (f t : Int) : Prop :=
  (∀ j, j < k → m.getD j 0 ≤ l.getD j 0) ∧
  ((f = -1 ∧ t = -1 ∧ ∀ j, j < k → m.getD j 0 = l.getD j 0) ∨
   ∃ a b : Nat, f = a ∧ t = b ∧ a ≤ b ∧ b < k ∧ m.getD a 0 < l.getD a 0 ∧ m.getD b 0 < l.getD b 0 ∧ (∀ j, j < a → m.getD j 0 = l.getD j 0) ∧ ∀ j, b < j → j < k → m.getD j 0 = l.getD j 0)
theorem Seen.zero (l m : List Int) : Seen l m 0 (-1) (-1) := ⟨fun j hj => by omega, .inl ⟨rfl, rfl, fun j hj => by omega⟩⟩
theorem Seen.same {l m : List Int} {k : Nat} {f t : Int} (h : Seen l m k f t) (e : m.getD k 0 = l.getD k 0) : Seen l m (k + 1) f t := by
  refine ⟨fun j hj => ?_, ?_⟩
  · by_cases g : j = k
    · subst g; omega
    · exact h.1 j (by omega)
  · rcases h.2 with ⟨h1, h2, h3⟩ | ⟨a, b, h1, h2, h3, h4, h5, h6, h7, h8⟩
    · refine .inl ⟨h1, h2, fun j hj => ?_⟩
      by_cases g : j = k
      · subst g; exact e
      · exact h3 j (by omega)
    · refine .inr ⟨a, b, h1, h2, h3, by omega, h5, h6, h7, fun j hj hj2 => ?_⟩
      by_cases g : j = k
      · subst g; exact e
      · exact h8 j hj (by omega)
theorem Seen.first {l m : List Int} {k : Nat} {f t : Int} (h : Seen l m k f t) (hf : f < 0) (e : m.getD k 0 < l.getD k 0) : Seen l m (k + 1) k k := by
  refine ⟨fun j hj => ?_, ?_⟩
  · by_cases g : j = k
    · subst g; omega
    · exact h.1 j (by omega)
  · rcases h.2 with ⟨h1, h2, h3⟩ | ⟨a, b, h1, _⟩
    · exact .inr ⟨k, k, rfl, rfl, Nat.le_refl _, by omega, e, e, h3, fun j hj hj2 => by omega⟩
    · omega
theorem Seen.next {l m : List Int} {k : Nat} {f t : Int} (h : Seen l m k f t) (hf : ¬ f < 0) (e : m.getD k 0 < l.getD k 0) : Seen l m (k + 1) f k := by
  refine ⟨fun j hj => ?_, ?_⟩
  · by_cases g : j = k
    · subst g; omega
    · exact h.1 j (by omega)
  · rcases h.2 with ⟨h1, h2, h3⟩ | ⟨a, b, h1, h2, h3, h4, h5, h6, h7, h8⟩
    · omega
    · exact .inr ⟨a, k, h1, rfl, by omega, by omega, h5, e, h7, fun j hj hj2 => by omega⟩
theorem Seen.bd {l m : List Int} {k : Nat} {f t : Int} (h : Seen l m k f t) (hk : k ≤ 100) : -1 ≤ f ∧ f ≤ 100 ∧ -1 ≤ t ∧ t ≤ 100 ∧ f ≤ t := by
  rcases h.2 with ⟨h1, h2, _⟩ | ⟨a, b, h1, h2, h3, h4, _⟩ <;> omega
/-- the rows from the first one up to k are as they must be -/
def Good (l m : List Int) (f : Int) (k : Int) : Prop := ∀ j : Nat, f ≤ j → (j : Int) < k → m.getD j 0 < l.getD j 0 ∧ l.getD (j + 1) 0 - m.getD j 0 = 1
theorem Good.next {l m : List Int} {f k : Int} (h : Good l m f k) (j : Nat) (hj : k = j) (h1 : m.getD j 0 < l.getD j 0) (h2 : l.getD (j + 1) 0 - m.getD j 0 = 1) : Good l m f (k + 1) := by
  intro i hi hi2
  by_cases e : i = j
  · subst e; exact ⟨h1, h2⟩
  · exact h i hi (by omega)
theorem shape_ends {l m : List Int} (h : Pf l) {i q : Nat} (hs : Shape l m i q) {X a b : Nat} (hX : l.length ≤ X) (h5 : m.getD a 0 < l.getD a 0) (h6 : m.getD b 0 < l.getD b 0) (h7 : ∀ j, j < a → m.getD j 0 = l.getD j 0) (h8 : ∀ j, b < j → j < X → m.getD j 0 = l.getD j 0) : i = a ∧ q = b := by
  have h0 := shape_lt h hs
  obtain ⟨g1, g2, g3, g4⟩ := hs
  constructor
  · rcases Nat.lt_trichotomy i a with g | g | g
    · have := h7 i g; omega
    · exact g
    · have := g4 a; unfold shp at this; rw [if_pos g] at this; dsimp only at this; omega
  · rcases Nat.lt_trichotomy q b with g | g | g
    · have := g4 b; unfold shp at this; rw [if_neg (by omega), if_neg (by omega), if_neg (by omega)] at this; dsimp only at this; omega
    · exact g
    · have := h8 q g (by omega); omega
/-- all is well: a rim hook -/
theorem seen_shape {l m : List Int} (hpm : Pf m) {X : Nat} (hl : l.length ≤ X) (hm : m.length ≤ X) {f t : Int} (h : Seen l m X f t) (hf : 0 ≤ f) (hg : Good l m f t) : ∃ i q, Shape l m i q := by
  rcases h.2 with ⟨h1, _⟩ | ⟨a, b, h1, h2, h3, h4, h5, h6, h7, h8⟩
  · omega
  · refine ⟨a, b, h3, ?_, h6, fun k => ?_⟩
    · rcases Nat.lt_or_ge b l.length with g | g
      · exact g
      · rw [gd_out g] at h6
        have := hpm.nonneg b
        omega
    · unfold shp
      dsimp only
      by_cases e1 : k < a
      · rw [if_pos e1]; exact h7 k e1
      · rw [if_neg e1]
        by_cases e2 : k < b
        · rw [if_pos e2]; have := (hg k (by omega) (by omega)).2; omega
        · rw [if_neg e2]
          by_cases e3 : k = b
          · rw [if_pos e3, e3]
          · rw [if_neg e3]
            by_cases e4 : k < X
            · exact h8 k (by omega) e4
            · rw [gd_out (by omega), gd_out (by omega)]
set_option maxRecDepth 100000 in
set_option maxHeartbeats 8000000 in
theorem rim_any (v1 v2 : Value) (l m : List Int) (hl : Pf l) (hm : Pf m) (hl30 : l.length ≤ 30) (hm30 : m.length ≤ 30) (hb1 : ∀ k, l.getD k 0 ≤ 30) (hb2 : ∀ k, m.getD k 0 ≤ 30) (w : World) (h1 : Ints w v1 l) (h2 : Ints w v2 m) (r : Bool) (hr : r = true ↔ ∃ i q, Shape l m i q) :
    Calls Try.prog 83 #[v1, v2] w fun e w' => e = .returned (.bool r) ∧ w = w' := by
  have HL := Lib.hid (fun (k : Nat) (hk : k ≤ 1000) (x : Int) (hx : l.getD k 0 = x) => at98 v1 l k hk w h1 x hx)
  have HM := Lib.hid (fun (k : Nat) (hk : k ≤ 1000) (x : Int) (hx : m.getD k 0 = x) => at98 v2 m k hk w h2 x hx)
  have HPL := Lib.hid hl
  have HPM := Lib.hid hm
  have HX := Lib.hid hr
  have HB1 := Lib.hid hb1
  have HB2 := Lib.hid hb2
  obtain ⟨A1, c1, hv1⟩ : ∃ A c, v1 = .slice A l.length c := by obtain ⟨_, A, c, h, _⟩ := h1; exact ⟨A, c, h⟩
  obtain ⟨A2, c2, hv2⟩ : ∃ A c, v2 = .slice A m.length c := by obtain ⟨_, A, c, h, _⟩ := h2; exact ⟨A, c, h⟩
  subst hv1 hv2
  clear hl hm hr h1 h2 hb1 hb2
  obtain ⟨X, hX⟩ : ∃ X : Nat, X = max l.length m.length := ⟨_, rfl⟩
  have hXI : max (l.length : Int) (m.length : Int) = X := by omega
  have hXl : l.length ≤ X := by omega
  have hXm : m.length ≤ X := by omega
  have hX30 : X ≤ 30 := by omega
  clear hX
  go_enter Try.func83, Try.ntmps83
  go_wp2_with fail
  go_loop [5, 6, 14] (fun f t i => ∃ (k : Nat) (f' t' : Int), k ≤ X ∧ i = .int .i64 k ∧ f = .int .i64 f' ∧ t = .int .i64 t' ∧ Seen l m k f' t') (fun _ _ i => X - (intOf i).toNat)
  case atStart => exact ⟨0, -1, -1, Nat.zero_le _, rfl, rfl, rfl, Seen.zero l m⟩
  case round =>
    obtain ⟨k, f, t, hk, rfl, rfl, rfl, hs⟩ := hrel
    have HS := Lib.hid hs
    obtain ⟨bd1, bd2, bd3, bd4, bd5⟩ := hs.bd (by omega)
    clear hs
    by_cases hlt : k < X
    · obtain ⟨x, hx⟩ : ∃ x, l.getD k 0 = x := ⟨_, rfl⟩
      obtain ⟨y, hy⟩ : ∃ y, m.getD k 0 = y := ⟨_, rfl⟩
      have cx := Lib.hid (HL.out k (by omega) x hx)
      have cy := Lib.hid (HM.out k (by omega) y hy)
      have HXX := Lib.hid hx
      have HYY := Lib.hid hy
      clear hx hy
      by_cases hgt : x < y
      · have hrf : r = false := by
          cases r with
          | false => rfl
          | true =>
            obtain ⟨i, q, hsh⟩ := HX.out.1 rfl
            have := shape_le HPL.out hsh k
            rw [HXX.out, HYY.out] at this
            omega
        subst hrf
        go_wp2_with fail
        with_reducible refine cy.out.mono ?_
        rintro e _ ⟨rfl, rfl⟩
        go_wp2_with fail
        with_reducible refine cx.out.mono ?_
        rintro e _ ⟨rfl, rfl⟩
        go_wp2_with fail
        go_ret
        exact ⟨rfl, rfl⟩
      · by_cases hyx : y < x
        · have HE := Lib.hid (show m.getD k 0 < l.getD k 0 by rw [HXX.out, HYY.out]; exact hyx)
          by_cases hf : f < 0
          · have HN := Lib.hid (HS.out.first hf HE.out)
            go_wp2_with fail
            with_reducible refine cy.out.mono ?_
            rintro e _ ⟨rfl, rfl⟩
            go_wp2_with fail
            with_reducible refine cx.out.mono ?_
            rintro e _ ⟨rfl, rfl⟩
            go_wp2_with fail
            with_reducible refine cy.out.mono ?_
            rintro e _ ⟨rfl, rfl⟩
            go_wp2_with fail
            with_reducible refine cx.out.mono ?_
            rintro e _ ⟨rfl, rfl⟩
            go_wp2_with fail
            go_round
            case rel => exact ⟨k + 1, k, k, by omega, by go_num, rfl, rfl, HN.out⟩
            case measure => simp [intOf]; omega
          · have HN := Lib.hid (HS.out.next hf HE.out)
            go_wp2_with fail
            with_reducible refine cy.out.mono ?_
            rintro e _ ⟨rfl, rfl⟩
            go_wp2_with fail
            with_reducible refine cx.out.mono ?_
            rintro e _ ⟨rfl, rfl⟩
            go_wp2_with fail
            with_reducible refine cy.out.mono ?_
            rintro e _ ⟨rfl, rfl⟩
            go_wp2_with fail
            with_reducible refine cx.out.mono ?_
            rintro e _ ⟨rfl, rfl⟩
            go_wp2_with fail
            go_round
            case rel => exact ⟨k + 1, f, k, by omega, by go_num, rfl, rfl, HN.out⟩
            case measure => simp [intOf]; omega
        · have HN := Lib.hid (HS.out.same (show m.getD k 0 = l.getD k 0 by rw [HXX.out, HYY.out]; omega))
          go_wp2_with fail
          with_reducible refine cy.out.mono ?_
          rintro e _ ⟨rfl, rfl⟩
          go_wp2_with fail
          with_reducible refine cx.out.mono ?_
          rintro e _ ⟨rfl, rfl⟩
          go_wp2_with fail
          with_reducible refine cy.out.mono ?_
          rintro e _ ⟨rfl, rfl⟩
          go_wp2_with fail
          with_reducible refine cx.out.mono ?_
          rintro e _ ⟨rfl, rfl⟩
          go_wp2_with fail
          go_round
          case rel => exact ⟨k + 1, f, t, by omega, by go_num, rfl, rfl, HN.out⟩
          case measure => simp [intOf]; omega
    · have hkX : k = X := by omega
      have HSX := Lib.hid (show Seen l m X f t by rw [← hkX]; exact HS.out)
      clear hkX
      go_wp2_with fail
      go_loop [8] (fun i => ∃ g : Int, i = .int .i64 g ∧ f ≤ g ∧ g ≤ t ∧ Good l m f g) (fun i => (t + 2 - intOf i).toNat)
      case atStart => exact ⟨f, rfl, Int.le_refl _, bd5, fun j hj hj2 => by omega⟩
      case round =>
        obtain ⟨g, rfl, hg1, hg2, hgd⟩ := hrel
        have HGD := Lib.hid hgd
        clear hgd
        by_cases hgt : g < t
        · have hg0 : 0 ≤ g := by
            rcases HSX.out.2 with ⟨e1, e2, _⟩ | ⟨a, b, e1, e2, _⟩ <;> omega
          obtain ⟨j, hj⟩ := Int.eq_ofNat_of_zero_le hg0
          subst hj
          obtain ⟨x, hx⟩ : ∃ x, l.getD j 0 = x := ⟨_, rfl⟩
          obtain ⟨y, hy⟩ : ∃ y, m.getD j 0 = y := ⟨_, rfl⟩
          obtain ⟨z, hz⟩ : ∃ z, l.getD (j + 1) 0 = z := ⟨_, rfl⟩
          have cx := Lib.hid (HL.out j (by omega) x hx)
          have cy := Lib.hid (HM.out j (by omega) y hy)
          have cz' := HL.out (j + 1) (by omega) z hz
          rw [show ((j + 1 : Nat) : Int) = (j : Int) + 1 by omega] at cz'
          have cz := Lib.hid cz'
          clear cz'
          have y0 : 0 ≤ y := by rw [← hy]; exact HPM.out.nonneg j
          have y1 : y ≤ 30 := by rw [← hy]; exact HB2.out j
          have z0 : 0 ≤ z := by rw [← hz]; exact HPL.out.nonneg (j + 1)
          have z1 : z ≤ 30 := by rw [← hz]; exact HB1.out (j + 1)
          have hbadr : ¬ (m.getD j 0 < l.getD j 0 ∧ l.getD (j + 1) 0 - m.getD j 0 = 1) → r = false := fun hbad => by
            cases r with
            | false => rfl
            | true =>
              exfalso
              obtain ⟨i, q, hsh⟩ := HX.out.1 rfl
              rcases HSX.out.2 with ⟨e1, e2, _⟩ | ⟨a, b, e1, e2, e3, e4, e5, e6, e7, e8⟩
              · omega
              · obtain ⟨g1, g2⟩ := shape_ends HPL.out hsh hXl e5 e6 e7 e8
                subst g1 g2
                obtain ⟨_, _, s3, s4⟩ := hsh
                have s5 := s4 j
                unfold shp at s5
                rw [if_neg (by omega), if_pos (by omega)] at s5
                dsimp only at s5
                have s6 := HPL.out.fall' (show j ≤ j + 1 by omega)
                exact hbad ⟨by omega, by omega⟩
          have HBAD := Lib.hid hbadr
          have HXX := Lib.hid hx
          have HYY := Lib.hid hy
          have HZZ := Lib.hid hz
          clear hbadr hx hy hz
          by_cases c1 : y < x
          · by_cases c2 : z - y = 1
            · have HN := Lib.hid (HGD.out.next j rfl (by rw [HXX.out, HYY.out]; exact c1) (by rw [HZZ.out, HYY.out]; exact c2))
              have d1 : decide (x ≤ y) = false := decide_eq_false (by omega)
              have d2 : (z - y != 1) = false := by rw [bne_eq_false_iff_eq]; exact c2
              clear c2
              go_wp2_with fail
              with_reducible refine cy.out.mono ?_
              rintro e _ ⟨rfl, rfl⟩
              go_wp2_with fail
              with_reducible refine cx.out.mono ?_
              rintro e _ ⟨rfl, rfl⟩
              go_wp2_with fail
              with_reducible refine cz.out.mono ?_
              rintro e _ ⟨rfl, rfl⟩
              go_wp2_with fail
              with_reducible refine cy.out.mono ?_
              rintro e _ ⟨rfl, rfl⟩
              go_wp2_with fail
              go_round
              case rel => exact ⟨(j : Int) + 1, by go_num, by omega, by omega, HN.out⟩
              case measure => simp [intOf]; omega
            · have hrf := HBAD.out (fun hh => c2 (by have := hh.2; rw [HZZ.out, HYY.out] at this; exact this))
              subst hrf
              have d1 : decide (x ≤ y) = false := decide_eq_false (by omega)
              have d2 : (z - y != 1) = true := by rw [bne_iff_ne]; exact c2
              clear c2
              go_wp2_with fail
              with_reducible refine cy.out.mono ?_
              rintro e _ ⟨rfl, rfl⟩
              go_wp2_with fail
              with_reducible refine cx.out.mono ?_
              rintro e _ ⟨rfl, rfl⟩
              go_wp2_with fail
              with_reducible refine cz.out.mono ?_
              rintro e _ ⟨rfl, rfl⟩
              go_wp2_with fail
              with_reducible refine cy.out.mono ?_
              rintro e _ ⟨rfl, rfl⟩
              go_wp2_with fail
              go_ret
              exact ⟨rfl, rfl⟩
          · have hrf := HBAD.out (fun hh => c1 (by have := hh.1; rw [HXX.out, HYY.out] at this; exact this))
            subst hrf
            have d1 : decide (x ≤ y) = true := decide_eq_true (by omega)
            go_wp2_with fail
            with_reducible refine cy.out.mono ?_
            rintro e _ ⟨rfl, rfl⟩
            go_wp2_with fail
            with_reducible refine cx.out.mono ?_
            rintro e _ ⟨rfl, rfl⟩
            go_wp2_with fail
            go_ret
            exact ⟨rfl, rfl⟩
        · have hgt2 : g = t := by omega
          have HGT := Lib.hid (show Good l m f t by rw [← hgt2]; exact HGD.out)
          clear hgt2
          by_cases hf : 0 ≤ f
          · have hrt : r = true := HX.out.2 (seen_shape HPM.out hXl hXm HSX.out hf HGT.out)
            subst hrt
            have d1 : decide (0 ≤ f) = true := decide_eq_true hf
            go_wp2_with fail
            go_ret
            exact ⟨rfl, rfl⟩
          · have hrf : r = false := by
              cases r with
              | false => rfl
              | true =>
                exfalso
                obtain ⟨i, q, hsh⟩ := HX.out.1 rfl
                have h0 := shape_lt HPL.out hsh
                have h3 := hsh.2.1
                have h4 := hsh.1
                rcases HSX.out.2 with ⟨e1, e2, e3⟩ | ⟨a, b, e1, _⟩
                · have := e3 i (by omega); omega
                · omega
            subst hrf
            have d1 : decide (0 ≤ f) = false := decide_eq_false hf
            go_wp2_with fail
            go_ret
            exact ⟨rfl, rfl⟩
end Go.Proofs.Ytpgpkgnljoedaaa
