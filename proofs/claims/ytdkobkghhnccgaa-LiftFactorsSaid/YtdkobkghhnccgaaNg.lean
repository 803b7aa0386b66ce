/- Walks: Polygon, Slopes and Pure of lift and of the reference; the law's own and less. -/
import Derived.Test.YtdkobkghhnccgaaNd
import Derived.Test.YtdkobkghhnccgaaNf
import Derived.Test.YtdkobkghhnccgaaRk
namespace Go.Proofs.Ytdkobkghhnccgaa
open Go.RowKit
open Np (frc Red ord Prm fle flt cf nz od Sides Sd Pg slopes)
section
variable {α : Type} {k : Nat} {E : Enc α k}
/-- append(s, x...) of a slice of the call's own -/
theorem wpList_rws {t e : TypeId} {z : Value} {by' : Nat} (T : Elt E t e z by') (w : World) {ops : Array Oper} {rest : List Oper} {o : Oper} {a : Act} {Q : Exit → Act → World → Prop} (hgd : o.guard = none) (s x : Operand)
    (ho : o.op = .call { callee := .builtin .append, args := #[s, x], argTypes := #[t, t] })
    (X : Nat) (v : Value) (L : List α) (hs : a.eval s = v) (h : Rw E e w X v L) (Y g2 c2 n2 : Nat) (L2 : List α) (hn2 : n2 = L2.length) (h2 : Rw E e w Y (.slice (some ⟨g2, 0, none⟩) n2 c2) L2) (h0 : 0 < n2)
    (hx : a.eval x = .slice (some ⟨g2, 0, none⟩) n2 c2) (hn : L.length + n2 ≤ 1000000) (hX : X ≤ w.heap.size)
    (hK : ∀ g cap w', Rw E e w' X (.slice (some ⟨g, 0, none⟩) (L.length + n2) cap) (L ++ L2) → Below X w w' → wpList Try.prog ops Q rest (a.put o.dst (.slice (some ⟨g, 0, none⟩) (L.length + n2) cap)) w') :
    wpList Try.prog ops Q (o :: rest) a w := by
  subst hn2
  obtain ⟨i0, hi, hz0, hz1, hz2⟩ := info_parts T.info
  have hb := T.hb
  refine wpList_append_lies _ hgd s x t ho X e i0 z k by' T.ht hi hz0 hz1 hz2 T.zc T.k0 v L.length _ hs h ⟨g2, 0, none⟩ L2.length c2 (L2.flatMap E.enc) hx (enc_length E L2)
    (World.ownsRow.cells h2 (g := g2) rfl) (fun u hu => by obtain ⟨y, _, hy⟩ := List.mem_flatMap.1 hu; exact E.one y u hy) h0 (by unfold maxLen; omega) ?_ hX w.heap.size rfl ?_
  · have : (L.length + L2.length) * by' ≤ 1000000 * 1000 := Nat.mul_le_mul hn hb
    omega
  · intro g cap w' r1 r2 r3 _
    have hbl : Below X w w' := (Below.refl X w).grown r2 hX (fun k e => (World.ownsRow.lt h k e).1)
    refine hK g cap w' ?_ hbl
    unfold Rw
    rw [List.length_append, List.flatMap_append]
    exact r1
end
theorem PrimeI.nat {p : Int} (h : PrimeI p) : ∃ P : Nat, p = P ∧ isP P := ⟨p.toNat, by unfold PrimeI at h; omega, by unfold PrimeI at h; unfold isP; omega⟩
set_option maxHeartbeats 4000000 in
theorem Polygon_yes (base : Nat) (v : Value) (f : List Int) (hf : Poly f) (P : Nat) (hP : isP P) (w : World) (hv : Own w base v f) :
    Calls Try.prog 37 #[v, .int .i64 P] w fun e w' => ∃ v' L, e = .returned (.tuple #[v', .int .i64 0]) ∧ Rw ES 71 w' w.heap.size v' L ∧ Pg P f L ∧ Below w.heap.size w w' := by
  have HV := Lib.hid hv
  have HF := Lib.hid hf
  have HVA := Lib.hid (valid_any base v f true (by simp [hf]) w hv)
  have HIP := Lib.hid (fun W => isPrime_any (P : Int) true (by simp [isP_int, hP]) W)
  have HPG := Lib.hid (fun W hW => polygon_any base v f hf P hP W hW)
  go_enter Try.func37, Try.ntmps37
  go_wp2_with fail
  with_reducible refine (HVA.out).mono ?_
  rintro e _ ⟨rfl, rfl⟩
  go_wp2_with fail
  with_reducible refine (HIP.out _).mono ?_
  rintro e w1 ⟨rfl, hb⟩
  go_wp2_with fail
  with_reducible refine (HPG.out _ (Own.keepB HV.out hb)).mono ?_
  rintro e w2 ⟨v', L, rfl, hr, hpg, hb2⟩
  have HR := Lib.hid hr
  have HPG2 := Lib.hid hpg
  have HBB := Lib.hid (hb.trans (hb2.mono hb.size))
  have hbs := hb.size
  obtain ⟨A2, c2, rfl⟩ := hr.form
  clear hr hpg hb hb2
  go_wp2_with fail
  go_ret2
  exact ⟨_, L, rfl, HR.out.base hbs, HPG2.out, HBB.out⟩
set_option maxHeartbeats 4000000 in
theorem Polygon_no (base : Nat) (v : Value) (f : List Int) (p : Int) (h : ¬ (Poly f ∧ PrimeI p)) (w : World) (hv : Own w base v f) :
    Calls Try.prog 37 #[v, .int .i64 p] w fun e w' => e = .returned (.tuple #[.slice none 0 0, .int .i64 2]) ∧ Below w.heap.size w w' := by
  by_cases hf : Poly f
  · have hp : ¬ PrimeI p := fun hp => h ⟨hf, hp⟩
    have HVA := Lib.hid (valid_any base v f true (by simp [hf]) w hv)
    have HIP := Lib.hid (fun W => isPrime_any p false (by simp [hp]) W)
    clear h hp hf
    go_enter Try.func37, Try.ntmps37
    go_wp2_with fail
    with_reducible refine (HVA.out).mono ?_
    rintro e _ ⟨rfl, rfl⟩
    go_wp2_with fail
    with_reducible refine (HIP.out _).mono ?_
    rintro e w1 ⟨rfl, hb⟩
    have HB := Lib.hid hb
    clear hb
    go_wp2_with fail
    go_ret2
    exact ⟨rfl, HB.out⟩
  · have HVA := Lib.hid (valid_any base v f false (by simp [hf]) w hv)
    clear h hf
    go_enter Try.func37, Try.ntmps37
    go_wp2_with fail
    with_reducible refine (HVA.out).mono ?_
    rintro e _ ⟨rfl, rfl⟩
    go_wp2_with fail
    go_ret2
    exact ⟨rfl, Below.refl _ _⟩
set_option maxHeartbeats 4000000 in
theorem Slopes_no (base : Nat) (v : Value) (f : List Int) (p : Int) (h : ¬ (Poly f ∧ PrimeI p)) (w : World) (hv : Own w base v f) :
    Calls Try.prog 38 #[v, .int .i64 p] w fun e w' => e = .returned (.tuple #[.slice none 0 0, .int .i64 2]) ∧ Below w.heap.size w w' := by
  have HPN := Lib.hid (Polygon_no base v f p h w hv)
  clear h
  go_enter Try.func38, Try.ntmps38
  go_wp2_with fail
  with_reducible refine (HPN.out).mono ?_
  rintro e w1 ⟨rfl, hb⟩
  have HB := Lib.hid hb
  clear hb
  go_wp2_with fail
  go_loop [8, 19] (fun o i => o = .slice none 0 0 ∧ i = .int .i64 0) (fun _ i => 0)
  case atStart => exact ⟨rfl, rfl⟩
  case round =>
    obtain ⟨rfl, rfl⟩ := hrel
    go_wp2_with fail
    go_ret2
    exact ⟨rfl, HB.out⟩
theorem sides_start {S : Nat → Prop} {o : Nat → Int} {N k : Nat} {L : List Sd} (h : Sides S o N k L) (hk : S k) : ∀ s ∈ L, S s.1 := by
  induction h with
  | done _ => simp
  | step n _ ih =>
    intro s hs
    rcases List.mem_cons.1 hs with rfl | hs
    · exact hk
    · exact ih n.2.2.1 s hs
theorem sides_len {S : Nat → Prop} {o : Nat → Int} {N k : Nat} {L : List Sd} (h : Sides S o N k L) : L.length + k + 1 ≤ N := by
  induction h with
  | done e => simp; omega
  | step n _ ih => have := n.1; simp; omega
/-- the bounds of a polygon's sides -/
theorem pg_bd {P : Nat} (hP : isP P) {f : List Int} (hf : Poly f) {L : List Sd} (h : Pg P f L) : ∀ s ∈ L, s.1 < s.2.1 ∧ s.2.1 ≤ 6 ∧ 1 ≤ s.2.2.2 ∧ s.2.2.2 ≤ 6 ∧ s.2.2.1.natAbs ≤ 9 := by
  intro s hs
  obtain ⟨k, hk, _, h3⟩ := h
  have h7 := hf.2.2.1
  obtain ⟨r1, r2, r3, r4, r5, r6, r7⟩ := h3.red s hs
  have hb := (Np.frc_spec (od P (cf f) s.2.1 - od P (cf f) s.1) ((s.2.1 : Int) - s.1) (by omega)).2.2.2
  rw [← r6] at hb
  have o1 := od_bd hP hf r3 r7
  have hs1 : nz (cf f) s.1 := sides_start h3 hk s hs
  have o2 := od_bd hP hf (show s.1 < f.length by omega) hs1
  have := r1.1
  omega
theorem pg_len {P : Nat} {f : List Int} {L : List Sd} (h : Pg P f L) : L.length ≤ f.length := by
  obtain ⟨k, _, _, h3⟩ := h
  have := sides_len h3
  omega
theorem slopes_take (L : List Sd) (m : Nat) (h : m < L.length) : slopes (L.take (m + 1)) = slopes (L.take m) ++ List.replicate (L[m].2.1 - L[m].1) L[m].2.2 := by
  unfold slopes
  rw [List.take_succ_eq_append_getElem h, List.flatMap_append]
  simp
theorem slopes_le {L : List Sd} (h : ∀ s ∈ L, s.2.1 ≤ 6) : ∀ m, m ≤ L.length → (slopes (L.take m)).length ≤ 6 * m := by
  intro m
  induction m with
  | zero => intro _; simp [slopes]
  | succ m ih =>
    intro hm
    rw [slopes_take L m (by omega), List.length_append, List.length_replicate]
    have := ih (by omega)
    have := h L[m] (List.getElem_mem _)
    omega
/-- the cells of a side -/
theorem Rw.side {e : TypeId} {w : World} {X0 g n c : Nat} {L : List Sd} (h : Rw ES e w X0 (.slice (some ⟨g, 0, none⟩) n c) L) {j : Nat} (hj : j < L.length) :
    w.cell? ⟨g, j * 4, none⟩ = some (.int .i64 L[j].1) ∧ w.cell? ⟨g, j * 4 + 1, none⟩ = some (.int .i64 L[j].2.1) ∧ w.cell? ⟨g, j * 4 + 2, none⟩ = some (.int .i64 L[j].2.2.1) ∧ w.cell? ⟨g, j * 4 + 3, none⟩ = some (.int .i64 L[j].2.2.2) :=
  ⟨h.cell (List.getElem?_eq_getElem hj) (i := 0) rfl, h.cell (List.getElem?_eq_getElem hj) (i := 1) rfl, h.cell (List.getElem?_eq_getElem hj) (i := 2) rfl, h.cell (List.getElem?_eq_getElem hj) (i := 3) rfl⟩
set_option maxRecDepth 100000 in
set_option maxHeartbeats 8000000 in
theorem Slopes_yes (base : Nat) (v : Value) (f : List Int) (hf : Poly f) (P : Nat) (hP : isP P) (w : World) (hv : Own w base v f) :
    Calls Try.prog 38 #[v, .int .i64 P] w fun e w' => ∃ v' L, e = .returned (.tuple #[v', .int .i64 0]) ∧ Rw EQ 64 w' w.heap.size v' (slopes L) ∧ Pg P f L ∧ Below w.heap.size w w' := by
  have HPY := Lib.hid (Polygon_yes base v f hf P hP w hv)
  have hl7 := hf.2.2.1
  have HF := Lib.hid hf
  go_enter Try.func38, Try.ntmps38
  go_wp2_with fail
  with_reducible refine (HPY.out).mono ?_
  rintro e w1 ⟨v', L, rfl, hr, hpg, hb⟩
  have HR := Lib.hid hr
  have HPG := Lib.hid hpg
  have HBD := Lib.hid (pg_bd hP HF.out hpg)
  have hll := pg_len hpg
  have HB := Lib.hid hb
  obtain ⟨A2, c2, rfl⟩ := hr.form
  clear hr hpg hb
  go_wp2_with fail
  go_loopw [8, 19] (fun o i wr => ∃ m : Nat, m ≤ L.length ∧ i = .int .i64 m ∧ Rw EQ 64 wr w1.heap.size o (slopes (L.take m)) ∧ Below w1.heap.size w1 wr) (fun _ i _ => L.length - (intOf i).toNat)
  case atStart => exact ⟨0, by omega, rfl, Rw.nil _ _, Below.refl _ _⟩
  case round =>
    obtain ⟨m, hm, rfl, ho, hb⟩ := hrel
    have HO := Lib.hid ho
    have hsl := slopes_le (fun s hs => (HBD.out s hs).2.1) m hm
    obtain ⟨Ao, co, rfl⟩ := ho.form
    clear ho
    by_cases hlt : m < L.length
    · have hsd := HBD.out L[m] (List.getElem_mem hlt)
      have HST := Lib.hid (slopes_take L m hlt)
      obtain ⟨g2, c3, hfm, hg1, hg2⟩ := HR.out.seen (by omega)
      simp only [Value.slice.injEq] at hfm
      obtain ⟨rfl, _, rfl⟩ := hfm
      obtain ⟨q1, q2, q3, q4⟩ := (HR.out.keep hb).side hlt
      generalize L[m] = s at *
      obtain ⟨x1, x2, x3, x4⟩ := s
      simp only at q1 q2 q3 q4 hsd HST
      have hmX : (m : Int) < (L.length : Int) := by omega
      obtain ⟨n, hn⟩ : ∃ n, n = x2 - x1 := ⟨_, rfl⟩
      have HRP := Lib.hid (fun b W => repeat_any (x3, x4) n (by omega) (by omega) b 1 W)
      rw [show ((n : Nat) : Int) = (x2 : Int) - x1 by omega] at HRP
      rw [← hn] at HST
      have hn1 : 1 ≤ n := by omega
      have hn6 : n ≤ 6 := by omega
      clear hn
      have hbx := hb.size
      have hb1x := HB.out.size
      go_wp2_with fail
      with_reducible refine (HRP.out _ _ (by simp [World.cell?_alloc_new]) (by simp) (by simp)).mono ?_
      rintro e w2 ⟨vr, rfl, hrr, hbr⟩
      obtain ⟨g4, c4, hvr, hg4, hg5⟩ := hrr.seen (by simp; omega)
      rw [List.length_replicate] at hvr
      subst hvr
      have hbr2 := (((Below.refl wr.heap.size wr).alloc (Nat.le_refl _) (.cells #[.int .i64 x1, .int .i64 x2, .int .i64 x3, .int .i64 x4] 71)).alloc (by simp) (.cells #[.int .i64 x3, .int .i64 x4] 64)).trans (hbr.mono (by simp; omega))
      have HBR := Lib.hid hbr2
      have ho2 := HO.out.keep hbr2
      have hbs2 := hbr2.size
      have hor := hrr
      rw [show (slopes (L.take m)).length = (slopes (L.take m)).length from rfl] at ho2
      clear hbr hbr2 q1 q2 q3 q4
      go_wp2_with (at_builtin; refine wpList_rws elt64 _ rfl _ _ rfl w1.heap.size _ _ rfl ho2 _ g4 c4 n _ (List.length_replicate).symm hrr (by omega) rfl (by omega) (by omega) ?_; intro ga ca wa ha hba)
      have HA := Lib.hid ha
      have HBB := Lib.hid (Below.trans hb ((HBR.out.mono hbx).trans hba))
      clear ha hba
      go_roundw
      case rel => exact ⟨m + 1, by omega, by go_num, by rw [HST.out]; exact HA.out, HBB.out⟩
      case measure => simp [intOf]; omega
    · obtain rfl : m = L.length := by omega
      rw [List.take_length] at HO ⊢
      go_wp2_with fail
      go_ret2
      exact ⟨_, L, rfl, HO.out.base HB.out.size, HPG.out, HB.out.trans (hb.mono HB.out.size)⟩
end Go.Proofs.Ytdkobkghhnccgaa
