/- Walk: the reference's Newton polygon. -/
import Derived.Test.YtdkobkghhnccgaaNe
namespace Go.Proofs.Ytdkobkghhnccgaa
open Go.RowKit
open Np (frc Red ord Prm fle flt cf nz od Sides Sd Pg)
/-- the sides so far, from place k0 to place k -/
def UptoR (P : Nat) (f : List Int) (k0 k : Nat) (L : List Sd) : Prop :=
  ∀ L', Sides (nz (cf f)) (od P (cf f)) f.length k L' → Sides (nz (cf f)) (od P (cf f)) f.length k0 (L ++ L')
theorem UptoR.step {P : Nat} {f : List Int} {k0 k b : Nat} {L : List Sd} (h : UptoR P f k0 k L) (hb : Np.Next (nz (cf f)) (od P (cf f)) f.length k b) :
    UptoR P f k0 b (L ++ [(k, b, frc (od P (cf f) b - od P (cf f) k) ((b : Int) - k))]) := by
  intro L' hL'
  rw [List.append_assoc]
  exact h _ (.step hb hL')
/-- what the inner loop has found below place i -/
def Fnd (P : Nat) (f : List Int) (k i : Nat) (t r n : Int) : Prop :=
  (t = 0 ∧ r = 0 ∧ n = 0 ∧ ∀ j, k < j → j < i → ¬ nz (cf f) j) ∨
    ∃ b : Nat, t = b ∧ r = od P (cf f) b - od P (cf f) k ∧ n = (b : Int) - k ∧ Np.Next (nz (cf f)) (od P (cf f)) i k b
theorem Fnd.zero (P : Nat) (f : List Int) (k : Nat) : Fnd P f k (k + 1) 0 0 0 := .inl ⟨rfl, rfl, rfl, fun j h1 h2 => by omega⟩
theorem Fnd.skip {P : Nat} {f : List Int} {k i : Nat} {t r n : Int} (h : Fnd P f k i t r n) (hz : f.getD i 0 = 0) : Fnd P f k (i + 1) t r n := by
  have hn : ¬ nz (cf f) i := fun e => e hz
  rcases h with ⟨h1, h2, h3, h4⟩ | ⟨b, h1, h2, h3, h4⟩
  · refine .inl ⟨h1, h2, h3, fun j g1 g2 => ?_⟩
    by_cases e : j = i
    · subst e; exact hn
    · exact h4 j g1 (by omega)
  · exact .inr ⟨b, h1, h2, h3, h4.keep fun e => absurd e hn⟩
theorem Fnd.take {P : Nat} {f : List Int} {k i : Nat} {t r n : Int} (h : Fnd P f k i t r n) (hki : k < i) (hz : f.getD i 0 ≠ 0) (hc : n = 0 ∨ (od P (cf f) i - od P (cf f) k) * n ≤ r * ((i : Int) - k)) :
    Fnd P f k (i + 1) i (od P (cf f) i - od P (cf f) k) ((i : Int) - k) := by
  refine .inr ⟨i, rfl, rfl, rfl, ?_⟩
  rcases h with ⟨h1, h2, h3, h4⟩ | ⟨b, h1, h2, h3, h4⟩
  · exact Np.Next.first hki hz h4
  · have hb := h4.1
    have hb2 := h4.2.1
    rw [h2, h3] at hc
    exact h4.swap hz (by rcases hc with e | e
                         · omega
                         · exact e)
theorem Fnd.leave {P : Nat} {f : List Int} {k i : Nat} {t r n : Int} (h : Fnd P f k i t r n) (h0 : n ≠ 0) (hc : ¬ (od P (cf f) i - od P (cf f) k) * n ≤ r * ((i : Int) - k)) : Fnd P f k (i + 1) t r n := by
  rcases h with ⟨h1, h2, h3, h4⟩ | ⟨b, h1, h2, h3, h4⟩
  · exact absurd h3 h0
  · refine .inr ⟨b, h1, h2, h3, h4.keep fun _ => ?_⟩
    rw [h2, h3] at hc
    omega
theorem od_bd {P : Nat} (hP : isP P) {f : List Int} (hf : Poly f) {i : Nat} (hi : i < f.length) (hz : f.getD i 0 ≠ 0) : 0 ≤ od P (cf f) i ∧ od P (cf f) i ≤ 9 := by
  have := hf.1 i hi
  have h := ord_le9 hP hz this.1 this.2
  unfold od cf
  omega
theorem Fnd.bd {P : Nat} (hP : isP P) {f : List Int} (hf : Poly f) {k i : Nat} {t r n : Int} (h : Fnd P f k i t r n) (hi : i ≤ f.length) (hk : k < f.length) (hz : f.getD k 0 ≠ 0) : 0 ≤ t ∧ t ≤ 7 ∧ -9 ≤ r ∧ r ≤ 9 ∧ 0 ≤ n ∧ n ≤ 7 := by
  have h7 := hf.2.2.1
  rcases h with ⟨rfl, rfl, rfl, _⟩ | ⟨b, rfl, rfl, rfl, h4⟩
  · omega
  · have := h4.1
    have := h4.2.1
    have := od_bd hP hf hk hz
    have := od_bd hP hf (show b < f.length by omega) h4.2.2.1
    omega
theorem Fnd.all {P : Nat} {f : List Int} {k : Nat} {t r n : Int} (h : Fnd P f k f.length t r n) (hk : k + 1 < f.length) (hl : nz (cf f) (f.length - 1)) : ∃ b : Nat, t = b ∧ r = od P (cf f) b - od P (cf f) k ∧ n = (b : Int) - k ∧ Np.Next (nz (cf f)) (od P (cf f)) f.length k b := by
  rcases h with ⟨_, _, _, h4⟩ | h
  · exact absurd hl (h4 _ (by omega) (by omega))
  · exact h
set_option maxRecDepth 100000 in
set_option maxHeartbeats 16000000 in
theorem rPolygon_any (v : Value) (f : List Int) (hf : Poly f) (P : Nat) (hP : isP P) (w : World) (hv : Ints w v f) :
    Calls Try.prog 42 #[v, .int .i64 P] w fun e w' => ∃ v' L, e = .returned v' ∧ Rw ES 66 w' w.heap.size v' L ∧ Pg P f L ∧ Below w.heap.size w w' := by
  have HV := Lib.hid hv
  have HF := Lib.hid hf
  have hl2 := hf.2.1
  have hl7 := hf.2.2.1
  obtain ⟨_, A, c, rfl, hcap, hr⟩ := hv
  obtain ⟨ad, rfl, hbl, hcl⟩ := hr (by omega)
  have HCL := Lib.hid (fun W (hb : Below w.heap.size w W) (j : Nat) (hj : j < f.length) => show W.cell? (ad.add j) = some (.int .i64 (f.getD j 0)) from
    (hb.cell (by rw [addr_block]; exact hbl)).trans (hcl j _ (by rw [List.getD_eq_getElem?_getD, List.getElem?_eq_getElem hj]; rfl)))
  have h2 := hP.pos
  have h13 := leP hP
  clear hr hcl
  go_enter Try.func42, Try.ntmps42
  go_wp2_with fail
  go_loop [6] (fun i => ∃ k : Nat, k < f.length ∧ i = .int .i64 k ∧ ∀ j, j < k → ¬ nz (cf f) j) (fun i => f.length - (intOf i).toNat)
  case atStart => exact ⟨0, by omega, rfl, fun j h => by omega⟩
  case round =>
    obtain ⟨k, hk, rfl, hz⟩ := hrel
    have HZ := Lib.hid hz
    clear hz
    have hc := HCL.out w (Below.refl _ _) k hk
    have hkX : (k : Int) < (f.length : Int) := by omega
    by_cases e : f.getD k 0 = 0
    · have e1 : (f.getD k 0 == 0) = true := by rw [beq_iff_eq]; exact e
      have hk1 : k + 1 < f.length := by
        rcases Nat.lt_or_ge (k + 1) f.length with g | g
        · exact g
        · exfalso
          have := HF.out.2.2.2
          rw [show f.length - 1 = k by omega] at this
          exact this e
      have HE := Lib.hid e
      clear e
      obtain ⟨ck, hck⟩ : ∃ ck, ck = f.getD k 0 := ⟨_, rfl⟩
      rw [← hck] at hc e1
      clear hck
      go_wp2_with fail
      go_round
      case rel => exact ⟨k + 1, hk1, by go_num, fun j hj hn => by
        by_cases g : j = k
        · subst g; exact hn HE.out
        · exact HZ.out j (by omega) hn⟩
      case measure => simp [intOf]; omega
    · have e1 : (f.getD k 0 == 0) = false := by rw [beq_eq_false_iff_ne]; exact e
      have HNZ := Lib.hid e
      clear e
      obtain ⟨ck, hck⟩ : ∃ ck, ck = f.getD k 0 := ⟨_, rfl⟩
      rw [← hck] at hc e1
      clear hck
      obtain ⟨k0, hk0⟩ : ∃ k0, k0 = k := ⟨_, rfl⟩
      have HK0 := Lib.hid hk0
      clear hk0
      go_wp2_with fail
      clear hc e1 hkX
      go_loopw [5, 6] (fun o i wq => ∃ (m : Nat) (L : List Sd), m < f.length ∧ i = .int .i64 m ∧ f.getD m 0 ≠ 0 ∧ Rw ES 66 wq w.heap.size o L ∧ L.length ≤ m ∧ UptoR P f k0 m L ∧ Below w.heap.size w wq) (fun _ i _ => f.length - (intOf i).toNat)
      case atStart => exact ⟨k, [], hk, rfl, HNZ.out, Rw.nil _ _, by simp, fun _ h => by rw [HK0.out]; exact h, Below.refl _ _⟩
      case round =>
        obtain ⟨m, L, hm, rfl, hmz, ho, hLm, hup, hb⟩ := hrel
        have HO := Lib.hid ho
        have HUP := Lib.hid hup
        have HMZ := Lib.hid hmz
        obtain ⟨Ao, co, rfl⟩ := ho.form
        clear ho hup hmz
        by_cases hlt : m + 1 < f.length
        · have hd1 : decide ((m : Int) < (f.length : Int) - 1) = true := decide_eq_true (by omega)
          go_wp2_with fail
          go_loopw [7, 8, 9, 10] (fun t r n i wq => ∃ (i' : Nat) (t' r' n' : Int), i = .int .i64 i' ∧ t = .int .i64 t' ∧ r = .int .i64 r' ∧ n = .int .i64 n' ∧ m < i' ∧ i' ≤ f.length ∧ Fnd P f m i' t' r' n' ∧ Below wr.heap.size wr wq) (fun _ _ _ i _ => f.length - (intOf i).toNat)
          case atStart => exact ⟨m + 1, 0, 0, 0, by go_num, rfl, rfl, rfl, by omega, by omega, Fnd.zero _ _ _, Below.refl _ _⟩
          case round =>
            obtain ⟨i, t, r, n, rfl, rfl, rfl, rfl, hmi, hil, hfn, hbi⟩ := hrel
            have HFN := Lib.hid hfn
            have hbd := hfn.bd hP HF.out hil hm HMZ.out
            obtain ⟨bd1, bd2, bd3, bd4, bd5, bd6⟩ := hbd
            clear hfn
            by_cases hi : i < f.length
            · have hcI := HCL.out _ (Below.trans hb (hbi.mono hb.size)) i hi
              have hcM := HCL.out _ (Below.trans hb (hbi.mono hb.size)) m hm
              have hiX : (i : Int) < (f.length : Int) := by omega
              have hmX : (m : Int) < (f.length : Int) := by omega
              by_cases hz : f.getD i 0 = 0
              · have e1 : (f.getD i 0 == 0) = true := by rw [beq_iff_eq]; exact hz
                have HZI := Lib.hid hz
                clear hz hcM
                obtain ⟨ci, hci⟩ : ∃ ck, ck = f.getD i 0 := ⟨_, rfl⟩
                rw [← hci] at hcI e1
                clear hci
                go_wp2_with fail
                go_roundw
                case rel => exact ⟨i + 1, t, r, n, by go_num, rfl, rfl, rfl, by omega, by omega, HFN.out.skip HZI.out, hbi⟩
                case measure => simp [intOf]; omega
              · have e1 : (f.getD i 0 == 0) = false := by rw [beq_eq_false_iff_ne]; exact hz
                have HZI := Lib.hid hz
                clear hz
                have o1 := od_bd hP HF.out hi HZI.out
                have o2 := od_bd hP HF.out hm HMZ.out
                have b1 := HF.out.1 i hi
                have b2 := HF.out.1 m hm
                have HOI := Lib.hid (fun W q => Calls.quiet_of_same (n := q) (w := W) ((rOrder_any (f.getD i 0) P hP HZI.out (by omega) (W.drewN q)).mono fun _ _ h => ⟨h.1, h.2.symm⟩))
                have HOM := Lib.hid (fun W q => Calls.quiet_of_same (n := q) (w := W) ((rOrder_any (f.getD m 0) P hP HMZ.out (by omega) (W.drewN q)).mono fun _ _ h => ⟨h.1, h.2.symm⟩))
                have hoi : od P (cf f) i = (ord P (f.getD i 0) : Nat) := rfl
                have hom : od P (cf f) m = (ord P (f.getD m 0) : Nat) := rfl
                rw [hoi] at o1
                rw [hom] at o2
                obtain ⟨ci, hci⟩ : ∃ ck, ck = f.getD i 0 := ⟨_, rfl⟩
                obtain ⟨cm, hcm⟩ : ∃ ck, ck = f.getD m 0 := ⟨_, rfl⟩
                rw [← hci] at hcI e1 HOI o1
                rw [← hcm] at hcM HOM o2
                have HCI := Lib.hid hci
                have HCM := Lib.hid hcm
                clear hci hcm hoi hom b1 b2
                obtain ⟨yi, hyi⟩ : ∃ y, y = ord P ci := ⟨_, rfl⟩
                obtain ⟨ym, hym⟩ : ∃ y, y = ord P cm := ⟨_, rfl⟩
                rw [← hyi] at HOI o1
                rw [← hym] at HOM o2
                have HYI := Lib.hid (show od P (cf f) i = (yi : Int) by rw [hyi, HCI.out]; rfl)
                have HYM := Lib.hid (show od P (cf f) m = (ym : Int) by rw [hym, HCM.out]; rfl)
                clear hyi hym
                have wy : IntKind.i64.wrap ((yi : Int) - ym) = (yi : Int) - ym := IntWalk.i64_in _ (by omega)
                have wx : IntKind.i64.wrap ((i : Int) - m) = (i : Int) - m := IntWalk.i64_in _ (by omega)
                go_wp2_with fail
                go_quiet ((go_at_call 66; first | (with_reducible exact HOI.out _ _) | (with_reducible exact HOM.out _ _)))
                have p1 := natAbs_mul_le (a := (yi : Int) - ym) (b := n) (A := 9) (B := 7) (by omega) (by omega)
                have p2 := natAbs_mul_le (a := r) (b := (i : Int) - m) (A := 9) (B := 7) (by omega) (by omega)
                have HTK := Lib.hid (fun hc => HFN.out.take hmi HZI.out hc)
                have HLV := Lib.hid (fun h0 hc => HFN.out.leave (i := i) h0 hc)
                rw [HYI.out, HYM.out] at HTK HLV
                clear hcI hcM e1
                by_cases hn0 : n = 0
                · have hd2 : (n == 0) = true := by rw [beq_iff_eq]; exact hn0
                  have HTK := Lib.hid (HTK.out (.inl hn0))
                  clear hn0 HLV
                  go_wp2_with fail
                  go_roundw
                  case rel => exact ⟨i + 1, _, _, _, by go_num, rfl, rfl, rfl, by omega, by omega, HTK.out, below_drewN hbi _⟩
                  case measure => simp [intOf]; omega
                · have hd2 : (n == 0) = false := by rw [beq_eq_false_iff_ne]; exact hn0
                  by_cases hle : ((yi : Int) - ym) * n ≤ r * ((i : Int) - m)
                  · have hd3 : decide (((yi : Int) - ym) * n ≤ r * ((i : Int) - m)) = true := decide_eq_true hle
                    have HTK := Lib.hid (HTK.out (.inr hle))
                    clear hn0 HLV hle
                    go_wp2_with fail
                    go_roundw
                    case rel => exact ⟨i + 1, _, _, _, by go_num, rfl, rfl, rfl, by omega, by omega, HTK.out, below_drewN hbi _⟩
                    case measure => simp [intOf]; omega
                  · have hd3 : decide (((yi : Int) - ym) * n ≤ r * ((i : Int) - m)) = false := decide_eq_false hle
                    have HLV := Lib.hid (HLV.out hn0 hle)
                    clear hn0 HTK hle
                    go_wp2_with fail
                    go_roundw
                    case rel => exact ⟨i + 1, _, _, _, by go_num, rfl, rfl, rfl, by omega, by omega, HLV.out, below_drewN hbi _⟩
                    case measure => simp [intOf]; omega
            · obtain rfl : i = f.length := by omega
              obtain ⟨b, rfl, rfl, rfl, hnx⟩ := HFN.out.all hlt HF.out.2.2.2
              have hb1 := hnx.1
              have hb2 := hnx.2.1
              have HNX := Lib.hid hnx
              have HST := Lib.hid (HUP.out.step hnx)
              clear hnx
              have HFR := Lib.hid (fun W => rFrac_any (od P (cf f) b - od P (cf f) m) ((b : Int) - m) (by omega) (by omega) (by omega) W)
              generalize od P (cf f) b - od P (cf f) m = ry at *
              go_wp2_with fail
              with_reducible refine (HFR.out _).mono ?_
              rintro e w1 ⟨rfl, hbf⟩
              have HBW := Lib.hid (Below.trans hb ((hbi.mono hb.size).trans (hbf.mono (Below.trans hb (hbi.mono hb.size)).size)))
              have hof := (HO.out.keep hbi).keep hbf
              go_wp2_with (at_builtin; refine wpList_rw elt66 _ rfl _ _ rfl w.heap.size _ _ rfl hof ((m, b, frc ry ((b : Int) - m)) : Sd) _ rfl rfl (by omega) HBW.out.size ?_; intro ga ca wa ha hba)
              have HA := Lib.hid ha
              have HBB := Lib.hid (Below.trans HBW.out hba)
              clear ha hba hof
              go_roundw
              case rel => exact ⟨b, _, by omega, rfl, HNX.out.2.2.1, HA.out, by rw [List.length_append]; simp; omega, HST.out, HBB.out⟩
              case measure => simp [intOf]; omega
        · have hd1 : decide ((m : Int) < (f.length : Int) - 1) = false := decide_eq_false (by omega)
          have hme : m + 1 = f.length := by omega
          have HDN := Lib.hid (show Pg P f L from ⟨k0, by rw [HK0.out]; exact HNZ.out, by rw [HK0.out]; exact HZ.out, by have := HUP.out [] (.done hme); rwa [List.append_nil] at this⟩)
          clear hme
          go_wp2_with fail
          go_ret
          exact ⟨_, L, rfl, HO.out, HDN.out, hb⟩
end Go.Proofs.Ytdkobkghhnccgaa
