/- The walk of the reference's Move. -/
import Derived.Test.YtiknocjdogbajaaRa
namespace Go.Proofs.Ytiknocjdogbajaa
open Go.RowKit

theorem rcold_no (x y : Int) (h0 : 0 ≤ x) (h1 : 0 ≤ y) (hx : x ≤ 1000000) (hy : y ≤ 1000000) (h : ¬ GoodC x y) (w : World) :
    Calls Try.prog 36 #[.int .i64 x, .int .i64 y] w fun e w' => e = .returned (.bool false) ∧ Below w.heap.size w w' := by
  have := rCold_any x.toNat y.toNat (by omega) (by omega) false (by simp; exact fun c => h ⟨h0, h1, c⟩) w
  rw [show ((x.toNat : Nat) : Int) = x by omega, show ((y.toNat : Nat) : Int) = y by omega] at this
  exact this
theorem rcold_yes (x y : Int) (hx : x ≤ 1000000) (hy : y ≤ 1000000) (h : GoodC x y) (w : World) :
    Calls Try.prog 36 #[.int .i64 x, .int .i64 y] w fun e w' => e = .returned (.bool true) ∧ Below w.heap.size w w' := by
  obtain ⟨h0, h1, h2⟩ := h
  have := rCold_any x.toNat y.toNat (by omega) (by omega) true (by simp; exact h2) w
  rw [show ((x.toNat : Nat) : Int) = x by omega, show ((y.toNat : Nat) : Int) = y by omega] at this
  exact this
theorem mvs_bd (a b n k : Nat) (ha : a ≤ 1000000) (hb : b ≤ 1000000) : (Mvs a b n k).x ≤ 1000000 ∧ (Mvs a b n k).y ≤ 1000000 := by
  match k with
  | 0 => simp only [Mvs]; omega
  | 1 => simp only [Mvs]; omega
  | k + 2 => simp only [Mvs]; omega
theorem app6_0 (a b c d e f : Value) (z : Array Value) : (#[a, b, c, d] ++ (#[e, f] ++ z))[0]? = some a := by
  rw [Array.getElem?_append_left (by simp)] ; rfl
theorem app6_1 (a b c d e f : Value) (z : Array Value) : (#[a, b, c, d] ++ (#[e, f] ++ z))[1]? = some b := by
  rw [Array.getElem?_append_left (by simp)] ; rfl
theorem app6_2 (a b c d e f : Value) (z : Array Value) : (#[a, b, c, d] ++ (#[e, f] ++ z))[2]? = some c := by
  rw [Array.getElem?_append_left (by simp)] ; rfl
theorem app6_3 (a b c d e f : Value) (z : Array Value) : (#[a, b, c, d] ++ (#[e, f] ++ z))[3]? = some d := by
  rw [Array.getElem?_append_left (by simp)] ; rfl
theorem app6_4 (a b c d e f : Value) (z : Array Value) : (#[a, b, c, d] ++ (#[e, f] ++ z))[4]? = some e := by
  rw [Array.getElem?_append_right (by simp)]
  rw [Array.getElem?_append_left (by simp)] ; rfl
theorem app6_5 (a b c d e f : Value) (z : Array Value) : (#[a, b, c, d] ++ (#[e, f] ++ z))[5]? = some f := by
  rw [Array.getElem?_append_right (by simp)]
  rw [Array.getElem?_append_left (by simp)] ; rfl
theorem gen_wp {P : Program} {c : Code} {Q : Exit → Act → World → Prop} {a : Act} {W : World} (S : World → Prop) (h : S W) (k : ∀ W', S W' → Code.wp P c Q a W') : Code.wp P c Q a W := k W h
theorem rowc_new {W : World} {g : Nat} (hg : g = W.heap.size) (cs : Array Value) (c : Nat → Cand) (n : Nat) (h : ∀ k, k < n → cs[k * 2]? = some (.int .i64 (c k).x) ∧ cs[k * 2 + 1]? = some (.int .i64 (c k).y)) : RowC (W.alloc (.cells cs 43)) g c n := by
  subst hg
  refine ⟨by simp, fun k hk => ?_⟩
  exact ⟨(cell_of_row _ _ _ _ 43 (0, 0) (heap_alloc_new W _)).trans (h k hk).1, (cell_of_row _ _ _ _ 43 (0, 0) (heap_alloc_new W _)).trans (h k hk).2⟩
theorem below_drew {B : Nat} {a w : World} (h : Below B a w) : Below B a w.drew := ⟨h.os, h.tape, h.output, h.size, h.block⟩
set_option maxHeartbeats 1000000 in
theorem rMove_cold (a b : Nat) (ha : a ≤ 1000000) (hb : b ≤ 1000000) (h : Cold a b) (w : World) :
    Calls Try.prog 35 #[.int .i64 a, .int .i64 b] w fun e w' => e = .returned (.tuple #[.agg #[.int .i64 0, .int .i64 0], .int .i64 4]) ∧ Below w.heap.size w w' := by
  have H := Lib.hid h; clear h
  go_enter Try.func35, Try.ntmps35
  go_wp2_with fail
  refine (rCold_any a b ha hb true (by simp; exact H.out) _).mono ?_
  rintro e w1 ⟨rfl, hb1⟩
  have X4 : Box w1 w.heap.size 43 0 0 := (Box.new w 43 0 0).keep hb1
  have c0 := X4.c0
  have c1 := X4.c1
  have f4 := X4.f
  go_wp2_with fail
  refine bodyPost_ret (v := .tuple #[.agg #[.int .i64 0, .int .i64 0], .int .i64 4]) (by simp [results, Try.results35, go_sem, c0, c1]) rfl ⟨rfl, ?_⟩
  exact ((below_new hb1).setCell (p := ⟨w.heap.size, 0, none⟩) (Nat.le_refl _) _).setCell (p := ⟨w.heap.size, 1, none⟩) (Nat.le_refl _) _

set_option maxHeartbeats 8000000 in
theorem rMove_walk (a b : Nat) (ha : a ≤ 1000000) (hb : b ≤ 1000000) (h : ¬ Cold a b) (n0 : Nat) (hn0 : n0 ≤ 3000000) (x0 y0 : Int) (h1 : 1 ≤ n0)
    (hF : ∀ m, 1 ≤ m → m < n0 → (rmv a b m).f = false) (hT : rmv a b n0 = ⟨x0, y0, true⟩) (w : World) :
    Calls Try.prog 35 #[.int .i64 a, .int .i64 b] w fun e w' => e = .returned (.tuple #[.agg #[.int .i64 x0, .int .i64 y0], .int .i64 0]) ∧ Below w.heap.size w w' := by
  have HF := Lib.hid hF
  have HT := Lib.hid hT
  have H := Lib.hid h
  clear hF hT h
  go_enter Try.func35, Try.ntmps35
  go_wp2_with fail
  refine (rCold_any a b ha hb false (by simp; exact H.out) _).mono ?_
  rintro e w1 ⟨rfl, hb1⟩
  have X4 : Box w1 w.heap.size 43 0 0 := (Box.new w 43 0 0).keep hb1
  have hbw := below_new hb1
  clear hb1
  go_wp2_with fail
  go_loopw [6] (fun i wr => ∃ n : Nat, 1 ≤ n ∧ n ≤ n0 ∧ i = .int .i64 n ∧ Box wr w.heap.size 43 0 0 ∧ Below w.heap.size w wr)
    (fun i _ => n0 + 1 - (intOf i).toNat)
  case atStart => exact ⟨1, by omega, by omega, rfl, X4, hbw⟩
  case round =>
    obtain ⟨n, hn1, hn2, rfl, B4, BB⟩ := hrel
    clear X4 hbw
    have hm : n % 2 = 0 ∨ n % 2 = 1 := by omega
    rcases hm with hm | hm

    · have hd : ((n : Int) % 2 == 0) = true := by simp; omega
      have hL : mlen n = 3 := by unfold mlen; simp [hm]
      have HL := Lib.hid hL
      have hbs := BB.size
      have hfar : w.heap.size ≠ wr.heap.size := by have := B4.lt; omega
      clear hL hm
      go_wp2_with fail
      refine gen_wp (fun W => Box W w.heap.size 43 0 0 ∧ Box W wr.heap.size 43 0 0 ∧ RowC W (wr.heap.size + 1 + 1 + 1) (Mvs a b n) 3 ∧ Below w.heap.size w W) ⟨((((B4.alloc _).alloc _).alloc _).alloc _).drew, ((((Box.new wr 43 0 0).alloc _).alloc _).alloc _).drew, by
        refine rowc_new (by simp) _ _ _ (fun k hk => ?_)
        match k, hk with
        | 0, _ => exact ⟨by simpa [Mvs] using app6_0 _ _ _ _ _ _ _, by simpa [Mvs] using app6_1 _ _ _ _ _ _ _⟩
        | 1, _ => exact ⟨by simpa [Mvs] using app6_2 _ _ _ _ _ _ _, by simpa [Mvs] using app6_3 _ _ _ _ _ _ _⟩
        | 2, _ => exact ⟨by simpa [Mvs] using app6_4 _ _ _ _ _ _ _, by simpa [Mvs] using app6_5 _ _ _ _ _ _ _⟩, below_drew ((((BB.alloc hbs _).alloc (by simp; omega) _).alloc (by simp; omega) _).alloc (by simp; omega) _)⟩ ?_
      rintro W ⟨U4, U7, UR, UB⟩
      clear B4 BB
      generalize hS : wr.heap.size = S at *
      go_loopw [8, 47] (fun f i wi => ∃ k : Nat, k ≤ 3 ∧ i = .int .i64 k ∧ f = .bool (rbst (Mvs a b n) k).f ∧ Box wi w.heap.size 43 0 0 ∧ Box wi S 43 (rbst (Mvs a b n) k).x (rbst (Mvs a b n) k).y ∧ RowC wi (S + 1 + 1 + 1) (Mvs a b n) 3 ∧ Below w.heap.size w wi)
        (fun _ i _ => 3 - (intOf i).toNat)
      case atStart => exact ⟨0, by omega, rfl, rfl, U4, U7, UR, UB⟩
      case round =>
        obtain ⟨k, hk, rfl, rfl, C4, C7, CR, CB⟩ := hrel
        clear U4 U7 UR UB
        have e0 := C7.c0
        have e1 := C7.c1
        have f7 := C7.f
        have l7 := C7.lt
        by_cases hlt : k < 3
        · have c0 := (CR.2 k hlt).1
          have c1 := (CR.2 k hlt).2
          have lr := CR.1
          have hxy := mvs_bd a b n k ha hb
          have HTK := Lib.hid (@rbst_take (Mvs a b n) k)
          have HSK := Lib.hid (@rbst_skip (Mvs a b n) k)
          generalize (Mvs a b n k).x = cx at *
          generalize (Mvs a b n k).y = cy at *
          generalize hB : rbst (Mvs a b n) k = Bs at *
          have HBs := Lib.hid hB
          clear hB
          obtain ⟨bx, bY, bf⟩ := Bs
          simp only at e0 e1 HTK HSK C7 ⊢
          have XT := Box.new wr 43 cx cy
          have X4 := C4.alloc (.cells #[.int .i64 cx, .int .i64 cy] 43)
          have X7 := C7.alloc (.cells #[.int .i64 cx, .int .i64 cy] 43)
          have XR := CR.alloc (.cells #[.int .i64 cx, .int .i64 cy] 43)
          have XB := CB.alloc CB.size (.cells #[.int .i64 cx, .int .i64 cy] 43)
          by_cases hx0 : 0 ≤ cx
          · have t0 : decide (0 ≤ cx) = true := decide_eq_true hx0
            by_cases hy0 : 0 ≤ cy
            · have t1 : decide (0 ≤ cy) = true := decide_eq_true hy0
              by_cases hg : GoodC cx cy
              · have HG := Lib.hid hg
                have hcall := Lib.hid (fun V => rcold_yes cx cy hxy.1 hxy.2 hg V)
                clear hg
                cases bf with
                | false =>
                  have HN := Lib.hid (HTK.out HG.out (.inl rfl))
                  clear HTK HSK
                  go_wp2_with fail
                  refine (hcall.out _).mono ?_
                  rintro e w2 ⟨rfl, hb2⟩
                  have YT := XT.keep hb2
                  have Y4 := X4.keep hb2
                  have Y7 := X7.keep hb2
                  have YR := XR.keep hb2
                  have YB := XB.trans (hb2.mono XB.size)
                  have g0 := YT.c0
                  have g1 := YT.c1
                  have k0 := Y7.c0
                  have k1 := Y7.c1
                  have kf := Y7.f
                  have kl := Y7.lt
                  have hyr : (S + 1 + 1 + 1) ≠ S := by omega
                  have hy4 := hfar
                  clear hb2 XT X4 X7 XR XB C4 C7 CR CB e0 e1 f7 l7 c0 c1 lr hfar
                  go_wp2_with fail
                  go_roundw
                  case rel => exact ⟨k + 1, by omega, by go_num, by rw [HN.out], (Y4.far (p := ⟨S, 0, none⟩) hy4 _).far (p := ⟨S, 1, none⟩) hy4 _, by rw [HN.out]; exact Y7.put cx cy, (YR.far (p := ⟨S, 0, none⟩) hyr _).far (p := ⟨S, 1, none⟩) hyr _, (YB.setCell (p := ⟨S, 0, none⟩) hbs _).setCell (p := ⟨S, 1, none⟩) hbs _⟩
                  case measure => simp [intOf]; omega
                | true =>
                  by_cases hl : cx < bx
                  · have t2 : decide (cx < bx) = true := decide_eq_true hl
                    have HN := Lib.hid (HTK.out HG.out (.inr hl))
                    clear HTK HSK
                    go_wp2_with fail
                    refine (hcall.out _).mono ?_
                    rintro e w2 ⟨rfl, hb2⟩
                    have YT := XT.keep hb2
                    have Y4 := X4.keep hb2
                    have Y7 := X7.keep hb2
                    have YR := XR.keep hb2
                    have YB := XB.trans (hb2.mono XB.size)
                    have g0 := YT.c0
                    have g1 := YT.c1
                    have k0 := Y7.c0
                    have k1 := Y7.c1
                    have kf := Y7.f
                    have kl := Y7.lt
                    have hyr : (S + 1 + 1 + 1) ≠ S := by omega
                    have hy4 := hfar
                    clear hb2 XT X4 X7 XR XB C4 C7 CR CB e0 e1 f7 l7 c0 c1 lr hfar
                    go_wp2_with fail
                    go_roundw
                    case rel => exact ⟨k + 1, by omega, by go_num, by rw [HN.out], (Y4.far (p := ⟨S, 0, none⟩) hy4 _).far (p := ⟨S, 1, none⟩) hy4 _, by rw [HN.out]; exact Y7.put cx cy, (YR.far (p := ⟨S, 0, none⟩) hyr _).far (p := ⟨S, 1, none⟩) hyr _, (YB.setCell (p := ⟨S, 0, none⟩) hbs _).setCell (p := ⟨S, 1, none⟩) hbs _⟩
                    case measure => simp [intOf]; omega
                  · have t2 : decide (cx < bx) = false := decide_eq_false hl
                    have HN := Lib.hid (HSK.out (fun g => by rcases g.2 with g | g; exact Bool.noConfusion g; exact hl g))
                    clear HTK HSK
                    go_wp2_with fail
                    refine (hcall.out _).mono ?_
                    rintro e w2 ⟨rfl, hb2⟩
                    have YT := XT.keep hb2
                    have Y4 := X4.keep hb2
                    have Y7 := X7.keep hb2
                    have YR := XR.keep hb2
                    have YB := XB.trans (hb2.mono XB.size)
                    have g0 := YT.c0
                    have g1 := YT.c1
                    have k0 := Y7.c0
                    have k1 := Y7.c1
                    have kf := Y7.f
                    have kl := Y7.lt
                    have hyr : (S + 1 + 1 + 1) ≠ S := by omega
                    have hy4 := hfar
                    clear hb2 XT X4 X7 XR XB C4 C7 CR CB e0 e1 f7 l7 c0 c1 lr hfar
                    go_wp2_with fail
                    go_roundw
                    case rel => exact ⟨k + 1, by omega, by go_num, by rw [HN.out], Y4, by rw [HN.out]; exact Y7, YR, YB⟩
                    case measure => simp [intOf]; omega
              · have HN := Lib.hid (HSK.out (fun g => hg g.1))
                have hcall := Lib.hid (fun V => rcold_no cx cy hx0 hy0 hxy.1 hxy.2 hg V)
                clear hg HTK HSK
                go_wp2_with fail
                refine (hcall.out _).mono ?_
                rintro e w2 ⟨rfl, hb2⟩
                have Y4 := X4.keep hb2
                have Y7 := X7.keep hb2
                have YR := XR.keep hb2
                have YB := XB.trans (hb2.mono XB.size)
                clear hb2 X4 X7 XR XB C4 C7 CR CB e0 e1
                go_wp2_with fail
                go_roundw
                case rel => exact ⟨k + 1, by omega, by go_num, by rw [HN.out], Y4, by rw [HN.out]; exact Y7, YR, YB⟩
                case measure => simp [intOf]; omega
            · have t1 : decide (0 ≤ cy) = false := decide_eq_false hy0
              have HN := Lib.hid (HSK.out (fun g => hy0 g.1.2.1))
              clear HTK HSK
              go_wp2_with fail
              go_roundw
              case rel => exact ⟨k + 1, by omega, by go_num, by rw [HN.out], X4, by rw [HN.out]; exact X7, XR, XB⟩
              case measure => simp [intOf]; omega
          · have t0 : decide (0 ≤ cx) = false := decide_eq_false hx0
            have HN := Lib.hid (HSK.out (fun g => hx0 g.1.1))
            clear HTK HSK
            go_wp2_with fail
            go_roundw
            case rel => exact ⟨k + 1, by omega, by go_num, by rw [HN.out], X4, by rw [HN.out]; exact X7, XR, XB⟩
            case measure => simp [intOf]; omega
        · have hkL : k = 3 := by omega
          subst hkL
          have eM : rbst (Mvs a b n) 3 = rmv a b n := by unfold rmv; rw [HL.out]
          rw [eM] at e0 e1 C7 ⊢
          by_cases hnn : n < n0
          · have HF1 := Lib.hid (HF.out n hn1 hnn)
            have ff := HF1.out
            generalize rmv a b n = R at *
            obtain ⟨rx, rY, rf⟩ := R
            simp only at ff
            subst ff
            simp only at e0 e1 C7 ⊢
            clear HF1
            go_wp2_with fail
            go_roundw
            case rel => exact ⟨n + 1, by omega, by omega, by go_num, C4, CB⟩
            case measure => simp [intOf]; omega
          · have hnn0 : n = n0 := by omega
            subst hnn0
            have ff := HT.out
            rw [ff] at e0 e1 C7 ⊢
            simp only at e0 e1 C7 ⊢
            have f4 := C4.f
            have l4 := C4.lt
            have g40 := C4.c0
            have g41 := C4.c1
            clear HT ff
            go_wp2_with fail
            have D4 := C4.put x0 y0
            have d0 := D4.c0
            have d1 := D4.c1
            refine bodyPost_ret (v := .tuple #[.agg #[.int .i64 x0, .int .i64 y0], .int .i64 0]) (by simp [results, Try.results35, go_sem, d0, d1]) rfl ⟨rfl, ?_⟩
            exact (CB.setCell (p := ⟨w.heap.size, 0, none⟩) (Nat.le_refl _) _).setCell (p := ⟨w.heap.size, 1, none⟩) (Nat.le_refl _) _
    · have hd : ((n : Int) % 2 == 0) = false := by simp; omega
      have hL : mlen n = 2 := by unfold mlen; simp [hm]
      have HL := Lib.hid hL
      have hbs := BB.size
      have hfar : w.heap.size ≠ wr.heap.size := by have := B4.lt; omega
      clear hL hm
      go_wp2_with fail
      refine gen_wp (fun W => Box W w.heap.size 43 0 0 ∧ Box W wr.heap.size 43 0 0 ∧ RowC W (wr.heap.size + 1) (Mvs a b n) 2 ∧ Below w.heap.size w W) ⟨(B4.alloc _).alloc _, (Box.new wr 43 0 0).alloc _, by
        refine rowc_new (by simp) _ _ _ (fun k hk => ?_)
        match k, hk with
        | 0, _ => exact ⟨by simp [Mvs], by simp [Mvs]⟩
        | 1, _ => exact ⟨by simp [Mvs], by simp [Mvs]⟩, (BB.alloc hbs _).alloc (by simp; omega) _⟩ ?_
      rintro W ⟨U4, U7, UR, UB⟩
      clear B4 BB
      generalize hS : wr.heap.size = S at *
      go_loopw [8, 47] (fun f i wi => ∃ k : Nat, k ≤ 2 ∧ i = .int .i64 k ∧ f = .bool (rbst (Mvs a b n) k).f ∧ Box wi w.heap.size 43 0 0 ∧ Box wi S 43 (rbst (Mvs a b n) k).x (rbst (Mvs a b n) k).y ∧ RowC wi (S + 1) (Mvs a b n) 2 ∧ Below w.heap.size w wi)
        (fun _ i _ => 2 - (intOf i).toNat)
      case atStart => exact ⟨0, by omega, rfl, rfl, U4, U7, UR, UB⟩
      case round =>
        obtain ⟨k, hk, rfl, rfl, C4, C7, CR, CB⟩ := hrel
        clear U4 U7 UR UB
        have e0 := C7.c0
        have e1 := C7.c1
        have f7 := C7.f
        have l7 := C7.lt
        by_cases hlt : k < 2
        · have c0 := (CR.2 k hlt).1
          have c1 := (CR.2 k hlt).2
          have lr := CR.1
          have hxy := mvs_bd a b n k ha hb
          have HTK := Lib.hid (@rbst_take (Mvs a b n) k)
          have HSK := Lib.hid (@rbst_skip (Mvs a b n) k)
          generalize (Mvs a b n k).x = cx at *
          generalize (Mvs a b n k).y = cy at *
          generalize hB : rbst (Mvs a b n) k = Bs at *
          have HBs := Lib.hid hB
          clear hB
          obtain ⟨bx, bY, bf⟩ := Bs
          simp only at e0 e1 HTK HSK C7 ⊢
          have XT := Box.new wr 43 cx cy
          have X4 := C4.alloc (.cells #[.int .i64 cx, .int .i64 cy] 43)
          have X7 := C7.alloc (.cells #[.int .i64 cx, .int .i64 cy] 43)
          have XR := CR.alloc (.cells #[.int .i64 cx, .int .i64 cy] 43)
          have XB := CB.alloc CB.size (.cells #[.int .i64 cx, .int .i64 cy] 43)
          by_cases hx0 : 0 ≤ cx
          · have t0 : decide (0 ≤ cx) = true := decide_eq_true hx0
            by_cases hy0 : 0 ≤ cy
            · have t1 : decide (0 ≤ cy) = true := decide_eq_true hy0
              by_cases hg : GoodC cx cy
              · have HG := Lib.hid hg
                have hcall := Lib.hid (fun V => rcold_yes cx cy hxy.1 hxy.2 hg V)
                clear hg
                cases bf with
                | false =>
                  have HN := Lib.hid (HTK.out HG.out (.inl rfl))
                  clear HTK HSK
                  go_wp2_with fail
                  refine (hcall.out _).mono ?_
                  rintro e w2 ⟨rfl, hb2⟩
                  have YT := XT.keep hb2
                  have Y4 := X4.keep hb2
                  have Y7 := X7.keep hb2
                  have YR := XR.keep hb2
                  have YB := XB.trans (hb2.mono XB.size)
                  have g0 := YT.c0
                  have g1 := YT.c1
                  have k0 := Y7.c0
                  have k1 := Y7.c1
                  have kf := Y7.f
                  have kl := Y7.lt
                  have hyr : (S + 1) ≠ S := by omega
                  have hy4 := hfar
                  clear hb2 XT X4 X7 XR XB C4 C7 CR CB e0 e1 f7 l7 c0 c1 lr hfar
                  go_wp2_with fail
                  go_roundw
                  case rel => exact ⟨k + 1, by omega, by go_num, by rw [HN.out], (Y4.far (p := ⟨S, 0, none⟩) hy4 _).far (p := ⟨S, 1, none⟩) hy4 _, by rw [HN.out]; exact Y7.put cx cy, (YR.far (p := ⟨S, 0, none⟩) hyr _).far (p := ⟨S, 1, none⟩) hyr _, (YB.setCell (p := ⟨S, 0, none⟩) hbs _).setCell (p := ⟨S, 1, none⟩) hbs _⟩
                  case measure => simp [intOf]; omega
                | true =>
                  by_cases hl : cx < bx
                  · have t2 : decide (cx < bx) = true := decide_eq_true hl
                    have HN := Lib.hid (HTK.out HG.out (.inr hl))
                    clear HTK HSK
                    go_wp2_with fail
                    refine (hcall.out _).mono ?_
                    rintro e w2 ⟨rfl, hb2⟩
                    have YT := XT.keep hb2
                    have Y4 := X4.keep hb2
                    have Y7 := X7.keep hb2
                    have YR := XR.keep hb2
                    have YB := XB.trans (hb2.mono XB.size)
                    have g0 := YT.c0
                    have g1 := YT.c1
                    have k0 := Y7.c0
                    have k1 := Y7.c1
                    have kf := Y7.f
                    have kl := Y7.lt
                    have hyr : (S + 1) ≠ S := by omega
                    have hy4 := hfar
                    clear hb2 XT X4 X7 XR XB C4 C7 CR CB e0 e1 f7 l7 c0 c1 lr hfar
                    go_wp2_with fail
                    go_roundw
                    case rel => exact ⟨k + 1, by omega, by go_num, by rw [HN.out], (Y4.far (p := ⟨S, 0, none⟩) hy4 _).far (p := ⟨S, 1, none⟩) hy4 _, by rw [HN.out]; exact Y7.put cx cy, (YR.far (p := ⟨S, 0, none⟩) hyr _).far (p := ⟨S, 1, none⟩) hyr _, (YB.setCell (p := ⟨S, 0, none⟩) hbs _).setCell (p := ⟨S, 1, none⟩) hbs _⟩
                    case measure => simp [intOf]; omega
                  · have t2 : decide (cx < bx) = false := decide_eq_false hl
                    have HN := Lib.hid (HSK.out (fun g => by rcases g.2 with g | g; exact Bool.noConfusion g; exact hl g))
                    clear HTK HSK
                    go_wp2_with fail
                    refine (hcall.out _).mono ?_
                    rintro e w2 ⟨rfl, hb2⟩
                    have YT := XT.keep hb2
                    have Y4 := X4.keep hb2
                    have Y7 := X7.keep hb2
                    have YR := XR.keep hb2
                    have YB := XB.trans (hb2.mono XB.size)
                    have g0 := YT.c0
                    have g1 := YT.c1
                    have k0 := Y7.c0
                    have k1 := Y7.c1
                    have kf := Y7.f
                    have kl := Y7.lt
                    have hyr : (S + 1) ≠ S := by omega
                    have hy4 := hfar
                    clear hb2 XT X4 X7 XR XB C4 C7 CR CB e0 e1 f7 l7 c0 c1 lr hfar
                    go_wp2_with fail
                    go_roundw
                    case rel => exact ⟨k + 1, by omega, by go_num, by rw [HN.out], Y4, by rw [HN.out]; exact Y7, YR, YB⟩
                    case measure => simp [intOf]; omega
              · have HN := Lib.hid (HSK.out (fun g => hg g.1))
                have hcall := Lib.hid (fun V => rcold_no cx cy hx0 hy0 hxy.1 hxy.2 hg V)
                clear hg HTK HSK
                go_wp2_with fail
                refine (hcall.out _).mono ?_
                rintro e w2 ⟨rfl, hb2⟩
                have Y4 := X4.keep hb2
                have Y7 := X7.keep hb2
                have YR := XR.keep hb2
                have YB := XB.trans (hb2.mono XB.size)
                clear hb2 X4 X7 XR XB C4 C7 CR CB e0 e1
                go_wp2_with fail
                go_roundw
                case rel => exact ⟨k + 1, by omega, by go_num, by rw [HN.out], Y4, by rw [HN.out]; exact Y7, YR, YB⟩
                case measure => simp [intOf]; omega
            · have t1 : decide (0 ≤ cy) = false := decide_eq_false hy0
              have HN := Lib.hid (HSK.out (fun g => hy0 g.1.2.1))
              clear HTK HSK
              go_wp2_with fail
              go_roundw
              case rel => exact ⟨k + 1, by omega, by go_num, by rw [HN.out], X4, by rw [HN.out]; exact X7, XR, XB⟩
              case measure => simp [intOf]; omega
          · have t0 : decide (0 ≤ cx) = false := decide_eq_false hx0
            have HN := Lib.hid (HSK.out (fun g => hx0 g.1.1))
            clear HTK HSK
            go_wp2_with fail
            go_roundw
            case rel => exact ⟨k + 1, by omega, by go_num, by rw [HN.out], X4, by rw [HN.out]; exact X7, XR, XB⟩
            case measure => simp [intOf]; omega
        · have hkL : k = 2 := by omega
          subst hkL
          have eM : rbst (Mvs a b n) 2 = rmv a b n := by unfold rmv; rw [HL.out]
          rw [eM] at e0 e1 C7 ⊢
          by_cases hnn : n < n0
          · have HF1 := Lib.hid (HF.out n hn1 hnn)
            have ff := HF1.out
            generalize rmv a b n = R at *
            obtain ⟨rx, rY, rf⟩ := R
            simp only at ff
            subst ff
            simp only at e0 e1 C7 ⊢
            clear HF1
            go_wp2_with fail
            go_roundw
            case rel => exact ⟨n + 1, by omega, by omega, by go_num, C4, CB⟩
            case measure => simp [intOf]; omega
          · have hnn0 : n = n0 := by omega
            subst hnn0
            have ff := HT.out
            rw [ff] at e0 e1 C7 ⊢
            simp only at e0 e1 C7 ⊢
            have f4 := C4.f
            have l4 := C4.lt
            have g40 := C4.c0
            have g41 := C4.c1
            clear HT ff
            go_wp2_with fail
            have D4 := C4.put x0 y0
            have d0 := D4.c0
            have d1 := D4.c1
            refine bodyPost_ret (v := .tuple #[.agg #[.int .i64 x0, .int .i64 y0], .int .i64 0]) (by simp [results, Try.results35, go_sem, d0, d1]) rfl ⟨rfl, ?_⟩
            exact (CB.setCell (p := ⟨w.heap.size, 0, none⟩) (Nat.le_refl _) _).setCell (p := ⟨w.heap.size, 1, none⟩) (Nat.le_refl _) _
end Go.Proofs.Ytiknocjdogbajaa
