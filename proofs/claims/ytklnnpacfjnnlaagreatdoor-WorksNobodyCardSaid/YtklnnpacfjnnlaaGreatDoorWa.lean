/- Works: awake. -/
import Derived.Test.YtklnnpacfjnnlaaGreatDoorWq
namespace Go.Proofs.YtklnnpacfjnnlaaGreatDoor
open Go.RowKit
/-- the books b lie at block s, all their blocks in G -/
def StG (w : World) (G : Nat → Prop) (s : Nat) (b : Bk) : Prop :=
  ∃ v cv gm pm, Row5 w s v (.map (some gm)) (.map (some pm)) (.slice b.gA b.gn b.gc) cv ∧ Rw vtEnc 121 w 0 v b.vats ∧ Rw spEnc 150 w 0 cv b.crates ∧ w.heap[gm]? = some (.map b.gr.1 b.gr.2) ∧ w.heap[pm]? = some (.map b.pk.1 b.pk.2) ∧
    gm ≠ pm ∧ v.ownBlock ≠ some s ∧ cv.ownBlock ≠ some s ∧ (∀ k, v.ownBlock = some k → cv.ownBlock ≠ some k) ∧ G s ∧ G gm ∧ G pm ∧ (∀ k, v.ownBlock = some k → G k) ∧ ∀ k, cv.ownBlock = some k → G k
theorem StG.stb {w : World} {G : Nat → Prop} {s : Nat} {b : Bk} (h : StG w G s b) : Stb w 0 s b := by
  obtain ⟨v, cv, gm, pm, h1, h2, h3, h4, h5, h6, h7, h8, h9, -⟩ := h
  exact ⟨v, cv, gm, pm, h1, h2, h3, h4, h5, Nat.zero_le _, Nat.zero_le _, Nat.zero_le _, h6, h7, h8, h9⟩
theorem StG.of {w : World} {B s : Nat} {b : Bk} (h : Stb w B s b) : StG w (fun k => B ≤ k ∧ k < w.heap.size) s b := by
  obtain ⟨v, cv, gm, pm, h1, h2, h3, h4, h5, q1, q2, q3, h6, h7, h8, h9⟩ := h
  exact ⟨v, cv, gm, pm, h1, h2.base (Nat.zero_le _), h3.base (Nat.zero_le _), h4, h5, h6, h7, h8, h9, ⟨q1, h1.lt⟩, ⟨q2, (Array.getElem?_eq_some_iff.1 h4).1⟩, ⟨q3, (Array.getElem?_eq_some_iff.1 h5).1⟩, fun k hk => World.ownsRow.lt h2 k hk, fun k hk => World.ownsRow.lt h3 k hk⟩
theorem StG.same {w w' : World} {G : Nat → Prop} {s : Nat} {b : Bk} (h : StG w G s b) (hb : ∀ k, G k → w'.heap[k]? = w.heap[k]?) : StG w' G s b := by
  obtain ⟨v, cv, gm, pm, h1, h2, h3, h4, h5, h6, h7, h8, h9, g1, g2, g3, g4, g5⟩ := h
  exact ⟨v, cv, gm, pm, h1.same (hb s g1), h2.same fun k hk _ => hb k (g4 k hk), h3.same fun k hk _ => hb k (g5 k hk), (hb gm g2).trans h4, (hb pm g3).trans h5, h6, h7, h8, h9, g1, g2, g3, g4, g5⟩
theorem StG.more {w : World} {G H : Nat → Prop} {s : Nat} {b : Bk} (h : StG w G s b) (hb : ∀ k, G k → H k) : StG w H s b := by
  obtain ⟨v, cv, gm, pm, h1, h2, h3, h4, h5, h6, h7, h8, h9, g1, g2, g3, g4, g5⟩ := h
  exact ⟨v, cv, gm, pm, h1, h2, h3, h4, h5, h6, h7, h8, h9, hb _ g1, hb _ g2, hb _ g3, fun k hk => hb _ (g4 k hk), fun k hk => hb _ (g5 k hk)⟩
/-- the predicate of books -/
def stP (b : Bk) : SPred where
  P w G s := StG w G s b ∧ ∀ k, G k → k < w.heap.size
  same {w w' G s} h hb := ⟨h.1.same hb, fun k hk => by
    have h1 := h.2 k hk
    have h2 := hb k hk
    rw [Array.getElem?_eq_getElem h1] at h2
    exact (Array.getElem?_eq_some_iff.1 h2).1⟩
  lt h := h.2
theorem fresh0 : Fresh (stP bk0) := fun _ _ _ h => ⟨StG.of h, fun _ hk => hk.2⟩
def bk1 : Bk := { bk0 with vats := [(⟨#[97, 100, 97]⟩, 1, 2)] }
def ada : ByteArray := ⟨#[118, 97, 116, 32, 97, 100, 97, 32, 49, 32, 50]⟩
def stir3 : ByteArray := ⟨#[115, 116, 105, 114, 32, 51]⟩
def adaRep : ByteArray := ⟨#[118, 97, 116]⟩
def stirAda : ByteArray := ⟨#[115, 116, 105, 114, 32, 97, 100, 97]⟩
theorem ada_isLn : isLn ada = true := by decide +kernel
theorem ada_head : headWord ada = ⟨#[118, 97, 116]⟩ := by decide +kernel
theorem ada_fm : fm ((words ada).drop 1) [110, 100, 100] = some ([⟨#[97, 100, 97]⟩], [1, 2]) := by decide +kernel
theorem ada_res : vatRes [] (⟨#[97, 100, 97]⟩, 1, 2) = 0 := by decide +kernel
theorem stir_isLn : isLn stir3 = true := by decide +kernel
theorem stir_head : headWord stir3 = ⟨#[115, 116, 105, 114]⟩ := by decide +kernel
theorem stir_fm : fm ((words stir3).drop 1) [100] = some ([], [3]) := by decide +kernel
theorem stir_rep : stirRep bk1.vats 3 = stirAda := by decide +kernel
theorem ada_wdo : wdo (newDk 5) ([] : List ByteArray).length ada adaRep 0 = ⟨adaRep, 0, ((newDk 5).write 0 (pagedB 0 ada)).1, true, false⟩ := by
  have h : ((newDk 5).write ((([] : List ByteArray).length : Nat) : Int) (pagedB (([] : List ByteArray).length : Nat) ada)).2 = 0 := by decide +kernel
  unfold wdo
  rw [if_neg (by simp), if_neg (by simp [newDk]), if_pos h]
  rfl
theorem awake_do (w : World) (hg : Glob w) : DoC w (stP bk0) ada 0 adaRep (stP bk1) := by
  intro G s hs
  refine (do_vat s 0 ada bk0 w (by decide) ada_head hg (by simp [bk0]) (by simp [bk0]) hs.1.stb).mono ?_
  rintro e w' ⟨hb, he⟩
  rw [if_pos ada_isLn] at he
  obtain ⟨s1, rep, er, hle, hvr, rfl⟩ := he
  unfold VR at hvr
  rw [ada_fm] at hvr
  obtain ⟨nm, a, m, hp, h1, h2, h3⟩ := hvr
  simp only [Prod.mk.injEq, List.cons.injEq, and_true] at hp
  obtain ⟨rfl, rfl, rfl⟩ := hp
  have h0 : vatRes bk0.vats (⟨#[97, 100, 97]⟩, 1, 2) = 0 := ada_res
  rw [h0] at h1 h2
  subst h2
  refine ⟨hb, s1, by rw [h1]; rfl, fun _ => ⟨_, ⟨StG.of (h3 rfl), fun k hk => hk.2⟩, fun k hk => .inr (by omega)⟩⟩
theorem awake_ask (w : World) (hg : Glob w) : AskC w (stP bk1) stir3 0 stirAda := by
  intro G s hs
  have hf : Fit bk1.vats := by
    refine ⟨by decide, fun v hv => ?_⟩
    simp [bk1, bk0] at hv
    subst hv
    decide
  refine (ask_stir s 0 stir3 bk1 w (by decide) stir_head hg hf hs.1.stb).mono ?_
  rintro e w' ⟨hb, he⟩
  rw [if_pos stir_isLn] at he
  obtain ⟨rep, er, hvr, rfl⟩ := he
  unfold SR at hvr
  rw [stir_fm] at hvr
  obtain ⟨d, hp, h1, h2⟩ := hvr
  simp only [Prod.mk.injEq, List.cons.injEq, and_true, true_and] at hp
  subst hp
  rw [stir_rep] at h1
  subst h1 h2
  exact ⟨hb, rfl⟩
set_option maxHeartbeats 4000000 in
set_option maxRecDepth 100000 in
theorem awake_any (w : World) (hg : Glob w) : Calls Tryz.prog 21 #[] w fun e w' => e = .returned (.bool true) ∧ Below w.heap.size w w' := by
  have HD := Lib.hid (disks_any 5 (by omega) (by omega) w)
  have HG := Lib.hid hg
  have hbig := hg.big
  have q1 : (adaRep.toList == [118, 97, 116]) = true := by rw [Lib.toList_data]; decide +kernel
  have q2 : (stirAda.toList == [115, 116, 105, 114, 32, 97, 100, 97]) = true := by rw [Lib.toList_data]; decide +kernel
  clear hg
  go_enter Tryz.func21, Tryz.ntmps21
  go_wp2_with (first
    | (go_at_call 22
       refine HD.out.mono ?_
       rintro e w1 ⟨d, pg, r, p, q, rfl, hd, -, -, -, -, -, -, -, hb1⟩
       have HDD := Lib.hid hd.zero
       have hlow := hd.low
       have hlop := hd.lowp
       have HB1 := Lib.hid hb1
       clear hd hb1)
    | (go_at_call 39
       refine (open_bare d pg (newDk 5) (stP bk0) fresh0 w1 HDD.out ⟨rfl, fun j p hp => by have := List.mem_of_getElem? hp; simp [newDk] at this; rw [this]; rfl⟩ (HG.out.next HB1.out)).mono ?_
       rintro e w2 ⟨wk, rfl, ⟨F, hw2, hF⟩, hb2⟩
       have HW2 := Lib.hid hw2
       have HF := Lib.hid (fun k hk => show w.heap.size ≤ k by rcases hF k hk with h | h | h; omega; omega; have := HB1.out.size; omega)
       have HB2 := Lib.hid (HB1.out.trans (hb2.mono HB1.out.size))
       clear hw2 hF hb2)
    | (go_at_call 31
       refine (wdo_any ada adaRep 0 HW2.out (awake_do w2 (HG.out.next HB2.out)) (HG.out.next HB2.out) (fun _ => by decide) (by simp)).mono ?_
       rintro e w3 ⟨he, F3, hw3, hF3, ho3⟩
       rw [ada_wdo] at he hw3
       subst he
       have HW3 := Lib.hid hw3
       have HB3 := Lib.hid (HB2.out.trans (ho3.below HB2.out.size HF.out))
       clear hw3 hF3 ho3)
    | (go_at_call 16
       refine (wask_any stir3 stirAda 0 HW3.out (awake_ask w3 (HG.out.next HB3.out))).mono ?_
       rintro e w4 ⟨rfl, hb4⟩
       have HB4 := Lib.hid (HB3.out.trans (hb4.mono HB3.out.size))
       clear hb4))
  go_ret
  exact ⟨by rfl, HB4.out⟩
end Go.Proofs.YtklnnpacfjnnlaaGreatDoor
