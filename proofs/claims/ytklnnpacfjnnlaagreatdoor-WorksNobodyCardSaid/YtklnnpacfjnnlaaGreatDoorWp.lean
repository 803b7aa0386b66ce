/- Works in memory. -/
import Derived.Test.YtklnnpacfjnnlaaGreatDoorDv
import Derived.Test.YtklnnpacfjnnlaaGreatDoorDs
namespace Go.Proofs.YtklnnpacfjnnlaaGreatDoor
open Go.RowKit
/-- nothing but the blocks of F has turned -/
structure OthP (F : Nat → Prop) (w w' : World) : Prop where
  os : w'.os = w.os
  tape : w'.tape = w.tape
  output : w'.output = w.output
  size : w.heap.size ≤ w'.heap.size
  block : ∀ b, b < w.heap.size → ¬ F b → w'.heap[b]? = w.heap[b]?
theorem OthP.refl (F : Nat → Prop) (w : World) : OthP F w w := ⟨rfl, rfl, rfl, Nat.le_refl _, fun _ _ _ => rfl⟩
theorem OthP.trans {F G : Nat → Prop} {a b c : World} (h : OthP F a b) (k : OthP G b c) (hg : ∀ i, G i → F i ∨ a.heap.size ≤ i) : OthP F a c :=
  ⟨k.os.trans h.os, k.tape.trans h.tape, k.output.trans h.output, Nat.le_trans h.size k.size, fun i hi hn => (k.block i (Nat.lt_of_lt_of_le hi h.size) (fun hgi => by rcases hg i hgi with h1 | h1; exact hn h1; omega)).trans (h.block i hi hn)⟩
theorem OthP.of {w w' : World} (h : Below w.heap.size w w') (F : Nat → Prop) : OthP F w w' := ⟨h.os, h.tape, h.output, h.size, fun b hb _ => h.block b hb⟩
theorem OthP.ofL {S : List Nat} {F : Nat → Prop} {w w' : World} (h : Oth S w w') (hs : ∀ b ∈ S, F b) : OthP F w w' := ⟨h.os, h.tape, h.output, h.size, fun b hb hn => h.block b hb fun hm => hn (hs b hm)⟩
theorem OthP.more {F G : Nat → Prop} {w w' : World} (h : OthP F w w') (hs : ∀ b, F b → G b) : OthP G w w' := ⟨h.os, h.tape, h.output, h.size, fun b hb hn => h.block b hb fun hm => hn (hs b hm)⟩
theorem OthP.below {F : Nat → Prop} {w w' : World} {B : Nat} (h : OthP F w w') (hB : B ≤ w.heap.size) (hs : ∀ b, F b → B ≤ b) : Below B w w' := ⟨h.os, h.tape, h.output, h.size, fun b hb => h.block b (by omega) fun hm => by have := hs b hm; omega⟩
theorem OthP.cell {F : Nat → Prop} {w w' : World} (h : OthP F w w') (p : Addr) (hp : p.block < w.heap.size) (hn : ¬ F p.block) : w'.cell? p = w.cell? p := World.cell?_of_block (h.block _ hp hn)
theorem OthP.setCell (F : Nat → Prop) (w : World) (a : Addr) (v : Value) (ha : F a.block) : OthP F w (w.setCell a v) :=
  ⟨rfl, rfl, rfl, by simp [World.setCell], fun b _ hn => heap_setCell_ne _ _ _ _ (fun e => hn (e ▸ ha))⟩
/-- what a state's books are, in a world, with the blocks G, at a block -/
structure SPred where
  P : World → (Nat → Prop) → Nat → Prop
  same : ∀ {w w' : World} {G : Nat → Prop} {s : Nat}, P w G s → (∀ k, G k → w'.heap[k]? = w.heap[k]?) → P w' G s
  lt : ∀ {w : World} {G : Nat → Prop} {s : Nat}, P w G s → ∀ k, G k → k < w.heap.size
/-- the works lie at block wk, their disk at d, its pages at pg, all their blocks in F -/
structure Wks (w : World) (F : Nat → Prop) (wk d pg : Nat) (D : Dk) (S : SPred) (done : List ByteArray) (safe : Int) (lost : Bool) : Prop where
  ex : ∃ s dv G, w.cell? ⟨wk, 0, none⟩ = some (.pointer (some ⟨d, 0, none⟩)) ∧ w.cell? ⟨wk, 1, none⟩ = some (.pointer (some ⟨s, 0, none⟩)) ∧ w.cell? ⟨wk, 2, none⟩ = some dv ∧
    S.P w G s ∧ Rw stEnc 9 w 0 dv done ∧ (∀ k, G k → F k ∧ k ≠ wk ∧ k ≠ d ∧ k ≠ pg ∧ dv.ownBlock ≠ some k) ∧ (∀ k, dv.ownBlock = some k → F k ∧ k ≠ wk ∧ k ≠ d ∧ k ≠ pg)
  safe : w.cell? ⟨wk, 3, none⟩ = some (.int .i64 safe)
  lost : w.cell? ⟨wk, 4, none⟩ = some (.bool lost)
  fr : ∀ j, w.frozen? ⟨wk, j, none⟩ = false
  dsk : Dsk w 0 d pg D
  own : F wk ∧ F d ∧ F pg
  ne : wk ≠ d ∧ wk ≠ pg
  lt : ∀ k, F k → k < w.heap.size
theorem Dsk.zero {w : World} {X d pg : Nat} {D : Dk} (h : Dsk w X d pg D) : Dsk w 0 d pg D := by
  obtain ⟨k, a, b⟩ := h.row
  exact ⟨⟨k, a, b.base (Nat.zero_le _)⟩, h.off, h.fuse, h.fr, h.ne, Nat.zero_le _, h.pos0, h.most, h.lo, h.hi⟩
theorem Wks.same {w w' : World} {F : Nat → Prop} {wk d pg : Nat} {D : Dk} {S : SPred} {done : List ByteArray} {sf : Int} {lo : Bool} (h : Wks w F wk d pg D S done sf lo) (hs : w.heap.size ≤ w'.heap.size) (hb : ∀ k, F k → w'.heap[k]? = w.heap[k]?) : Wks w' F wk d pg D S done sf lo := by
  obtain ⟨s, dv, G, c0, c1, c2, st, dn, hG, hdv⟩ := h.ex
  obtain ⟨f1, f2, f3⟩ := h.own
  have e := hb wk f1
  exact ⟨⟨s, dv, G, (World.cell?_of_block (w := w) (a := ⟨wk, 0, none⟩) e).trans c0, (World.cell?_of_block (w := w) (a := ⟨wk, 1, none⟩) e).trans c1, (World.cell?_of_block (w := w) (a := ⟨wk, 2, none⟩) e).trans c2, S.same st fun k hk => hb k (hG k hk).1, dn.same fun b hb2 _ => hb b (hdv b hb2).1, hG, hdv⟩,
    (World.cell?_of_block (w := w) (a := ⟨wk, 3, none⟩) e).trans h.safe, (World.cell?_of_block (w := w) (a := ⟨wk, 4, none⟩) e).trans h.lost, fun j => (World.frozen?_of_block (w := w) (a := ⟨wk, j, none⟩) e).trans (h.fr j), h.dsk.same (hb d f2) (hb pg f3), h.own, h.ne, fun k hk => Nat.lt_of_lt_of_le (h.lt k hk) hs⟩
theorem Wks.keep {w w' : World} {F : Nat → Prop} {wk d pg : Nat} {D : Dk} {S : SPred} {done : List ByteArray} {sf : Int} {lo : Bool} (h : Wks w F wk d pg D S done sf lo) (hb : Below w.heap.size w w') : Wks w' F wk d pg D S done sf lo :=
  h.same hb.size fun k hk => hb.block k (h.lt k hk)
theorem Wks.other {w w' : World} {F H : Nat → Prop} {wk d pg : Nat} {D : Dk} {S : SPred} {done : List ByteArray} {sf : Int} {lo : Bool} (h : Wks w F wk d pg D S done sf lo) (ho : OthP H w w') (hd : ∀ k, F k → ¬ H k) : Wks w' F wk d pg D S done sf lo :=
  h.same ho.size fun k hk => ho.block k (h.lt k hk) (hd k hk)
/-- an operation of the disk alone -/
theorem Wks.disk {w w' : World} {F : Nat → Prop} {wk d pg : Nat} {D D' : Dk} {S : SPred} {done : List ByteArray} {sf : Int} {lo : Bool} (h : Wks w F wk d pg D S done sf lo) (ho : Oth [d, pg] w w') (hd : Dsk w' 0 d pg D') : Wks w' F wk d pg D' S done sf lo := by
  obtain ⟨s, dv, G, c0, c1, c2, st, dn, hG, hdv⟩ := h.ex
  obtain ⟨f1, f2, f3⟩ := h.own
  have hn : wk ∉ [d, pg] := by simp [h.ne.1, h.ne.2]
  have e := ho.block wk (h.lt wk f1) hn
  have hb : ∀ k, F k → k ≠ d → k ≠ pg → w'.heap[k]? = w.heap[k]? := fun k hk h1 h2 => ho.block k (h.lt k hk) (by simp [h1, h2])
  exact ⟨⟨s, dv, G, (World.cell?_of_block (w := w) (a := ⟨wk, 0, none⟩) e).trans c0, (World.cell?_of_block (w := w) (a := ⟨wk, 1, none⟩) e).trans c1, (World.cell?_of_block (w := w) (a := ⟨wk, 2, none⟩) e).trans c2, S.same st fun k hk => hb k (hG k hk).1 (hG k hk).2.2.1 (hG k hk).2.2.2.1, dn.same fun b hb2 _ => hb b (hdv b hb2).1 (hdv b hb2).2.2.1 (hdv b hb2).2.2.2, hG, hdv⟩,
    (World.cell?_of_block (w := w) (a := ⟨wk, 3, none⟩) e).trans h.safe, (World.cell?_of_block (w := w) (a := ⟨wk, 4, none⟩) e).trans h.lost, fun j => (World.frozen?_of_block (w := w) (a := ⟨wk, j, none⟩) e).trans (h.fr j), hd, h.own, h.ne, fun k hk => Nat.lt_of_lt_of_le (h.lt k hk) ho.size⟩
/-- the cells of the works -/
theorem Wks.setLost {w : World} {F : Nat → Prop} {wk d pg : Nat} {D : Dk} {S : SPred} {done : List ByteArray} {sf : Int} {lo : Bool} (h : Wks w F wk d pg D S done sf lo) (b : Bool) : Wks (w.setCell ⟨wk, 4, none⟩ (.bool b)) F wk d pg D S done sf b := by
  obtain ⟨s, dv, G, c0, c1, c2, st, dn, hG, hdv⟩ := h.ex
  have hb : ∀ k, k ≠ wk → (w.setCell ⟨wk, 4, none⟩ (.bool b)).heap[k]? = w.heap[k]? := fun k hk => heap_setCell_ne _ _ _ _ hk
  exact ⟨⟨s, dv, G, by rw [World.cell?_setCell_other _ _ _ _ (by simp)]; exact c0, by rw [World.cell?_setCell_other _ _ _ _ (by simp)]; exact c1, by rw [World.cell?_setCell_other _ _ _ _ (by simp)]; exact c2, S.same st fun k hk => hb k (hG k hk).2.1, dn.same fun k hk _ => hb k (hdv k hk).2.1, hG, hdv⟩,
    by rw [World.cell?_setCell_other _ _ _ _ (by simp)]; exact h.safe, World.cell?_setCell_same _ _ _ h.lost, fun j => by rw [World.frozen?_setCell]; exact h.fr j, h.dsk.same (hb d (Ne.symm h.ne.1)) (hb pg (Ne.symm h.ne.2)), h.own, h.ne, fun k hk => by simpa [World.setCell] using h.lt k hk⟩
theorem Wks.setSafe {w : World} {F : Nat → Prop} {wk d pg : Nat} {D : Dk} {S : SPred} {done : List ByteArray} {sf : Int} {lo : Bool} (h : Wks w F wk d pg D S done sf lo) (n : Int) : Wks (w.setCell ⟨wk, 3, none⟩ (.int .i64 n)) F wk d pg D S done n lo := by
  obtain ⟨s, dv, G, c0, c1, c2, st, dn, hG, hdv⟩ := h.ex
  have hb : ∀ k, k ≠ wk → (w.setCell ⟨wk, 3, none⟩ (.int .i64 n)).heap[k]? = w.heap[k]? := fun k hk => heap_setCell_ne _ _ _ _ hk
  exact ⟨⟨s, dv, G, by rw [World.cell?_setCell_other _ _ _ _ (by simp)]; exact c0, by rw [World.cell?_setCell_other _ _ _ _ (by simp)]; exact c1, by rw [World.cell?_setCell_other _ _ _ _ (by simp)]; exact c2, S.same st fun k hk => hb k (hG k hk).2.1, dn.same fun k hk _ => hb k (hdv k hk).2.1, hG, hdv⟩,
    World.cell?_setCell_same _ _ _ h.safe, by rw [World.cell?_setCell_other _ _ _ _ (by simp)]; exact h.lost, fun j => by rw [World.frozen?_setCell]; exact h.fr j, h.dsk.same (hb d (Ne.symm h.ne.1)) (hb pg (Ne.symm h.ne.2)), h.own, h.ne, fun k hk => by simpa [World.setCell] using h.lt k hk⟩
/-- the text of a page -/
def pagedB (n : Int) (t : ByteArray) : ByteArray := ⟨(Lib.itoa n).toArray⟩ ++ ⟨#[32]⟩ ++ t
/-- what Do makes of what the state says -/
structure DoR where
  rep : ByteArray
  er : Int
  D : Dk
  made : Bool
  lost : Bool
def wdo (D : Dk) (n : Nat) (text rep : ByteArray) (er : Int) : DoR :=
  if er ≠ 0 then ⟨⟨#[]⟩, er, D, false, false⟩ else if n = D.pages.length then ⟨⟨#[]⟩, 7, D, false, false⟩ else
  if (D.write n (pagedB n text)).2 = 0 then ⟨rep, 0, (D.write n (pagedB n text)).1, true, false⟩ else ⟨⟨#[]⟩, (D.write n (pagedB n text)).2, (D.write n (pagedB n text)).1, false, true⟩
/-- a change's contract at a text -/
def DoC (w : World) (S : SPred) (text : ByteArray) (er : Int) (rep : ByteArray) (S' : SPred) : Prop :=
  ∀ G s, S.P w G s → Calls Tryz.prog 64 #[.pointer (some ⟨s, 0, none⟩), .string text] w fun e w' => Below w.heap.size w w' ∧ ∃ s1, e = .returned (okRes er s s1 rep) ∧ (er = 0 → ∃ G', S'.P w' G' s1 ∧ ∀ k, G' k → G k ∨ w.heap.size ≤ k)
/-- a question's contract at a text -/
def AskC (w : World) (S : SPred) (text : ByteArray) (er : Int) (rep : ByteArray) : Prop :=
  ∀ G s, S.P w G s → Calls Tryz.prog 46 #[.pointer (some ⟨s, 0, none⟩), .string text] w fun e w' => Below w.heap.size w w' ∧ e = .returned (.tuple #[.string rep, .int .i64 er])
end Go.Proofs.YtklnnpacfjnnlaaGreatDoor
