/- Disks: NewDisk of the program and of the reference, disks. -/
import Derived.Test.YtklnnpacfjnnlaaGreatDoorDk
import Derived.Laws.OwnMore
import Derived.Laws.MakeOwn
namespace Go.Proofs.YtklnnpacfjnnlaaGreatDoor
open Go.RowKit
theorem made_same (zs : Array Value) (v : Value) (hz : 0 < zs.size) (h : ∀ j, j < zs.size → zs[j]? = some v) (n : Nat) : (madeCells zs n).toList = List.replicate n v := by
  apply List.ext_getElem?
  intro j
  by_cases hj : j < n
  · have hm := Nat.mod_lt j hz
    have e := h (j % zs.size) hm
    have e2 : zs[j % zs.size]! = v := by rw [getElem!_def, e]
    simp [madeCells, hj, e2]
  · simp [madeCells, hj]
def noPage : ByteArray × ByteArray := (⟨#[]⟩, ⟨#[]⟩)
theorem flat_nopage (n : Nat) : (List.replicate n noPage).flatMap pgEnc.enc = List.replicate (n * 2) (Value.string ⟨#[]⟩) := by
  induction n with
  | zero => rfl
  | succ n ih =>
    rw [List.replicate_succ, List.flatMap_cons, ih, show (n + 1) * 2 = n * 2 + 1 + 1 by omega, List.replicate_succ, List.replicate_succ]
    rfl
theorem flat_nostr (n : Nat) : (List.replicate n (⟨#[]⟩ : ByteArray)).flatMap stEnc.enc = List.replicate n (Value.string ⟨#[]⟩) := by
  rw [st_flat, List.map_replicate]
theorem info96 : (Tryz.prog.info? 96).map (fun i => (i.zero, i.size, i.bytes)) = some (some (.agg #[.string ByteArray.empty, .string ByteArray.empty]), 2, 32) := by kernel_rfl
theorem makePages (n : Nat) (hn : n ≤ 1000) (W : World) : (Instr.makeSlice 67 (.int .i64 n) (.int .i64 n)).run Tryz.prog W = .ok (.slice (some ⟨W.heap.size, 0, none⟩) n n) (W.alloc (.cells ((List.replicate n noPage).flatMap pgEnc.enc).toArray 96)) := by
  obtain ⟨i0, hi, hz0, hz1, hz2⟩ := info_parts info96
  have h := run_make (P := Tryz.prog) W 67 96 i0 _ Tryz.underlying67 hi hz0 .i64 .i64 (n : Int) (n : Int) (by omega) (by omega) (by rw [hz2]; omega) (by omega)
  have hm : madeCells (Value.agg #[.string ByteArray.empty, .string ByteArray.empty]).cells (n * 2) = ((List.replicate n noPage).flatMap pgEnc.enc).toArray := by
    apply Array.toList_inj.1
    rw [List.toList_toArray, flat_nopage]
    refine made_same _ _ (by decide) (fun j hj => ?_) _
    have hj2 : j < 2 := hj
    match j, hj2 with
    | 0, _ => rfl
    | 1, _ => rfl
  rw [hz1] at h
  simp only [Int.toNat_natCast] at h
  rw [hm] at h
  exact h
theorem makeStrs (n : Nat) (hn : n ≤ 1000) (W : World) : (Instr.makeSlice 22 (.int .i64 n) (.int .i64 n)).run Tryz.prog W = .ok (.slice (some ⟨W.heap.size, 0, none⟩) n n) (W.alloc (.cells ((List.replicate n (⟨#[]⟩ : ByteArray)).flatMap stEnc.enc).toArray 9)) := by
  obtain ⟨i0, hi, hz0, hz1, hz2⟩ := info_parts info9
  have h := run_make (P := Tryz.prog) W 22 9 i0 _ Tryz.underlying22 hi hz0 .i64 .i64 (n : Int) (n : Int) (by omega) (by omega) (by rw [hz2]; omega) (by omega)
  have hm : madeCells (Value.string ByteArray.empty).cells (n * 1) = ((List.replicate n (⟨#[]⟩ : ByteArray)).flatMap stEnc.enc).toArray := by
    apply Array.toList_inj.1
    rw [List.toList_toArray, flat_nostr, Nat.mul_one]
    refine made_same _ _ (by decide) (fun j hj => ?_) _
    have hj2 : j < 1 := hj
    match j, hj2 with
    | 0, _ => rfl
  rw [hz1] at h
  simp only [Int.toNat_natCast] at h
  rw [hm] at h
  exact h
theorem lit_row {α : Type} {k : Nat} (E : Enc α k) (e : TypeId) (w : World) (L : List α) (hl : L.length ≤ 1000) : Rw E e (w.alloc (.cells (L.flatMap E.enc).toArray e)) w.heap.size (.slice (some ⟨w.heap.size, 0, none⟩) L.length L.length) L := by
  unfold Rw
  have h := World.ownsRow_lit (base := w.heap.size) (e := e) (size := k) w (L.flatMap E.enc).toArray L.length (Nat.le_refl _) (by unfold maxLen; omega) (by rw [List.size_toArray, enc_length])
  rw [List.toList_toArray] at h
  exact h
def newDk (n : Nat) : Dk := ⟨List.replicate n noPage, false, -1⟩
set_option maxHeartbeats 4000000 in
set_option maxRecDepth 100000 in
theorem newdisk_any (n : Nat) (h1 : 1 ≤ n) (h2 : n ≤ 200) (w : World) :
    Calls Tryz.prog 51 #[.int .i64 n] w fun e w' => e = .returned (.tuple #[.pointer (some ⟨w.heap.size + 1, 0, none⟩), .int .i64 0]) ∧ Dsk w' w.heap.size (w.heap.size + 1) w.heap.size (newDk n) ∧ Below w.heap.size w w' := by
  have hd1 : decide ((n : Int) < 1) = false := decide_eq_false (by omega)
  have hd2 : decide ((200 : Int) < (n : Int)) = false := decide_eq_false (by omega)
  have hmk := makePages n (by omega)
  have hrow := lit_row pgEnc 96 w (List.replicate n noPage) (by rw [List.length_replicate]; omega)
  rw [List.length_replicate] at hrow
  obtain ⟨M, hM⟩ : ∃ M, M = ((List.replicate n noPage).flatMap pgEnc.enc).toArray := ⟨_, rfl⟩
  rw [← hM] at hrow
  simp only [← hM] at hmk
  have HR := Lib.hid hrow
  clear hM hrow
  go_enter Tryz.func51, Tryz.ntmps51
  go_wp2_with fail
  go_ret2
  refine ⟨rfl, ?_, ((Below.refl _ _).alloc (Nat.le_refl _) _).alloc (by simp) _⟩
  refine ⟨⟨n, ?_, ?_⟩, ?_, ?_, fun j => ?_, by omega, by omega, ?_, ?_, by simp [newDk], by simp [newDk]⟩
  · rw [World.cell?_alloc_at _ _ _ _ (by simp)]; simp [newDk]
  · simp only [newDk, List.length_replicate]; exact HR.out.alloc _
  · rw [World.cell?_alloc_at _ _ _ _ (by simp)]; rfl
  · rw [World.cell?_alloc_at _ _ _ _ (by simp)]; rfl
  · simp
  · simp only [newDk, List.length_replicate]; omega
  · simp only [newDk, List.length_replicate]; omega
set_option maxHeartbeats 4000000 in
set_option maxRecDepth 100000 in
theorem newdisk_bad (n : Int) (h : n < 1 ∨ 200 < n) (w : World) :
    Calls Tryz.prog 51 #[.int .i64 n] w fun e w' => e = .returned (.tuple #[.pointer none, .int .i64 2]) ∧ w' = w := by
  by_cases h1 : n < 1
  · have hd1 : decide (n < 1) = true := decide_eq_true h1
    clear h h1
    go_enter Tryz.func51, Tryz.ntmps51
    go_wp2_with fail
    go_ret2
    exact ⟨rfl, rfl⟩
  · have hd1 : decide (n < 1) = false := decide_eq_false h1
    have hd2 : decide (200 < n) = true := decide_eq_true (by omega)
    clear h h1
    go_enter Tryz.func51, Tryz.ntmps51
    go_wp2_with fail
    go_ret2
    exact ⟨rfl, rfl⟩
set_option maxHeartbeats 4000000 in
set_option maxRecDepth 100000 in
theorem rnewdisk_bad (n : Int) (h : n < 1 ∨ 200 < n) (w : World) :
    Calls Tryz.prog 52 #[.int .i64 n] w fun e w' => e = .returned (.tuple #[.pointer none, .int .i64 2]) ∧ w' = w := by
  by_cases h1 : n < 1
  · have hd1 : decide (n < 1) = true := decide_eq_true h1
    clear h h1
    go_enter Tryz.func52, Tryz.ntmps52
    go_wp2_with fail
    go_ret2
    exact ⟨rfl, rfl⟩
  · have hd1 : decide (n < 1) = false := decide_eq_false h1
    have hd2 : decide (200 < n) = true := decide_eq_true (by omega)
    clear h h1
    go_enter Tryz.func52, Tryz.ntmps52
    go_wp2_with fail
    go_ret2
    exact ⟨rfl, rfl⟩
/-- a disk of the reference -/
structure Rk where
  pages : List ByteArray
  safe : List ByteArray
  dark : Bool
  left : Int
/-- the reference's disk D lies at block r, its pages at p, what is safe at q -/
structure RDsk (w : World) (X r p q : Nat) (D : Rk) : Prop where
  row : ∃ k, w.cell? ⟨r, 0, none⟩ = some (.slice (some ⟨p, 0, none⟩) D.pages.length k) ∧ Rw stEnc 9 w X (.slice (some ⟨p, 0, none⟩) D.pages.length k) D.pages
  row1 : ∃ k, w.cell? ⟨r, 1, none⟩ = some (.slice (some ⟨q, 0, none⟩) D.safe.length k) ∧ Rw stEnc 9 w X (.slice (some ⟨q, 0, none⟩) D.safe.length k) D.safe
  dark : w.cell? ⟨r, 2, none⟩ = some (.bool D.dark)
  left : w.cell? ⟨r, 3, none⟩ = some (.int .i64 D.left)
  fr : ∀ j, w.frozen? ⟨r, j, none⟩ = false
  ne1 : r ≠ p
  ne2 : r ≠ q
  ne3 : p ≠ q
  low : X ≤ r
  len : D.pages.length = D.safe.length
  pos0 : 0 < D.pages.length
  most : D.pages.length ≤ 200
  lo : -1 ≤ D.left
  hi : D.left ≤ 9223372036854775807
def newRk (n : Nat) : Rk := ⟨List.replicate n ⟨#[]⟩, List.replicate n ⟨#[]⟩, false, -1⟩
theorem rmade (w : World) (M : Array Value) (n p q : Nat) (hR : ∀ W : World, Rw stEnc 9 (W.alloc (.cells M 9)) W.heap.size (.slice (some ⟨W.heap.size, 0, none⟩) n n) (List.replicate n (⟨#[]⟩ : ByteArray))) (hp : (p = w.heap.size ∧ q = w.heap.size + 1) ∨ (q = w.heap.size ∧ p = w.heap.size + 1)) (hpq : p ≠ q) (h1 : 1 ≤ n) (h2 : n ≤ 200) :
    RDsk (((w.alloc (.cells M 9)).alloc (.cells M 9)).alloc (.cells #[.slice (some ⟨p, 0, none⟩) n n, .slice (some ⟨q, 0, none⟩) n n, .bool false, .int .i64 (-1)] 48)).drew w.heap.size (w.heap.size + 2) p q (newRk n) := by
  have z1 : (w.alloc (.cells M 9)).heap.size = w.heap.size + 1 := World.size_alloc _ _
  have z2 : ((w.alloc (.cells M 9)).alloc (.cells M 9)).heap.size = w.heap.size + 2 := by rw [World.size_alloc, z1]
  obtain ⟨W, hW⟩ : ∃ W, W = (w.alloc (.cells M 9)).alloc (.cells M 9) := ⟨_, rfl⟩
  have ra : Rw stEnc 9 W w.heap.size (.slice (some ⟨w.heap.size, 0, none⟩) n n) (List.replicate n (⟨#[]⟩ : ByteArray)) := by rw [hW]; exact (hR w).alloc _
  have rb : Rw stEnc 9 W w.heap.size (.slice (some ⟨w.heap.size + 1, 0, none⟩) n n) (List.replicate n (⟨#[]⟩ : ByteArray)) := by
    have := hR (w.alloc (.cells M 9))
    rw [z1] at this
    rw [hW]
    exact this.base (by omega)
  rw [← hW] at z2 ⊢
  have rp : Rw stEnc 9 W w.heap.size (.slice (some ⟨p, 0, none⟩) n n) (List.replicate n (⟨#[]⟩ : ByteArray)) := by
    rcases hp with ⟨rfl, rfl⟩ | ⟨rfl, rfl⟩
    · exact ra
    · exact rb
  have rq : Rw stEnc 9 W w.heap.size (.slice (some ⟨q, 0, none⟩) n n) (List.replicate n (⟨#[]⟩ : ByteArray)) := by
    rcases hp with ⟨rfl, rfl⟩ | ⟨rfl, rfl⟩
    · exact rb
    · exact ra
  clear hW ra rb
  have c : ∀ j, ((W.alloc (.cells #[.slice (some ⟨p, 0, none⟩) n n, .slice (some ⟨q, 0, none⟩) n n, .bool false, .int .i64 (-1)] 48)).drew).cell? ⟨w.heap.size + 2, j, none⟩ = #[.slice (some ⟨p, 0, none⟩) n n, .slice (some ⟨q, 0, none⟩) n n, .bool false, .int .i64 (-1)][j]? := fun j => by
    rw [World.cell?_drew, ← z2]
    exact cell_of_row _ _ j _ 48 (0, 0) (heap_alloc_new W _)
  refine ⟨⟨n, ?_, ?_⟩, ⟨n, ?_, ?_⟩, c 2, c 3, fun j => ?_, by omega, by omega, hpq, by omega, by simp [newRk], by simp [newRk]; omega, by simp [newRk]; omega, by simp [newRk], by simp [newRk]⟩
  · rw [c 0]; simp [newRk]
  · simp only [newRk, List.length_replicate]; exact (rp.alloc _).keep (Below.refl _ _).drew
  · rw [c 1]; simp [newRk]
  · simp only [newRk, List.length_replicate]; exact (rq.alloc _).keep (Below.refl _ _).drew
  · have : ((W.alloc (.cells #[.slice (some ⟨p, 0, none⟩) n n, .slice (some ⟨q, 0, none⟩) n n, .bool false, .int .i64 (-1)] 48)).drew).heap[w.heap.size + 2]? = some (.cells #[.slice (some ⟨p, 0, none⟩) n n, .slice (some ⟨q, 0, none⟩) n n, .bool false, .int .i64 (-1)] 48 (0, 0)) := by
      rw [← z2]; exact heap_alloc_new W _
    unfold World.frozen?
    rw [this]
    simp
set_option maxHeartbeats 4000000 in
set_option maxRecDepth 100000 in
theorem rnewdisk_any (n : Nat) (h1 : 1 ≤ n) (h2 : n ≤ 200) (w : World) :
    Calls Tryz.prog 52 #[.int .i64 n] w fun e w' => e = .returned (.tuple #[.pointer (some ⟨w.heap.size + 2, 0, none⟩), .int .i64 0]) ∧ (∃ p q, RDsk w' w.heap.size (w.heap.size + 2) p q (newRk n)) ∧ Below w.heap.size w w' := by
  have hd1 : decide ((n : Int) < 1) = false := decide_eq_false (by omega)
  have hd2 : decide ((200 : Int) < (n : Int)) = false := decide_eq_false (by omega)
  have hmk := makeStrs n (by omega)
  have hrow := fun W => lit_row stEnc 9 W (List.replicate n (⟨#[]⟩ : ByteArray)) (by rw [List.length_replicate]; omega)
  simp only [List.length_replicate] at hrow
  obtain ⟨M, hM⟩ : ∃ M, M = ((List.replicate n (⟨#[]⟩ : ByteArray)).flatMap stEnc.enc).toArray := ⟨_, rfl⟩
  simp only [← hM] at hmk hrow
  have HR := Lib.hid hrow
  clear hM hrow
  go_enter Tryz.func52, Tryz.ntmps52
  go_wp2_with fail
  go_region
  · have hr := rmade w M n w.heap.size (w.heap.size + 1) HR.out (by omega) (by omega) h1 h2
    have hb : Below w.heap.size w (((w.alloc (.cells M 9)).alloc (.cells M 9)).alloc (.cells #[.slice (some ⟨w.heap.size, 0, none⟩) n n, .slice (some ⟨w.heap.size + 1, 0, none⟩) n n, .bool false, .int .i64 (-1)] 48)).drew := ((((Below.refl _ _).alloc (Nat.le_refl _) _).alloc (by simp) _).alloc (by simp; omega) _).drew
    have HRR := Lib.hid hr
    have HB := Lib.hid hb
    clear hr hb
    generalize (((w.alloc (.cells M 9)).alloc (.cells M 9)).alloc (.cells #[.slice (some ⟨w.heap.size, 0, none⟩) n n, .slice (some ⟨w.heap.size + 1, 0, none⟩) n n, .bool false, .int .i64 (-1)] 48)).drew = W at HRR HB ⊢
    go_wp2_with fail
    go_ret2
    exact ⟨rfl, ⟨_, _, HRR.out⟩, HB.out⟩
  · have hr := rmade w M n (w.heap.size + 1) w.heap.size HR.out (by omega) (by omega) h1 h2
    have hb : Below w.heap.size w (((w.alloc (.cells M 9)).alloc (.cells M 9)).alloc (.cells #[.slice (some ⟨w.heap.size + 1, 0, none⟩) n n, .slice (some ⟨w.heap.size, 0, none⟩) n n, .bool false, .int .i64 (-1)] 48)).drew := ((((Below.refl _ _).alloc (Nat.le_refl _) _).alloc (by simp) _).alloc (by simp; omega) _).drew
    have HRR := Lib.hid hr
    have HB := Lib.hid hb
    clear hr hb
    generalize (((w.alloc (.cells M 9)).alloc (.cells M 9)).alloc (.cells #[.slice (some ⟨w.heap.size + 1, 0, none⟩) n n, .slice (some ⟨w.heap.size, 0, none⟩) n n, .bool false, .int .i64 (-1)] 48)).drew = W at HRR HB ⊢
    go_wp2_with fail
    go_ret2
    exact ⟨rfl, ⟨_, _, HRR.out⟩, HB.out⟩
end Go.Proofs.YtklnnpacfjnnlaaGreatDoor
