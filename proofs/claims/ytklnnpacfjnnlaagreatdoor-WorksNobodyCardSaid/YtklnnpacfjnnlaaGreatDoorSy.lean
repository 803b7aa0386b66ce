/- Vats: system. -/
import Derived.Test.YtklnnpacfjnnlaaGreatDoorCw
namespace Go.Proofs.YtklnnpacfjnnlaaGreatDoor
open Go.RowKit
/-- a vat: its name, its days -/
abbrev Vat := ByteArray × Int × Int
/-- vats in memory -/
def vtEnc : Enc Vat 3 := ⟨fun v => [.string v.1, .int .i64 v.2.1, .int .i64 v.2.2], fun _ => rfl, fun _ v h => by simp at h; rcases h with rfl | rfl | rfl <;> rfl⟩
theorem vtElt : Elt vtEnc 117 121 (.agg #[.string ByteArray.empty, .int .i64 0, .int .i64 0]) 32 := ⟨by kernel_rfl, rfl, by omega, Tryz.underlying117, by omega⟩
theorem syElt : Elt prEnc 195 119 (.agg #[.int .i64 0, .int .i64 0]) 16 := ⟨by kernel_rfl, rfl, by omega, Tryz.underlying195, by omega⟩
/-- the days of all vats -/
def sysOf (L : List Vat) : List (Int × Int) := L.map fun v => v.2
set_option maxHeartbeats 4000000 in
set_option maxRecDepth 100000 in
theorem system_any (s X : Nat) (v : Value) (L : List Vat) (hl : L.length ≤ 100) (w : World) (hs : w.cell? ⟨s, 0, none⟩ = some v) (hv : Rw vtEnc 121 w X v L) :
    Calls Tryz.prog 165 #[.pointer (some ⟨s, 0, none⟩)] w fun e w' => ∃ u, e = .returned u ∧ Rw prEnc 119 w' w.heap.size u (sysOf L) ∧ Below w.heap.size w w' := by
  obtain ⟨A, c, hf⟩ := hv.form
  subst hf
  have HV := Lib.hid hv
  clear hv
  go_enter Tryz.func165, Tryz.ntmps165
  go_wp2_with fail
  go_loopw [3, 5, 11] (fun out _ i wr => ∃ k : Nat, k ≤ L.length ∧ i = .int .i64 k ∧ Rw prEnc 119 wr w.heap.size out (sysOf (L.take k)) ∧ Below w.heap.size w wr) (fun _ _ i _ => L.length - (intOf i).toNat)
  case atStart => exact ⟨0, Nat.zero_le _, rfl, Rw.nil _ _, Below.refl _ _⟩
  case round =>
    obtain ⟨k, hk, rfl, hR, hb⟩ := hrel
    by_cases hlt : k < L.length
    · obtain ⟨p, hp⟩ : ∃ p, L[k]? = some p := ⟨_, List.getElem?_eq_getElem hlt⟩
      obtain ⟨g, c', he, -, hg⟩ := HV.out.seen (by omega)
      simp only [Value.slice.injEq] at he
      obtain ⟨rfl, -, rfl⟩ := he
      have hc0 := (hb.cell (p := ⟨g, k * 3 + 0, none⟩) hg).trans (HV.out.cell hp (i := 0) rfl)
      have hc1 := (hb.cell (p := ⟨g, k * 3 + 1, none⟩) hg).trans (HV.out.cell hp (i := 1) rfl)
      have hc2 := (hb.cell (p := ⟨g, k * 3 + 2, none⟩) hg).trans (HV.out.cell hp (i := 2) rfl)
      obtain ⟨nm, a, m⟩ := p
      have htk : sysOf (L.take (k + 1)) = sysOf (L.take k) ++ [(a, m)] := by rw [List.take_add_one, hp]; simp [sysOf]
      dsimp only at hc0 hc1 hc2
      rw [Nat.add_zero] at hc0
      have hlk : (sysOf (L.take k)).length = k := by simp [sysOf]; omega
      have HTK := Lib.hid htk
      have hRa := hR.alloc (.cells #[.string nm, .int .i64 a, .int .i64 m] 121)
      clear hp htk
      go_wp2_with (at_builtin; refine wpList_rw syElt (wr.alloc (.cells #[.string nm, .int .i64 a, .int .i64 m] 121)) rfl _ _ rfl w.heap.size u3 _ rfl hRa (a, m) _ rfl (by rw [show (wr.alloc (.cells #[.string nm, .int .i64 a, .int .i64 m] 121)).heap.size = wr.heap.size + 1 from by simp]; rfl) (by omega) (by have := hb.size; simp; omega) ?_; intro g2 cap2 w3 r2 bel2)
      go_roundw
      case rel => exact ⟨k + 1, by omega, by go_num, by rw [HTK.out]; rw [hlk] at r2; exact r2, (hb.alloc hb.size _).trans bel2⟩
      case measure => simp [intOf]; omega
    · obtain rfl : k = L.length := by omega
      rw [List.take_length] at hR
      have HR := Lib.hid hR
      clear hR
      go_wp2_with fail
      go_ret
      exact ⟨_, rfl, HR.out, hb⟩
end Go.Proofs.YtklnnpacfjnnlaaGreatDoor
