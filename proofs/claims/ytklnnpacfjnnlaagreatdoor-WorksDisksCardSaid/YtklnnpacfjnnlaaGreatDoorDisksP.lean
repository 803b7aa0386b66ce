/- WorksDisks: the law returns true for every input, and its arguments read afterwards as before; the card ties the listed tables. No condition. -/
import Derived.Test.YtklnnpacfjnnlaaGreatDoorCards
import Derived.Test.YtklnnpacfjnnlaaGreatDoorTie
import Derived.Test.YtklnnpacfjnnlaaGreatDoorZc
import Derived.Test.YtklnnpacfjnnlaaGreatDoorZ
import Derived.Test.YtklnnpacfjnnlaaGreatDoorLg
import Derived.Test.YtklnnpacfjnnlaaGreatDoorDisksF
namespace Go.Proofs.YtklnnpacfjnnlaaGreatDoor
open Go.ChangeShapes Go.WideShapes Go.ChangeAt Go.RowKit
set_option linter.unusedVariables false
theorem reads (os : Os) {H : Type} (enc : TypeId × Value → H) : ∃ places, DataW.whole enc Tryz.prog ((laidWorld os).forCall (fun _ _ => 0) ⟨#[], #[Value.int .i64 0, Value.slice none 0 0], []⟩).memory Tryz.f4.params.toList Rows.worksDisksSpec.vars false #[Value.int .i64 0, Value.slice none 0 0].toList 8 = some ([.lit (.int .i64 0), .nil], [], places) :=
  ⟨[], by kernel_rfl⟩
set_option maxRecDepth 100000 in
set_option maxHeartbeats 4000000 in
theorem worksDisks_lifted (os : Os) (started : os.Started) (H : Type) (enc : TypeId × Value → H) (F : Stop.Interp) :
    ReturnsInHanded {} Tryz.checked os 4 .any ((OpenSpec.ofChange Rows.worksDisksSpec).preRow enc Tryz.prog Tryz.f4 Rows.worksDisksRow.domain false Rows.worksDisksRow.laid) (((OpenSpec.ofChange Rows.worksDisksSpec).at F).post enc Tryz.prog Tryz.f4 false true false false) := by
  obtain ⟨places, hx⟩ := reads os enc
  refine returnsInHanded_of_row (C := Tryz.checked) (s := OpenSpec.ofChange Rows.worksDisksSpec) own started (by kernel_rfl) Tryz.func4
    (witness_row_at (enc := enc) (C := Tryz.checked) false (laidWorld os) #[Value.int .i64 0, Value.slice none 0 0] rfl (by kernel_rfl) (by kernel_rfl) (by kernel_rfl)
      (OpenSpec.preRow_of_cond 8 hx (by kernel_rfl) (fun k hk => by cases hk) (by kernel_rfl) (laid_met os #[Value.int .i64 0, Value.slice none 0 0]))) ?_
  intro W base args ds gs before hval0 hW _ _ hsz0 hL hsh _
  have hglob := glob_of W hL hsh
  have hsz : (DataW.weightsEach Tryz.prog (Tryz.f4.params.toList ++ (OpenSpec.ofChange Rows.worksDisksSpec).bare.plain.varTypes Tryz.prog) (ds ++ gs)).all (· ≤ reachBytes) = true := hsz0
  clear hsz0
  have hval : ∀ (j : Nat) t v, Tryz.f4.params[j]? = some t → args[j]? = some v → Value.okWide Tryz.prog W .any base t v := hval0
  have hW' : DataW.Whole enc Tryz.prog Tryz.f4.params.toList Rows.worksDisksSpec.vars false W args.toList ds gs before := hW
  obtain ⟨p, q, hA0, hV, rfl, hfz, hnd⟩ := id hW'
  have hA : DataW.TrodAll enc Tryz.prog W 0 (fun _ => true) true Tryz.f4.params.toList args.toList ds p := hA0
  clear hA0 hval0
  have hlt0 : ∀ x ∈ p ++ q, x.block < W.heap.size := fun x hx => hW'.lt x hx
  rw [Tryz.params4] at hA hval hsz
  obtain ⟨v0, vs0, d0, ds0, p0, q0, hargs, rfl, rfl, h0, r0⟩ := trodAll_cons hA
  obtain ⟨v1, vs1, d1, ds1, p1, q1, rfl, rfl, rfl, h1, r1⟩ := trodAll_cons r0
  obtain ⟨rfl, rfl, rfl⟩ := trodAll_nil r1
  obtain rfl : args = #[v0, v1] := by cases args; simp_all
  obtain ⟨rfl, rfl⟩ := trodVars_none hV
  obtain ⟨a0, rfl, rfl, rfl, w0⟩ := open_int Tryz.underlying3 (hval 0 3 v0 rfl rfl) h0
  have ex1 := acts_of_arg (hval 1 37 v1 rfl rfl) h1 (fun x hx => hlt0 x (by simp [hx])) hsz (j := 1) rfl rfl
  obtain ⟨xs1, hx1⟩ := ex1
  refine (worksDisks_walk W a0 v1 xs1 hglob hx1).mono fun e W' ⟨he, hg⟩ => ⟨_, he, law_post (s := Rows.worksDisksSpec) (by kernel_rfl) rfl rfl rfl rfl hW' hg⟩
theorem worksDisks_said : Rows.WorksDisksSaid :=
  OpenClaim.holds_of_cond 4 Tryz.f4 rfl rfl rfl rfl rfl rfl rfl ⟨rfl, rfl, rfl, rfl, rfl⟩ rfl rfl rfl rfl rfl worksDisks_named Tryz.func4 worksDisks_closed worksDisks_inst worksDisks_wrap
    (fun os started H enc _ F => by rw [OpenClaim.pre_eq_preRow]; exact worksDisks_lifted os started H enc F)
/-- No parameter wants a stand-in. -/
theorem plain (f : FuncId) (fn : Func) (hf : Tryz.pinned.checked.prog.funcNamed "gherkin/gherkinlaw10.WorksDisks" = some f) (hfn : Tryz.pinned.checked.prog.funcs[f]? = some fn) :
    true = Tryz.pinned.checked.prog.looks [] ∧ ∀ (j : Nat) t, fn.params[j]? = some t → Tryz.pinned.checked.prog.wantsStandIn t = false := by
  obtain rfl : f = 4 := Option.some.inj ((show Tryz.prog.funcNamed "gherkin/gherkinlaw10.WorksDisks" = some 4 by kernel_rfl).symm.trans hf) |>.symm
  obtain rfl : fn = Tryz.f4 := (Option.some.inj (Tryz.func4.symm.trans hfn)).symm
  refine ⟨sf_looks, fun j t ht => ?_⟩
  rw [Tryz.params4] at ht
  have hm : t ∈ [3, 37] := by simpa using Array.mem_of_getElem? ht
  simp only [List.mem_cons, List.not_mem_nil, or_false] at hm
  rcases hm with rfl | rfl
  · exact (show Tryz.prog.wantsStandIn 3 = false by kernel_rfl)
  · exact (show Tryz.prog.wantsStandIn 37 = false by kernel_rfl)
/-- The card. -/
theorem worksDisks_holds : Rows.WorksDisksCardSaid :=
  Claim7.holds_tied_plain_at .later [] _ _ _ _ worksDisks_said (fun _ h => by cases h) worksDisks_byText (fun _ h => by cases h) worksDisks_row_tie rfl ⟨rfl, rfl⟩ sf_main rfl plain worksDisks_goes
end Go.Proofs.YtklnnpacfjnnlaaGreatDoor
