/- WorksNobody: the law returns true for every input, and its arguments read afterwards as before; the card ties the listed tables. No condition. -/
import Derived.Test.YtklnnpacfjnnlaaGreatDoorCards
import Derived.Test.YtklnnpacfjnnlaaGreatDoorTie
import Derived.Test.YtklnnpacfjnnlaaGreatDoorWm
import Derived.Test.YtklnnpacfjnnlaaGreatDoorZ
import Derived.Test.YtklnnpacfjnnlaaGreatDoorLg
import Derived.Test.YtklnnpacfjnnlaaGreatDoorNobodyF
namespace Go.Proofs.YtklnnpacfjnnlaaGreatDoor
open Go.ChangeShapes Go.WideShapes Go.ChangeAt Go.RowKit
set_option linter.unusedVariables false
theorem reads (os : Os) {H : Type} (enc : TypeId × Value → H) : ∃ places, DataW.whole enc Tryz.prog ((laidWorld os).forCall (fun _ _ => 0) ⟨#[], #[Value.string ⟨#[]⟩, Value.int .i64 0, Value.slice none 0 0], []⟩).memory Tryz.f13.params.toList Rows.worksNobodySpec.vars false #[Value.string ⟨#[]⟩, Value.int .i64 0, Value.slice none 0 0].toList 8 = some ([.lit (.string []), .lit (.int .i64 0), .nil], [], places) :=
  ⟨[], by kernel_rfl⟩
set_option maxRecDepth 100000 in
set_option maxHeartbeats 4000000 in
theorem worksNobody_lifted (os : Os) (started : os.Started) (H : Type) (enc : TypeId × Value → H) (F : Stop.Interp) :
    ReturnsInHanded {} Tryz.checked os 13 .any ((OpenSpec.ofChange Rows.worksNobodySpec).preRow enc Tryz.prog Tryz.f13 Rows.worksNobodyRow.domain false Rows.worksNobodyRow.laid) (((OpenSpec.ofChange Rows.worksNobodySpec).at F).post enc Tryz.prog Tryz.f13 false true false false) := by
  obtain ⟨places, hx⟩ := reads os enc
  refine returnsInHanded_of_row (C := Tryz.checked) (s := OpenSpec.ofChange Rows.worksNobodySpec) own started (by kernel_rfl) Tryz.func13
    (witness_row_at (enc := enc) (C := Tryz.checked) false (laidWorld os) #[Value.string ⟨#[]⟩, Value.int .i64 0, Value.slice none 0 0] rfl (by kernel_rfl) (by kernel_rfl) (by kernel_rfl)
      (OpenSpec.preRow_of_cond 8 hx (by kernel_rfl) (fun k hk => by cases hk) (by kernel_rfl) (laid_met os #[Value.string ⟨#[]⟩, Value.int .i64 0, Value.slice none 0 0]))) ?_
  intro W base args ds gs before hval0 hW _ _ hsz0 hL hsh _
  have hglob := glob_of W hL hsh
  have hsz : (DataW.weightsEach Tryz.prog (Tryz.f13.params.toList ++ (OpenSpec.ofChange Rows.worksNobodySpec).bare.plain.varTypes Tryz.prog) (ds ++ gs)).all (· ≤ reachBytes) = true := hsz0
  clear hsz0
  have hval : ∀ (j : Nat) t v, Tryz.f13.params[j]? = some t → args[j]? = some v → Value.okWide Tryz.prog W .any base t v := hval0
  have hW' : DataW.Whole enc Tryz.prog Tryz.f13.params.toList Rows.worksNobodySpec.vars false W args.toList ds gs before := hW
  obtain ⟨p, q, hA0, hV, rfl, hfz, hnd⟩ := id hW'
  have hA : DataW.TrodAll enc Tryz.prog W 0 (fun _ => true) true Tryz.f13.params.toList args.toList ds p := hA0
  clear hA0 hval0
  have hlt0 : ∀ x ∈ p ++ q, x.block < W.heap.size := fun x hx => hW'.lt x hx
  rw [Tryz.params13] at hA hval hsz
  obtain ⟨v0, vs0, d0, ds0, p0, q0, hargs, rfl, rfl, h0, r0⟩ := trodAll_cons hA
  obtain ⟨v1, vs1, d1, ds1, p1, q1, rfl, rfl, rfl, h1, r1⟩ := trodAll_cons r0
  obtain ⟨v2, vs2, d2, ds2, p2, q2, rfl, rfl, rfl, h2, r2⟩ := trodAll_cons r1
  obtain ⟨rfl, rfl, rfl⟩ := trodAll_nil r2
  obtain rfl : args = #[v0, v1, v2] := by cases args; simp_all
  obtain ⟨rfl, rfl⟩ := trodVars_none hV
  obtain ⟨a0, rfl, rfl, rfl, w0⟩ := Go.ChangeMaps.open_string Tryz.underlying9 (hval 0 9 v0 rfl rfl) h0
  obtain ⟨a1, rfl, rfl, rfl, w1⟩ := open_int Tryz.underlying3 (hval 1 3 v1 rfl rfl) h1
  have ex2 := ints_of_arg (hval 2 41 v2 rfl rfl) h2 (fun x hx => hlt0 x (by simp [hx])) hsz (j := 2) rfl rfl
  obtain ⟨xs2, hx2, wx2⟩ := ex2
  refine (worksNobody_walk W hglob a0 w0 a1 (int_bounds w1) v2 xs2 hx2).mono fun e W' ⟨he, hg⟩ => ⟨_, he, law_post (s := Rows.worksNobodySpec) (by kernel_rfl) rfl rfl rfl rfl hW' hg⟩
theorem worksNobody_said : Rows.WorksNobodySaid :=
  OpenClaim.holds_of_cond 13 Tryz.f13 rfl rfl rfl rfl rfl rfl rfl ⟨rfl, rfl, rfl, rfl, rfl⟩ rfl rfl rfl rfl rfl worksNobody_named Tryz.func13 worksNobody_closed worksNobody_inst worksNobody_wrap
    (fun os started H enc _ F => by rw [OpenClaim.pre_eq_preRow]; exact worksNobody_lifted os started H enc F)
/-- No parameter wants a stand-in. -/
theorem plain (f : FuncId) (fn : Func) (hf : Tryz.pinned.checked.prog.funcNamed "gherkin/gherkinlaw10.WorksNobody" = some f) (hfn : Tryz.pinned.checked.prog.funcs[f]? = some fn) :
    true = Tryz.pinned.checked.prog.looks [] ∧ ∀ (j : Nat) t, fn.params[j]? = some t → Tryz.pinned.checked.prog.wantsStandIn t = false := by
  obtain rfl : f = 13 := Option.some.inj ((show Tryz.prog.funcNamed "gherkin/gherkinlaw10.WorksNobody" = some 13 by kernel_rfl).symm.trans hf) |>.symm
  obtain rfl : fn = Tryz.f13 := (Option.some.inj (Tryz.func13.symm.trans hfn)).symm
  refine ⟨sf_looks, fun j t ht => ?_⟩
  rw [Tryz.params13] at ht
  have hm : t ∈ [9, 3, 41] := by simpa using Array.mem_of_getElem? ht
  simp only [List.mem_cons, List.not_mem_nil, or_false] at hm
  rcases hm with rfl | rfl | rfl
  · exact (show Tryz.prog.wantsStandIn 9 = false by kernel_rfl)
  · exact (show Tryz.prog.wantsStandIn 3 = false by kernel_rfl)
  · exact (show Tryz.prog.wantsStandIn 41 = false by kernel_rfl)
/-- The card. -/
theorem worksNobody_holds : Rows.WorksNobodyCardSaid :=
  Claim7.holds_tied_plain_at .later [] _ _ _ _ worksNobody_said (fun _ h => by cases h) worksNobody_byText (fun _ h => by cases h) worksNobody_row_tie rfl ⟨rfl, rfl⟩ sf_main rfl plain worksNobody_goes
end Go.Proofs.YtklnnpacfjnnlaaGreatDoor
