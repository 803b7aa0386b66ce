/- slices.SortFunc at no element. -/
import Derived.Test.YtpgpkgnljoedaaaCc
import Derived.Shelf.SlSortCmp.NoneTotal
namespace Go.Proofs.Ytpgpkgnljoedaaa
open Go.Shelf
theorem none_gen {P : Program} {ρ : Go.Shelf.Ren} (L : SlLaysF.n6 P ρ) (fv : Value) (w : World) :
    Calls P (ρ.f 6) #[.slice none 0 0, fv] w fun e w' => e = .returned (.tuple #[]) ∧ w' = w := AnyF.slices_SortFunc_none { L with } none 0 fv w
theorem sort96_nil (fv : Value) (w : World) : Calls Try.prog 96 #[.slice none 0 0, fv] w fun e w' => e = .returned (.tuple #[]) ∧ w = w' := by
  have h := none_gen l96 fv w
  change Calls Try.prog 96 _ _ _ at h
  exact h.mono fun _ _ h => ⟨h.1, h.2.symm⟩
end Go.Proofs.Ytpgpkgnljoedaaa
