/- The printed functions are the program's. No conditions. -/
import Derived.Test.YtbghahcgjnlnlaaProg
import Derived.Test.YtbghahcgjnlnlaaAmChk
import Derived.Test.YtbghahcgjnlnlaaIr
namespace Go.AM.F
open Go Go.AM Go.Proofs
set_option maxRecDepth 100000

def ents : List FuncId := [n_fixed_Sum, n_thicketref04_amount, n_thicketref04_signed, n_thicketref04_Sum, n_fixed_Add, n_thicketlaw04_same, n_thicketlaw04_FixedSums]
def exts : List (FuncId × ExtK) := [(n_bits_Add64, .add64)]
theorem ents_ok : ∀ f ∈ ents, Enters Try.prog f := by
  simp only [ents, List.forall_mem_cons]
  exact ⟨Enters.of Try.func5 (by kernel_rfl) (by kernel_rfl), Enters.of Try.func12 (by kernel_rfl) (by kernel_rfl), Enters.of Try.func13 (by kernel_rfl) (by kernel_rfl), Enters.of Try.func6 (by kernel_rfl) (by kernel_rfl), Enters.of Try.func7 (by kernel_rfl) (by kernel_rfl), Enters.of Try.func8 (by kernel_rfl) (by kernel_rfl), Enters.of Try.func3 (by kernel_rfl) (by kernel_rfl), fun _ h => by cases h⟩
theorem exts_ok : ∀ p ∈ exts, Extn Try.prog p.1 p.2 := by
  simp only [exts, List.forall_mem_cons]
  exact ⟨⟨_, _, Try.func11, by kernel_rfl, by kernel_rfl, by kernel_rfl, by kernel_rfl, rfl⟩, fun _ h => by cases h⟩
theorem ok_fixed_Sum : FnOK Try.prog G n_fixed_Sum a_fixed_Sum := FnOK.made ents_ok exts_ok Try.func5 (by kernel_rfl) (by kernel_rfl) (by kernel_rfl) (by kernel_rfl) (by kernel_rfl)
theorem ok_thicketref04_amount : FnOK Try.prog G n_thicketref04_amount a_thicketref04_amount := FnOK.made ents_ok exts_ok Try.func12 (by kernel_rfl) (by kernel_rfl) (by kernel_rfl) (by kernel_rfl) (by kernel_rfl)
theorem ok_thicketref04_signed : FnOK Try.prog G n_thicketref04_signed a_thicketref04_signed := FnOK.made ents_ok exts_ok Try.func13 (by kernel_rfl) (by kernel_rfl) (by kernel_rfl) (by kernel_rfl) (by kernel_rfl)
theorem ok_thicketref04_Sum : FnOK Try.prog G n_thicketref04_Sum a_thicketref04_Sum := FnOK.made ents_ok exts_ok Try.func6 (by kernel_rfl) (by kernel_rfl) (by kernel_rfl) (by kernel_rfl) (by kernel_rfl)
theorem ok_fixed_Add : FnOK Try.prog G n_fixed_Add a_fixed_Add := FnOK.made ents_ok exts_ok Try.func7 (by kernel_rfl) (by kernel_rfl) (by kernel_rfl) (by kernel_rfl) (by kernel_rfl)
theorem ok_thicketlaw04_same : FnOK Try.prog G n_thicketlaw04_same a_thicketlaw04_same := FnOK.made ents_ok exts_ok Try.func8 (by kernel_rfl) (by kernel_rfl) (by kernel_rfl) (by kernel_rfl) (by kernel_rfl)
theorem ok_thicketlaw04_FixedSums : FnOK Try.prog G n_thicketlaw04_FixedSums a_thicketlaw04_FixedSums := FnOK.made ents_ok exts_ok Try.func3 (by kernel_rfl) (by kernel_rfl) (by kernel_rfl) (by kernel_rfl) (by kernel_rfl)
theorem fns_ok : ∀ f af, T.fns f = some af → FnOK Try.prog G f af := by
  intro f af h
  have hm : (f, af) ∈ fnTab := mem_of_lookup h
  revert hm
  exact (show ∀ p ∈ fnTab, FnOK Try.prog G p.1 p.2 by
    simp only [fnTab, List.forall_mem_cons]
    exact ⟨ok_fixed_Sum, ok_thicketref04_amount, ok_thicketref04_signed, ok_thicketref04_Sum, ok_fixed_Add, ok_thicketlaw04_same, ok_thicketlaw04_FixedSums, fun _ h => by cases h⟩) (f, af)
theorem mixed : Try.prog.follows .mixedOrders = true := by kernel_rfl
theorem ext_ok : CallOK Try.prog G T.ext := fun f xs y backs h => by cases h
/-- Calls are answered as the abstract machine says. -/
theorem calls_ok : CallOK Try.prog G (Cinf T) := Cinf_ok mixed ext_ok fns_ok
end Go.AM.F
