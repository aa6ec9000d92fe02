/- The printed functions are the program's. No conditions. -/
import Derived.Test.YtkcnnifgdhabgaaProg
import Derived.Test.YtkcnnifgdhabgaaAmChk
import Derived.Test.YtkcnnifgdhabgaaIr
namespace Go.AM.F
open Go Go.AM Go.Proofs
set_option maxRecDepth 100000

def ents : List FuncId := [n_json_Copy, n_slices_Index_string_string, n_json_Get, n_thicketref10_Get, n_thicketref10_Same, n_slices_Equal_string_string, n_api_Json_api_Json_api_Json_api_Json, n_json_Same, n_thicketref10_Copy, n_thicketlaw10_JsonGets]
def exts : List (FuncId × ExtK) := []
theorem ents_ok : ∀ f ∈ ents, Enters Try.prog f := by
  simp only [ents, List.forall_mem_cons]
  exact ⟨Enters.of Try.func9 (by kernel_rfl) (by kernel_rfl), Enters.of Try.func10 (by kernel_rfl) (by kernel_rfl), Enters.of Try.func4 (by kernel_rfl) (by kernel_rfl), Enters.of Try.func5 (by kernel_rfl) (by kernel_rfl), Enters.of Try.func6 (by kernel_rfl) (by kernel_rfl), Enters.of Try.func11 (by kernel_rfl) (by kernel_rfl), Enters.of Try.func12 (by kernel_rfl) (by kernel_rfl), Enters.of Try.func7 (by kernel_rfl) (by kernel_rfl), Enters.of Try.func8 (by kernel_rfl) (by kernel_rfl), Enters.of Try.func3 (by kernel_rfl) (by kernel_rfl), fun _ h => by cases h⟩
theorem exts_ok : ∀ p ∈ exts, Extn Try.prog p.1 p.2 := fun _ h => by cases h
theorem ok_json_Copy : FnOK Try.prog G n_json_Copy a_json_Copy := FnOK.made ents_ok exts_ok Try.func9 (by kernel_rfl) (by kernel_rfl) (by kernel_rfl) (by kernel_rfl) (by kernel_rfl)
theorem ok_slices_Index_string_string : FnOK Try.prog G n_slices_Index_string_string a_slices_Index_string_string := FnOK.made ents_ok exts_ok Try.func10 (by kernel_rfl) (by kernel_rfl) (by kernel_rfl) (by kernel_rfl) (by kernel_rfl)
theorem ok_json_Get : FnOK Try.prog G n_json_Get a_json_Get := FnOK.made ents_ok exts_ok Try.func4 (by kernel_rfl) (by kernel_rfl) (by kernel_rfl) (by kernel_rfl) (by kernel_rfl)
theorem ok_thicketref10_Get : FnOK Try.prog G n_thicketref10_Get a_thicketref10_Get := FnOK.made ents_ok exts_ok Try.func5 (by kernel_rfl) (by kernel_rfl) (by kernel_rfl) (by kernel_rfl) (by kernel_rfl)
theorem ok_thicketref10_Same : FnOK Try.prog G n_thicketref10_Same a_thicketref10_Same := FnOK.made ents_ok exts_ok Try.func6 (by kernel_rfl) (by kernel_rfl) (by kernel_rfl) (by kernel_rfl) (by kernel_rfl)
theorem ok_slices_Equal_string_string : FnOK Try.prog G n_slices_Equal_string_string a_slices_Equal_string_string := FnOK.made ents_ok exts_ok Try.func11 (by kernel_rfl) (by kernel_rfl) (by kernel_rfl) (by kernel_rfl) (by kernel_rfl)
theorem ok_api_Json_api_Json_api_Json_api_Json : FnOK Try.prog G n_api_Json_api_Json_api_Json_api_Json a_api_Json_api_Json_api_Json_api_Json := FnOK.made ents_ok exts_ok Try.func12 (by kernel_rfl) (by kernel_rfl) (by kernel_rfl) (by kernel_rfl) (by kernel_rfl)
theorem ok_json_Same : FnOK Try.prog G n_json_Same a_json_Same := FnOK.made ents_ok exts_ok Try.func7 (by kernel_rfl) (by kernel_rfl) (by kernel_rfl) (by kernel_rfl) (by kernel_rfl)
theorem ok_thicketref10_Copy : FnOK Try.prog G n_thicketref10_Copy a_thicketref10_Copy := FnOK.made ents_ok exts_ok Try.func8 (by kernel_rfl) (by kernel_rfl) (by kernel_rfl) (by kernel_rfl) (by kernel_rfl)
theorem ok_thicketlaw10_JsonGets : FnOK Try.prog G n_thicketlaw10_JsonGets a_thicketlaw10_JsonGets := FnOK.made ents_ok exts_ok Try.func3 (by kernel_rfl) (by kernel_rfl) (by kernel_rfl) (by kernel_rfl) (by kernel_rfl)
theorem fns_ok : ∀ f af, T.fns f = some af → FnOK Try.prog G f af := by
  intro f af h
  have hm : (f, af) ∈ fnTab := mem_of_lookup h
  revert hm
  exact (show ∀ p ∈ fnTab, FnOK Try.prog G p.1 p.2 by
    simp only [fnTab, List.forall_mem_cons]
    exact ⟨ok_json_Copy, ok_slices_Index_string_string, ok_json_Get, ok_thicketref10_Get, ok_thicketref10_Same, ok_slices_Equal_string_string, ok_api_Json_api_Json_api_Json_api_Json, ok_json_Same, ok_thicketref10_Copy, ok_thicketlaw10_JsonGets, fun _ h => by cases h⟩) (f, af)
theorem mixed : Try.prog.follows .mixedOrders = true := by kernel_rfl
theorem ext_ok : CallOK Try.prog G T.ext := fun f xs y backs h => by cases h
/-- Calls are answered as the abstract machine says. -/
theorem calls_ok : CallOK Try.prog G (Cinf T) := Cinf_ok mixed ext_ok fns_ok
end Go.AM.F
