/- The printed functions are the program's. No conditions. -/
import Derived.Test.YtfnhfjpoeacoaaaDoorProg
import Derived.Test.YtfnhfjpoeacoaaaDoorAmChk
import Derived.Test.YtfnhfjpoeacoaaaDoorIr
namespace Go.AM.F
open Go Go.AM Go.Proofs
set_option maxRecDepth 100000

def ents : List FuncId := [n_stringslite_HasPrefix, n_strings_HasPrefix, n_scan_Rows, n_scan_of, n_scan_hex, n_scan_escape, n_scan_text, n_scan_one, n_scan_Words, n_scan_badBy, n_scan_Fields, n_scan_Quote, n_thicketlaw03_lives, n_scan_Blank, n_thicketlaw03_ScanAgain]
def exts : List (FuncId × ExtK) := []
theorem ents_ok : ∀ f ∈ ents, Enters Tryd.prog f := by
  simp only [ents, List.forall_mem_cons]
  exact ⟨Enters.of Tryd.func46 (by kernel_rfl) (by kernel_rfl), Enters.of Tryd.func30 (by kernel_rfl) (by kernel_rfl), Enters.of Tryd.func12 (by kernel_rfl) (by kernel_rfl), Enters.of Tryd.func31 (by kernel_rfl) (by kernel_rfl), Enters.of Tryd.func64 (by kernel_rfl) (by kernel_rfl), Enters.of Tryd.func53 (by kernel_rfl) (by kernel_rfl), Enters.of Tryd.func47 (by kernel_rfl) (by kernel_rfl), Enters.of Tryd.func32 (by kernel_rfl) (by kernel_rfl), Enters.of Tryd.func14 (by kernel_rfl) (by kernel_rfl), Enters.of Tryd.func38 (by kernel_rfl) (by kernel_rfl), Enters.of Tryd.func17 (by kernel_rfl) (by kernel_rfl), Enters.of Tryd.func20 (by kernel_rfl) (by kernel_rfl), Enters.of Tryd.func10 (by kernel_rfl) (by kernel_rfl), Enters.of Tryd.func21 (by kernel_rfl) (by kernel_rfl), Enters.of Tryd.func6 (by kernel_rfl) (by kernel_rfl), fun _ h => by cases h⟩
theorem exts_ok : ∀ p ∈ exts, Extn Tryd.prog p.1 p.2 := fun _ h => by cases h
theorem ok_stringslite_HasPrefix : FnOK Tryd.prog G n_stringslite_HasPrefix a_stringslite_HasPrefix := FnOK.made ents_ok exts_ok Tryd.func46 (by kernel_rfl) (by kernel_rfl) (by kernel_rfl) (by kernel_rfl) (by kernel_rfl)
theorem ok_strings_HasPrefix : FnOK Tryd.prog G n_strings_HasPrefix a_strings_HasPrefix := FnOK.made ents_ok exts_ok Tryd.func30 (by kernel_rfl) (by kernel_rfl) (by kernel_rfl) (by kernel_rfl) (by kernel_rfl)
theorem ok_scan_Rows : FnOK Tryd.prog G n_scan_Rows a_scan_Rows := FnOK.made ents_ok exts_ok Tryd.func12 (by kernel_rfl) (by kernel_rfl) (by kernel_rfl) (by kernel_rfl) (by kernel_rfl)
theorem ok_scan_of : FnOK Tryd.prog G n_scan_of a_scan_of := FnOK.made ents_ok exts_ok Tryd.func31 (by kernel_rfl) (by kernel_rfl) (by kernel_rfl) (by kernel_rfl) (by kernel_rfl)
theorem ok_scan_hex : FnOK Tryd.prog G n_scan_hex a_scan_hex := FnOK.made ents_ok exts_ok Tryd.func64 (by kernel_rfl) (by kernel_rfl) (by kernel_rfl) (by kernel_rfl) (by kernel_rfl)
theorem ok_scan_escape : FnOK Tryd.prog G n_scan_escape a_scan_escape := FnOK.made ents_ok exts_ok Tryd.func53 (by kernel_rfl) (by kernel_rfl) (by kernel_rfl) (by kernel_rfl) (by kernel_rfl)
theorem ok_scan_text : FnOK Tryd.prog G n_scan_text a_scan_text := FnOK.made ents_ok exts_ok Tryd.func47 (by kernel_rfl) (by kernel_rfl) (by kernel_rfl) (by kernel_rfl) (by kernel_rfl)
theorem ok_scan_one : FnOK Tryd.prog G n_scan_one a_scan_one := FnOK.made ents_ok exts_ok Tryd.func32 (by kernel_rfl) (by kernel_rfl) (by kernel_rfl) (by kernel_rfl) (by kernel_rfl)
theorem ok_scan_Words : FnOK Tryd.prog G n_scan_Words a_scan_Words := FnOK.made ents_ok exts_ok Tryd.func14 (by kernel_rfl) (by kernel_rfl) (by kernel_rfl) (by kernel_rfl) (by kernel_rfl)
theorem ok_scan_badBy : FnOK Tryd.prog G n_scan_badBy a_scan_badBy := FnOK.made ents_ok exts_ok Tryd.func38 (by kernel_rfl) (by kernel_rfl) (by kernel_rfl) (by kernel_rfl) (by kernel_rfl)
theorem ok_scan_Fields : FnOK Tryd.prog G n_scan_Fields a_scan_Fields := FnOK.made ents_ok exts_ok Tryd.func17 (by kernel_rfl) (by kernel_rfl) (by kernel_rfl) (by kernel_rfl) (by kernel_rfl)
theorem ok_scan_Quote : FnOK Tryd.prog G n_scan_Quote a_scan_Quote := FnOK.made ents_ok exts_ok Tryd.func20 (by kernel_rfl) (by kernel_rfl) (by kernel_rfl) (by kernel_rfl) (by kernel_rfl)
theorem ok_thicketlaw03_lives : FnOK Tryd.prog G n_thicketlaw03_lives a_thicketlaw03_lives := FnOK.made ents_ok exts_ok Tryd.func10 (by kernel_rfl) (by kernel_rfl) (by kernel_rfl) (by kernel_rfl) (by kernel_rfl)
theorem ok_scan_Blank : FnOK Tryd.prog G n_scan_Blank a_scan_Blank := FnOK.made ents_ok exts_ok Tryd.func21 (by kernel_rfl) (by kernel_rfl) (by kernel_rfl) (by kernel_rfl) (by kernel_rfl)
theorem ok_thicketlaw03_ScanAgain : FnOK Tryd.prog G n_thicketlaw03_ScanAgain a_thicketlaw03_ScanAgain := FnOK.made ents_ok exts_ok Tryd.func6 (by kernel_rfl) (by kernel_rfl) (by kernel_rfl) (by kernel_rfl) (by kernel_rfl)
theorem fns_ok : ∀ f af, T.fns f = some af → FnOK Tryd.prog G f af := by
  intro f af h
  have hm : (f, af) ∈ fnTab := mem_of_lookup h
  revert hm
  exact (show ∀ p ∈ fnTab, FnOK Tryd.prog G p.1 p.2 by
    simp only [fnTab, List.forall_mem_cons]
    exact ⟨ok_stringslite_HasPrefix, ok_strings_HasPrefix, ok_scan_Rows, ok_scan_of, ok_scan_hex, ok_scan_escape, ok_scan_text, ok_scan_one, ok_scan_Words, ok_scan_badBy, ok_scan_Fields, ok_scan_Quote, ok_thicketlaw03_lives, ok_scan_Blank, ok_thicketlaw03_ScanAgain, fun _ h => by cases h⟩) (f, af)
theorem mixed : Tryd.prog.follows .mixedOrders = true := by kernel_rfl
theorem ext_ok : CallOK Tryd.prog G T.ext := fun f xs y backs h => by cases h
/-- Calls are answered as the abstract machine says. -/
theorem calls_ok : CallOK Tryd.prog G (Cinf T) := Cinf_ok mixed ext_ok fns_ok
end Go.AM.F
