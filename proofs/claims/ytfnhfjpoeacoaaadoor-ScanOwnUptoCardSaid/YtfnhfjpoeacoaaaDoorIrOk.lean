/- The printed functions are the program's. No conditions. -/
import Derived.Test.YtfnhfjpoeacoaaaDoorProg
import Derived.Test.YtfnhfjpoeacoaaaDoorAmChk
import Derived.Test.YtfnhfjpoeacoaaaDoorIr
namespace Go.AM.F
open Go Go.AM Go.Proofs
set_option maxRecDepth 100000

def ents : List FuncId := [n_stringslite_HasPrefix, n_strings_HasPrefix, n_scan_Rows, n_scan_of, n_scan_hex, n_scan_escape, n_scan_text, n_scan_one, n_scan_Words, n_scan_badBy, n_scan_Fields, n_scan_Quote, n_thicketlaw03_lives, n_thicketlaw03_rows, n_thicketref03_Rows, n_thicketref03_blank, n_thicketref03_letter, n_thicketref03_digit, n_thicketref03_hex, n_thicketref03_quoted, n_thicketref03_mark, n_thicketref03_Words, n_thicketref03_Same, n_thicketref03_Fields, n_thicketref03_Texts, n_thicketlaw03_ScanOwn]
def exts : List (FuncId × ExtK) := []
theorem ents_ok : ∀ f ∈ ents, Enters Tryd.prog f := by
  simp only [ents, List.forall_mem_cons]
  exact ⟨Enters.of Tryd.func46 (by kernel_rfl) (by kernel_rfl), Enters.of Tryd.func30 (by kernel_rfl) (by kernel_rfl), Enters.of Tryd.func12 (by kernel_rfl) (by kernel_rfl), Enters.of Tryd.func31 (by kernel_rfl) (by kernel_rfl), Enters.of Tryd.func64 (by kernel_rfl) (by kernel_rfl), Enters.of Tryd.func53 (by kernel_rfl) (by kernel_rfl), Enters.of Tryd.func47 (by kernel_rfl) (by kernel_rfl), Enters.of Tryd.func32 (by kernel_rfl) (by kernel_rfl), Enters.of Tryd.func14 (by kernel_rfl) (by kernel_rfl), Enters.of Tryd.func38 (by kernel_rfl) (by kernel_rfl), Enters.of Tryd.func17 (by kernel_rfl) (by kernel_rfl), Enters.of Tryd.func20 (by kernel_rfl) (by kernel_rfl), Enters.of Tryd.func10 (by kernel_rfl) (by kernel_rfl), Enters.of Tryd.func11 (by kernel_rfl) (by kernel_rfl), Enters.of Tryd.func13 (by kernel_rfl) (by kernel_rfl), Enters.of Tryd.func33 (by kernel_rfl) (by kernel_rfl), Enters.of Tryd.func34 (by kernel_rfl) (by kernel_rfl), Enters.of Tryd.func35 (by kernel_rfl) (by kernel_rfl), Enters.of Tryd.func48 (by kernel_rfl) (by kernel_rfl), Enters.of Tryd.func36 (by kernel_rfl) (by kernel_rfl), Enters.of Tryd.func37 (by kernel_rfl) (by kernel_rfl), Enters.of Tryd.func15 (by kernel_rfl) (by kernel_rfl), Enters.of Tryd.func16 (by kernel_rfl) (by kernel_rfl), Enters.of Tryd.func18 (by kernel_rfl) (by kernel_rfl), Enters.of Tryd.func19 (by kernel_rfl) (by kernel_rfl), Enters.of Tryd.func5 (by kernel_rfl) (by kernel_rfl), fun _ h => by cases h⟩
theorem exts_ok : ∀ p ∈ exts, Extn Tryd.prog p.1 p.2 := fun _ h => by cases h
theorem ok_stringslite_HasPrefix : FnOK Tryd.prog G n_stringslite_HasPrefix a_stringslite_HasPrefix := FnOK.made ents_ok exts_ok Tryd.func46 (by kernel_rfl) (by kernel_rfl) (by kernel_rfl) (by kernel_rfl) (by kernel_rfl)
theorem ok_strings_HasPrefix : FnOK Tryd.prog G n_strings_HasPrefix a_strings_HasPrefix := FnOK.made ents_ok exts_ok Tryd.func30 (by kernel_rfl) (by kernel_rfl) (by kernel_rfl) (by kernel_rfl) (by kernel_rfl)
theorem ok_scan_Rows : FnOK Tryd.prog G n_scan_Rows a_scan_Rows := FnOK.made ents_ok exts_ok Tryd.func12 (by kernel_rfl) (by kernel_rfl) (by kernel_rfl) (by kernel_rfl) (by kernel_rfl)
theorem ok_scan_of : FnOK Tryd.prog G n_scan_of a_scan_of := FnOK.made ents_ok exts_ok Tryd.func31 (by kernel_rfl) (by kernel_rfl) (by kernel_rfl) (by kernel_rfl) (by kernel_rfl)
theorem ok_scan_hex : FnOK Tryd.prog G n_scan_hex a_scan_hex := FnOK.made ents_ok exts_ok Tryd.func64 (by kernel_rfl) (by kernel_rfl) (by kernel_rfl) (by kernel_rfl) (by kernel_rfl)
theorem ok_scan_escape : FnOK Tryd.prog G n_scan_escape a_scan_escape := FnOK.made ents_ok exts_ok Tryd.func53 (by kernel_rfl) (by kernel_rfl) (by kernel_rfl) (by kernel_rfl) (by kernel_rfl)
theorem ok_scan_text : FnOK Tryd.prog G n_scan_text a_scan_text := FnOK.made ents_ok exts_ok Tryd.func47 (by kernel_rfl) (by kernel_rfl) (by kernel_rfl) (by kernel_rfl) (by kernel_rfl)
theorem ok_scan_one : FnOK Tryd.prog G n_scan_one a_scan_one := FnOK.made ents_ok exts_ok Tryd.func32 (by kernel_rfl) (by kernel_rfl) (by kernel_rfl) (by kernel_rfl) (by kernel_rfl)
theorem ok_scan_Words : FnOK Tryd.prog G n_scan_Words a_scan_Words := FnOK.made ents_ok exts_ok Tryd.func14 (by kernel_rfl) (by kernel_rfl) (by kernel_rfl) (by kernel_rfl) (by kernel_rfl)
theorem ok_scan_badBy : FnOK Tryd.prog G n_scan_badBy a_scan_badBy := FnOK.made ents_ok exts_ok Tryd.func38 (by kernel_rfl) (by kernel_rfl) (by kernel_rfl) (by kernel_rfl) (by kernel_rfl)
theorem ok_scan_Fields : FnOK Tryd.prog G n_scan_Fields a_scan_Fields := FnOK.made ents_ok exts_ok Tryd.func17 (by kernel_rfl) (by kernel_rfl) (by kernel_rfl) (by kernel_rfl) (by kernel_rfl)
theorem ok_scan_Quote : FnOK Tryd.prog G n_scan_Quote a_scan_Quote := FnOK.made ents_ok exts_ok Tryd.func20 (by kernel_rfl) (by kernel_rfl) (by kernel_rfl) (by kernel_rfl) (by kernel_rfl)
theorem ok_thicketlaw03_lives : FnOK Tryd.prog G n_thicketlaw03_lives a_thicketlaw03_lives := FnOK.made ents_ok exts_ok Tryd.func10 (by kernel_rfl) (by kernel_rfl) (by kernel_rfl) (by kernel_rfl) (by kernel_rfl)
theorem ok_thicketlaw03_rows : FnOK Tryd.prog G n_thicketlaw03_rows a_thicketlaw03_rows := FnOK.made ents_ok exts_ok Tryd.func11 (by kernel_rfl) (by kernel_rfl) (by kernel_rfl) (by kernel_rfl) (by kernel_rfl)
theorem ok_thicketref03_Rows : FnOK Tryd.prog G n_thicketref03_Rows a_thicketref03_Rows := FnOK.made ents_ok exts_ok Tryd.func13 (by kernel_rfl) (by kernel_rfl) (by kernel_rfl) (by kernel_rfl) (by kernel_rfl)
theorem ok_thicketref03_blank : FnOK Tryd.prog G n_thicketref03_blank a_thicketref03_blank := FnOK.made ents_ok exts_ok Tryd.func33 (by kernel_rfl) (by kernel_rfl) (by kernel_rfl) (by kernel_rfl) (by kernel_rfl)
theorem ok_thicketref03_letter : FnOK Tryd.prog G n_thicketref03_letter a_thicketref03_letter := FnOK.made ents_ok exts_ok Tryd.func34 (by kernel_rfl) (by kernel_rfl) (by kernel_rfl) (by kernel_rfl) (by kernel_rfl)
theorem ok_thicketref03_digit : FnOK Tryd.prog G n_thicketref03_digit a_thicketref03_digit := FnOK.made ents_ok exts_ok Tryd.func35 (by kernel_rfl) (by kernel_rfl) (by kernel_rfl) (by kernel_rfl) (by kernel_rfl)
theorem ok_thicketref03_hex : FnOK Tryd.prog G n_thicketref03_hex a_thicketref03_hex := FnOK.made ents_ok exts_ok Tryd.func48 (by kernel_rfl) (by kernel_rfl) (by kernel_rfl) (by kernel_rfl) (by kernel_rfl)
theorem ok_thicketref03_quoted : FnOK Tryd.prog G n_thicketref03_quoted a_thicketref03_quoted := FnOK.made ents_ok exts_ok Tryd.func36 (by kernel_rfl) (by kernel_rfl) (by kernel_rfl) (by kernel_rfl) (by kernel_rfl)
theorem ok_thicketref03_mark : FnOK Tryd.prog G n_thicketref03_mark a_thicketref03_mark := FnOK.made ents_ok exts_ok Tryd.func37 (by kernel_rfl) (by kernel_rfl) (by kernel_rfl) (by kernel_rfl) (by kernel_rfl)
theorem ok_thicketref03_Words : FnOK Tryd.prog G n_thicketref03_Words a_thicketref03_Words := FnOK.made ents_ok exts_ok Tryd.func15 (by kernel_rfl) (by kernel_rfl) (by kernel_rfl) (by kernel_rfl) (by kernel_rfl)
theorem ok_thicketref03_Same : FnOK Tryd.prog G n_thicketref03_Same a_thicketref03_Same := FnOK.made ents_ok exts_ok Tryd.func16 (by kernel_rfl) (by kernel_rfl) (by kernel_rfl) (by kernel_rfl) (by kernel_rfl)
theorem ok_thicketref03_Fields : FnOK Tryd.prog G n_thicketref03_Fields a_thicketref03_Fields := FnOK.made ents_ok exts_ok Tryd.func18 (by kernel_rfl) (by kernel_rfl) (by kernel_rfl) (by kernel_rfl) (by kernel_rfl)
theorem ok_thicketref03_Texts : FnOK Tryd.prog G n_thicketref03_Texts a_thicketref03_Texts := FnOK.made ents_ok exts_ok Tryd.func19 (by kernel_rfl) (by kernel_rfl) (by kernel_rfl) (by kernel_rfl) (by kernel_rfl)
theorem ok_thicketlaw03_ScanOwn : FnOK Tryd.prog G n_thicketlaw03_ScanOwn a_thicketlaw03_ScanOwn := FnOK.made ents_ok exts_ok Tryd.func5 (by kernel_rfl) (by kernel_rfl) (by kernel_rfl) (by kernel_rfl) (by kernel_rfl)
theorem fns_ok : ∀ f af, T.fns f = some af → FnOK Tryd.prog G f af := by
  intro f af h
  have hm : (f, af) ∈ fnTab := mem_of_lookup h
  revert hm
  exact (show ∀ p ∈ fnTab, FnOK Tryd.prog G p.1 p.2 by
    simp only [fnTab, List.forall_mem_cons]
    exact ⟨ok_stringslite_HasPrefix, ok_strings_HasPrefix, ok_scan_Rows, ok_scan_of, ok_scan_hex, ok_scan_escape, ok_scan_text, ok_scan_one, ok_scan_Words, ok_scan_badBy, ok_scan_Fields, ok_scan_Quote, ok_thicketlaw03_lives, ok_thicketlaw03_rows, ok_thicketref03_Rows, ok_thicketref03_blank, ok_thicketref03_letter, ok_thicketref03_digit, ok_thicketref03_hex, ok_thicketref03_quoted, ok_thicketref03_mark, ok_thicketref03_Words, ok_thicketref03_Same, ok_thicketref03_Fields, ok_thicketref03_Texts, ok_thicketlaw03_ScanOwn, fun _ h => by cases h⟩) (f, af)
theorem mixed : Tryd.prog.follows .mixedOrders = true := by kernel_rfl
theorem ext_ok : CallOK Tryd.prog G T.ext := fun f xs y backs h => by cases h
/-- Calls are answered as the abstract machine says. -/
theorem calls_ok : CallOK Tryd.prog G (Cinf T) := Cinf_ok mixed ext_ok fns_ok
end Go.AM.F
