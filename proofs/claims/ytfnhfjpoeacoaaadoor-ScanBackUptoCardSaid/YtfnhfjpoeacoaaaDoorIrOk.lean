/- The printed functions are the program's. No conditions. -/
import Derived.Test.YtfnhfjpoeacoaaaDoorProg
import Derived.Test.YtfnhfjpoeacoaaaDoorAmChk
import Derived.Test.YtfnhfjpoeacoaaaDoorBld
namespace Go.AM.F
open Go Go.AM Go.Proofs
set_option maxRecDepth 100000

def ents : List FuncId := [n_stringslite_HasPrefix, n_strings_HasPrefix, n_scan_Rows, n_scan_of, n_scan_hex, n_scan_escape, n_scan_text, n_scan_one, n_scan_Words, n_scan_badBy, n_scan_Fields, n_scan_Quote, n_thicketlaw03_lives, n_thicketref03_Texts, n_stringslite_IndexByte, n_strings_IndexByte, n_utf8_ValidRune, n_bytealg_Cutover, n_strings_IndexRune, n_strings_shouldUseASCIISet, n_strings_makeASCIISet, n_strings_asciiSet_contains, n_strings_IndexAny, n_strings_ContainsAny, n_scan_Join, n_thicketlaw03_ScanBack, n_thicketref03_Fields, n_thicketref03_Join, n_thicketlaw03_ScanFields, n_strings_Builder_WriteByte, n_strings_ReplaceAll, n_strings_Builder_WriteString, n_strings_Builder_String]
def exts : List (FuncId × ExtK) := [(n_bytealg_IndexByteString, .idxByteStr)]
theorem ents_ok : ∀ f ∈ ents, Enters Tryd.prog f := by
  simp only [ents, List.forall_mem_cons]
  exact ⟨Enters.of Tryd.func46 (by kernel_rfl) (by kernel_rfl), Enters.of Tryd.func30 (by kernel_rfl) (by kernel_rfl), Enters.of Tryd.func12 (by kernel_rfl) (by kernel_rfl), Enters.of Tryd.func31 (by kernel_rfl) (by kernel_rfl), Enters.of Tryd.func64 (by kernel_rfl) (by kernel_rfl), Enters.of Tryd.func53 (by kernel_rfl) (by kernel_rfl), Enters.of Tryd.func47 (by kernel_rfl) (by kernel_rfl), Enters.of Tryd.func32 (by kernel_rfl) (by kernel_rfl), Enters.of Tryd.func14 (by kernel_rfl) (by kernel_rfl), Enters.of Tryd.func38 (by kernel_rfl) (by kernel_rfl), Enters.of Tryd.func17 (by kernel_rfl) (by kernel_rfl), Enters.of Tryd.func20 (by kernel_rfl) (by kernel_rfl), Enters.of Tryd.func10 (by kernel_rfl) (by kernel_rfl), Enters.of Tryd.func19 (by kernel_rfl) (by kernel_rfl), Enters.of Tryd.func51 (by kernel_rfl) (by kernel_rfl), Enters.of Tryd.func42 (by kernel_rfl) (by kernel_rfl), Enters.of Tryd.func65 (by kernel_rfl) (by kernel_rfl), Enters.of Tryd.func66 (by kernel_rfl) (by kernel_rfl), Enters.of Tryd.func54 (by kernel_rfl) (by kernel_rfl), Enters.of Tryd.func55 (by kernel_rfl) (by kernel_rfl), Enters.of Tryd.func56 (by kernel_rfl) (by kernel_rfl), Enters.of Tryd.func57 (by kernel_rfl) (by kernel_rfl), Enters.of Tryd.func49 (by kernel_rfl) (by kernel_rfl), Enters.of Tryd.func40 (by kernel_rfl) (by kernel_rfl), Enters.of Tryd.func28 (by kernel_rfl) (by kernel_rfl), Enters.of Tryd.func9 (by kernel_rfl) (by kernel_rfl), Enters.of Tryd.func18 (by kernel_rfl) (by kernel_rfl), Enters.of Tryd.func29 (by kernel_rfl) (by kernel_rfl), Enters.of Tryd.func8 (by kernel_rfl) (by kernel_rfl), Enters.of Tryd.func41 (by kernel_rfl) (by kernel_rfl), Enters.of Tryd.func43 (by kernel_rfl) (by kernel_rfl), Enters.of Tryd.func44 (by kernel_rfl) (by kernel_rfl), Enters.of Tryd.func45 (by kernel_rfl) (by kernel_rfl), fun _ h => by cases h⟩
theorem exts_ok : ∀ p ∈ exts, Extn Tryd.prog p.1 p.2 := by
  simp only [exts, List.forall_mem_cons]
  exact ⟨⟨_, _, Tryd.func59, by kernel_rfl, by kernel_rfl, by kernel_rfl, by kernel_rfl, rfl⟩, fun _ h => by cases h⟩
theorem ok_stringslite_HasPrefix : FnOK Tryd.prog G n_stringslite_HasPrefix a_stringslite_HasPrefix := FnOK.made ents_ok exts_ok Tryd.func46 (by kernel_rfl) (by kernel_rfl) (by kernel_rfl) (by kernel_rfl) (by kernel_rfl)
theorem ok_strings_HasPrefix : FnOK Tryd.prog G n_strings_HasPrefix a_strings_HasPrefix := FnOK.made ents_ok exts_ok Tryd.func30 (by kernel_rfl) (by kernel_rfl) (by kernel_rfl) (by kernel_rfl) (by kernel_rfl)
theorem ok_scan_Rows : FnOK Tryd.prog G n_scan_Rows a_scan_Rows := FnOK.made ents_ok exts_ok Tryd.func12 (by kernel_rfl) (by kernel_rfl) (by kernel_rfl) (by kernel_rfl) (by kernel_rfl)
theorem ok_scan_of : FnOK Tryd.prog G n_scan_of a_scan_of := FnOK.made ents_ok exts_ok Tryd.func31 (by kernel_rfl) (by kernel_rfl) (by kernel_rfl) (by kernel_rfl) (by kernel_rfl)
theorem ok_scan_hex : FnOK Tryd.prog G n_scan_hex a_scan_hex := FnOK.made ents_ok exts_ok Tryd.func64 (by kernel_rfl) (by kernel_rfl) (by kernel_rfl) (by kernel_rfl) (by kernel_rfl)
theorem ok_scan_escape : FnOK Tryd.prog G n_scan_escape a_scan_escape := FnOK.made ents_ok exts_ok Tryd.func53 (by kernel_rfl) (by kernel_rfl) (by kernel_rfl) (by kernel_rfl) (by kernel_rfl)
theorem ok_scan_text : FnOK Tryd.prog G n_scan_text a_scan_text := FnOK.made ents_ok exts_ok Tryd.func47 (by kernel_rfl) (by kernel_rfl) (by kernel_rfl) (by kernel_rfl) (by kernel_rfl)
theorem ok_scan_one : FnOK Tryd.prog G n_scan_one a_scan_one := FnOK.made ents_ok exts_ok Tryd.func32 (by kernel_rfl) (by kernel_rfl) (by kernel_rfl) (by kernel_rfl) (by kernel_rfl)
theorem ok_scan_Words : FnOK Tryd.prog G n_scan_Words a_scan_Words := FnOK.made ents_ok exts_ok Tryd.func14 (by kernel_rfl) (by kernel_rfl) (by kernel_rfl) (by kernel_rfl) (by kernel_rfl)
theorem ok_scan_badBy : FnOK Tryd.prog G n_scan_badBy a_scan_badBy := FnOK.made ents_ok exts_ok Tryd.func38 (by kernel_rfl) (by kernel_rfl) (by kernel_rfl) (by kernel_rfl) (by kernel_rfl)
theorem ok_scan_Fields : FnOK Tryd.prog G n_scan_Fields a_scan_Fields := FnOK.made ents_ok exts_ok Tryd.func17 (by kernel_rfl) (by kernel_rfl) (by kernel_rfl) (by kernel_rfl) (by kernel_rfl)
theorem ok_scan_Quote : FnOK Tryd.prog G n_scan_Quote a_scan_Quote := FnOK.made ents_ok exts_ok Tryd.func20 (by kernel_rfl) (by kernel_rfl) (by kernel_rfl) (by kernel_rfl) (by kernel_rfl)
theorem ok_thicketlaw03_lives : FnOK Tryd.prog G n_thicketlaw03_lives a_thicketlaw03_lives := FnOK.made ents_ok exts_ok Tryd.func10 (by kernel_rfl) (by kernel_rfl) (by kernel_rfl) (by kernel_rfl) (by kernel_rfl)
theorem ok_thicketref03_Texts : FnOK Tryd.prog G n_thicketref03_Texts a_thicketref03_Texts := FnOK.made ents_ok exts_ok Tryd.func19 (by kernel_rfl) (by kernel_rfl) (by kernel_rfl) (by kernel_rfl) (by kernel_rfl)
theorem ok_stringslite_IndexByte : FnOK Tryd.prog G n_stringslite_IndexByte a_stringslite_IndexByte := FnOK.made ents_ok exts_ok Tryd.func51 (by kernel_rfl) (by kernel_rfl) (by kernel_rfl) (by kernel_rfl) (by kernel_rfl)
theorem ok_strings_IndexByte : FnOK Tryd.prog G n_strings_IndexByte a_strings_IndexByte := FnOK.made ents_ok exts_ok Tryd.func42 (by kernel_rfl) (by kernel_rfl) (by kernel_rfl) (by kernel_rfl) (by kernel_rfl)
theorem ok_utf8_ValidRune : FnOK Tryd.prog G n_utf8_ValidRune a_utf8_ValidRune := FnOK.made ents_ok exts_ok Tryd.func65 (by kernel_rfl) (by kernel_rfl) (by kernel_rfl) (by kernel_rfl) (by kernel_rfl)
theorem ok_bytealg_Cutover : FnOK Tryd.prog G n_bytealg_Cutover a_bytealg_Cutover := FnOK.made ents_ok exts_ok Tryd.func66 (by kernel_rfl) (by kernel_rfl) (by kernel_rfl) (by kernel_rfl) (by kernel_rfl)
theorem ok_strings_IndexRune : FnOK Tryd.prog G n_strings_IndexRune a_strings_IndexRune := FnOK.made ents_ok exts_ok Tryd.func54 (by kernel_rfl) (by kernel_rfl) (by kernel_rfl) (by kernel_rfl) (by kernel_rfl)
theorem ok_strings_shouldUseASCIISet : FnOK Tryd.prog G n_strings_shouldUseASCIISet a_strings_shouldUseASCIISet := FnOK.made ents_ok exts_ok Tryd.func55 (by kernel_rfl) (by kernel_rfl) (by kernel_rfl) (by kernel_rfl) (by kernel_rfl)
theorem ok_strings_makeASCIISet : FnOK Tryd.prog G n_strings_makeASCIISet a_strings_makeASCIISet := FnOK.made ents_ok exts_ok Tryd.func56 (by kernel_rfl) (by kernel_rfl) (by kernel_rfl) (by kernel_rfl) (by kernel_rfl)
theorem ok_strings_asciiSet_contains : FnOK Tryd.prog G n_strings_asciiSet_contains a_strings_asciiSet_contains := FnOK.made ents_ok exts_ok Tryd.func57 (by kernel_rfl) (by kernel_rfl) (by kernel_rfl) (by kernel_rfl) (by kernel_rfl)
theorem ok_strings_IndexAny : FnOK Tryd.prog G n_strings_IndexAny a_strings_IndexAny := FnOK.made ents_ok exts_ok Tryd.func49 (by kernel_rfl) (by kernel_rfl) (by kernel_rfl) (by kernel_rfl) (by kernel_rfl)
theorem ok_strings_ContainsAny : FnOK Tryd.prog G n_strings_ContainsAny a_strings_ContainsAny := FnOK.made ents_ok exts_ok Tryd.func40 (by kernel_rfl) (by kernel_rfl) (by kernel_rfl) (by kernel_rfl) (by kernel_rfl)
theorem ok_scan_Join : FnOK Tryd.prog G n_scan_Join a_scan_Join := FnOK.made ents_ok exts_ok Tryd.func28 (by kernel_rfl) (by kernel_rfl) (by kernel_rfl) (by kernel_rfl) (by kernel_rfl)
theorem ok_thicketlaw03_ScanBack : FnOK Tryd.prog G n_thicketlaw03_ScanBack a_thicketlaw03_ScanBack := FnOK.made ents_ok exts_ok Tryd.func9 (by kernel_rfl) (by kernel_rfl) (by kernel_rfl) (by kernel_rfl) (by kernel_rfl)
theorem ok_thicketref03_Fields : FnOK Tryd.prog G n_thicketref03_Fields a_thicketref03_Fields := FnOK.made ents_ok exts_ok Tryd.func18 (by kernel_rfl) (by kernel_rfl) (by kernel_rfl) (by kernel_rfl) (by kernel_rfl)
theorem ok_thicketref03_Join : FnOK Tryd.prog G n_thicketref03_Join a_thicketref03_Join := FnOK.made ents_ok exts_ok Tryd.func29 (by kernel_rfl) (by kernel_rfl) (by kernel_rfl) (by kernel_rfl) (by kernel_rfl)
theorem ok_thicketlaw03_ScanFields : FnOK Tryd.prog G n_thicketlaw03_ScanFields a_thicketlaw03_ScanFields := FnOK.made ents_ok exts_ok Tryd.func8 (by kernel_rfl) (by kernel_rfl) (by kernel_rfl) (by kernel_rfl) (by kernel_rfl)
theorem fns_ok : ∀ f af, T.fns f = some af → FnOK Tryd.prog G f af := by
  intro f af h
  have hm : (f, af) ∈ fnTab := mem_of_lookup h
  revert hm
  exact (show ∀ p ∈ fnTab, FnOK Tryd.prog G p.1 p.2 by
    simp only [fnTab, List.forall_mem_cons]
    exact ⟨ok_stringslite_HasPrefix, ok_strings_HasPrefix, ok_scan_Rows, ok_scan_of, ok_scan_hex, ok_scan_escape, ok_scan_text, ok_scan_one, ok_scan_Words, ok_scan_badBy, ok_scan_Fields, ok_scan_Quote, ok_thicketlaw03_lives, ok_thicketref03_Texts, ok_stringslite_IndexByte, ok_strings_IndexByte, ok_utf8_ValidRune, ok_bytealg_Cutover, ok_strings_IndexRune, ok_strings_shouldUseASCIISet, ok_strings_makeASCIISet, ok_strings_asciiSet_contains, ok_strings_IndexAny, ok_strings_ContainsAny, ok_scan_Join, ok_thicketlaw03_ScanBack, ok_thicketref03_Fields, ok_thicketref03_Join, ok_thicketlaw03_ScanFields, fun _ h => by cases h⟩) (f, af)
theorem mixed : Tryd.prog.follows .mixedOrders = true := by kernel_rfl
/-- Calls are answered as the abstract machine says. -/
theorem calls_ok : CallOK Tryd.prog G (Cinf T) := Cinf_ok mixed ext_ok fns_ok
end Go.AM.F
