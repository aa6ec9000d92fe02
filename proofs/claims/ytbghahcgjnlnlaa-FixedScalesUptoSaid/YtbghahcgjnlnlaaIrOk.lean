/- The printed functions are the program's. No conditions. -/
import Derived.Test.YtbghahcgjnlnlaaProg
import Derived.Test.YtbghahcgjnlnlaaAmChk
import Derived.Test.YtbghahcgjnlnlaaIr
namespace Go.AM.F
open Go Go.AM Go.Proofs
set_option maxRecDepth 100000

def ents : List FuncId := [n_limbs_trim, n_limbs_low, n_limbs_high, n_limbs_From, n_limbs_Cmp, n_limbs_Norm, n_bits_Len32, n_bits_LeadingZeros32, n_limbs_up, n_bits_Sub32, n_bits_Add32, n_limbs_long, n_limbs_down, n_limbs_DivMod, n_limbs_Add, n_limbs_Bit, n_fixed_rounded, n_limbs_Mul, n_fixed_amount, n_limbs_Small, n_fixed_signed, n_fixed_Scale, n_thicketref04_amount, n_thicketref04_signed, n_thicketref02_norm, n_thicketref02_Product, n_thicketref02_from, n_thicketref02_From, n_thicketref02_size, n_thicketref02_Size, n_thicketref02_cmp, n_thicketref02_up, n_thicketref02_minus, n_thicketref02_divide, n_thicketref02_Divide, n_thicketref02_Cmp, n_thicketref02_Up, n_thicketref04_Rounded, n_thicketref04_Scale, n_thicketlaw04_FixedScales]
def exts : List (FuncId × ExtK) := []
theorem ents_ok : ∀ f ∈ ents, Enters Try.prog f := by
  simp only [ents, List.forall_mem_cons]
  exact ⟨Enters.of Try.func26 (by kernel_rfl) (by kernel_rfl), Enters.of Try.func27 (by kernel_rfl) (by kernel_rfl), Enters.of Try.func28 (by kernel_rfl) (by kernel_rfl), Enters.of Try.func16 (by kernel_rfl) (by kernel_rfl), Enters.of Try.func23 (by kernel_rfl) (by kernel_rfl), Enters.of Try.func36 (by kernel_rfl) (by kernel_rfl), Enters.of Try.func45 (by kernel_rfl) (by kernel_rfl), Enters.of Try.func37 (by kernel_rfl) (by kernel_rfl), Enters.of Try.func38 (by kernel_rfl) (by kernel_rfl), Enters.of Try.func46 (by kernel_rfl) (by kernel_rfl), Enters.of Try.func47 (by kernel_rfl) (by kernel_rfl), Enters.of Try.func39 (by kernel_rfl) (by kernel_rfl), Enters.of Try.func40 (by kernel_rfl) (by kernel_rfl), Enters.of Try.func22 (by kernel_rfl) (by kernel_rfl), Enters.of Try.func24 (by kernel_rfl) (by kernel_rfl), Enters.of Try.func25 (by kernel_rfl) (by kernel_rfl), Enters.of Try.func14 (by kernel_rfl) (by kernel_rfl), Enters.of Try.func15 (by kernel_rfl) (by kernel_rfl), Enters.of Try.func17 (by kernel_rfl) (by kernel_rfl), Enters.of Try.func29 (by kernel_rfl) (by kernel_rfl), Enters.of Try.func18 (by kernel_rfl) (by kernel_rfl), Enters.of Try.func9 (by kernel_rfl) (by kernel_rfl), Enters.of Try.func12 (by kernel_rfl) (by kernel_rfl), Enters.of Try.func13 (by kernel_rfl) (by kernel_rfl), Enters.of Try.func30 (by kernel_rfl) (by kernel_rfl), Enters.of Try.func19 (by kernel_rfl) (by kernel_rfl), Enters.of Try.func31 (by kernel_rfl) (by kernel_rfl), Enters.of Try.func20 (by kernel_rfl) (by kernel_rfl), Enters.of Try.func41 (by kernel_rfl) (by kernel_rfl), Enters.of Try.func32 (by kernel_rfl) (by kernel_rfl), Enters.of Try.func43 (by kernel_rfl) (by kernel_rfl), Enters.of Try.func44 (by kernel_rfl) (by kernel_rfl), Enters.of Try.func48 (by kernel_rfl) (by kernel_rfl), Enters.of Try.func42 (by kernel_rfl) (by kernel_rfl), Enters.of Try.func33 (by kernel_rfl) (by kernel_rfl), Enters.of Try.func34 (by kernel_rfl) (by kernel_rfl), Enters.of Try.func35 (by kernel_rfl) (by kernel_rfl), Enters.of Try.func21 (by kernel_rfl) (by kernel_rfl), Enters.of Try.func10 (by kernel_rfl) (by kernel_rfl), Enters.of Try.func4 (by kernel_rfl) (by kernel_rfl), fun _ h => by cases h⟩
theorem exts_ok : ∀ p ∈ exts, Extn Try.prog p.1 p.2 := fun _ h => by cases h
theorem ok_limbs_trim : FnOK Try.prog G n_limbs_trim a_limbs_trim := FnOK.made ents_ok exts_ok Try.func26 (by kernel_rfl) (by kernel_rfl) (by kernel_rfl) (by kernel_rfl) (by kernel_rfl)
theorem ok_limbs_low : FnOK Try.prog G n_limbs_low a_limbs_low := FnOK.made ents_ok exts_ok Try.func27 (by kernel_rfl) (by kernel_rfl) (by kernel_rfl) (by kernel_rfl) (by kernel_rfl)
theorem ok_limbs_high : FnOK Try.prog G n_limbs_high a_limbs_high := FnOK.made ents_ok exts_ok Try.func28 (by kernel_rfl) (by kernel_rfl) (by kernel_rfl) (by kernel_rfl) (by kernel_rfl)
theorem ok_limbs_From : FnOK Try.prog G n_limbs_From a_limbs_From := FnOK.made ents_ok exts_ok Try.func16 (by kernel_rfl) (by kernel_rfl) (by kernel_rfl) (by kernel_rfl) (by kernel_rfl)
theorem ok_limbs_Cmp : FnOK Try.prog G n_limbs_Cmp a_limbs_Cmp := FnOK.made ents_ok exts_ok Try.func23 (by kernel_rfl) (by kernel_rfl) (by kernel_rfl) (by kernel_rfl) (by kernel_rfl)
theorem ok_limbs_Norm : FnOK Try.prog G n_limbs_Norm a_limbs_Norm := FnOK.made ents_ok exts_ok Try.func36 (by kernel_rfl) (by kernel_rfl) (by kernel_rfl) (by kernel_rfl) (by kernel_rfl)
theorem ok_bits_Len32 : FnOK Try.prog G n_bits_Len32 a_bits_Len32 := FnOK.made ents_ok exts_ok Try.func45 (by kernel_rfl) (by kernel_rfl) (by kernel_rfl) (by kernel_rfl) (by kernel_rfl)
theorem ok_bits_LeadingZeros32 : FnOK Try.prog G n_bits_LeadingZeros32 a_bits_LeadingZeros32 := FnOK.made ents_ok exts_ok Try.func37 (by kernel_rfl) (by kernel_rfl) (by kernel_rfl) (by kernel_rfl) (by kernel_rfl)
theorem ok_limbs_up : FnOK Try.prog G n_limbs_up a_limbs_up := FnOK.made ents_ok exts_ok Try.func38 (by kernel_rfl) (by kernel_rfl) (by kernel_rfl) (by kernel_rfl) (by kernel_rfl)
theorem ok_bits_Sub32 : FnOK Try.prog G n_bits_Sub32 a_bits_Sub32 := FnOK.made ents_ok exts_ok Try.func46 (by kernel_rfl) (by kernel_rfl) (by kernel_rfl) (by kernel_rfl) (by kernel_rfl)
theorem ok_bits_Add32 : FnOK Try.prog G n_bits_Add32 a_bits_Add32 := FnOK.made ents_ok exts_ok Try.func47 (by kernel_rfl) (by kernel_rfl) (by kernel_rfl) (by kernel_rfl) (by kernel_rfl)
theorem ok_limbs_long : FnOK Try.prog G n_limbs_long a_limbs_long := FnOK.made ents_ok exts_ok Try.func39 (by kernel_rfl) (by kernel_rfl) (by kernel_rfl) (by kernel_rfl) (by kernel_rfl)
theorem ok_limbs_down : FnOK Try.prog G n_limbs_down a_limbs_down := FnOK.made ents_ok exts_ok Try.func40 (by kernel_rfl) (by kernel_rfl) (by kernel_rfl) (by kernel_rfl) (by kernel_rfl)
theorem ok_limbs_DivMod : FnOK Try.prog G n_limbs_DivMod a_limbs_DivMod := FnOK.made ents_ok exts_ok Try.func22 (by kernel_rfl) (by kernel_rfl) (by kernel_rfl) (by kernel_rfl) (by kernel_rfl)
theorem ok_limbs_Add : FnOK Try.prog G n_limbs_Add a_limbs_Add := FnOK.made ents_ok exts_ok Try.func24 (by kernel_rfl) (by kernel_rfl) (by kernel_rfl) (by kernel_rfl) (by kernel_rfl)
theorem ok_limbs_Bit : FnOK Try.prog G n_limbs_Bit a_limbs_Bit := FnOK.made ents_ok exts_ok Try.func25 (by kernel_rfl) (by kernel_rfl) (by kernel_rfl) (by kernel_rfl) (by kernel_rfl)
theorem ok_fixed_rounded : FnOK Try.prog G n_fixed_rounded a_fixed_rounded := FnOK.made ents_ok exts_ok Try.func14 (by kernel_rfl) (by kernel_rfl) (by kernel_rfl) (by kernel_rfl) (by kernel_rfl)
theorem ok_limbs_Mul : FnOK Try.prog G n_limbs_Mul a_limbs_Mul := FnOK.made ents_ok exts_ok Try.func15 (by kernel_rfl) (by kernel_rfl) (by kernel_rfl) (by kernel_rfl) (by kernel_rfl)
theorem ok_fixed_amount : FnOK Try.prog G n_fixed_amount a_fixed_amount := FnOK.made ents_ok exts_ok Try.func17 (by kernel_rfl) (by kernel_rfl) (by kernel_rfl) (by kernel_rfl) (by kernel_rfl)
theorem ok_limbs_Small : FnOK Try.prog G n_limbs_Small a_limbs_Small := FnOK.made ents_ok exts_ok Try.func29 (by kernel_rfl) (by kernel_rfl) (by kernel_rfl) (by kernel_rfl) (by kernel_rfl)
theorem ok_fixed_signed : FnOK Try.prog G n_fixed_signed a_fixed_signed := FnOK.made ents_ok exts_ok Try.func18 (by kernel_rfl) (by kernel_rfl) (by kernel_rfl) (by kernel_rfl) (by kernel_rfl)
theorem ok_fixed_Scale : FnOK Try.prog G n_fixed_Scale a_fixed_Scale := FnOK.made ents_ok exts_ok Try.func9 (by kernel_rfl) (by kernel_rfl) (by kernel_rfl) (by kernel_rfl) (by kernel_rfl)
theorem ok_thicketref04_amount : FnOK Try.prog G n_thicketref04_amount a_thicketref04_amount := FnOK.made ents_ok exts_ok Try.func12 (by kernel_rfl) (by kernel_rfl) (by kernel_rfl) (by kernel_rfl) (by kernel_rfl)
theorem ok_thicketref04_signed : FnOK Try.prog G n_thicketref04_signed a_thicketref04_signed := FnOK.made ents_ok exts_ok Try.func13 (by kernel_rfl) (by kernel_rfl) (by kernel_rfl) (by kernel_rfl) (by kernel_rfl)
theorem ok_thicketref02_norm : FnOK Try.prog G n_thicketref02_norm a_thicketref02_norm := FnOK.made ents_ok exts_ok Try.func30 (by kernel_rfl) (by kernel_rfl) (by kernel_rfl) (by kernel_rfl) (by kernel_rfl)
theorem ok_thicketref02_Product : FnOK Try.prog G n_thicketref02_Product a_thicketref02_Product := FnOK.made ents_ok exts_ok Try.func19 (by kernel_rfl) (by kernel_rfl) (by kernel_rfl) (by kernel_rfl) (by kernel_rfl)
theorem ok_thicketref02_from : FnOK Try.prog G n_thicketref02_from a_thicketref02_from := FnOK.made ents_ok exts_ok Try.func31 (by kernel_rfl) (by kernel_rfl) (by kernel_rfl) (by kernel_rfl) (by kernel_rfl)
theorem ok_thicketref02_From : FnOK Try.prog G n_thicketref02_From a_thicketref02_From := FnOK.made ents_ok exts_ok Try.func20 (by kernel_rfl) (by kernel_rfl) (by kernel_rfl) (by kernel_rfl) (by kernel_rfl)
theorem ok_thicketref02_size : FnOK Try.prog G n_thicketref02_size a_thicketref02_size := FnOK.made ents_ok exts_ok Try.func41 (by kernel_rfl) (by kernel_rfl) (by kernel_rfl) (by kernel_rfl) (by kernel_rfl)
theorem ok_thicketref02_Size : FnOK Try.prog G n_thicketref02_Size a_thicketref02_Size := FnOK.made ents_ok exts_ok Try.func32 (by kernel_rfl) (by kernel_rfl) (by kernel_rfl) (by kernel_rfl) (by kernel_rfl)
theorem ok_thicketref02_cmp : FnOK Try.prog G n_thicketref02_cmp a_thicketref02_cmp := FnOK.made ents_ok exts_ok Try.func43 (by kernel_rfl) (by kernel_rfl) (by kernel_rfl) (by kernel_rfl) (by kernel_rfl)
theorem ok_thicketref02_up : FnOK Try.prog G n_thicketref02_up a_thicketref02_up := FnOK.made ents_ok exts_ok Try.func44 (by kernel_rfl) (by kernel_rfl) (by kernel_rfl) (by kernel_rfl) (by kernel_rfl)
theorem ok_thicketref02_minus : FnOK Try.prog G n_thicketref02_minus a_thicketref02_minus := FnOK.made ents_ok exts_ok Try.func48 (by kernel_rfl) (by kernel_rfl) (by kernel_rfl) (by kernel_rfl) (by kernel_rfl)
theorem ok_thicketref02_divide : FnOK Try.prog G n_thicketref02_divide a_thicketref02_divide := FnOK.made ents_ok exts_ok Try.func42 (by kernel_rfl) (by kernel_rfl) (by kernel_rfl) (by kernel_rfl) (by kernel_rfl)
theorem ok_thicketref02_Divide : FnOK Try.prog G n_thicketref02_Divide a_thicketref02_Divide := FnOK.made ents_ok exts_ok Try.func33 (by kernel_rfl) (by kernel_rfl) (by kernel_rfl) (by kernel_rfl) (by kernel_rfl)
theorem ok_thicketref02_Cmp : FnOK Try.prog G n_thicketref02_Cmp a_thicketref02_Cmp := FnOK.made ents_ok exts_ok Try.func34 (by kernel_rfl) (by kernel_rfl) (by kernel_rfl) (by kernel_rfl) (by kernel_rfl)
theorem ok_thicketref02_Up : FnOK Try.prog G n_thicketref02_Up a_thicketref02_Up := FnOK.made ents_ok exts_ok Try.func35 (by kernel_rfl) (by kernel_rfl) (by kernel_rfl) (by kernel_rfl) (by kernel_rfl)
theorem ok_thicketref04_Rounded : FnOK Try.prog G n_thicketref04_Rounded a_thicketref04_Rounded := FnOK.made ents_ok exts_ok Try.func21 (by kernel_rfl) (by kernel_rfl) (by kernel_rfl) (by kernel_rfl) (by kernel_rfl)
theorem ok_thicketref04_Scale : FnOK Try.prog G n_thicketref04_Scale a_thicketref04_Scale := FnOK.made ents_ok exts_ok Try.func10 (by kernel_rfl) (by kernel_rfl) (by kernel_rfl) (by kernel_rfl) (by kernel_rfl)
theorem ok_thicketlaw04_FixedScales : FnOK Try.prog G n_thicketlaw04_FixedScales a_thicketlaw04_FixedScales := FnOK.made ents_ok exts_ok Try.func4 (by kernel_rfl) (by kernel_rfl) (by kernel_rfl) (by kernel_rfl) (by kernel_rfl)
theorem fns_ok : ∀ f af, T.fns f = some af → FnOK Try.prog G f af := by
  intro f af h
  have hm : (f, af) ∈ fnTab := mem_of_lookup h
  revert hm
  exact (show ∀ p ∈ fnTab, FnOK Try.prog G p.1 p.2 by
    simp only [fnTab, List.forall_mem_cons]
    exact ⟨ok_limbs_trim, ok_limbs_low, ok_limbs_high, ok_limbs_From, ok_limbs_Cmp, ok_limbs_Norm, ok_bits_Len32, ok_bits_LeadingZeros32, ok_limbs_up, ok_bits_Sub32, ok_bits_Add32, ok_limbs_long, ok_limbs_down, ok_limbs_DivMod, ok_limbs_Add, ok_limbs_Bit, ok_fixed_rounded, ok_limbs_Mul, ok_fixed_amount, ok_limbs_Small, ok_fixed_signed, ok_fixed_Scale, ok_thicketref04_amount, ok_thicketref04_signed, ok_thicketref02_norm, ok_thicketref02_Product, ok_thicketref02_from, ok_thicketref02_From, ok_thicketref02_size, ok_thicketref02_Size, ok_thicketref02_cmp, ok_thicketref02_up, ok_thicketref02_minus, ok_thicketref02_divide, ok_thicketref02_Divide, ok_thicketref02_Cmp, ok_thicketref02_Up, ok_thicketref04_Rounded, ok_thicketref04_Scale, ok_thicketlaw04_FixedScales, fun _ h => by cases h⟩) (f, af)
theorem mixed : Try.prog.follows .mixedOrders = true := by kernel_rfl
theorem ext_ok : CallOK Try.prog G T.ext := fun f xs y backs h => by cases h
/-- Calls are answered as the abstract machine says. -/
theorem calls_ok : CallOK Try.prog G (Cinf T) := Cinf_ok mixed ext_ok fns_ok
end Go.AM.F
