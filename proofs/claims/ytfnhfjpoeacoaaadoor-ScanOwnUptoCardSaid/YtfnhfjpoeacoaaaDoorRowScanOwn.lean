/- ScanOwn: for all texts of bulk at most 1048576 the law answers true and its argument stays; its card. No conditions. -/
import Derived.Test.YtfnhfjpoeacoaaaDoorS23
import Derived.Test.YtfnhfjpoeacoaaaDoorRow0
namespace Go.Proofs.YtfnhfjpoeacoaaaDoor.scanOwn
open Go.AM Go.AM.F scan
set_option maxRecDepth 100000

theorem main (xs : List PV) (h : ShapeAll Tryd.prog Tryd.f5.params.toList xs) (hb : bulkL xs ≤ 1048576) : ∃ backs, Cinf T 5 xs = some (.v (.bool true), backs) := by
  have hp : Tryd.f5.params.toList = [9, 5] := by kernel_rfl
  rw [hp] at h
  obtain ⟨x0, r0, n0, a0, rfl, rfl, l0, s0, x1, r1, n1, a1, rfl, rfl, l1, s1, rfl⟩ := h
  rw [w9, w5] at hb ⊢
  obtain ⟨s10, rfl⟩ := shape_str s0
  obtain ⟨v11, rfl, g1⟩ := shape_u8 s1
  simp only [mkPV, Bool.false_eq_true, if_false, List.headD_cons, bulkL, str, bulk] at hb ⊢
  exact c_ScanOwn s10 (by omega) v11 g1
theorem contract (H : Type) (enc : TypeId × Value → H) (W : World) (base : Nat) (args : Array Value) (ds gs : List (DataW H)) (before : List MemPlace)
    (hval : ∀ (j : Nat) t v, Tryd.f5.params[j]? = some t → args[j]? = some v → Value.okWide Tryd.prog W .any base t v)
    (hW : DataW.Whole enc Tryd.prog Tryd.f5.params.toList Rows.scanOwnSpec.vars false W args.toList ds gs before) (hL : laidMetH Tryd.prog laid W) (hk : Rows.uptoSmall H (ds ++ gs) = true) :
    Calls Tryd.prog 5 args W fun e W' => ∃ v, e = .returned v ∧ Rows.scanOwnSpec.post enc Tryd.prog Tryd.f5 false true false false W args v W' := by
  have hgs : gs = [] := by
    obtain ⟨p, q, _, hV, _⟩ := hW
    cases gs with
    | nil => rfl
    | cons => exact hV.elim
  subst hgs
  have hb : Rows.uptoBulkAll ds ≤ 1048576 := by
    have := of_decide_eq_true hk
    simpa using this
  refine law_calls (S := [9, 5]) calls_ok (by kernel_rfl) (by kernel_rfl) (by kernel_rfl) (by kernel_rfl) (rt := 4) (by kernel_rfl) Tryd.underlying4 (globs hL) ?_ ?_ hval hW hb main
  · intro ds hds
    have : Tryd.f5.params.size = 2 := by kernel_rfl
    rw [this] at hds
    match ds, hds with
    | [d1, d2], _ => rfl
  · intro W' q _ hV
    exact hV
theorem laid_met (os : Os) : laidMet Tryd.prog laid ((laidWorld os).forCall (fun _ _ => 0) ⟨#[], #[.string ⟨#[]⟩, .int .u8 0], []⟩).memory :=
  laidMet_of_run' 8 (by kernel_rfl) (by kernel_rfl)
theorem reads (os : Os) {H : Type} (enc : TypeId × Value → H) : ∃ places, DataW.whole enc Tryd.prog ((laidWorld os).forCall (fun _ _ => 0) ⟨#[], #[.string ⟨#[]⟩, .int .u8 0], []⟩).memory Tryd.f5.params.toList Rows.scanOwnSpec.vars false #[Value.string ⟨#[]⟩, Value.int .u8 0].toList 8 = some ([.lit (.string []), .lit (.int .u8 0)], [], places) :=
  ⟨[], by kernel_rfl⟩
theorem lifted (os : Os) (started : os.Started) (H : Type) (enc : TypeId × Value → H) (F : Stop.Interp) :
    ReturnsInHanded {} Tryd.checked os 5 .any ((Rows.OpenSpec.upto Rows.scanOwnSpec).preRow enc Tryd.prog Tryd.f5 Rows.scanOwnUptoRow.domain false Rows.scanOwnUptoRow.laid) (((Rows.OpenSpec.upto Rows.scanOwnSpec).at F).post enc Tryd.prog Tryd.f5 false true false false) := by
  obtain ⟨places, hx⟩ := reads os enc
  refine returnsInHanded_of_row (C := Tryd.checked) (s := Rows.OpenSpec.upto Rows.scanOwnSpec) own started (by kernel_rfl) Tryd.func5
    (witness_row_at (enc := enc) (C := Tryd.checked) false (laidWorld os) #[.string ⟨#[]⟩, .int .u8 0] rfl (by kernel_rfl) (by kernel_rfl) (by kernel_rfl)
      (OpenSpec.preRow_of_cond 8 hx (by kernel_rfl) (fun k hk => by cases hk; kernel_rfl) (by kernel_rfl) (laid_met os))) ?_
  intro W base args ds gs before hval hW _ hcond _ hL _ _
  exact contract H enc W base args ds gs before hval hW hL (hcond _ rfl)
theorem said : Rows.ScanOwnUptoSaid :=
  OpenClaim.holds_of_cond 5 Tryd.f5 rfl rfl rfl rfl rfl rfl rfl ⟨rfl, rfl, rfl, rfl, rfl⟩ rfl rfl rfl rfl rfl (by kernel_rfl) Tryd.func5 (by kernel_rfl)
    (of_decide_eq_true (by kernel_rfl)) (by unfold Func.isWrapper; first | (rw [if_pos (by decide +kernel)]; kernel_rfl) | (rw [if_neg (by decide +kernel)]; exact ⟨rfl, rfl⟩))
    (fun os started H enc _ F => by rw [OpenClaim.pre_eq_preRow]; exact lifted os started H enc F)
theorem plain (f : FuncId) (fn : Func) (hf : Tryd.pinned.checked.prog.funcNamed "thicket/thicketlaw03.ScanOwn" = some f) (hfn : Tryd.pinned.checked.prog.funcs[f]? = some fn) :
    false = Tryd.pinned.checked.prog.looks [] ∧ ∀ (j : Nat) t, fn.params[j]? = some t → Tryd.pinned.checked.prog.wantsStandIn t = false := by
  obtain rfl : f = 5 := Option.some.inj ((show Tryd.prog.funcNamed "thicket/thicketlaw03.ScanOwn" = some 5 by kernel_rfl).symm.trans hf) |>.symm
  obtain rfl : fn = Tryd.f5 := (Option.some.inj (Tryd.func5.symm.trans hfn)).symm
  refine ⟨by kernel_rfl, fun j t ht => ?_⟩
  have hp : Tryd.f5.params = #[9, 5] := by kernel_rfl
  rw [hp] at ht
  have hm : t = 9 ∨ t = 5 := by simpa using Array.mem_of_getElem? ht
  rcases hm with rfl | rfl
  · exact (show Tryd.prog.wantsStandIn 9 = false by kernel_rfl)
  · exact (show Tryd.prog.wantsStandIn 5 = false by kernel_rfl)
theorem card : Rows.ScanOwnUptoCardSaid :=
  Claim7.holds_tied_plain_at .later [] _ _ _ _ said (fun _ h => by cases h) (by kernel_rfl) (fun _ h => by cases h) scanOwnUpto_row_tie rfl ⟨rfl, rfl⟩ (by kernel_rfl) rfl plain (by kernel_rfl)
end Go.Proofs.YtfnhfjpoeacoaaaDoor.scanOwn
namespace Go.Proofs.YtfnhfjpoeacoaaaDoor
theorem scanOwnUptoCard_holds : Rows.ScanOwnUptoCardSaid := scanOwn.card
#print axioms scanOwnUptoCard_holds
end Go.Proofs.YtfnhfjpoeacoaaaDoor
