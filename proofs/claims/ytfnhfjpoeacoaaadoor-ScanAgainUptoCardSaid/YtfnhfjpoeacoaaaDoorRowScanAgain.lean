/- ScanAgain: for all texts of bulk at most 1048576 the law answers true and its argument stays; its card. No conditions. -/
import Derived.Test.YtfnhfjpoeacoaaaDoorS25
import Derived.Test.YtfnhfjpoeacoaaaDoorRow0
namespace Go.Proofs.YtfnhfjpoeacoaaaDoor.scanAgain
open Go.AM Go.AM.F scan
set_option maxRecDepth 100000

theorem main (xs : List PV) (h : ShapeAll Tryd.prog Tryd.f6.params.toList xs) (hb : bulkL xs ≤ 1048576) : ∃ backs, Cinf T 6 xs = some (.v (.bool true), backs) := by
  have hp : Tryd.f6.params.toList = [9] := by kernel_rfl
  rw [hp] at h
  obtain ⟨x0, r0, n0, a0, rfl, rfl, l0, s0, rfl⟩ := h
  rw [w9] at hb ⊢
  obtain ⟨s, rfl⟩ := shape_str s0
  simp only [mkPV, Bool.false_eq_true, if_false, List.headD_cons, bulkL, str, bulk] at hb ⊢
  exact c_ScanAgain s (by omega)
theorem contract (H : Type) (enc : TypeId × Value → H) (W : World) (base : Nat) (args : Array Value) (ds gs : List (DataW H)) (before : List MemPlace)
    (hval : ∀ (j : Nat) t v, Tryd.f6.params[j]? = some t → args[j]? = some v → Value.okWide Tryd.prog W .any base t v)
    (hW : DataW.Whole enc Tryd.prog Tryd.f6.params.toList Rows.scanAgainSpec.vars false W args.toList ds gs before) (hL : laidMetH Tryd.prog laid W) (hk : Rows.uptoSmall H (ds ++ gs) = true) :
    Calls Tryd.prog 6 args W fun e W' => ∃ v, e = .returned v ∧ Rows.scanAgainSpec.post enc Tryd.prog Tryd.f6 false true false false W args v W' := by
  have hgs : gs = [] := by
    obtain ⟨p, q, _, hV, _⟩ := hW
    cases gs with
    | nil => rfl
    | cons => exact hV.elim
  subst hgs
  have hb : Rows.uptoBulkAll ds ≤ 1048576 := by
    have := of_decide_eq_true hk
    simpa using this
  refine law_calls (S := [9]) calls_ok (by kernel_rfl) (by kernel_rfl) (by kernel_rfl) (by kernel_rfl) (rt := 4) (by kernel_rfl) Tryd.underlying4 (globs hL) ?_ ?_ hval hW hb main
  · intro ds hds
    have : Tryd.f6.params.size = 1 := by kernel_rfl
    rw [this] at hds
    match ds, hds with
    | [d1], _ => rfl
  · intro W' q _ hV
    exact hV
theorem laid_met (os : Os) : laidMet Tryd.prog laid ((laidWorld os).forCall (fun _ _ => 0) ⟨#[], #[.string ⟨#[]⟩], []⟩).memory :=
  laidMet_of_run' 8 (by kernel_rfl) (by kernel_rfl)
theorem reads (os : Os) {H : Type} (enc : TypeId × Value → H) : ∃ places, DataW.whole enc Tryd.prog ((laidWorld os).forCall (fun _ _ => 0) ⟨#[], #[.string ⟨#[]⟩], []⟩).memory Tryd.f6.params.toList Rows.scanAgainSpec.vars false #[Value.string ⟨#[]⟩].toList 8 = some ([.lit (.string [])], [], places) :=
  ⟨[], by kernel_rfl⟩
theorem lifted (os : Os) (started : os.Started) (H : Type) (enc : TypeId × Value → H) (F : Stop.Interp) :
    ReturnsInHanded {} Tryd.checked os 6 .any ((Rows.OpenSpec.upto Rows.scanAgainSpec).preRow enc Tryd.prog Tryd.f6 Rows.scanAgainUptoRow.domain false Rows.scanAgainUptoRow.laid) (((Rows.OpenSpec.upto Rows.scanAgainSpec).at F).post enc Tryd.prog Tryd.f6 false true false false) := by
  obtain ⟨places, hx⟩ := reads os enc
  refine returnsInHanded_of_row (C := Tryd.checked) (s := Rows.OpenSpec.upto Rows.scanAgainSpec) own started (by kernel_rfl) Tryd.func6
    (witness_row_at (enc := enc) (C := Tryd.checked) false (laidWorld os) #[.string ⟨#[]⟩] rfl (by kernel_rfl) (by kernel_rfl) (by kernel_rfl)
      (OpenSpec.preRow_of_cond 8 hx (by kernel_rfl) (fun k hk => by cases hk; kernel_rfl) (by kernel_rfl) (laid_met os))) ?_
  intro W base args ds gs before hval hW _ hcond _ hL _ _
  exact contract H enc W base args ds gs before hval hW hL (hcond _ rfl)
theorem said : Rows.ScanAgainUptoSaid :=
  OpenClaim.holds_of_cond 6 Tryd.f6 rfl rfl rfl rfl rfl rfl rfl ⟨rfl, rfl, rfl, rfl, rfl⟩ rfl rfl rfl rfl rfl (by kernel_rfl) Tryd.func6 (by kernel_rfl)
    (of_decide_eq_true (by kernel_rfl)) (by unfold Func.isWrapper; first | (rw [if_pos (by decide +kernel)]; kernel_rfl) | (rw [if_neg (by decide +kernel)]; exact ⟨rfl, rfl⟩))
    (fun os started H enc _ F => by rw [OpenClaim.pre_eq_preRow]; exact lifted os started H enc F)
theorem plain (f : FuncId) (fn : Func) (hf : Tryd.pinned.checked.prog.funcNamed "thicket/thicketlaw03.ScanAgain" = some f) (hfn : Tryd.pinned.checked.prog.funcs[f]? = some fn) :
    false = Tryd.pinned.checked.prog.looks [] ∧ ∀ (j : Nat) t, fn.params[j]? = some t → Tryd.pinned.checked.prog.wantsStandIn t = false := by
  obtain rfl : f = 6 := Option.some.inj ((show Tryd.prog.funcNamed "thicket/thicketlaw03.ScanAgain" = some 6 by kernel_rfl).symm.trans hf) |>.symm
  obtain rfl : fn = Tryd.f6 := (Option.some.inj (Tryd.func6.symm.trans hfn)).symm
  refine ⟨by kernel_rfl, fun j t ht => ?_⟩
  have hp : Tryd.f6.params = #[9] := by kernel_rfl
  rw [hp] at ht
  obtain rfl : t = 9 := by simpa using Array.mem_of_getElem? ht
  exact (show Tryd.prog.wantsStandIn 9 = false by kernel_rfl)
theorem card : Rows.ScanAgainUptoCardSaid :=
  Claim7.holds_tied_plain_at .later [] _ _ _ _ said (fun _ h => by cases h) (by kernel_rfl) (fun _ h => by cases h) scanAgainUpto_row_tie rfl ⟨rfl, rfl⟩ (by kernel_rfl) rfl plain (by kernel_rfl)
end Go.Proofs.YtfnhfjpoeacoaaaDoor.scanAgain
namespace Go.Proofs.YtfnhfjpoeacoaaaDoor
theorem scanAgainUptoCard_holds : Rows.ScanAgainUptoCardSaid := scanAgain.card
#print axioms scanAgainUptoCard_holds
end Go.Proofs.YtfnhfjpoeacoaaaDoor
