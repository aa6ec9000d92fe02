/- TopQuotient: for all inputs of bulk at most 1048576 the law answers true and its arguments stay; its card. No conditions. -/
import Derived.Test.YtlokekpiajholaaDoorQb
import Derived.Test.YtlokekpiajholaaDoorRow0t
namespace Go.Proofs.YtlokekpiajholaaDoor.topQuotient
open Go.AM Go.AM.F topq
set_option maxRecDepth 100000

theorem main (xs : List PV) (h : ShapeAll Tryd.prog Tryd.f3.params.toList xs) (hb : bulkL xs ≤ 1048576) : ∃ backs, Cinf T 3 xs = some (.v (.bool true), backs) := by
  have hp : Tryd.f3.params.toList = [9, 3, 3] := by kernel_rfl
  rw [hp] at h
  obtain ⟨x0, r0, n0, a0, rfl, rfl, l0, s0, x1, r1, n1, a1, rfl, rfl, l1, s1, x2, r2, n2, a2, rfl, rfl, l2, s2, rfl⟩ := h
  rw [w_str, w_int] at hb ⊢
  obtain ⟨v0, rfl⟩ := shape_str s0
  obtain ⟨v1, rfl, h1⟩ := shape_int s1
  obtain ⟨v2, rfl, h2⟩ := shape_int s2
  simp only [mkPV, Bool.false_eq_true, if_false, List.headD_cons, bulkL, bulk] at hb ⊢
  exact c_TopQuotient v0 v1 v2 (by omega)
theorem contract (H : Type) (enc : TypeId × Value → H) (W : World) (base : Nat) (args : Array Value) (ds gs : List (DataW H)) (before : List MemPlace)
    (hval : ∀ (j : Nat) t v, Tryd.f3.params[j]? = some t → args[j]? = some v → Value.okWide Tryd.prog W .any base t v)
    (hW : DataW.Whole enc Tryd.prog Tryd.f3.params.toList Rows.topQuotientSpec.vars false W args.toList ds gs before) (hl : laidMetH Tryd.prog laid W) (hk : Rows.uptoSmall H (ds ++ gs) = true) :
    Calls Tryd.prog 3 args W fun e W' => ∃ v, e = .returned v ∧ Rows.topQuotientSpec.post enc Tryd.prog Tryd.f3 false true false false W args v W' := by
  have _ := hl
  have hgs : gs = [] := by
    obtain ⟨p, q, _, hV, _⟩ := hW
    cases gs with
    | nil => rfl
    | cons => exact hV.elim
  subst hgs
  have hb : Rows.uptoBulkAll ds ≤ 1048576 := by
    have := of_decide_eq_true hk
    simpa using this
  refine law_calls (S := [9, 3]) calls_ok (by kernel_rfl) (by kernel_rfl) (by kernel_rfl) (by kernel_rfl) (rt := 4) (by kernel_rfl) Tryd.underlying4 (globs hl) ?_ ?_ hval hW hb main
  · intro ds hds
    have : Tryd.f3.params.size = 3 := by kernel_rfl
    rw [this] at hds
    match ds, hds with
    | [d1, d2, d3], _ => rfl
  · intro W' q _ hV
    exact hV
theorem laid_met (os : Os) : laidMet Tryd.prog laid ((World.laidAll Tryd.prog os laid).forCall (fun _ _ => 0) ⟨#[], #[.string ⟨#[]⟩, .int .i64 0, .int .i64 0], []⟩).memory :=
  laidMet_laidAll _ (by kernel_rfl) (by kernel_rfl)
theorem reads (os : Os) {H : Type} (enc : TypeId × Value → H) : ∃ places, DataW.whole enc Tryd.prog ((World.laidAll Tryd.prog os laid).forCall (fun _ _ => 0) ⟨#[], #[.string ⟨#[]⟩, .int .i64 0, .int .i64 0], []⟩).memory Tryd.f3.params.toList Rows.topQuotientSpec.vars false #[Value.string ⟨#[]⟩, Value.int .i64 0, Value.int .i64 0].toList 8 = some ([.lit (.string []), .lit (.int .i64 0), .lit (.int .i64 0)], [], places) :=
  ⟨[], by kernel_rfl⟩
theorem lifted (os : Os) (started : os.Started) (H : Type) (enc : TypeId × Value → H) (F : Stop.Interp) :
    ReturnsInHanded {} Tryd.checked os 3 .any ((Rows.OpenSpec.upto Rows.topQuotientSpec).preRow enc Tryd.prog Tryd.f3 Rows.topQuotientUptoRow.domain false Rows.topQuotientUptoRow.laid) (((Rows.OpenSpec.upto Rows.topQuotientSpec).at F).post enc Tryd.prog Tryd.f3 false true false false) := by
  obtain ⟨places, hx⟩ := reads os enc
  refine returnsInHanded_of_row (C := Tryd.checked) (s := Rows.OpenSpec.upto Rows.topQuotientSpec) own started (by kernel_rfl) Tryd.func3
    (witness_row_at (enc := enc) (C := Tryd.checked) false (World.laidAll Tryd.prog os laid) #[.string ⟨#[]⟩, .int .i64 0, .int .i64 0] (World.laidAll_os _ _ _) (by kernel_rfl) (by kernel_rfl) (by kernel_rfl)
      (OpenSpec.preRow_of_cond 8 hx (by kernel_rfl) (fun k hk => by cases hk; kernel_rfl) (by kernel_rfl) (laid_met os))) ?_
  intro W base args ds gs before hval hW _ hcond _ hL _ _
  exact contract H enc W base args ds gs before hval hW hL (hcond _ rfl)
theorem said : Rows.TopQuotientUptoSaid :=
  OpenClaim.holds_of_cond 3 Tryd.f3 rfl rfl rfl rfl rfl rfl rfl ⟨rfl, rfl, rfl, rfl, rfl⟩ rfl rfl rfl rfl rfl (by kernel_rfl) Tryd.func3 (by kernel_rfl)
    (of_decide_eq_true (by kernel_rfl)) (by unfold Func.isWrapper; first | (rw [if_pos (by decide +kernel)]; kernel_rfl) | (rw [if_neg (by decide +kernel)]; exact ⟨rfl, rfl⟩))
    (fun os started H enc _ F => by rw [OpenClaim.pre_eq_preRow]; exact lifted os started H enc F)
theorem plain (f : FuncId) (fn : Func) (hf : Tryd.pinned.checked.prog.funcNamed "thicket/thickettop.TopQuotient" = some f) (hfn : Tryd.pinned.checked.prog.funcs[f]? = some fn) :
    false = Tryd.pinned.checked.prog.looks [] ∧ ∀ (j : Nat) t, fn.params[j]? = some t → Tryd.pinned.checked.prog.wantsStandIn t = false := by
  obtain rfl : f = 3 := Option.some.inj ((show Tryd.prog.funcNamed "thicket/thickettop.TopQuotient" = some 3 by kernel_rfl).symm.trans hf) |>.symm
  obtain rfl : fn = Tryd.f3 := (Option.some.inj (Tryd.func3.symm.trans hfn)).symm
  refine ⟨by kernel_rfl, fun j t ht => ?_⟩
  have hp : Tryd.f3.params = #[9, 3, 3] := by kernel_rfl
  rw [hp] at ht
  have hm : t = 9 ∨ t = 3 ∨ t = 3 := by simpa using Array.mem_of_getElem? ht
  rcases hm with rfl | rfl | rfl
  · exact (show Tryd.prog.wantsStandIn 9 = false by kernel_rfl)
  · exact (show Tryd.prog.wantsStandIn 3 = false by kernel_rfl)
  · exact (show Tryd.prog.wantsStandIn 3 = false by kernel_rfl)
theorem card : Rows.TopQuotientUptoCardSaid :=
  Claim7.holds_tied_plain_at .later [] _ _ _ _ said (fun _ h => by cases h) (by kernel_rfl) (fun _ h => by cases h) topQuotientUpto_row_tie rfl ⟨rfl, rfl⟩ (by kernel_rfl) rfl plain (by kernel_rfl)
end Go.Proofs.YtlokekpiajholaaDoor.topQuotient
namespace Go.Proofs.YtlokekpiajholaaDoor
theorem topQuotientUptoCard_holds : Rows.TopQuotientUptoCardSaid := topQuotient.card
#print axioms topQuotientUptoCard_holds
end Go.Proofs.YtlokekpiajholaaDoor
