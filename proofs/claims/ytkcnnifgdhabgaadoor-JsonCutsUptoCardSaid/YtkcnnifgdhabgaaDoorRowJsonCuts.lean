/- JsonCuts: for all inputs of bulk at most 1048576 the law answers true and its arguments stay; its card. No conditions. -/
import Derived.Test.YtkcnnifgdhabgaaDoorC3
import Derived.Test.YtkcnnifgdhabgaaDoorRow1j
namespace Go.Proofs.YtkcnnifgdhabgaaDoor.jsonCuts
open Go.AM Go.AM.F jsonRows
set_option maxRecDepth 100000

theorem main (xs : List PV) (h : ShapeAll Tryd.prog Tryd.f6.params.toList xs) (hb : bulkL xs ≤ 1048576) : ∃ backs, Cinf T 6 xs = some (.v (.bool true), backs) := by
  have hp : Tryd.f6.params.toList = [27, 3] := by kernel_rfl
  rw [hp] at h
  obtain ⟨x0, r0, n0, a0, rfl, rfl, l0, s0, x1, r1, n1, a1, rfl, rfl, l1, s1, rfl⟩ := h
  rw [w_json, w_int] at hb ⊢
  rw [c_json] at l0
  obtain ⟨v0, j0⟩ := shape_json n0 a0 l0 s0
  obtain ⟨v1, rfl, h1⟩ := shape_int s1
  simp only [mkPV, Bool.false_eq_true, if_false, if_true, List.headD_cons, bulkL, j0] at hb ⊢
  simp only [bulk] at hb
  exact ⟨_, c_JsonCuts v0 v1 (ok_of_bulk v0 (by omega)) (by have := wt_bulk v0; omega)⟩
theorem contract (H : Type) (enc : TypeId × Value → H) (W : World) (base : Nat) (args : Array Value) (ds gs : List (DataW H)) (before : List MemPlace)
    (hval : ∀ (j : Nat) t v, Tryd.f6.params[j]? = some t → args[j]? = some v → Value.okWide Tryd.prog W .any base t v)
    (hW : DataW.Whole enc Tryd.prog Tryd.f6.params.toList Rows.jsonCutsSpec.vars false W args.toList ds gs before) (hl : laidMetH Tryd.prog laid W) (hk : Rows.uptoSmall H (ds ++ gs) = true) :
    Calls Tryd.prog 6 args W fun e W' => ∃ v, e = .returned v ∧ Rows.jsonCutsSpec.post enc Tryd.prog Tryd.f6 false true false false W args v W' := by
  have _ := hl
  have hgs : gs = [] := by
    obtain ⟨p, q, _, hV, _⟩ := hW
    cases gs with
    | nil => rfl
    | cons => exact hV.elim
  subst hgs
  have hb : Rows.uptoBulkAll ds ≤ 1048576 := by
    have := of_decide_eq_true hk
    simpa using this
  refine law_calls (S := [27, 23, 9, 24, 25, 3]) calls_ok (by kernel_rfl) (by kernel_rfl) (by kernel_rfl) (by kernel_rfl) (rt := 4) (by kernel_rfl) Tryd.underlying4 (globs hl) ?_ ?_ hval hW hb main
  · intro ds hds
    have : Tryd.f6.params.size = 2 := by kernel_rfl
    rw [this] at hds
    match ds, hds with
    | [d1, d2], _ => rfl
  · intro W' q _ hV
    exact hV
theorem laid_met (os : Os) : laidMet Tryd.prog laid ((World.laidAll Tryd.prog os laid).forCall (fun _ _ => 0) ⟨#[], #[.agg #[.int .u8 0, .string ⟨#[]⟩, .slice none 0 0, .slice none 0 0], .int .i64 0], []⟩).memory :=
  laidMet_laidAll _ (by kernel_rfl) (by kernel_rfl)
theorem reads (os : Os) {H : Type} (enc : TypeId × Value → H) : ∃ places, DataW.whole enc Tryd.prog ((World.laidAll Tryd.prog os laid).forCall (fun _ _ => 0) ⟨#[], #[.agg #[.int .u8 0, .string ⟨#[]⟩, .slice none 0 0, .slice none 0 0], .int .i64 0], []⟩).memory Tryd.f6.params.toList Rows.jsonCutsSpec.vars false #[Value.agg #[.int .u8 0, .string ⟨#[]⟩, .slice none 0 0, .slice none 0 0], Value.int .i64 0].toList 8 = some ([.agg [.lit (.int .u8 0), .lit (.string []), .nil, .nil], .lit (.int .i64 0)], [], places) :=
  ⟨[], by kernel_rfl⟩
theorem lifted (os : Os) (started : os.Started) (H : Type) (enc : TypeId × Value → H) (F : Stop.Interp) :
    ReturnsInHanded {} Tryd.checked os 6 .any ((Rows.OpenSpec.upto Rows.jsonCutsSpec).preRow enc Tryd.prog Tryd.f6 Rows.jsonCutsUptoRow.domain false Rows.jsonCutsUptoRow.laid) (((Rows.OpenSpec.upto Rows.jsonCutsSpec).at F).post enc Tryd.prog Tryd.f6 false true false false) := by
  obtain ⟨places, hx⟩ := reads os enc
  refine returnsInHanded_of_row (C := Tryd.checked) (s := Rows.OpenSpec.upto Rows.jsonCutsSpec) own started (by kernel_rfl) Tryd.func6
    (witness_row_at (enc := enc) (C := Tryd.checked) false (World.laidAll Tryd.prog os laid) #[.agg #[.int .u8 0, .string ⟨#[]⟩, .slice none 0 0, .slice none 0 0], .int .i64 0] (World.laidAll_os _ _ _) (by kernel_rfl) (by kernel_rfl) (by kernel_rfl)
      (OpenSpec.preRow_of_cond 8 hx (by kernel_rfl) (fun k hk => by cases hk; kernel_rfl) (by kernel_rfl) (laid_met os))) ?_
  intro W base args ds gs before hval hW _ hcond _ hL _ _
  exact contract H enc W base args ds gs before hval hW hL (hcond _ rfl)
theorem said : Rows.JsonCutsUptoSaid :=
  OpenClaim.holds_of_cond 6 Tryd.f6 rfl rfl rfl rfl rfl rfl rfl ⟨rfl, rfl, rfl, rfl, rfl⟩ rfl rfl rfl rfl rfl (by kernel_rfl) Tryd.func6 (by kernel_rfl)
    (of_decide_eq_true (by kernel_rfl)) (by unfold Func.isWrapper; first | (rw [if_pos (by decide +kernel)]; kernel_rfl) | (rw [if_neg (by decide +kernel)]; exact ⟨rfl, rfl⟩))
    (fun os started H enc _ F => by rw [OpenClaim.pre_eq_preRow]; exact lifted os started H enc F)
theorem plain (f : FuncId) (fn : Func) (hf : Tryd.pinned.checked.prog.funcNamed "thicket/thicketlaw10.JsonCuts" = some f) (hfn : Tryd.pinned.checked.prog.funcs[f]? = some fn) :
    true = Tryd.pinned.checked.prog.looks [] ∧ ∀ (j : Nat) t, fn.params[j]? = some t → Tryd.pinned.checked.prog.wantsStandIn t = false := by
  obtain rfl : f = 6 := Option.some.inj ((show Tryd.prog.funcNamed "thicket/thicketlaw10.JsonCuts" = some 6 by kernel_rfl).symm.trans hf) |>.symm
  obtain rfl : fn = Tryd.f6 := (Option.some.inj (Tryd.func6.symm.trans hfn)).symm
  refine ⟨by kernel_rfl, fun j t ht => ?_⟩
  have hp : Tryd.f6.params = #[27, 3] := by kernel_rfl
  rw [hp] at ht
  have hm : t = 27 ∨ t = 3 := by simpa using Array.mem_of_getElem? ht
  rcases hm with rfl | rfl
  · exact (show Tryd.prog.wantsStandIn 27 = false by kernel_rfl)
  · exact (show Tryd.prog.wantsStandIn 3 = false by kernel_rfl)
theorem card : Rows.JsonCutsUptoCardSaid :=
  Claim7.holds_tied_plain_at .later [] _ _ _ _ said (fun _ h => by cases h) (by kernel_rfl) (fun _ h => by cases h) jsonCutsUpto_row_tie rfl ⟨rfl, rfl⟩ (by kernel_rfl) rfl plain (by kernel_rfl)
end Go.Proofs.YtkcnnifgdhabgaaDoor.jsonCuts
namespace Go.Proofs.YtkcnnifgdhabgaaDoor
theorem jsonCutsUptoCard_holds : Rows.JsonCutsUptoCardSaid := jsonCuts.card
#print axioms jsonCutsUptoCard_holds
end Go.Proofs.YtkcnnifgdhabgaaDoor
