/- FixedBack: for all inputs of bulk at most 1048576 the law answers true and its arguments stay; its card. No conditions. -/
import Derived.Test.YtbghahcgjnlnlaaGreatDoorBb
import Derived.Test.YtbghahcgjnlnlaaGreatDoorRow0b
namespace Go.Proofs.YtbghahcgjnlnlaaGreatDoor.fixedBack
open Go.AM Go.AM.F fixed
set_option maxRecDepth 100000

theorem main (xs : List PV) (h : ShapeAll Tryz.prog Tryz.f4.params.toList xs) (hb : bulkL xs ≤ 1048576) : ∃ backs, Cinf T 4 xs = some (.v (.bool true), backs) := by
  have hp : Tryz.f4.params.toList = [2, 9] := by kernel_rfl
  rw [hp] at h
  obtain ⟨x0, r0, n0, a0, rfl, rfl, l0, s0, x1, r1, n1, a1, rfl, rfl, l1, s1, rfl⟩ := h
  rw [w_i64, w_str] at hb ⊢
  obtain ⟨v0, rfl, h0⟩ := shape_i64 s0
  obtain ⟨v1, rfl⟩ := shape_str s1
  simp only [mkPV, Bool.false_eq_true, if_false, List.headD_cons, bulkL, bulk] at hb ⊢
  exact c_FixedBack v0 v1 (by omega) (by omega) (by omega)
theorem contract (H : Type) (enc : TypeId × Value → H) (W : World) (base : Nat) (args : Array Value) (ds gs : List (DataW H)) (before : List MemPlace)
    (hval : ∀ (j : Nat) t v, Tryz.f4.params[j]? = some t → args[j]? = some v → Value.okWide Tryz.prog W .any base t v)
    (hW : DataW.Whole enc Tryz.prog Tryz.f4.params.toList Rows.fixedBackSpec.vars false W args.toList ds gs before) (hl : laidMetH Tryz.prog laid W) (hk : Rows.uptoSmall H (ds ++ gs) = true) :
    Calls Tryz.prog 4 args W fun e W' => ∃ v, e = .returned v ∧ Rows.fixedBackSpec.post enc Tryz.prog Tryz.f4 false true false false W args v W' := by
  have _ := hl
  have hgs : gs = [] := by
    obtain ⟨p, q, _, hV, _⟩ := hW
    cases gs with
    | nil => rfl
    | cons => exact hV.elim
  subst hgs
  have hb : Rows.uptoBulkAll ds ≤ 1048576 := by
    have := of_decide_eq_true hk
    simpa using this
  refine law_calls (S := [2, 9]) calls_ok (by kernel_rfl) (by kernel_rfl) (by kernel_rfl) (by kernel_rfl) (rt := 4) (by kernel_rfl) Tryz.underlying4 (globs hl) ?_ ?_ hval hW hb main
  · intro ds hds
    have : Tryz.f4.params.size = 2 := by kernel_rfl
    rw [this] at hds
    match ds, hds with
    | [d1, d2], _ => rfl
  · intro W' q _ hV
    exact hV
theorem laid_met (os : Os) : laidMet Tryz.prog laid ((World.laidAll Tryz.prog os laid).forCall (fun _ _ => 0) ⟨#[], #[.int .i64 0, .string ⟨#[]⟩], []⟩).memory :=
  laidMet_laidAll _ (by kernel_rfl) (by kernel_rfl)
theorem reads (os : Os) {H : Type} (enc : TypeId × Value → H) : ∃ places, DataW.whole enc Tryz.prog ((World.laidAll Tryz.prog os laid).forCall (fun _ _ => 0) ⟨#[], #[.int .i64 0, .string ⟨#[]⟩], []⟩).memory Tryz.f4.params.toList Rows.fixedBackSpec.vars false #[Value.int .i64 0, Value.string ⟨#[]⟩].toList 8 = some ([.lit (.int .i64 0), .lit (.string [])], [], places) :=
  ⟨[], by kernel_rfl⟩
theorem lifted (os : Os) (started : os.Started) (H : Type) (enc : TypeId × Value → H) (F : Stop.Interp) :
    ReturnsInHanded {} Tryz.checked os 4 .any ((Rows.OpenSpec.upto Rows.fixedBackSpec).preRow enc Tryz.prog Tryz.f4 Rows.fixedBackUptoRow.domain false Rows.fixedBackUptoRow.laid) (((Rows.OpenSpec.upto Rows.fixedBackSpec).at F).post enc Tryz.prog Tryz.f4 false true false false) := by
  obtain ⟨places, hx⟩ := reads os enc
  refine returnsInHanded_of_row (C := Tryz.checked) (s := Rows.OpenSpec.upto Rows.fixedBackSpec) own started (by kernel_rfl) Tryz.func4
    (witness_row_at (enc := enc) (C := Tryz.checked) false (World.laidAll Tryz.prog os laid) #[.int .i64 0, .string ⟨#[]⟩] (World.laidAll_os _ _ _) (by kernel_rfl) (by kernel_rfl) (by kernel_rfl)
      (OpenSpec.preRow_of_cond 8 hx (by kernel_rfl) (fun k hk => by cases hk; kernel_rfl) (by kernel_rfl) (laid_met os))) ?_
  intro W base args ds gs before hval hW _ hcond _ hL _ _
  exact contract H enc W base args ds gs before hval hW hL (hcond _ rfl)
theorem said : Rows.FixedBackUptoSaid :=
  OpenClaim.holds_of_cond 4 Tryz.f4 rfl rfl rfl rfl rfl rfl rfl ⟨rfl, rfl, rfl, rfl, rfl⟩ rfl rfl rfl rfl rfl (by kernel_rfl) Tryz.func4 (by kernel_rfl)
    (of_decide_eq_true (by kernel_rfl)) (by unfold Func.isWrapper; first | (rw [if_pos (by decide +kernel)]; kernel_rfl) | (rw [if_neg (by decide +kernel)]; exact ⟨rfl, rfl⟩))
    (fun os started H enc _ F => by rw [OpenClaim.pre_eq_preRow]; exact lifted os started H enc F)
theorem plain (f : FuncId) (fn : Func) (hf : Tryz.pinned.checked.prog.funcNamed "thicket/thicketlaw04.FixedBack" = some f) (hfn : Tryz.pinned.checked.prog.funcs[f]? = some fn) :
    false = Tryz.pinned.checked.prog.looks [] ∧ ∀ (j : Nat) t, fn.params[j]? = some t → Tryz.pinned.checked.prog.wantsStandIn t = false := by
  obtain rfl : f = 4 := Option.some.inj ((show Tryz.prog.funcNamed "thicket/thicketlaw04.FixedBack" = some 4 by kernel_rfl).symm.trans hf) |>.symm
  obtain rfl : fn = Tryz.f4 := (Option.some.inj (Tryz.func4.symm.trans hfn)).symm
  refine ⟨by kernel_rfl, fun j t ht => ?_⟩
  have hp : Tryz.f4.params = #[2, 9] := by kernel_rfl
  rw [hp] at ht
  have hm : t = 2 ∨ t = 9 := by simpa using Array.mem_of_getElem? ht
  rcases hm with rfl | rfl
  · exact (show Tryz.prog.wantsStandIn 2 = false by kernel_rfl)
  · exact (show Tryz.prog.wantsStandIn 9 = false by kernel_rfl)
theorem card : Rows.FixedBackUptoCardSaid :=
  Claim7.holds_tied_plain_at .later [] _ _ _ _ said (fun _ h => by cases h) (by kernel_rfl) (fun _ h => by cases h) fixedBackUpto_row_tie rfl ⟨rfl, rfl⟩ (by kernel_rfl) rfl plain (by kernel_rfl)
end Go.Proofs.YtbghahcgjnlnlaaGreatDoor.fixedBack
namespace Go.Proofs.YtbghahcgjnlnlaaGreatDoor
theorem fixedBackUptoCard_holds : Rows.FixedBackUptoCardSaid := fixedBack.card
#print axioms fixedBackUptoCard_holds
end Go.Proofs.YtbghahcgjnlnlaaGreatDoor
