/- LimbsOwn: for all inputs of bulk at most 1048576 the law answers true and its arguments stay; its card. No conditions. -/
import Derived.Test.YtfkgoofipbbhpaaDoorL43
import Derived.Test.YtfkgoofipbbhpaaDoorRow0
namespace Go.Proofs.YtfkgoofipbbhpaaDoor.limbsOwn
open Go.AM Go.AM.F limbs
set_option maxRecDepth 100000

theorem main (xs : List PV) (h : ShapeAll Tryd.prog Tryd.f9.params.toList xs) (hb : bulkL xs ≤ 1048576) : ∃ backs, Cinf T 9 xs = some (.v (.bool true), backs) := by
  have hp : Tryd.f9.params.toList = [22, 22, 48] := by kernel_rfl
  rw [hp] at h
  obtain ⟨x0, r0, n0, a0, rfl, rfl, l0, s0, x1, r1, n1, a1, rfl, rfl, l1, s1, x2, r2, n2, a2, rfl, rfl, l2, s2, rfl⟩ := h
  rw [w_nat, w_rat] at hb ⊢
  obtain ⟨v0, rfl, h0⟩ := shape_nat s0
  obtain ⟨v1, rfl, h1⟩ := shape_nat s1
  obtain ⟨vb2, vn2, vd2, rfl, hn2, hd2⟩ := shape_rat l2 s2
  simp only [mkPV, Bool.false_eq_true, if_false, if_true, List.headD_cons, bulkL, bulk] at hb ⊢
  have b0 := bulk_ul v0
  have b1 := bulk_ul v1
  have bn2 := bulk_ul vn2
  have bd2 := bulk_ul vd2
  exact c_LimbsOwn v0 v1 vb2 vn2 vd2 h0 h1 hn2 hd2 (by omega) (by omega) (by omega) (by omega)
theorem contract (H : Type) (enc : TypeId × Value → H) (W : World) (base : Nat) (args : Array Value) (ds gs : List (DataW H)) (before : List MemPlace)
    (hval : ∀ (j : Nat) t v, Tryd.f9.params[j]? = some t → args[j]? = some v → Value.okWide Tryd.prog W .any base t v)
    (hW : DataW.Whole enc Tryd.prog Tryd.f9.params.toList Rows.limbsOwnSpec.vars false W args.toList ds gs before) (hl : laidMetH Tryd.prog laid W) (hk : Rows.uptoSmall H (ds ++ gs) = true) :
    Calls Tryd.prog 9 args W fun e W' => ∃ v, e = .returned v ∧ Rows.limbsOwnSpec.post enc Tryd.prog Tryd.f9 false true false false W args v W' := by
  have _ := hl
  have hgs : gs = [] := by
    obtain ⟨p, q, _, hV, _⟩ := hW
    cases gs with
    | nil => rfl
    | cons => exact hV.elim
  subst hgs
  have hb : Rows.uptoBulkAll ds ≤ 1048576 := by
    have := of_decide_eq_true hk
    simpa using this
  refine law_calls (S := [22, 49, 48, 4]) calls_ok (by kernel_rfl) (by kernel_rfl) (by kernel_rfl) (by kernel_rfl) (rt := 4) (by kernel_rfl) Tryd.underlying4 (fun n hn => (hn rfl).elim) ?_ ?_ hval hW hb main
  · intro ds hds
    have : Tryd.f9.params.size = 3 := by kernel_rfl
    rw [this] at hds
    match ds, hds with
    | [d1, d2, d3], _ => rfl
  · intro W' q _ hV
    exact hV
theorem laid_met (os : Os) : laidMet Tryd.prog laid ((World.laidAll Tryd.prog os laid).forCall (fun _ _ => 0) ⟨#[], #[.slice none 0 0, .slice none 0 0, .agg #[.bool false, .slice none 0 0, .slice none 0 0]], []⟩).memory :=
  laidMet_laidAll _ (by kernel_rfl) (by kernel_rfl)
theorem reads (os : Os) {H : Type} (enc : TypeId × Value → H) : ∃ places, DataW.whole enc Tryd.prog ((World.laidAll Tryd.prog os laid).forCall (fun _ _ => 0) ⟨#[], #[.slice none 0 0, .slice none 0 0, .agg #[.bool false, .slice none 0 0, .slice none 0 0]], []⟩).memory Tryd.f9.params.toList Rows.limbsOwnSpec.vars false #[Value.slice none 0 0, Value.slice none 0 0, Value.agg #[.bool false, .slice none 0 0, .slice none 0 0]].toList 8 = some ([.nil, .nil, .agg [.lit (.bool false), .nil, .nil]], [], places) :=
  ⟨[], by kernel_rfl⟩
theorem lifted (os : Os) (started : os.Started) (H : Type) (enc : TypeId × Value → H) (F : Stop.Interp) :
    ReturnsInHanded {} Tryd.checked os 9 .any ((Rows.OpenSpec.upto Rows.limbsOwnSpec).preRow enc Tryd.prog Tryd.f9 Rows.limbsOwnUptoRow.domain false Rows.limbsOwnUptoRow.laid) (((Rows.OpenSpec.upto Rows.limbsOwnSpec).at F).post enc Tryd.prog Tryd.f9 false true false false) := by
  obtain ⟨places, hx⟩ := reads os enc
  refine returnsInHanded_of_row (C := Tryd.checked) (s := Rows.OpenSpec.upto Rows.limbsOwnSpec) own started (by kernel_rfl) Tryd.func9
    (witness_row_at (enc := enc) (C := Tryd.checked) false (World.laidAll Tryd.prog os laid) #[.slice none 0 0, .slice none 0 0, .agg #[.bool false, .slice none 0 0, .slice none 0 0]] (World.laidAll_os _ _ _) (by kernel_rfl) (by kernel_rfl) (by kernel_rfl)
      (OpenSpec.preRow_of_cond 8 hx (by kernel_rfl) (fun k hk => by cases hk; kernel_rfl) (by kernel_rfl) (laid_met os))) ?_
  intro W base args ds gs before hval hW _ hcond _ hL _ _
  exact contract H enc W base args ds gs before hval hW hL (hcond _ rfl)
theorem said : Rows.LimbsOwnUptoSaid :=
  OpenClaim.holds_of_cond 9 Tryd.f9 rfl rfl rfl rfl rfl rfl rfl ⟨rfl, rfl, rfl, rfl, rfl⟩ rfl rfl rfl rfl rfl (by kernel_rfl) Tryd.func9 (by kernel_rfl)
    (of_decide_eq_true (by kernel_rfl)) (by unfold Func.isWrapper; first | (rw [if_pos (by decide +kernel)]; kernel_rfl) | (rw [if_neg (by decide +kernel)]; exact ⟨rfl, rfl⟩))
    (fun os started H enc _ F => by rw [OpenClaim.pre_eq_preRow]; exact lifted os started H enc F)
theorem plain (f : FuncId) (fn : Func) (hf : Tryd.pinned.checked.prog.funcNamed "thicket/thicketlaw01.LimbsOwn" = some f) (hfn : Tryd.pinned.checked.prog.funcs[f]? = some fn) :
    false = Tryd.pinned.checked.prog.looks [] ∧ ∀ (j : Nat) t, fn.params[j]? = some t → Tryd.pinned.checked.prog.wantsStandIn t = false := by
  obtain rfl : f = 9 := Option.some.inj ((show Tryd.prog.funcNamed "thicket/thicketlaw01.LimbsOwn" = some 9 by kernel_rfl).symm.trans hf) |>.symm
  obtain rfl : fn = Tryd.f9 := (Option.some.inj (Tryd.func9.symm.trans hfn)).symm
  refine ⟨by kernel_rfl, fun j t ht => ?_⟩
  have hp : Tryd.f9.params = #[22, 22, 48] := by kernel_rfl
  rw [hp] at ht
  have hm : t = 22 ∨ t = 22 ∨ t = 48 := by simpa using Array.mem_of_getElem? ht
  rcases hm with rfl | rfl | rfl
  · exact (show Tryd.prog.wantsStandIn 22 = false by kernel_rfl)
  · exact (show Tryd.prog.wantsStandIn 22 = false by kernel_rfl)
  · exact (show Tryd.prog.wantsStandIn 48 = false by kernel_rfl)
theorem card : Rows.LimbsOwnUptoCardSaid :=
  Claim7.holds_tied_plain_at .later [] _ _ _ _ said (fun _ h => by cases h) (by kernel_rfl) (fun _ h => by cases h) limbsOwnUpto_row_tie rfl ⟨rfl, rfl⟩ (by kernel_rfl) rfl plain (by kernel_rfl)
end Go.Proofs.YtfkgoofipbbhpaaDoor.limbsOwn
namespace Go.Proofs.YtfkgoofipbbhpaaDoor
theorem limbsOwnUptoCard_holds : Rows.LimbsOwnUptoCardSaid := limbsOwn.card
#print axioms limbsOwnUptoCard_holds
end Go.Proofs.YtfkgoofipbbhpaaDoor
