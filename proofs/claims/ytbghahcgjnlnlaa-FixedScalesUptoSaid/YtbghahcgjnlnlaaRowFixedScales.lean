/- FixedScales: for all three numbers the law answers true and its arguments stay. No conditions. -/
import Derived.Test.YtbghahcgjnlnlaaN5
import Derived.Test.YtbghahcgjnlnlaaIrOk
import Derived.Test.YtbghahcgjnlnlaaAmRow
import Derived.WalkKit
import Derived.ProofKit
import Derived.OpenShut
import Derived.JoinedCond
namespace Go.Proofs.Ytbghahcgjnlnlaa.fixedScales
open Go.AM Go.AM.F
set_option maxRecDepth 100000

theorem own : ownKnob Try.prog.godebug = none := by kernel_rfl
theorem w_i64 : wholeB Try.prog 2 = false := by kernel_rfl
theorem shape_i64 {n : Nat} {c : List PV} (h : Shape Try.prog n 2 c) : ∃ v : Int, c = [.v (.int .i64 v)] ∧ -9223372036854775808 ≤ v ∧ v ≤ 9223372036854775807 := by
  cases n with
  | zero => exact h.elim
  | succ n =>
    simp only [Shape, Try.underlying2] at h
    obtain ⟨m, rfl, hm⟩ := h
    exact ⟨m, rfl, by simpa [Lit.wf, IntKind.min, IntKind.max, IntKind.signed, IntKind.bits] using hm⟩
theorem main (xs : List PV) (h : ShapeAll Try.prog Try.f4.params.toList xs) (hb : bulkL xs ≤ 1048576) : ∃ backs, Cinf T 4 xs = some (.v (.bool true), backs) := by
  have _ := hb
  have hp : Try.f4.params.toList = [2, 2, 2] := by kernel_rfl
  rw [hp] at h
  obtain ⟨x0, r0, n0, c0, rfl, rfl, _, s0, x1, r1, n1, c1, rfl, rfl, _, s1, x2, r2, n2, c2, rfl, rfl, _, s2, rfl⟩ := h
  obtain ⟨v0, rfl, h0⟩ := shape_i64 s0
  obtain ⟨v1, rfl, h1⟩ := shape_i64 s1
  obtain ⟨v2, rfl, h2⟩ := shape_i64 s2
  rw [w_i64]
  simp only [mkPV, Bool.false_eq_true, if_false, List.headD_cons]
  exact ⟨_, c_FixedScales v0 v1 v2 (by omega) (by omega) (by omega) (by omega) (by omega) (by omega)⟩
theorem contract (H : Type) (enc : TypeId × Value → H) (W : World) (base : Nat) (args : Array Value) (ds gs : List (DataW H)) (before : List MemPlace)
    (hval : ∀ (j : Nat) t v, Try.f4.params[j]? = some t → args[j]? = some v → Value.okWide Try.prog W .any base t v)
    (hW : DataW.Whole enc Try.prog Try.f4.params.toList Rows.fixedScalesSpec.vars false W args.toList ds gs before) (hk : Rows.uptoSmall H (ds ++ gs) = true) :
    Calls Try.prog 4 args W fun e W' => ∃ v, e = .returned v ∧ Rows.fixedScalesSpec.post enc Try.prog Try.f4 false true false false W args v W' := by
  have hgs : gs = [] := by
    obtain ⟨p, q, _, hV, _⟩ := hW
    cases gs with
    | nil => rfl
    | cons => exact hV.elim
  subst hgs
  have hb : Rows.uptoBulkAll ds ≤ 1048576 := by
    have := of_decide_eq_true hk
    simpa using this
  refine law_calls (S := [2]) calls_ok (by kernel_rfl) (by kernel_rfl) (by kernel_rfl) (by kernel_rfl) (rt := 4) (by kernel_rfl) Try.underlying4 (fun n hn => (hn rfl).elim) ?_ ?_ hval hW hb main
  · intro ds hds
    have : Try.f4.params.size = 3 := by kernel_rfl
    rw [this] at hds
    match ds, hds with
    | [d1, d2, d3], _ => rfl
  · intro W' q _ hV
    exact hV
theorem lifted (os : Os) (started : os.Started) (H : Type) (enc : TypeId × Value → H) (F : Stop.Interp) :
    ReturnsInHanded {} Try.checked os 4 .any ((Rows.OpenSpec.upto Rows.fixedScalesSpec).pre6 enc Try.prog Try.f4 Rows.fixedScalesUptoRow.domain false) (((Rows.OpenSpec.upto Rows.fixedScalesSpec).at F).post enc Try.prog Try.f4 false true false false) := by
  refine returnsInHanded_of_cond (C := Try.checked) (s := Rows.OpenSpec.upto Rows.fixedScalesSpec) (k := Rows.uptoSmall) rfl own started (by kernel_rfl) Try.func4
    (OpenSpec.witness (enc := enc) (C := Try.checked) (s := Rows.OpenSpec.upto Rows.fixedScalesSpec) (k := Rows.uptoSmall) rfl false ⟨#[], #[.int .i64 0, .int .i64 0, .int .i64 0], []⟩ 8 (by kernel_rfl) (by kernel_rfl) (by kernel_rfl)
      (x := ([.lit (.int .i64 0), .lit (.int .i64 0), .lit (.int .i64 0)], [], [])) (by kernel_rfl) rfl (by kernel_rfl)) ?_
  intro W base args ds gs before hval hW _ hk _
  exact contract H enc W base args ds gs before hval hW hk
theorem over : Rows.fixedScalesUptoRow.holds Try.pinned (Rows.OpenSpec.upto Rows.fixedScalesSpec) :=
  OpenClaim.holds_of_cond 4 Try.f4 rfl rfl rfl rfl rfl rfl rfl ⟨rfl, rfl, rfl, rfl, rfl⟩ rfl rfl rfl rfl rfl (by kernel_rfl) Try.func4 (by kernel_rfl)
    (of_decide_eq_true (by kernel_rfl)) (by unfold Func.isWrapper; first | (rw [if_pos (by decide +kernel)]; kernel_rfl) | (rw [if_neg (by decide +kernel)]; exact ⟨rfl, rfl⟩))
    (fun os started H enc _ F => lifted os started H enc F)
end Go.Proofs.Ytbghahcgjnlnlaa.fixedScales
namespace Go.Proofs.Ytbghahcgjnlnlaa
theorem fixedScalesUpto_holds : Rows.FixedScalesUptoSaid := fixedScales.over
#print axioms fixedScalesUpto_holds
end Go.Proofs.Ytbghahcgjnlnlaa
