/- FixedSums: for every list and all numbers of bulk at most 1048576 the law answers true and its arguments stay. No conditions. -/
import Derived.Test.YtbghahcgjnlnlaaT6
import Derived.Test.YtbghahcgjnlnlaaIrOk
import Derived.Test.YtbghahcgjnlnlaaAmRow
import Derived.WalkKit
import Derived.ProofKit
import Derived.OpenShut
import Derived.JoinedCond
namespace Go.Proofs.Ytbghahcgjnlnlaa.fixedSums
open Go.AM Go.AM.F
set_option maxRecDepth 100000

theorem own : ownKnob Try.prog.godebug = none := by kernel_rfl
theorem ints {P : Program} {e : TypeId} (he : P.underlying e = some (.int .i64)) (hw : wholeB P e = false) : ∀ {l : List (List PV)} {n : Nat}, (∀ c ∈ l, c.length = P.cellsOf e ∧ Shape P n e c) → ∃ zs : List Int, l.map (mkPV (wholeB P e)) = zs.map (fun v => PV.v (.int .i64 v)) ∧ ∀ v ∈ zs, In64 v
  | [], n, _ => ⟨[], rfl, fun _ h => (by cases h)⟩
  | c :: l, n, h => by
    obtain ⟨zs, h1, h2⟩ := ints he hw (l := l) (n := n) fun c hc => h c (by simp [hc])
    obtain ⟨_, h3⟩ := h c (by simp)
    cases n with
    | zero => exact h3.elim
    | succ n =>
      simp only [Shape, he] at h3
      obtain ⟨m, rfl, hm⟩ := h3
      refine ⟨m :: zs, by rw [List.map_cons, h1, hw]; rfl, fun v hv => ?_⟩
      rcases List.mem_cons.1 hv with rfl | hv
      · have : -9223372036854775808 ≤ v ∧ v ≤ 9223372036854775807 := by simpa [Lit.wf, IntKind.min, IntKind.max, IntKind.signed, IntKind.bits] using hm
        exact ⟨this.1, by omega⟩
      · exact h2 v hv
theorem bulk_ints : ∀ zs : List Int, zs.length ≤ bulkL (zs.map fun v => PV.v (.int .i64 v))
  | [] => Nat.le_refl _
  | v :: r => by
    have := bulk_ints r
    simp only [List.map_cons, bulkL, bulk, List.length_cons]
    omega
theorem main (xs : List PV) (h : ShapeAll Try.prog Try.f3.params.toList xs) (hb : bulkL xs ≤ 1048576) : ∃ backs, Cinf T 3 xs = some (.v (.bool true), backs) := by
  have hp : Try.f3.params.toList = [22, 2, 2] := by kernel_rfl
  rw [hp] at h
  obtain ⟨x0, r0, n0, c0, rfl, rfl, s0, x1, r1, n1, c1, rfl, rfl, s1, x2, r2, n2, c2, rfl, rfl, s2, rfl⟩ := h
  have w22 : wholeB Try.prog 22 = false := by kernel_rfl
  have w2 : wholeB Try.prog 2 = false := by kernel_rfl
  have k2 : Try.prog.cellsOf 2 = 1 := by kernel_rfl
  cases n0 with
  | zero => exact s0.elim
  | succ n0 =>
    cases n1 with
    | zero => exact s1.elim
    | succ n1 =>
      cases n2 with
      | zero => exact s2.elim
      | succ n2 =>
        simp only [Shape, Try.underlying22, Try.underlying2] at s0 s1 s2
        obtain ⟨l, rfl, hl⟩ := s0
        obtain ⟨a, rfl, ha⟩ := s1
        obtain ⟨b, rfl, hb'⟩ := s2
        obtain ⟨zs, hz, hzs⟩ := ints Try.underlying2 w2 hl
        rw [hz, k2] at hb ⊢
        rw [w22, w2] at hb ⊢
        simp only [mkPV, Bool.false_eq_true, if_false, List.headD_cons] at hb ⊢
        have hlen := bulk_ints zs
        simp only [bulkL, bulk] at hb
        have in64 : ∀ {v : Int}, (Lit.int .i64 v).wf = true → In64 v := fun {v} h => by
          have : -9223372036854775808 ≤ v ∧ v ≤ 9223372036854775807 := by simpa [Lit.wf, IntKind.min, IntKind.max, IntKind.signed, IntKind.bits] using h
          exact ⟨this.1, by omega⟩
        exact ⟨_, c_law zs a b (by omega) hzs (in64 ha) (in64 hb')⟩
theorem contract (H : Type) (enc : TypeId × Value → H) (W : World) (base : Nat) (args : Array Value) (ds gs : List (DataW H)) (before : List MemPlace)
    (hval : ∀ (j : Nat) t v, Try.f3.params[j]? = some t → args[j]? = some v → Value.okWide Try.prog W .any base t v)
    (hW : DataW.Whole enc Try.prog Try.f3.params.toList Rows.fixedSumsSpec.vars false W args.toList ds gs before) (hk : Rows.uptoSmall H (ds ++ gs) = true) :
    Calls Try.prog 3 args W fun e W' => ∃ v, e = .returned v ∧ Rows.fixedSumsSpec.post enc Try.prog Try.f3 false true false false W args v W' := by
  have hgs : gs = [] := by
    obtain ⟨p, q, _, hV, _⟩ := hW
    cases gs with
    | nil => rfl
    | cons => exact hV.elim
  subst hgs
  have hb : Rows.uptoBulkAll ds ≤ 1048576 := by
    have := of_decide_eq_true hk
    simpa using this
  refine law_calls (S := [22, 2]) calls_ok (by kernel_rfl) (by kernel_rfl) (by kernel_rfl) (by kernel_rfl) (rt := 4) (by kernel_rfl) Try.underlying4 (fun n hn => (hn rfl).elim) ?_ ?_ hval hW hb main
  · intro ds hds
    have : Try.f3.params.size = 3 := by kernel_rfl
    rw [this] at hds
    match ds, hds with
    | [d1, d2, d3], _ => rfl
  · intro W' q _ hV
    exact hV
theorem lifted (os : Os) (started : os.Started) (H : Type) (enc : TypeId × Value → H) (F : Stop.Interp) :
    ReturnsInHanded {} Try.checked os 3 .any ((Rows.OpenSpec.upto Rows.fixedSumsSpec).pre6 enc Try.prog Try.f3 Rows.fixedSumsUptoRow.domain false) (((Rows.OpenSpec.upto Rows.fixedSumsSpec).at F).post enc Try.prog Try.f3 false true false false) := by
  refine returnsInHanded_of_cond (C := Try.checked) (s := Rows.OpenSpec.upto Rows.fixedSumsSpec) (k := Rows.uptoSmall) rfl own started (by kernel_rfl) Try.func3
    (OpenSpec.witness (enc := enc) (C := Try.checked) (s := Rows.OpenSpec.upto Rows.fixedSumsSpec) (k := Rows.uptoSmall) rfl false ⟨#[], #[.slice none 0 0, .int .i64 0, .int .i64 0], []⟩ 8 (by kernel_rfl) (by kernel_rfl) (by kernel_rfl)
      (x := ([.nil, .lit (.int .i64 0), .lit (.int .i64 0)], [], [])) (by kernel_rfl) rfl (by kernel_rfl)) ?_
  intro W base args ds gs before hval hW _ hk _
  exact contract H enc W base args ds gs before hval hW hk
theorem over : Rows.fixedSumsUptoRow.holds Try.pinned (Rows.OpenSpec.upto Rows.fixedSumsSpec) :=
  OpenClaim.holds_of_cond 3 Try.f3 rfl rfl rfl rfl rfl rfl rfl ⟨rfl, rfl, rfl, rfl, rfl⟩ rfl rfl rfl rfl rfl (by kernel_rfl) Try.func3 (by kernel_rfl)
    (of_decide_eq_true (by kernel_rfl)) (by unfold Func.isWrapper; first | (rw [if_pos (by decide +kernel)]; kernel_rfl) | (rw [if_neg (by decide +kernel)]; exact ⟨rfl, rfl⟩))
    (fun os started H enc _ F => lifted os started H enc F)
end Go.Proofs.Ytbghahcgjnlnlaa.fixedSums
namespace Go.Proofs.Ytbghahcgjnlnlaa
theorem fixedSumsUpto_holds : Rows.FixedSumsUptoSaid := fixedSums.over
#print axioms fixedSumsUpto_holds
end Go.Proofs.Ytbghahcgjnlnlaa
