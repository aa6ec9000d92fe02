/- JsonGets: for all values and names of bulk at most 1048576 the law answers true and its arguments stay. No conditions. -/
import Derived.Test.YtkcnnifgdhabgaaJ4
import Derived.Test.YtkcnnifgdhabgaaIrOk
import Derived.Test.YtkcnnifgdhabgaaAmRow
import Derived.WalkKit
import Derived.ProofKit
import Derived.OpenShut
import Derived.JoinedCond
namespace Go.Proofs.Ytkcnnifgdhabgaa.jsonGets
open Go.AM Go.AM.F
set_option maxRecDepth 100000

theorem own : ownKnob Try.prog.godebug = none := by kernel_rfl
theorem w26 : wholeB Try.prog 26 = true := by kernel_rfl
theorem w9 : wholeB Try.prog 9 = false := by kernel_rfl
theorem c26 : Try.prog.cellsOf 26 = 4 := by kernel_rfl
theorem c24 : Try.prog.cellsOf 24 = 1 := by kernel_rfl
theorem c23 : Try.prog.cellsOf 23 = 1 := by kernel_rfl
theorem c22 : Try.prog.cellsOf 22 = 1 := by kernel_rfl
theorem c9 : Try.prog.cellsOf 9 = 1 := by kernel_rfl
theorem shape_int {n : Nat} {c : List PV} (h : Shape Try.prog n 22 c) : ∃ k, c = [.v (.int .u8 k)] := by
  cases n with
  | zero => exact h.elim
  | succ n =>
    simp only [Shape, Try.underlying22] at h
    obtain ⟨m, rfl, _⟩ := h
    exact ⟨m, rfl⟩
theorem shape_str {n : Nat} {c : List PV} (h : Shape Try.prog n 9 c) : ∃ s, c = [str s] := by
  cases n with
  | zero => exact h.elim
  | succ n =>
    simp only [Shape, Try.underlying9] at h
    exact h
theorem strs_of : ∀ {l : List (List PV)} {n : Nat}, (∀ c ∈ l, c.length = Try.prog.cellsOf 9 ∧ Shape Try.prog n 9 c) → ∃ ns : List ByteArray, l.map (mkPV false) = ns.map str
  | [], _, _ => ⟨[], rfl⟩
  | c :: l, n, h => by
    obtain ⟨ns, h1⟩ := strs_of (l := l) (n := n) fun c hc => h c (by simp [hc])
    obtain ⟨s, rfl⟩ := shape_str (h c (by simp)).2
    exact ⟨s :: ns, by rw [List.map_cons, h1]; rfl⟩
theorem shape_strs {n : Nat} {c : List PV} (h : Shape Try.prog n 23 c) : ∃ ns : List ByteArray, c = [.ro 1 (ns.map str)] := by
  cases n with
  | zero => exact h.elim
  | succ n =>
    simp only [Shape, Try.underlying23, w9, c9] at h
    obtain ⟨l, rfl, hl⟩ := h
    obtain ⟨ns, hns⟩ := strs_of (n := n) (fun c hc => by rw [c9]; exact hl c hc)
    exact ⟨ns, by rw [hns]⟩
/-- A JSON value, read. -/
theorem shape_json : ∀ (n : Nat) (c : List PV), c.length = 4 → Shape Try.prog n 26 c → ∃ j : J, PV.agg c = j.pv
  | 0, _, _, h => h.elim
  | n + 1, c, hc, h => by
    simp only [Shape, Try.underlying26] at h
    have f0 := h ⟨"Kind", 22, 0, false, "", "", 0⟩ (by simp)
    have f1 := h ⟨"Text", 9, 1, false, "", "", 8⟩ (by simp)
    have f2 := h ⟨"Names", 23, 2, false, "", "", 24⟩ (by simp)
    have f3 := h ⟨"Items", 24, 3, false, "", "", 48⟩ (by simp)
    match c, hc with
    | [a, b, d, e], _ =>
      simp only [c22, c9, c23, c24, List.drop_zero, List.drop_succ_cons, List.take_succ_cons, List.take_zero] at f0 f1 f2 f3
      obtain ⟨k, hk⟩ := shape_int f0
      obtain ⟨t, ht⟩ := shape_str f1
      obtain ⟨ns, hns⟩ := shape_strs f2
      cases n with
      | zero => exact f3.elim
      | succ n =>
        simp only [Shape, Try.underlying24, w26, c26] at f3
        obtain ⟨l, hl, hel⟩ := f3
        have key : ∀ l : List (List PV), (∀ c ∈ l, c.length = 4 ∧ Shape Try.prog n 26 c) → ∃ is : List J, l.map (mkPV true) = is.map J.pv := by
          intro l
          induction l with
          | nil => intro _; exact ⟨[], rfl⟩
          | cons c l ih =>
            intro hm
            obtain ⟨is, h1⟩ := ih fun c hc => hm c (by simp [hc])
            obtain ⟨h2, h3⟩ := hm c (by simp)
            obtain ⟨j, hj⟩ := shape_json n c h2 h3
            exact ⟨j :: is, by rw [List.map_cons, h1, List.map_cons, ← hj]; rfl⟩
        obtain ⟨is, his⟩ := key l hel
        rw [his] at hl
        simp only [List.cons.injEq, and_true] at hk ht hns hl
        refine ⟨.mk k t ns is, ?_⟩
        rw [J.pv_mk, hk, ht, hns, hl]
        rfl
theorem bulk_strs : ∀ ns : List ByteArray, ns.length ≤ bulkL (ns.map str)
  | [] => Nat.le_refl _
  | s :: r => by
    have := bulk_strs r
    simp only [List.map_cons, bulkL, str, bulk, List.length_cons]
    omega
mutual
theorem ok_of_bulk : ∀ j : J, bulk j.pv ≤ 1048576 → j.Ok
  | .mk k t ns is, h => by
    simp only [J.pv, strs, bulk, bulkL] at h
    have h1 := bulk_strs ns
    obtain ⟨h2, h3⟩ := okL_of_bulk is (by omega)
    exact ⟨by omega, by omega, h2⟩
theorem okL_of_bulk : ∀ l : List J, bulkL (J.pvL l) ≤ 1048576 → J.OkL l ∧ l.length ≤ bulkL (J.pvL l)
  | [], _ => ⟨trivial, Nat.le_refl _⟩
  | j :: r, h => by
    simp only [J.pvL, bulkL] at h ⊢
    obtain ⟨h1, h2⟩ := okL_of_bulk r (by omega)
    have h3 := ok_of_bulk j (by omega)
    refine ⟨⟨h3, h1⟩, ?_⟩
    have : 1 ≤ bulk j.pv := by
      obtain ⟨k, t, ns, is⟩ := j
      simp only [J.pv, bulk, bulkL]
      omega
    simp only [List.length_cons]
    omega
end
theorem main (xs : List PV) (h : ShapeAll Try.prog Try.f3.params.toList xs) (hb : bulkL xs ≤ 1048576) : ∃ backs, Cinf T 3 xs = some (.v (.bool true), backs) := by
  have hp : Try.f3.params.toList = [26, 26, 9] := by kernel_rfl
  rw [hp] at h
  obtain ⟨x0, r0, n0, a0, rfl, rfl, l0, s0, x1, r1, n1, a1, rfl, rfl, l1, s1, x2, r2, n2, a2, rfl, rfl, l2, s2, rfl⟩ := h
  rw [c26] at l0 l1
  rw [w26, w9] at hb ⊢
  obtain ⟨v, hv⟩ := shape_json n0 a0 l0 s0
  obtain ⟨w, hw⟩ := shape_json n1 a1 l1 s1
  obtain ⟨name, rfl⟩ := shape_str s2
  simp only [mkPV, if_true, Bool.false_eq_true, if_false, List.headD_cons, hv, hw, bulkL] at hb ⊢
  exact ⟨_, c_law v w name (ok_of_bulk v (by omega)) (ok_of_bulk w (by omega))⟩
theorem contract (H : Type) (enc : TypeId × Value → H) (W : World) (base : Nat) (args : Array Value) (ds gs : List (DataW H)) (before : List MemPlace)
    (hval : ∀ (j : Nat) t v, Try.f3.params[j]? = some t → args[j]? = some v → Value.okWide Try.prog W .any base t v)
    (hW : DataW.Whole enc Try.prog Try.f3.params.toList Rows.jsonGetsSpec.vars false W args.toList ds gs before) (hk : Rows.uptoSmall H (ds ++ gs) = true) :
    Calls Try.prog 3 args W fun e W' => ∃ v, e = .returned v ∧ Rows.jsonGetsSpec.post enc Try.prog Try.f3 false true false false W args v W' := by
  have hgs : gs = [] := by
    obtain ⟨p, q, _, hV, _⟩ := hW
    cases gs with
    | nil => rfl
    | cons => exact hV.elim
  subst hgs
  have hb : Rows.uptoBulkAll ds ≤ 1048576 := by
    have := of_decide_eq_true hk
    simpa using this
  refine law_calls (S := [26, 24, 23, 22, 9]) calls_ok (by kernel_rfl) (by kernel_rfl) (by kernel_rfl) (by kernel_rfl) (rt := 4) (by kernel_rfl) Try.underlying4 (fun n hn => (hn rfl).elim) ?_ ?_ hval hW hb main
  · intro ds hds
    have : Try.f3.params.size = 3 := by kernel_rfl
    rw [this] at hds
    match ds, hds with
    | [d1, d2, d3], _ => rfl
  · intro W' q _ hV
    exact hV
theorem lifted (os : Os) (started : os.Started) (H : Type) (enc : TypeId × Value → H) (F : Stop.Interp) :
    ReturnsInHanded {} Try.checked os 3 .any ((Rows.OpenSpec.upto Rows.jsonGetsSpec).pre6 enc Try.prog Try.f3 Rows.jsonGetsUptoRow.domain false) (((Rows.OpenSpec.upto Rows.jsonGetsSpec).at F).post enc Try.prog Try.f3 false true false false) := by
  refine returnsInHanded_of_cond (C := Try.checked) (s := Rows.OpenSpec.upto Rows.jsonGetsSpec) (k := Rows.uptoSmall) rfl own started (by kernel_rfl) Try.func3
    (OpenSpec.witness (enc := enc) (C := Try.checked) (s := Rows.OpenSpec.upto Rows.jsonGetsSpec) (k := Rows.uptoSmall) rfl false ⟨#[], #[.agg #[.int .u8 0, .string ⟨#[]⟩, .slice none 0 0, .slice none 0 0], .agg #[.int .u8 0, .string ⟨#[]⟩, .slice none 0 0, .slice none 0 0], .string ⟨#[]⟩], []⟩ 8 (by kernel_rfl) (by kernel_rfl) (by kernel_rfl)
      (x := ([.agg [.lit (.int .u8 0), .lit (.string []), .nil, .nil], .agg [.lit (.int .u8 0), .lit (.string []), .nil, .nil], .lit (.string [])], [], [])) (by kernel_rfl) rfl (by kernel_rfl)) ?_
  intro W base args ds gs before hval hW _ hk _
  exact contract H enc W base args ds gs before hval hW hk
theorem over : Rows.jsonGetsUptoRow.holds Try.pinned (Rows.OpenSpec.upto Rows.jsonGetsSpec) :=
  OpenClaim.holds_of_cond 3 Try.f3 rfl rfl rfl rfl rfl rfl rfl ⟨rfl, rfl, rfl, rfl, rfl⟩ rfl rfl rfl rfl rfl (by kernel_rfl) Try.func3 (by kernel_rfl)
    (of_decide_eq_true (by kernel_rfl)) (by unfold Func.isWrapper; first | (rw [if_pos (by decide +kernel)]; kernel_rfl) | (rw [if_neg (by decide +kernel)]; exact ⟨rfl, rfl⟩))
    (fun os started H enc _ F => lifted os started H enc F)
end Go.Proofs.Ytkcnnifgdhabgaa.jsonGets
namespace Go.Proofs.Ytkcnnifgdhabgaa
theorem jsonGetsUpto_holds : Rows.JsonGetsUptoSaid := jsonGets.over
#print axioms jsonGetsUpto_holds
end Go.Proofs.Ytkcnnifgdhabgaa
