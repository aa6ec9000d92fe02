/- JSON: what the rows that are handed a value share. No conditions. -/
import Derived.Test.YtkcnnifgdhabgaaDoorRow0j
import Derived.Test.YtkcnnifgdhabgaaDoorS1
import Derived.Test.YtkcnnifgdhabgaaDoorPa
namespace Go.Proofs.YtkcnnifgdhabgaaDoor.jsonRows
open Go.AM Go.AM.F
set_option maxRecDepth 100000

theorem w_json : wholeB Tryd.prog 27 = true := by kernel_rfl
theorem w_str : wholeB Tryd.prog 9 = false := by kernel_rfl
theorem w_int : wholeB Tryd.prog 3 = false := by kernel_rfl
theorem c_json : Tryd.prog.cellsOf 27 = 4 := by kernel_rfl
theorem c_items : Tryd.prog.cellsOf 25 = 1 := by kernel_rfl
theorem c_names : Tryd.prog.cellsOf 24 = 1 := by kernel_rfl
theorem c_kind : Tryd.prog.cellsOf 23 = 1 := by kernel_rfl
theorem c_str : Tryd.prog.cellsOf 9 = 1 := by kernel_rfl
theorem shape_kind {n : Nat} {c : List PV} (h : Shape Tryd.prog n 23 c) : ∃ k, c = [.v (.int .u8 k)] := by
  cases n with
  | zero => exact h.elim
  | succ n =>
    simp only [Shape, Tryd.underlying23] at h
    obtain ⟨m, rfl, _⟩ := h
    exact ⟨m, rfl⟩
theorem shape_str {n : Nat} {c : List PV} (h : Shape Tryd.prog n 9 c) : ∃ s, c = [str s] := by
  cases n with
  | zero => exact h.elim
  | succ n =>
    simp only [Shape, Tryd.underlying9] at h
    exact h
theorem strs_of : ∀ {l : List (List PV)} {n : Nat}, (∀ c ∈ l, c.length = Tryd.prog.cellsOf 9 ∧ Shape Tryd.prog n 9 c) → ∃ ns : List ByteArray, l.map (mkPV false) = ns.map str
  | [], _, _ => ⟨[], rfl⟩
  | c :: l, n, h => by
    obtain ⟨ns, h1⟩ := strs_of (l := l) (n := n) fun c hc => h c (by simp [hc])
    obtain ⟨s, rfl⟩ := shape_str (h c (by simp)).2
    exact ⟨s :: ns, by rw [List.map_cons, h1]; rfl⟩
theorem shape_strs {n : Nat} {c : List PV} (h : Shape Tryd.prog n 24 c) : ∃ ns : List ByteArray, c = [.ro 1 (ns.map str)] := by
  cases n with
  | zero => exact h.elim
  | succ n =>
    simp only [Shape, Tryd.underlying24, w_str, c_str] at h
    obtain ⟨l, rfl, hl⟩ := h
    obtain ⟨ns, hns⟩ := strs_of (n := n) (fun c hc => by rw [c_str]; exact hl c hc)
    exact ⟨ns, by rw [hns]⟩
/-- A JSON value, read. -/
theorem shape_json : ∀ (n : Nat) (c : List PV), c.length = 4 → Shape Tryd.prog n 27 c → ∃ j : J, PV.agg c = j.pv
  | 0, _, _, h => h.elim
  | n + 1, c, hc, h => by
    simp only [Shape, Tryd.underlying27] at h
    have f0 := h ⟨"Kind", 23, 0, false, "", "", 0⟩ (by simp)
    have f1 := h ⟨"Text", 9, 1, false, "", "", 8⟩ (by simp)
    have f2 := h ⟨"Names", 24, 2, false, "", "", 24⟩ (by simp)
    have f3 := h ⟨"Items", 25, 3, false, "", "", 48⟩ (by simp)
    match c, hc with
    | [a, b, d, e], _ =>
      simp only [c_kind, c_str, c_names, c_items, List.drop_zero, List.drop_succ_cons, List.take_succ_cons, List.take_zero] at f0 f1 f2 f3
      obtain ⟨k, hk⟩ := shape_kind f0
      obtain ⟨t, ht⟩ := shape_str f1
      obtain ⟨ns, hns⟩ := shape_strs f2
      cases n with
      | zero => exact f3.elim
      | succ n =>
        simp only [Shape, Tryd.underlying25, w_json, c_json] at f3
        obtain ⟨l, hl, hel⟩ := f3
        have key : ∀ l : List (List PV), (∀ c ∈ l, c.length = 4 ∧ Shape Tryd.prog n 27 c) → ∃ is : List J, l.map (mkPV true) = is.map J.pv := by
          intro l
          induction l with
          | nil => intro _; exact ⟨[], rfl⟩
          | cons c l ih =>
            intro hm
            obtain ⟨is, h1⟩ := ih fun c hc => hm c (by simp [hc])
            obtain ⟨h2, h3⟩ := hm c (by simp)
            obtain ⟨j, hj⟩ := shape_json n c h2 h3
            exact ⟨j :: is, by rw [List.map_cons, h1, List.map_cons, ← hj]; rfl⟩
        obtain ⟨is, his⟩ := key l hel
        rw [his] at hl
        simp only [List.cons.injEq, and_true] at hk ht hns hl
        refine ⟨.mk k t ns is, ?_⟩
        rw [J.pv_mk, hk, ht, hns, hl]
        rfl
theorem bulk_strs : ∀ ns : List ByteArray, ns.length ≤ bulkL (ns.map str)
  | [] => Nat.le_refl _
  | s :: r => by
    have := bulk_strs r
    simp only [List.map_cons, bulkL, str, bulk, List.length_cons]
    omega
mutual
theorem ok_of_bulk : ∀ j : J, bulk j.pv ≤ 1048576 → j.Ok
  | .mk k t ns is, h => by
    simp only [J.pv, strs, bulk, bulkL] at h
    have h1 := bulk_strs ns
    obtain ⟨h2, h3⟩ := okL_of_bulk is (by omega)
    exact ⟨by omega, by omega, h2⟩
theorem okL_of_bulk : ∀ l : List J, bulkL (J.pvL l) ≤ 1048576 → J.OkL l ∧ l.length ≤ bulkL (J.pvL l)
  | [], _ => ⟨trivial, Nat.le_refl _⟩
  | j :: r, h => by
    simp only [J.pvL, bulkL] at h ⊢
    obtain ⟨h1, h2⟩ := okL_of_bulk r (by omega)
    have h3 := ok_of_bulk j (by omega)
    refine ⟨⟨h3, h1⟩, ?_⟩
    have : 1 ≤ bulk j.pv := by
      obtain ⟨k, t, ns, is⟩ := j
      simp only [J.pv, bulk, bulkL]
      omega
    simp only [List.length_cons]
    omega
end
theorem shape_int {n : Nat} {c : List PV} (h : Shape Tryd.prog n 3 c) : ∃ v : Int, c = [.v (.int .i64 v)] ∧ True := by
  cases n with
  | zero => exact h.elim
  | succ n =>
    simp only [Shape, Tryd.underlying3] at h
    obtain ⟨m, rfl, _⟩ := h
    exact ⟨m, rfl, trivial⟩
theorem sum_bulk : ∀ ns : List ByteArray, (ns.map ByteArray.size).sum + ns.length ≤ bulkL (ns.map str)
  | [] => Nat.le_refl _
  | s :: r => by
    have := sum_bulk r
    simp only [List.map_cons, List.sum_cons, bulkL, str, bulk, List.length_cons]
    omega
mutual
theorem wt_bulk : ∀ j : J, j.wt ≤ bulk j.pv
  | .mk k t ns is => by
    have h1 := sum_bulk ns
    have h2 := wtL_bulk is
    simp only [J.pv, strs, str, bulk, bulkL, J.wt]
    omega
theorem wtL_bulk : ∀ l : List J, J.wtL l ≤ bulkL (J.pvL l)
  | [] => Nat.le_refl _
  | j :: r => by
    have h1 := wt_bulk j
    have h2 := wtL_bulk r
    simp only [J.pvL, bulkL, J.wtL]
    omega
end
end Go.Proofs.YtkcnnifgdhabgaaDoor.jsonRows
