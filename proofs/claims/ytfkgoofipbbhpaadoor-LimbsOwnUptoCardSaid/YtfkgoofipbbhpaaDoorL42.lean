/- Answers are new memory: the loops. No conditions. -/
import Derived.Test.YtfkgoofipbbhpaaDoorL39
namespace Go.AM.F
open Go Go.AM
set_option maxRecDepth 10000
set_option linter.unusedSimpArgs false
attribute [local simp] j0_thicketlaw01_LimbsOwn j1_thicketlaw01_LimbsOwn w0_thicketlaw01_LimbsOwn j2_thicketlaw01_LimbsOwn j3_thicketlaw01_LimbsOwn w2_thicketlaw01_LimbsOwn j4_thicketlaw01_LimbsOwn j5_thicketlaw01_LimbsOwn w1_thicketlaw01_LimbsOwn j6_thicketlaw01_LimbsOwn j7_thicketlaw01_LimbsOwn w4_thicketlaw01_LimbsOwn j8_thicketlaw01_LimbsOwn j9_thicketlaw01_LimbsOwn w3_thicketlaw01_LimbsOwn j10_thicketlaw01_LimbsOwn j11_thicketlaw01_LimbsOwn w6_thicketlaw01_LimbsOwn j12_thicketlaw01_LimbsOwn j13_thicketlaw01_LimbsOwn w5_thicketlaw01_LimbsOwn j14_thicketlaw01_LimbsOwn j15_thicketlaw01_LimbsOwn w7_thicketlaw01_LimbsOwn j16_thicketlaw01_LimbsOwn j17_thicketlaw01_LimbsOwn w8_thicketlaw01_LimbsOwn
attribute [local simp] b_thicketlaw01_copied a_thicketlaw01_copied b_thicketlaw01_ratio a_thicketlaw01_ratio

/-- The first so many, changed. -/
def ap {α : Type} (f : α → α) : List α → Nat → List α
  | [], _ => []
  | x :: r, 0 => x :: r
  | x :: r, k + 1 => f x :: ap f r k
theorem ap_zero {α : Type} (f : α → α) (l : List α) : ap f l 0 = l := by cases l <;> rfl
theorem ap_all {α : Type} (f : α → α) : ∀ l : List α, ap f l l.length = l.map f
  | [] => rfl
  | x :: r => by rw [List.length_cons, ap, ap_all f r]; rfl
theorem ap_length {α : Type} (f : α → α) : ∀ (l : List α) (k : Nat), (ap f l k).length = l.length
  | [], _ => rfl
  | _ :: _, 0 => rfl
  | x :: r, k + 1 => by rw [ap, List.length_cons, List.length_cons, ap_length f r k]
theorem ap_get {α : Type} (f : α → α) : ∀ (l : List α) (k : Nat), (ap f l k)[k]? = l[k]?
  | [], _ => rfl
  | _ :: _, 0 => rfl
  | x :: r, k + 1 => by rw [ap, List.getElem?_cons_succ, List.getElem?_cons_succ, ap_get f r k]
theorem ap_set {α : Type} (f : α → α) : ∀ (l : List α) (k : Nat) (x : α), l[k]? = some x → (ap f l k).set k (f x) = ap f l (k + 1)
  | [], _, _, h => by cases h
  | y :: r, 0, x, h => by
    obtain rfl : y = x := by simpa using h
    show f y :: r = f y :: ap f r 0
    rw [ap_zero]
  | y :: r, k + 1, x, h => by
    show f y :: (ap f r k).set k (f x) = f y :: ap f r (k + 1)
    rw [ap_set f r k x (by simpa using h)]
def bx (A : List (List Nat)) : List PV := A.map fun l => .own 1 (ul l)
@[simp] theorem bx_length (A : List (List Nat)) : (bx A).length = A.length := by simp [bx]
theorem bx_get {A : List (List Nat)} {i : Nat} {l : List Nat} (h : A[i]? = some l) : (bx A)[i]? = some (.own 1 (ul l)) := by simp [bx, h]
@[simp] theorem bx_getElem (A : List (List Nat)) (i : Nat) (h : i < (bx A).length) : (bx A)[i] = .own 1 (ul (A[i]'(by simpa using h))) := by simp [bx]
theorem bx_set (A : List (List Nat)) (i : Nat) (l : List Nat) : (bx A).set i (.own 1 (ul l)) = bx (A.set i l) := by simp [bx, List.map_set]
theorem c_copied (l : List Nat) (h : l.length ≤ 8796093022208) : Cinf T n_thicketlaw01_copied [.ro 1 (ul l)] = some (.own 1 (ul l), [.dead]) := by
  have e1 : l.length * 4 ≤ 140737488355328 := by omega
  have e2 : l.length ≤ 35184372088832 := by omega
  have e3 : l.length ≤ 4611686018427387904 := by omega
  rw [run_thicketlaw01_copied]
  simp [Run, e1, e2, e3]
theorem c_ratio (s : Bool) (n d : List Nat) (hn : n.length ≤ 8796093022208) (hd : d.length ≤ 8796093022208) : Cinf T n_thicketlaw01_ratio [ratA s n d] = some (.agg [.v (.bool s), .own 1 (ul n), .own 1 (ul d)], [.dead]) := by
  have h1 := c_copied n hn
  have h2 := c_copied d hd
  rw [run_thicketlaw01_ratio]
  simp only [ratA]
  simp [Run, h1, h2]
section
variable (a b c d : List Nat) (X : List PV)
def owE (A W : List (List Nat)) : Env := [(0, .ro 1 (ul a)), (1, .ro 1 (ul b)), (5, .box X), (7, .own 1 (ul c)), (8, .own 1 (ul d)), (24, .box (bx A)), (25, .box (bx W))]
def owJ : Env := [(45, .dead), (47, .dead)]
theorem copy_loop (A : List (List Nat)) (hA : A.length = 10) (hb : ∀ l ∈ A, l.length ≤ 4398046511104) : ∀ (m i : Nat) (W : List (List Nat)), 10 - i = m → i ≤ 10 → W.length = 10 → (∀ j, j < i → W[j]? = A[j]?) →
    Exec T l0_thicketlaw01_LimbsOwn (owE a b c d X A W ++ owJ ++ [(98, .v (.int .i64 i))]) = some (.exit 0, owE a b c d X A A ++ owJ ++ [(98, .v (.int .i64 10))]) := by
  intro m
  induction m with
  | zero =>
    intro i W hm hi hW hj
    obtain rfl : i = 10 := by omega
    have hWA : W = A := by
      apply List.ext_getElem?
      intro j
      by_cases h : j < 10
      · exact hj j h
      · rw [List.getElem?_eq_none (by omega), List.getElem?_eq_none (by omega)]
    rw [hWA, ex0_thicketlaw01_LimbsOwn]
    simp [owE, owJ]
  | succ m ih =>
    intro i W hm hi hW hj
    have hlt : i < 10 := by omega
    have hiA : i < A.length := by omega
    obtain ⟨l, hl⟩ : ∃ l, A[i]? = some l := ⟨_, List.getElem?_eq_getElem hiA⟩
    have hll := hb l (List.mem_of_getElem? hl)
    have hg : A[i] = l := (List.getElem?_eq_some_iff.1 hl).2
    have h1 := c_copied l (by omega)
    have h0 := ih (i + 1) (W.set i l) (by omega) (by omega) (by simpa using hW) (fun j hjl => by
      by_cases e : j = i
      · subst e; rw [List.getElem?_set_self (by omega), hl]
      · rw [List.getElem?_set_ne (by omega)]; exact hj j (by omega))
    have w : IntKind.i64.wrap ((i : Int) + 1) = (i : Int) + 1 := by rw [wrap_i64] <;> omega
    have e1 : i + 1 ≤ 10 := by omega
    rw [succ_cast] at h0
    simp only [owE, owJ, List.cons_append, List.nil_append] at h0 ⊢
    rw [← bx_set] at h0
    rw [← h0, ex0_thicketlaw01_LimbsOwn]
    simp [hlt, hg, h1, w, hA, hW, e1]
def xr (x : Nat) : Nat := x ^^^ 85
theorem xr_lt {x : Nat} (h : x < 4294967296) : xr x < 4294967296 := Nat.xor_lt_two_pow (n := 32) h (by decide)
theorem xr_op {x : Nat} (h : x < 4294967296) : binInt .xor .u32 x 85 = some (.int .u32 (xr x : Nat)) := xor32 (y := 85) h (by decide) rfl (xr_lt h)
/-- One row is changed, limb by limb. -/
theorem xor_inner (A W : List (List Nat)) (hA : A.length = 10) (i : Nat) (hi : i < 10) (l : List Nat) (hl : Lim l) (hll : l.length ≤ 4398046511104) (y : PV) (hy : ∀ s t, PV.ment s t y = false) : ∀ (m k : Nat), l.length - k = m → k ≤ l.length →
    Exec T l2_thicketlaw01_LimbsOwn (owE a b c d X (A.set i (ap xr l k)) W ++ [(27, .v (.int .i64 i)), (45, .dead), (47, .dead), (108, y), (114, .v (.int .i64 l.length)), (115, .v (.int .i64 k))]) = some (.exit 4, owE a b c d X (A.set i (l.map xr)) W ++ [(27, .v (.int .i64 i)), (45, .dead), (47, .dead), (108, y), (114, .v (.int .i64 l.length)), (115, .v (.int .i64 l.length))]) := by
  intro m
  induction m with
  | zero =>
    intro k hm hk
    obtain rfl : k = l.length := by omega
    rw [ap_all, ex2_thicketlaw01_LimbsOwn]
    simp [owE]
  | succ m ih =>
    intro k hm hk
    have hlt : k < l.length := by omega
    have hw := wrap_succ hlt (by omega)
    have h0 := ih (k + 1) (by omega) (by omega)
    obtain ⟨x, hx⟩ : ∃ x, l[k]? = some x := ⟨_, List.getElem?_eq_getElem hlt⟩
    have hxl := hl x (List.mem_of_getElem? hx)
    have hxo := xr_op hxl
    rw [← ap_set xr l k x hx] at h0
    have hxg : (ap xr l k)[k]? = some x := by rw [ap_get]; exact hx
    have hal := ap_length xr l k
    obtain ⟨q, hq⟩ : ∃ q, ap xr l k = q := ⟨_, rfl⟩
    rw [hq] at hxg hal h0 ⊢
    have hkq : k < q.length := by omega
    have hxq : q[k] = x := (List.getElem?_eq_some_iff.1 hxg).2
    have hiA : i < A.length := by omega
    have hset : (A.set i q).set i (q.set k (xr x)) = A.set i (q.set k (xr x)) := List.set_set _
    rw [← hset, succ_cast] at h0
    have hA2 : (A.set i q).length = 10 := by simpa using hA
    have hget : ∀ h, (A.set i q)[i]'h = q := fun h => List.getElem_set_self h
    obtain ⟨A2, hA2e⟩ : ∃ A2, A.set i q = A2 := ⟨_, rfl⟩
    rw [hA2e] at h0 hA2 ⊢
    simp only [hA2e] at hget
    have hiA2 : i < A2.length := by omega
    have hg := hget hiA2
    simp only [owE, List.cons_append, List.nil_append] at h0 ⊢
    rw [← bx_set, ← ul_set] at h0
    rw [← h0, ex2_thicketlaw01_LimbsOwn]
    have e9 : i ≤ 9 := by omega
    simp [-binInt_xor, hlt, hi, e9, hg, hkq, hxq, hxo, hw, hA2, hy, ul_set]
theorem xor_outer (A0 W : List (List Nat)) (hA : A0.length = 10) (hL : ∀ l ∈ A0, Lim l ∧ l.length ≤ 4398046511104) : ∀ (m i : Nat), 10 - i = m → i ≤ 10 →
    Exec T l1_thicketlaw01_LimbsOwn (owE a b c d X (ap (List.map xr) A0 i) W ++ owJ ++ [(108, .v (.int .i64 i))]) = some (.exit 2, owE a b c d X (A0.map (List.map xr)) W ++ owJ ++ [(108, .v (.int .i64 10))]) := by
  intro m
  induction m with
  | zero =>
    intro i hm hi
    obtain rfl : i = 10 := by omega
    have e := ap_all (List.map xr) A0
    rw [hA] at e
    rw [e, ex1_thicketlaw01_LimbsOwn]
    simp [owE, owJ]
  | succ m ih =>
    intro i hm hi
    have hlt : i < 10 := by omega
    obtain ⟨l, hl⟩ : ∃ l, A0[i]? = some l := ⟨_, List.getElem?_eq_getElem (by omega)⟩
    obtain ⟨hlm, hll⟩ := hL l (List.mem_of_getElem? hl)
    have h0 := ih (i + 1) (by omega) (by omega)
    have hal := ap_length (List.map xr) A0 i
    have hag : (ap (List.map xr) A0 i)[i]? = some l := by rw [ap_get]; exact hl
    rw [← ap_set (List.map xr) A0 i l hl] at h0
    obtain ⟨Q, hQ⟩ : ∃ Q, ap (List.map xr) A0 i = Q := ⟨_, rfl⟩
    rw [hQ] at hal hag h0 ⊢
    have h1 := xor_inner a b c d X Q W (by omega) i hlt l hlm hll (.v (.int .i64 i)) (fun _ _ => rfl) l.length 0 rfl (Nat.zero_le _)
    have hself : Q.set i l = Q := by
      apply List.ext_getElem?
      intro j
      by_cases e : i = j
      · subst e; rw [List.getElem?_set_self (by omega), hag]
      · rw [List.getElem?_set_ne e]
    rw [ap_zero, hself] at h1
    have hQ10 : Q.length = 10 := by omega
    have hiQ : i < Q.length := by omega
    have hg : Q[i] = l := (List.getElem?_eq_some_iff.1 hag).2
    have w : IntKind.i64.wrap ((i : Int) + 1) = (i : Int) + 1 := by rw [wrap_i64] <;> omega
    rw [succ_cast] at h0
    simp only [owE, owJ, List.cons_append, List.nil_append, Int.natCast_zero] at h0 h1 ⊢
    rw [← h0, ex1_thicketlaw01_LimbsOwn]
    have e9 : i ≤ 9 := by omega
    simp [hlt, e9, hg, h1, w, hQ10]
def sev (l : List Nat) : List Nat := l ++ List.replicate 5 77
/-- One row grows. -/
theorem grow5 (A W : List (List Nat)) (hA : A.length = 10) (i : Nat) (hi : i < 10) (l : List Nat) (hll : l.length ≤ 4398046511104) : ∀ (m k : Nat), 5 - k = m → k ≤ 5 →
    Exec T l4_thicketlaw01_LimbsOwn (owE a b c d X (A.set i (l ++ List.replicate k 77)) W ++ [(29, .v (.int .i64 i)), (30, .v (.int .i64 k)), (45, .dead), (47, .dead), (132, .v (.int .i64 i))]) = some (.exit 8, owE a b c d X (A.set i (sev l)) W ++ [(29, .v (.int .i64 i)), (30, .v (.int .i64 5)), (45, .dead), (47, .dead), (132, .v (.int .i64 i))]) := by
  intro m
  induction m with
  | zero =>
    intro k hm hk
    obtain rfl : k = 5 := by omega
    rw [ex4_thicketlaw01_LimbsOwn]
    simp [owE, sev]
  | succ m ih =>
    intro k hm hk
    have hlt : k < 5 := by omega
    have hw : IntKind.i64.wrap ((k : Int) + 1) = (k : Int) + 1 := by rw [wrap_i64] <;> omega
    have h0 := ih (k + 1) (by omega) (by omega)
    have hrep : l ++ List.replicate (k + 1) 77 = (l ++ List.replicate k 77) ++ [77] := by rw [List.replicate_succ', List.append_assoc]
    rw [hrep] at h0
    have hlen : (l ++ List.replicate k 77).length ≤ 4398046511109 := by simp; omega
    obtain ⟨q, hq⟩ : ∃ q, l ++ List.replicate k 77 = q := ⟨_, rfl⟩
    rw [hq] at h0 hlen ⊢
    have hset : (A.set i q).set i (q ++ [77]) = A.set i (q ++ [77]) := List.set_set _
    rw [← hset, succ_cast] at h0
    have hA2 : (A.set i q).length = 10 := by simpa using hA
    have hget : ∀ h, (A.set i q)[i]'h = q := fun h => List.getElem_set_self h
    obtain ⟨A2, hA2e⟩ : ∃ A2, A.set i q = A2 := ⟨_, rfl⟩
    rw [hA2e] at h0 hA2 ⊢
    simp only [hA2e] at hget
    have hiA2 : i < A2.length := by omega
    have hg := hget hiA2
    have e1 : (q.length + 1) * 4 ≤ 140737488355328 := by omega
    have e2 : q.length ≤ 35184372088831 := by omega
    have e3 : q.length ≤ 4611686018427387903 := by omega
    have e4 : i + 1 ≤ 10 := by omega
    simp only [owE, List.cons_append, List.nil_append] at h0 ⊢
    rw [← bx_set, ul_snoc] at h0
    rw [← h0, ex4_thicketlaw01_LimbsOwn]
    have e9 : i ≤ 9 := by omega
    simp [hlt, hi, e9, hg, hw, hA2, e1, e2, e3, e4]
theorem grow_outer (A0 W : List (List Nat)) (hA : A0.length = 10) (hL : ∀ l ∈ A0, l.length ≤ 4398046511104) : ∀ (m i : Nat), 10 - i = m → i ≤ 10 →
    Exec T l3_thicketlaw01_LimbsOwn (owE a b c d X (ap sev A0 i) W ++ owJ ++ [(132, .v (.int .i64 i))]) = some (.exit 6, owE a b c d X (A0.map sev) W ++ owJ ++ [(132, .v (.int .i64 10))]) := by
  intro m
  induction m with
  | zero =>
    intro i hm hi
    obtain rfl : i = 10 := by omega
    have e := ap_all sev A0
    rw [hA] at e
    rw [e, ex3_thicketlaw01_LimbsOwn]
    simp [owE, owJ]
  | succ m ih =>
    intro i hm hi
    have hlt : i < 10 := by omega
    obtain ⟨l, hl⟩ : ∃ l, A0[i]? = some l := ⟨_, List.getElem?_eq_getElem (by omega)⟩
    have hll := hL l (List.mem_of_getElem? hl)
    have h0 := ih (i + 1) (by omega) (by omega)
    have hal := ap_length sev A0 i
    have hag : (ap sev A0 i)[i]? = some l := by rw [ap_get]; exact hl
    rw [← ap_set sev A0 i l hl] at h0
    obtain ⟨Q, hQ⟩ : ∃ Q, ap sev A0 i = Q := ⟨_, rfl⟩
    rw [hQ] at hal hag h0 ⊢
    have h1 := grow5 a b c d X Q W (by omega) i hlt l hll 5 0 rfl (Nat.zero_le _)
    have hself : Q.set i l = Q := by
      apply List.ext_getElem?
      intro j
      by_cases e : i = j
      · subst e; rw [List.getElem?_set_self (by omega), hag]
      · rw [List.getElem?_set_ne e]
    rw [List.replicate_zero, List.append_nil, hself] at h1
    have hQ10 : Q.length = 10 := by omega
    have w : IntKind.i64.wrap ((i : Int) + 1) = (i : Int) + 1 := by rw [wrap_i64] <;> omega
    rw [succ_cast] at h0
    simp only [owE, owJ, List.cons_append, List.nil_append, Int.natCast_zero] at h0 h1 ⊢
    rw [← h0, ex3_thicketlaw01_LimbsOwn]
    simp [hlt, h1, w, hQ10]
/-- One row is held against what was wanted. -/
theorem want_inner (A W : List (List Nat)) (hA : A.length = 10) (hW : W.length = 10) (i : Nat) (hi : i < 10) (l r : List Nat) (hl : Lim l) (hll : l.length ≤ 4398046511104) (hW1 : W[i]? = some l) (hA1 : A[i]? = some (l.map xr ++ r)) : ∀ (m k : Nat), l.length - k = m → k ≤ l.length →
    Exec T l6_thicketlaw01_LimbsOwn (owE a b c d X A W ++ [(31, .v (.int .i64 i)), (45, .dead), (47, .dead), (147, .v (.int .i64 i)), (153, .v (.int .i64 l.length)), (154, .v (.int .i64 k))]) = some (.exit 12, owE a b c d X A W ++ [(31, .v (.int .i64 i)), (45, .dead), (47, .dead), (147, .v (.int .i64 i)), (153, .v (.int .i64 l.length)), (154, .v (.int .i64 l.length))]) := by
  intro m
  induction m with
  | zero =>
    intro k hm hk
    obtain rfl : k = l.length := by omega
    rw [ex6_thicketlaw01_LimbsOwn]
    simp [owE]
  | succ m ih =>
    intro k hm hk
    have hlt : k < l.length := by omega
    have hw := wrap_succ hlt (by omega)
    have h0 := ih (k + 1) (by omega) (by omega)
    obtain ⟨x, hx⟩ : ∃ x, l[k] = x := ⟨_, rfl⟩
    have hxl : x < 4294967296 := by rw [← hx]; exact hl.get hlt
    have hxo := xr_op hxl
    have hiW : i < W.length := by omega
    have hiA : i < A.length := by omega
    have hgW : W[i] = l := (List.getElem?_eq_some_iff.1 hW1).2
    have hgA : A[i] = l.map xr ++ r := (List.getElem?_eq_some_iff.1 hA1).2
    have hkq : k < (l.map xr ++ r).length := by simp; omega
    have hxq : (l.map xr ++ r)[k] = xr x := by rw [List.getElem_append_left (by simpa using hlt), List.getElem_map, hx]
    obtain ⟨q, hq⟩ : ∃ q, l.map xr ++ r = q := ⟨_, rfl⟩
    rw [hq] at hgA hkq
    simp only [hq] at hxq
    rw [succ_cast] at h0
    simp only [owE, List.cons_append, List.nil_append] at h0 ⊢
    rw [← h0, ex6_thicketlaw01_LimbsOwn]
    have e9 : i ≤ 9 := by omega
    simp [-binInt_xor, hlt, hi, e9, hgW, hgA, hkq, hxq, hx, hxo, hw, hA, hW]
theorem want_outer (A W : List (List Nat)) (hA : A.length = 10) (hW : W.length = 10) (hL : ∀ l ∈ W, Lim l ∧ l.length ≤ 4398046511104) (hAW : ∀ (i : Nat) (l : List Nat), W[i]? = some l → ∃ r, A[i]? = some (l.map xr ++ r)) : ∀ (m i : Nat), 10 - i = m → i ≤ 10 →
    Exec T l5_thicketlaw01_LimbsOwn (owE a b c d X A W ++ owJ ++ [(147, .v (.int .i64 i))]) = some (.exit 10, owE a b c d X A W ++ owJ ++ [(147, .v (.int .i64 10))]) := by
  intro m
  induction m with
  | zero =>
    intro i hm hi
    obtain rfl : i = 10 := by omega
    rw [ex5_thicketlaw01_LimbsOwn]
    simp [owE, owJ]
  | succ m ih =>
    intro i hm hi
    have hlt : i < 10 := by omega
    obtain ⟨l, hl⟩ : ∃ l, W[i]? = some l := ⟨_, List.getElem?_eq_getElem (by omega)⟩
    obtain ⟨hlm, hll⟩ := hL l (List.mem_of_getElem? hl)
    obtain ⟨r, hr⟩ := hAW i l hl
    have h0 := ih (i + 1) (by omega) (by omega)
    have h1 := want_inner a b c d X A W hA hW i hlt l r hlm hll hl hr l.length 0 rfl (Nat.zero_le _)
    have hiW : i < W.length := by omega
    have hgW : W[i] = l := (List.getElem?_eq_some_iff.1 hl).2
    have w : IntKind.i64.wrap ((i : Int) + 1) = (i : Int) + 1 := by rw [wrap_i64] <;> omega
    rw [succ_cast] at h0
    simp only [owE, owJ, List.cons_append, List.nil_append, Int.natCast_zero] at h0 h1 ⊢
    rw [← h0, ex5_thicketlaw01_LimbsOwn]
    have e9 : i ≤ 9 := by omega
    simp [hlt, e9, hgW, h1, w, hW]
end
end Go.AM.F
