/- Answers are new memory. No conditions. -/
import Derived.Test.YtfkgoofipbbhpaaDoorL42
namespace Go.AM.F
open Go Go.AM
set_option maxRecDepth 10000
set_option linter.unusedSimpArgs false
attribute [local simp] j14_thicketlaw01_LimbsOwn j15_thicketlaw01_LimbsOwn w7_thicketlaw01_LimbsOwn j16_thicketlaw01_LimbsOwn j17_thicketlaw01_LimbsOwn w8_thicketlaw01_LimbsOwn j18_thicketlaw01_LimbsOwn j19_thicketlaw01_LimbsOwn j20_thicketlaw01_LimbsOwn j21_thicketlaw01_LimbsOwn j22_thicketlaw01_LimbsOwn j23_thicketlaw01_LimbsOwn j24_thicketlaw01_LimbsOwn j25_thicketlaw01_LimbsOwn j26_thicketlaw01_LimbsOwn b_thicketlaw01_LimbsOwn a_thicketlaw01_LimbsOwn

/-- A row is filled with one number. -/
theorem fill5 (X Y : List PV) (s : Bool) (n d : List Nat) (hn : n.length ≤ 4398046511104) : ∀ (m k : Nat) (q : List Nat), n.length - k = m → k ≤ n.length → q.length = n.length →
    ∃ q' : List Nat, Exec T l7_thicketlaw01_LimbsOwn [(5, .box X), (33, .box Y), (34, .box [.v (.bool s), .own 1 (ul q), .own 1 (ul d)]), (207, .v (.int .i64 n.length)), (208, .v (.int .i64 k))] = some (.exit 14, [(5, .box X), (33, .box Y), (34, .box [.v (.bool s), .own 1 (ul q'), .own 1 (ul d)]), (207, .v (.int .i64 n.length)), (208, .v (.int .i64 n.length))]) ∧ q'.length = n.length := by
  intro m
  induction m with
  | zero =>
    intro k q hm hk hq
    obtain rfl : k = n.length := by omega
    refine ⟨q, ?_, hq⟩
    rw [ex7_thicketlaw01_LimbsOwn]
    simp
  | succ m ih =>
    intro k q hm hk hq
    have hlt : k < n.length := by omega
    have hkq : k < q.length := by omega
    have hw := wrap_succ hlt (by omega)
    obtain ⟨q', h0, h1⟩ := ih (k + 1) (q.set k 5) (by omega) (by omega) (by simpa using hq)
    refine ⟨q', ?_, h1⟩
    rw [succ_cast, ← ul_set] at h0
    rw [← h0, ex7_thicketlaw01_LimbsOwn]
    simp [hlt, hkq, hw]
theorem fill6 (X Y : List PV) (s : Bool) (n d : List Nat) (hn : d.length ≤ 4398046511104) : ∀ (m k : Nat) (q : List Nat), d.length - k = m → k ≤ d.length → q.length = d.length →
    ∃ q' : List Nat, Exec T l8_thicketlaw01_LimbsOwn [(5, .box X), (33, .box Y), (34, .box [.v (.bool s), .own 1 (ul n), .own 1 (ul q)]), (218, .v (.int .i64 d.length)), (219, .v (.int .i64 k))] = some (.exit 16, [(5, .box X), (33, .box Y), (34, .box [.v (.bool s), .own 1 (ul n), .own 1 (ul q')]), (218, .v (.int .i64 d.length)), (219, .v (.int .i64 d.length))]) ∧ q'.length = d.length := by
  intro m
  induction m with
  | zero =>
    intro k q hm hk hq
    obtain rfl : k = d.length := by omega
    refine ⟨q, ?_, hq⟩
    rw [ex8_thicketlaw01_LimbsOwn]
    simp
  | succ m ih =>
    intro k q hm hk hq
    have hlt : k < d.length := by omega
    have hkq : k < q.length := by omega
    have hw := wrap_succ hlt (by omega)
    obtain ⟨q', h0, h1⟩ := ih (k + 1) (q.set k 6) (by omega) (by omega) (by simpa using hq)
    refine ⟨q', ?_, h1⟩
    rw [succ_cast, ← ul_set] at h0
    rw [← h0, ex8_thicketlaw01_LimbsOwn]
    simp [hlt, hkq, hw]
/-- The second half: quotients. -/
theorem own_ratio (s : Bool) (n d : List Nat) (hn : Lim n) (hd : Lim d) (ln : n.length ≤ 16777216) (ld : d.length ≤ 16777216) : Exec T k21_thicketlaw01_LimbsOwn [(5, .box [.v (.bool s), .ro 1 (ul n), .ro 1 (ul d)])] = some (.ret, [(6, .v (.bool true))]) := by
  have k1 := Nat.le_trans (limbs_len hn) ln
  have k2 := Nat.le_trans (limbs_len hd) ld
  have h1 := c_ratio s n d (by omega) (by omega)
  have h2 := c_Over s n d ⟨hn, by omega⟩ ⟨hd, by omega⟩
  have h3 := c_rOver s n d ⟨hn, by omega⟩ ⟨hd, by omega⟩ (by omega) (by omega)
  have s1 := c_Same n (by omega)
  have s2 := c_Same d (by omega)
  simp only [ratA] at h1
  by_cases h0 : val d = 0
  · rw [h0, overR_zero] at h2
    simp only [rat, limbs_zero, ul_nil] at h2
    simp [h1, h2]
  · rw [overR_pos _ _ h0] at h2 h3
    obtain ⟨t, x, y, e, he, hx, hy⟩ := ans_over (neg := s) (n := val n) (d := val d) (by omega) (by omega)
    rw [overR_pos _ _ h0] at he
    have he2 : canR (sg s (val n)) (val d) = rat t x y := by
      simp only [PV.tup.injEq, List.cons.injEq, and_true] at he
      exact he.1
    rw [he2] at h2 h3
    have a1 := c_Alike t (limbs x) (limbs y) hx hy
    obtain ⟨q1, f1, g1⟩ := fill5 [.v (.bool s), .ro 1 (ul n), .ro 1 (ul d)] [.v (.bool s), .own 1 (ul n), .own 1 (ul d)] t (limbs x) (limbs y) hx (limbs x).length 0 (limbs x) rfl (Nat.zero_le _) rfl
    obtain ⟨q2, f2, g2⟩ := fill6 [.v (.bool s), .ro 1 (ul n), .ro 1 (ul d)] [.v (.bool s), .own 1 (ul n), .own 1 (ul d)] t q1 (limbs y) hy (limbs y).length 0 (limbs y) rfl (Nat.zero_le _) rfl
    simp only [Int.natCast_zero] at f1 f2
    have e1 : (q1.length + 4) * 4 ≤ 140737488355328 := by omega
    have e2 : q1.length ≤ 35184372088828 := by omega
    have e3 : q1.length ≤ 4611686018427387900 := by omega
    have e4 : (q2.length + 4) * 4 ≤ 140737488355328 := by omega
    have e5 : q2.length ≤ 35184372088828 := by omega
    have e6 : q2.length ≤ 4611686018427387900 := by omega
    simp only [rat, ratA] at h2 h3 a1
    simp [h1, h2, h3, a1, s1, s2, f1, f2, e1, e2, e3, e4, e5, e6]
/-- What follows when the answers have been copied. -/
theorem own_tail (a b : List Nat) (s : Bool) (n d : List Nat) (ha : Lim a) (hb : Lim b) (la : a.length ≤ 16777216) (lb : b.length ≤ 16777216) (hn : Lim n) (hd : Lim d) (ln : n.length ≤ 16777216) (ld : d.length ≤ 16777216) (A : List (List Nat)) (hA : A.length = 10) (hL : ∀ l ∈ A, Lim l ∧ l.length ≤ 4398046511104) (i : Int) :
    Exec T k25_thicketlaw01_LimbsOwn (owE a b a b [.v (.bool s), .ro 1 (ul n), .ro 1 (ul d)] A A ++ owJ ++ [(98, .v (.int .i64 i))]) = some (.ret, [(6, .v (.bool true))]) := by
  have k1 := xor_outer a b a b [.v (.bool s), .ro 1 (ul n), .ro 1 (ul d)] A A hA hL 10 0 rfl (Nat.zero_le _)
  rw [ap_zero] at k1
  have hA2 : (A.map (List.map xr)).length = 10 := by simpa using hA
  have k2 := grow_outer a b a b [.v (.bool s), .ro 1 (ul n), .ro 1 (ul d)] (A.map (List.map xr)) A hA2 (fun l hl => by
    obtain ⟨l', h1, rfl⟩ := List.mem_map.1 hl
    have := (hL l' h1).2
    simpa using this) 10 0 rfl (Nat.zero_le _)
  rw [ap_zero] at k2
  have k3 := want_outer a b a b [.v (.bool s), .ro 1 (ul n), .ro 1 (ul d)] ((A.map (List.map xr)).map sev) A (by simpa using hA) hA hL (fun j l hl => ⟨List.replicate 5 77, by simp [hl, sev]⟩) 10 0 rfl (Nat.zero_le _)
  have s1 := c_Same a (by omega)
  have s2 := c_Same b (by omega)
  have n1 := c_Norm a ⟨ha, by omega⟩
  have n2 := c_rNorm a ⟨ha, by omega⟩
  have ll := limbs_len ha
  have s3 := c_Same (limbs (val a)) (by omega)
  have r := own_ratio s n d hn hd ln ld
  simp only [owE, owJ, List.cons_append, List.nil_append, Int.natCast_zero] at k1 k2 k3 ⊢
  simp [-tl21_thicketlaw01_LimbsOwn, -List.map_map, k1, k2, k3, s1, s2, n1, n2, s3, r]
theorem ul_inj {a b : List Nat} (h : ul a = ul b) : a = b := by
  induction a generalizing b with
  | nil => cases b with
    | nil => rfl
    | cons => simp at h
  | cons x r ih => cases b with
    | nil => simp at h
    | cons y q =>
      simp only [ul_cons, List.cons.injEq, PV.v.injEq, Value.int.injEq, true_and] at h
      rw [ih h.2, Int.ofNat_inj.1 h.1]
theorem row_pow (v : Nat) (n : Int) : ∃ (l : List Nat) (e : Nat), powR v n = .tup [.own 1 (ul l), .v (.int .i64 e)] ∧ Lim l ∧ l.length ≤ 4398046511104 := by
  obtain ⟨l, e, h, hl⟩ := ans_pow v n
  refine ⟨l, e, h, ?_, hl⟩
  unfold powR at h
  split at h
  · simp only [PV.tup.injEq, List.cons.injEq, PV.own.injEq, true_and] at h
    have := h.1
    cases l with
    | nil => exact Lim.nil
    | cons x r => simp at this
  · split at h
    · simp only [PV.tup.injEq, List.cons.injEq, PV.own.injEq, true_and] at h
      have := h.1
      cases l with
      | nil => exact Lim.nil
      | cons x r => simp at this
    · simp only [PV.tup.injEq, List.cons.injEq, PV.own.injEq, true_and] at h
      rw [← ul_inj h.1]
      exact limbs_lim _
theorem row_up {a : List Nat} (ha : Lim a) (la : a.length ≤ 16777216) (n : Int) : ∃ (l : List Nat) (e : Nat), upR (val a) n = .tup [.own 1 (ul l), .v (.int .i64 e)] ∧ Lim l ∧ l.length ≤ 4398046511104 := by
  obtain ⟨l, e, h, hl⟩ := ans_up ha la n
  refine ⟨l, e, h, ?_, hl⟩
  unfold upR at h
  split at h
  · simp only [PV.tup.injEq, List.cons.injEq, PV.own.injEq, true_and] at h
    have := h.1
    cases l with
    | nil => exact Lim.nil
    | cons x r => simp at this
  · simp only [PV.tup.injEq, List.cons.injEq, PV.own.injEq, true_and] at h
    rw [← ul_inj h.1]
    exact limbs_lim _
theorem row_down {a : List Nat} (ha : Lim a) (la : a.length ≤ 16777216) (n : Int) : ∃ (l : List Nat) (e : Nat), downR (val a) n = .tup [.own 1 (ul l), .v (.int .i64 e)] ∧ Lim l ∧ l.length ≤ 4398046511104 := by
  obtain ⟨l, e, h, hl⟩ := ans_down ha la n
  refine ⟨l, e, h, ?_, hl⟩
  unfold downR at h
  split at h
  · simp only [PV.tup.injEq, List.cons.injEq, PV.own.injEq, true_and] at h
    have := h.1
    cases l with
    | nil => exact Lim.nil
    | cons x r => simp at this
  · simp only [PV.tup.injEq, List.cons.injEq, PV.own.injEq, true_and] at h
    rw [← ul_inj h.1]
    exact limbs_lim _
theorem row_div {a b : List Nat} (ha : Lim a) (_ : Lim b) (la : a.length ≤ 16777216) (_ : b.length ≤ 16777216) : ∃ (q r : List Nat) (e : Nat), divR (val a) (val b) = .tup [.own 1 (ul q), .own 1 (ul r), .v (.int .i64 e)] ∧ Lim q ∧ q.length ≤ 4398046511104 ∧ Lim r ∧ r.length ≤ 4398046511104 := by
  by_cases h : val b = 0
  · rw [h, divR_zero]
    exact ⟨[], [], 11, rfl, Lim.nil, by simp, Lim.nil, by simp⟩
  · rw [divR_pos h]
    have l1 := limbs_le ha (Nat.div_le_self (val a) (val b))
    have l2 := limbs_le ha (Nat.mod_le (val a) (val b))
    exact ⟨_, _, 0, rfl, limbs_lim _, by omega, limbs_lim _, by omega⟩
set_option maxHeartbeats 2000000 in
theorem c_LimbsOwn (a b : List Nat) (s : Bool) (n d : List Nat) (ha : Lim a) (hb : Lim b) (hn : Lim n) (hd : Lim d) (la : a.length ≤ 16777216) (lb : b.length ≤ 16777216) (ln : n.length ≤ 16777216) (ld : d.length ≤ 16777216) :
    ∃ backs, Cinf T n_thicketlaw01_LimbsOwn [.ro 1 (ul a), .ro 1 (ul b), ratA s n d] = some (.v (.bool true), backs) := by
  have fa : Fit a := ⟨ha, by omega⟩
  have fb : Fit b := ⟨hb, by omega⟩
  have g1 := c_copied a (by omega)
  have g2 := c_copied b (by omega)
  have f1 := c_Norm a fa
  have f2 := c_Add a b fa fb
  have f3 := c_DivMod a b fa fb
  have f4 := c_Pow a fa la 1
  have f5 := c_Gcd a b fa fb
  have f6 := c_Up a fa 0
  have f7 := c_Down a fa 0
  have f8 := c_Sub a [] fa ⟨Lim.nil, by simp⟩
  have f9 := c_Mul a [1] fa ⟨Lim.one (by decide), by simp⟩
  obtain ⟨p, ep, hp, hpm, hpl⟩ := row_pow (val a) 1
  obtain ⟨u, eu, hu, hum, hul⟩ := row_up ha la 0
  obtain ⟨w, ew, hw, hwm, hwl⟩ := row_down ha la 0
  obtain ⟨q, r, eq, hq, hqm, hql, hrm, hrl⟩ := row_div ha hb la lb
  rw [hp] at f4
  rw [hu] at f6
  rw [hw] at f7
  rw [hq] at f3
  unfold subR at f8
  rw [if_neg (by show ¬ val a < val []; simp [val]), show val [] = 0 from rfl, Nat.sub_zero] at f8
  rw [show val [1] = 1 from rfl, Nat.mul_one] at f9
  have l1 := limbs_len ha
  have l2 := limbs_add_len ha hb
  have l5 := limbs_gcd_len ha hb
  obtain ⟨r0, h0⟩ : ∃ x, limbs (val a) = x := ⟨_, rfl⟩
  obtain ⟨r1, h1⟩ : ∃ x, limbs (val a + val b) = x := ⟨_, rfl⟩
  obtain ⟨r5, h5⟩ : ∃ x, limbs (Nat.gcd (val a) (val b)) = x := ⟨_, rfl⟩
  have m0 := limbs_lim (val a)
  have m1 := limbs_lim (val a + val b)
  have m5 := limbs_lim (Nat.gcd (val a) (val b))
  rw [h0] at f1 f8 f9 l1 m0
  rw [h1] at f2 l2 m1
  rw [h5] at f5 l5 m5
  have hL : ∀ l ∈ [r0, r1, q, r, p, r5, u, w, r0, r0], Lim l ∧ l.length ≤ 4398046511104 := by
    intro l hl
    simp only [List.mem_cons, List.not_mem_nil, or_false] at hl
    rcases hl with rfl | rfl | rfl | rfl | rfl | rfl | rfl | rfl | rfl | rfl
    · exact ⟨m0, by omega⟩
    · exact ⟨m1, by omega⟩
    · exact ⟨hqm, hql⟩
    · exact ⟨hrm, hrl⟩
    · exact ⟨hpm, hpl⟩
    · exact ⟨m5, by omega⟩
    · exact ⟨hum, hul⟩
    · exact ⟨hwm, hwl⟩
    · exact ⟨m0, by omega⟩
    · exact ⟨m0, by omega⟩
  have k0 := copy_loop a b a b [.v (.bool s), .ro 1 (ul n), .ro 1 (ul d)] [r0, r1, q, r, p, r5, u, w, r0, r0] rfl (fun l hl => (hL l hl).2) 10 0 [[], [], [], [], [], [], [], [], [], []] rfl (Nat.zero_le _) rfl (fun j hj => absurd hj (by omega))
  have t := own_tail a b s n d ha hb la lb hn hd ln ld [r0, r1, q, r, p, r5, u, w, r0, r0] rfl hL 10
  rw [run_thicketlaw01_LimbsOwn]
  simp only [owE, owJ, bx, ratA, List.cons_append, List.nil_append, List.map_cons, List.map_nil, Int.natCast_zero, ul_nil] at k0 t f8 ⊢
  have hc1 : ul [1] = [.v (.int .u32 1)] := rfl
  rw [hc1] at f9
  exact ⟨_, by simp [-tl25_thicketlaw01_LimbsOwn, Run, c_lives, g1, g2, f1, f2, f3, f4, f5, f6, f7, f8, f9, k0, t]; rfl⟩
end Go.AM.F
