/- Products of naturals, as the document has them. No conditions. -/
import Derived.Test.YtfkgoofipbbhpaaDoorL10
namespace Go.AM.F
open Go Go.AM
set_option maxRecDepth 10000
set_option linter.unusedSimpArgs false
attribute [local simp] j0_thicketref01_Mul j1_thicketref01_Mul j2_thicketref01_Mul w1_thicketref01_Mul j3_thicketref01_Mul j4_thicketref01_Mul w0_thicketref01_Mul j5_thicketref01_Mul b_thicketref01_Mul a_thicketref01_Mul
def rmE (a b out : List Nat) (i x : Nat) (c k : Nat) (x18 : PV) (la : Int) (xi : PV) : Env := [(0, .ro 1 (ul a)), (1, .ro 1 (ul b)), (5, .own 1 (ul out)), (6, .v (.int .i64 i)), (7, .v (.int .u32 x)), (8, .v (.int .u64 c)), (9, .v (.int .i64 k)), (17, .dead), (18, x18), (19, .v (.int .i64 la)), (20, xi)]
theorem rmul_exit (a b out : List Nat) (i x k : Nat) (hk : b.length ≤ k) (x18 : PV) (la : Int) (xi : PV) : Exec T l1_thicketref01_Mul (rmE a b out i x 0 k x18 la xi) = some (.exit 2, rmE a b out i x 0 k x18 la xi) := by
  rw [ex1_thicketref01_Mul]
  have h : ¬ k < b.length := by omega
  simp [rmE, h]
theorem rmul_inner (a b : List Nat) (ha : Fit a) (hb : Fit b) (i x : Nat) (hi : i < a.length) (hxl : x < 4294967296) (x18 : PV) (m18 : ∀ s t, PV.ment s t x18 = false) (la : Int) (xi : PV) (mi : ∀ s t, PV.ment s t xi = false) (out0 : List Nat) (hz0 : ∀ j, i + b.length ≤ j → at0 out0 j = 0) : ∀ (n k c : Nat) (out : List Nat), b.length - k = n → k ≤ b.length → c < 4294967296 → Lim out → out.length = a.length + b.length + 1 → (∀ j, i + b.length ≤ j → at0 out j = at0 out0 j) → val out + 4294967296 ^ (i + k) * c = val out0 + 4294967296 ^ i * (x * val (b.take k)) →
    ∃ (out' : List Nat) (k' : Nat), Exec T l1_thicketref01_Mul (rmE a b out i x c k x18 la xi) = some (.exit 2, rmE a b out' i x 0 k' x18 la xi) ∧ Lim out' ∧ out'.length = a.length + b.length + 1 ∧ (∀ j, i + b.length + 1 ≤ j → at0 out' j = 0) ∧ val out' = val out0 + 4294967296 ^ i * (x * val b) := by
  intro n
  induction n with
  | zero =>
    intro k c out hn hk hc hl ho hz hv
    obtain rfl : k = b.length := by omega
    rw [List.take_of_length_le (Nat.le_refl _)] at hv
    by_cases h0 : c = 0
    · subst h0
      exact ⟨out, b.length, rmul_exit a b out i x b.length (Nat.le_refl _) x18 la xi, hl, ho, fun j hj => by rw [hz j (by omega)]; exact hz0 j (by omega), by simpa using hv⟩
    · have hal := ha.2
      have hbl := hb.2
      obtain ⟨j, hj⟩ : ∃ j, j = i + b.length := ⟨_, rfl⟩
      have hjo : j < out.length := by omega
      have hji : IntKind.i64.wrap ((i : Int) + b.length) = (j : Int) := by rw [wrap_i64] <;> omega
      have hoj : out[j] = 0 := by
        have := hz j (by omega)
        rw [hz0 j (by omega), at0_in hjo] at this
        exact this
      have hset := val_set hjo c
      rw [hoj] at hset
      have w0 := u64_nat (k := c) (by omega)
      have m1 := mask32 c (by omega)
      have m2 := shr32 c
      have m3 := u32_nat hc
      rw [Nat.mod_eq_of_lt hc] at m1
      rw [Nat.div_eq_of_lt hc] at m2
      simp at m1 m2
      have hw : IntKind.i64.wrap ((b.length : Int) + 1) = (b.length : Int) + 1 := by rw [wrap_i64] <;> omega
      have hcp : 0 < c := by omega
      have wz : IntKind.u64.wrap 0 = 0 := by rw [wrap_u64] <;> omega
      have he := rmul_exit a b (out.set j c) i x (b.length + 1) (by omega) x18 la xi
      refine ⟨out.set j c, b.length + 1, ?_, hl.set hc, by simp [ho], fun r hr => by rw [at0_set_ne (by omega), hz r (by omega)]; exact hz0 r (by omega), ?_⟩
      · rw [← he, ex1_thicketref01_Mul]
        simp [rmE, hcp, hji, hjo, hoj, wz, w0, m1, m2, m3, hw, ul_set, m18, mi]
      · rw [← hv, ← hj]
        omega
  | succ n ih =>
    intro k c out hn hk hc hl ho hz hv
    have hal := ha.2
    have hbl := hb.2
    have hlt : k < b.length := by omega
    have hw := wrap_succ hlt (by omega)
    obtain ⟨y, hy⟩ : ∃ y, b[k] = y := ⟨_, rfl⟩
    have hyl := hb.1.get hlt
    rw [hy] at hyl
    obtain ⟨j, hj⟩ : ∃ j, j = i + k := ⟨_, rfl⟩
    have hjo : j < out.length := by omega
    have hji : IntKind.i64.wrap ((i : Int) + k) = (j : Int) := by rw [wrap_i64] <;> omega
    obtain ⟨o, hoj⟩ : ∃ o, out[j] = o := ⟨_, rfl⟩
    have hol := hl.get hjo
    rw [hoj] at hol
    have hp : x * y ≤ 4294967295 * 4294967295 := Nat.mul_le_mul (by omega) (by omega)
    obtain ⟨p, hpp⟩ : ∃ p, p = x * y := ⟨_, rfl⟩
    rw [← hpp] at hp
    have hpi : (x : Int) * (y : Int) = (p : Int) := by rw [hpp]; exact (Int.natCast_mul x y).symm
    obtain ⟨q, hq⟩ : ∃ q, q = c + o := ⟨_, rfl⟩
    obtain ⟨s, hs⟩ : ∃ s, s = q + p := ⟨_, rfl⟩
    have w0 := u64_nat (k := x) (by omega)
    have w1 := u64_nat (k := y) (by omega)
    have w2 := u64_nat (k := p) (by omega)
    have w3 := u64_nat (k := o) (by omega)
    have w4 : IntKind.u64.wrap ((c : Int) + o) = (q : Int) := by rw [wrap_u64] <;> omega
    have w5 : IntKind.u64.wrap ((q : Int) + p) = (s : Int) := by rw [wrap_u64] <;> omega
    have hset : val (out.set j (s % 4294967296)) + 4294967296 ^ (i + k) * o = val out + 4294967296 ^ (i + k) * (s % 4294967296) := by
      have := val_set hjo (s % 4294967296)
      rw [hoj] at this
      rw [← hj]
      exact this
    have hv2 := mul_step (x := x) (y := y) hset (by rw [hs, hq, hpp]; omega) hv
    have m1 := mask32 s (by omega)
    have m2 := shr32 s
    obtain ⟨lo, hlo⟩ : ∃ lo, lo = s % 4294967296 := ⟨_, rfl⟩
    obtain ⟨hi', hhi⟩ : ∃ hi, hi = s / 4294967296 := ⟨_, rfl⟩
    rw [← hlo] at m1 hv2
    rw [← hhi] at m2 hv2
    have m3 := u32_nat (k := lo) (by omega)
    simp at m1 m2
    rw [Nat.add_assoc, ← Nat.mul_add, ← Nat.mul_add, ← val_take_succ' hlt hy] at hv2
    obtain ⟨out', k', h0, h3⟩ := ih (k + 1) hi' (out.set j lo) (by omega) (by omega) (by omega) (hl.set (by omega)) (by simp [ho]) (fun r hr => by rw [at0_set_ne (by omega)]; exact hz r hr) hv2
    refine ⟨out', k', ?_, h3⟩
    rw [← h0, ex1_thicketref01_Mul]
    simp [rmE, hlt, hy, hw, hji, hjo, hoj, w0, w1, hpi, w2, w3, w4, w5, m1, m2, m3, ul_set, m18, mi]
theorem rmul_outer (a b : List Nat) (ha : Fit a) (hb : Fit b) : ∀ (n i : Nat) (out : List Nat), a.length - i = n → i ≤ a.length → Lim out → out.length = a.length + b.length + 1 → (∀ j, i + b.length ≤ j → at0 out j = 0) → val out = val (a.take i) * val b →
    ∃ out' : List Nat, Exec T l0_thicketref01_Mul [(0, .ro 1 (ul a)), (1, .ro 1 (ul b)), (5, .own 1 (ul out)), (17, .dead), (18, .ro 1 (ul a)), (19, .v (.int .i64 a.length)), (20, .v (.int .i64 i))] =
      some (.exit 0, [(0, .ro 1 (ul a)), (1, .ro 1 (ul b)), (5, .own 1 (ul out')), (17, .dead), (18, .ro 1 (ul a)), (19, .v (.int .i64 a.length)), (20, .v (.int .i64 a.length))]) ∧ Lim out' ∧ out'.length = a.length + b.length + 1 ∧ val out' = val a * val b := by
  intro n
  induction n with
  | zero =>
    intro i out hn hi hl ho hz hv
    obtain rfl : i = a.length := by omega
    refine ⟨out, ?_, hl, ho, ?_⟩
    · rw [ex0_thicketref01_Mul]
      simp
    · rwa [List.take_of_length_le (Nat.le_refl _)] at hv
  | succ n ih =>
    intro i out hn hi hl ho hz hv
    have hal := ha.2
    have hlt : i < a.length := by omega
    have hw := wrap_succ hlt (by omega)
    obtain ⟨x, hx⟩ : ∃ x, a[i] = x := ⟨_, rfl⟩
    have hxl := ha.1.get hlt
    rw [hx] at hxl
    obtain ⟨out1, k', h0, h1, h2, h3, h4⟩ := rmul_inner a b ha hb i x hlt hxl (.ro 1 (ul a)) (fun _ _ => rfl) a.length (.v (.int .i64 i)) (fun _ _ => rfl) out hz b.length 0 0 out rfl (Nat.zero_le _) (by omega) hl ho (fun _ _ => rfl) (by simp [val])
    simp only [rmE, Int.natCast_zero] at h0
    have hv2 : val out1 = val (a.take (i + 1)) * val b := by
      rw [val_take_succ' hlt hx, Nat.add_mul, Nat.mul_assoc, ← hv, h4]
    obtain ⟨out', k0, k1⟩ := ih (i + 1) out1 (by omega) (by omega) h1 h2 (fun r hr => h3 r (by omega)) hv2
    refine ⟨out', ?_, k1⟩
    rw [succ_cast] at k0
    rw [← k0, ex0_thicketref01_Mul]
    simp [hlt, hx, hw, h0]
theorem c_rMul (a b : List Nat) (ha : Fit a) (hb : Fit b) (hs : a.length + b.length + 1 ≤ 1099511627776) : Cinf T n_thicketref01_Mul [.ro 1 (ul a), .ro 1 (ul b)] = some (.own 1 (ul (limbs (val a * val b))), [.dead, .dead]) := by
  have hzl : Lim (List.replicate (a.length + b.length + 1) 0) := fun y hy => by rw [(List.mem_replicate.1 hy).2]; omega
  obtain ⟨out, h0, h1, h2, h3⟩ := rmul_outer a b ha hb a.length 0 (List.replicate (a.length + b.length + 1) 0) rfl (Nat.zero_le _) hzl (by simp) (fun j _ => by unfold at0; rw [List.getElem?_replicate]; split <;> rfl) (by rw [val_zeros]; simp [val])
  simp only [Int.natCast_zero] at h0
  have t := c_rNorm out ⟨h1, by omega⟩
  rw [h3] at t
  have hur : ul (List.replicate (a.length + b.length + 1) 0) = List.replicate (a.length + b.length + 1) (.v (.int .u32 0)) := by simp [ul]
  rw [hur] at h0
  have hw1 : IntKind.i64.wrap ((a.length : Int) + b.length) = (a.length : Int) + b.length := by rw [wrap_i64] <;> omega
  obtain ⟨m, hm⟩ : ∃ m, m = a.length + b.length + 1 := ⟨_, rfl⟩
  have hw2 : IntKind.i64.wrap ((a.length : Int) + b.length + 1) = (m : Int) := by rw [wrap_i64] <;> omega
  rw [← hm] at h0
  have e1 : (m : Int) * 4 ≤ 281474976710656 := by omega
  have e2 : m ≤ 4611686018427387904 := by omega
  rw [run_thicketref01_Mul]
  simp [Run, hw1, hw2, e1, e2, h0, t]
end Go.AM.F
