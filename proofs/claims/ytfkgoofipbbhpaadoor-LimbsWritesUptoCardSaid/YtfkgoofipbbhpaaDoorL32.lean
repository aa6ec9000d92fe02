/- Digits written by the document; every Read and Print. No conditions. -/
import Derived.Test.YtfkgoofipbbhpaaDoorL31
namespace Go.AM.F
open Go Go.AM
set_option maxRecDepth 10000
set_option linter.unusedSimpArgs false
attribute [local simp] j0_thicketref01_Print j1_thicketref01_Print w1_thicketref01_Print j2_thicketref01_Print w0_thicketref01_Print j3_thicketref01_Print j4_thicketref01_Print w2_thicketref01_Print j5_thicketref01_Print j6_thicketref01_Print j7_thicketref01_Print b_thicketref01_Print a_thicketref01_Print
/-- A row of bytes. -/
def bl (l : List UInt8) : List PV := l.map fun b => .v (.int .u8 b.toNat)
@[simp] theorem bl_length (l : List UInt8) : (bl l).length = l.length := by simp [bl]
@[simp] theorem bl_nil : bl [] = [] := rfl
theorem bl_append (a b : List UInt8) : bl (a ++ b) = bl a ++ bl b := by simp [bl]
theorem bl_snoc (a : List UInt8) (x : UInt8) : bl (a ++ [x]) = bl a ++ [.v (.int .u8 x.toNat)] := by simp [bl]
theorem bl_get {l : List UInt8} {k : Nat} (h : k < l.length) : (bl l)[k]? = some (.v (.int .u8 l[k].toNat)) := by simp [bl, h]
theorem bytesOf_bl : ∀ l : List UInt8, bytesOfPV (bl l) = some l
  | [] => rfl
  | x :: r => by
    have h := bytesOf_bl r
    simp only [bl, List.map_cons] at h ⊢
    simp only [bytesOfPV, byteOfPV, h]
    show some (UInt8.ofNat ((x.toNat : Int).toNat) :: r) = _
    rw [Int.toNat_natCast, UInt8.ofNat_toNat]
theorem db_conv {d : Nat} (h : d < 10) : IntKind.u8.wrap ((48 + d : Nat) : Int) = ((db d).toNat : Int) := by
  rw [db_nat h]
  exact u8_nat (by omega)
def rpE (x : List Nat) (back : List UInt8) (n i : Nat) (x21 x24 x25 x33 : PV) : Env := [(3, .own 1 (ul x)), (4, .own 1 (bl back)), (5, .dead), (8, .v (.int .u64 n)), (10, .v (.int .i64 i)), (14, .dead), (21, x21), (24, x24), (25, x25), (33, x33), (53, .dead)]
theorem rp_step (x : List Nat) (back : List UInt8) (n i : Nat) (hi : i < 9) (hx : 0 < n ∨ 0 < x.length) (hb : back.length ≤ 4398046511104) (hn : n < 18446744073709551616) (x21 x24 x25 x33 : PV) :
    ∃ z21 z24 z25 z33, Exec T l1_thicketref01_Print (rpE x back n i x21 x24 x25 x33) = Exec T l1_thicketref01_Print (rpE x (back ++ [db (n % 10)]) (n / 10) (i + 1) z21 z24 z25 z33) := by
  have hd : n % 10 < 10 := Nat.mod_lt _ (by decide)
  have hdc := db_conv hd
  have q1 : (n : Int).tmod 10 = ((n % 10 : Nat) : Int) := rfl
  have q2 : (n : Int).tdiv 10 = ((n / 10 : Nat) : Int) := rfl
  have hr2 : n / 10 < 18446744073709551616 := by omega
  obtain ⟨d, hde⟩ : ∃ d, n % 10 = d := ⟨_, rfl⟩
  obtain ⟨n2, hn2⟩ : ∃ d, n / 10 = d := ⟨_, rfl⟩
  rw [hde] at hd hdc q1 ⊢
  rw [hn2] at q2 hr2 ⊢
  have w1 : IntKind.u64.wrap ((48 : Int) + d) = ((48 + d : Nat) : Int) := by rw [wrap_u64] <;> omega
  have w3 := u64_nat (k := n2) hr2
  have w4 : IntKind.i64.wrap ((i : Int) + 1) = (i : Int) + 1 := by rw [wrap_i64] <;> omega
  have q3 : binInt .quo .u64 n 10 = some (.int .u64 (n2 : Nat)) := by rw [binInt_quo, if_neg (by decide), q2, w3]
  have q4 : binInt .rem .u64 n 10 = some (.int .u64 (d : Nat)) := by rw [binInt_rem, if_neg (by decide), q1]
  obtain ⟨z, hz⟩ : ∃ z, 48 + d = z := ⟨_, rfl⟩
  rw [hz] at w1 hdc
  have e1 : back.length + 1 ≤ 140737488355328 := by omega
  have e2 : back.length ≤ 140737488355327 := by omega
  have e3 : back.length ≤ 4611686018427387903 := by omega
  refine ⟨?a1, ?a2, ?a3, ?a4, ?_⟩
  rotate_left 4
  rw [ex1_thicketref01_Print]
  unfold rpE
  rw [succ_cast, bl_snoc]
  by_cases hn0 : 0 < n
  · simp [-binInt_quo, -binInt_rem, hi, hn0, q3, q4, w1, w4, hdc, e1, e2, e3]
    rfl
  · have hx0 : 0 < x.length := by omega
    have hx1 : ¬ x = [] := List.length_pos_iff.1 hx0
    simp [-binInt_quo, -binInt_rem, hi, hn0, hx0, hx1, q3, q4, w1, w4, hdc, e1, e2, e3]
/-- Nine digits are written where more stand before them. -/
theorem rp_pad (x : List Nat) (hx : 0 < x.length) : ∀ (m i n : Nat) (back : List UInt8), i + m = 9 → back.length + m ≤ 4398046511104 → n < 18446744073709551616 → ∀ (x21 x24 x25 x33 : PV),
    ∃ (n' : Nat) (z21 z24 z25 z33 : PV), Exec T l1_thicketref01_Print (rpE x back n i x21 x24 x25 x33) = some (.exit 2, rpE x (back ++ dpad m n) n' 9 z21 z24 z25 z33) := by
  intro m
  induction m with
  | zero =>
    intro i n back hi hb hn x21 x24 x25 x33
    obtain rfl : i = 9 := by omega
    refine ⟨n, x21, x24, x25, x33, ?_⟩
    rw [dpad, List.append_nil, ex1_thicketref01_Print]
    simp [rpE]
  | succ m ih =>
    intro i n back hi hb hn x21 x24 x25 x33
    obtain ⟨z21, z24, z25, z33, h0⟩ := rp_step x back n i (by omega) (.inr hx) (by omega) hn x21 x24 x25 x33
    obtain ⟨n', y21, y24, y25, y33, h1⟩ := ih (i + 1) (n / 10) (back ++ [db (n % 10)]) (by omega) (by simp; omega) (by omega) z21 z24 z25 z33
    refine ⟨n', y21, y24, y25, y33, ?_⟩
    rw [h0, h1, dpad, List.append_assoc, List.singleton_append]
/-- The first digits, as many as are needed. -/
theorem rp_rest : ∀ (m i n : Nat) (back : List UInt8), i + m = 9 → n < 10 ^ m → back.length + m ≤ 4398046511104 → ∀ (x21 x24 x25 x33 : PV),
    ∃ (n' i' : Nat) (z21 z24 z25 z33 : PV), Exec T l1_thicketref01_Print (rpE [] back n i x21 x24 x25 x33) = some (.exit 2, rpE [] (back ++ revD n) n' i' z21 z24 z25 z33) := by
  intro m
  induction m with
  | zero =>
    intro i n back hi hn hb x21 x24 x25 x33
    obtain rfl : i = 9 := by omega
    have h0 : n = 0 := by simpa using hn
    refine ⟨n, 9, x21, x24, x25, x33, ?_⟩
    rw [h0, revD_zero, List.append_nil, ex1_thicketref01_Print]
    simp [rpE]
  | succ m ih =>
    intro i n back hi hn hb x21 x24 x25 x33
    by_cases h0 : n = 0
    · refine ⟨n, i, x21, x24, x25, x33, ?_⟩
      have e1 : i < 9 := by omega
      rw [h0, revD_zero, List.append_nil, ex1_thicketref01_Print]
      simp [rpE, e1]
    · have hn9 := pow9 (i := m + 1) (by omega)
      obtain ⟨z21, z24, z25, z33, h1⟩ := rp_step [] back n i (by omega) (.inl (by omega)) (by omega) (by omega) x21 x24 x25 x33
      obtain ⟨n', i', y21, y24, y25, y33, h2⟩ := ih (i + 1) (n / 10) (back ++ [db (n % 10)]) (by omega) (by rw [Nat.pow_succ] at hn; omega) (by simp; omega) z21 z24 z25 z33
      refine ⟨n', i', y21, y24, y25, y33, ?_⟩
      rw [h1, h2, revD_pos h0, List.append_assoc, List.singleton_append]
def roE (x : List Nat) (back : List UInt8) (x21 x24 x25 x33 : PV) : Env := [(3, .own 1 (ul x)), (4, .own 1 (bl back)), (5, .dead), (14, .dead), (21, x21), (24, x24), (25, x25), (33, x33), (53, .dead)]
theorem ro_step (v : Nat) (h0 : v ≠ 0) (hv : Fit (limbs v)) (hl : (limbs v).length ≤ 17179869184) (back back' : List UInt8) (n' i' : Nat) (x21 x24 x25 x33 y21 y24 y25 y33 : PV)
    (h : Exec T l1_thicketref01_Print (rpE (limbs (v / 1000000000)) back (v % 1000000000) 0 (.tup [.ref 24 [0], .ref 24 [1], .v (.int .i64 0)]) (.tup [.dead, .dead, .v (.int .i64 0)]) (.ref 24 [0]) (.ref 5 [])) = some (.exit 2, rpE (limbs (v / 1000000000)) back' n' i' y21 y24 y25 y33)) :
    Exec T l0_thicketref01_Print (roE (limbs v) back x21 x24 x25 x33) = Exec T l0_thicketref01_Print (roE (limbs (v / 1000000000)) back' y21 y24 y25 y33) := by
  have hne : ¬ limbs v = [] := by rw [limbs_pos h0]; simp
  have hpos : 0 < (limbs v).length := List.length_pos_iff.2 hne
  have hB : Lim [1000000000] := Lim.one (by decide)
  have hd := c_rDivMod (limbs v) [1000000000] hv ⟨hB, by simp⟩ hl (by simp)
  rw [val_limbs, show val [1000000000] = 1000000000 from rfl, divR_pos (by decide)] at hd
  have hrl : v % 1000000000 < 1000000000 := Nat.mod_lt _ (by decide)
  obtain ⟨R, hR⟩ : ∃ R, v % 1000000000 = R := ⟨_, rfl⟩
  rw [hR] at hd hrl h
  have hRl := limbs_len_le (n := R) (k := 1) (by omega)
  have hs := c_rSmall (limbs R) ⟨limbs_lim R, by omega⟩
  rw [val_limbs] at hs
  unfold smallR at hs
  rw [if_pos (by omega)] at hs
  simp only [rpE, Int.natCast_zero] at h
  have hcast : ((1000000000 : Nat) : Int) = 1000000000 := rfl
  rw [ul_cons, ul_nil, hcast] at hd
  rw [ex0_thicketref01_Print]
  unfold roE
  simp [hpos, hne, hd, hs, h]
  have key : ∀ e e' : Env, e.keep [3, 4, 5, 14, 21, 24, 25, 33, 53] = e'.keep [3, 4, 5, 14, 21, 24, 25, 33, 53] → Exec T l0_thicketref01_Print e = Exec T l0_thicketref01_Print e' := fun e e' h => by rw [ex0_thicketref01_Print e, ex0_thicketref01_Print e', h]
  exact key _ _ rfl
theorem ro_loop : ∀ (v : Nat) (back : List UInt8), Fit (limbs v) → (limbs v).length ≤ 17179869184 → back.length + 9 * (chunks v).length ≤ 4398046511104 → ∀ (x21 x24 x25 x33 : PV),
    ∃ (z21 z24 z25 z33 : PV), Exec T l0_thicketref01_Print (roE (limbs v) back x21 x24 x25 x33) = some (.exit 0, roE [] (back ++ revD v) z21 z24 z25 z33) := by
  intro v
  induction v using Nat.strongRecOn with
  | _ v ih =>
    intro back hv hl hb x21 x24 x25 x33
    by_cases h0 : v = 0
    · subst h0
      refine ⟨x21, x24, x25, x33, ?_⟩
      rw [limbs_zero, revD_zero, List.append_nil, ex0_thicketref01_Print]
      simp [roE]
    · rw [chunks_pos h0, List.length_cons] at hb
      have hmono := limbs_mono (m := v / 1000000000) (n := v) (by omega)
      have hv2 := hv.2
      by_cases h1 : v / 1000000000 = 0
      · obtain ⟨n', i', y21, y24, y25, y33, h2⟩ := rp_rest 9 0 (v % 1000000000) back rfl (by omega) (by omega) (.tup [.ref 24 [0], .ref 24 [1], .v (.int .i64 0)]) (.tup [.dead, .dead, .v (.int .i64 0)]) (.ref 24 [0]) (.ref 5 [])
        have hq : limbs (v / 1000000000) = [] := by rw [h1, limbs_zero]
        have h3 := ro_step v h0 hv hl back _ n' i' x21 x24 x25 x33 y21 y24 y25 y33 (by rw [hq]; exact h2)
        refine ⟨y21, y24, y25, y33, ?_⟩
        rw [h3, h1, limbs_zero, Nat.mod_eq_of_lt (by omega), ex0_thicketref01_Print]
        simp [roE]
      · have hne : ¬ limbs (v / 1000000000) = [] := by rw [limbs_pos h1]; simp
        obtain ⟨n', y21, y24, y25, y33, h2⟩ := rp_pad (limbs (v / 1000000000)) (List.length_pos_iff.2 hne) 9 0 (v % 1000000000) back rfl (by omega) (by omega) (.tup [.ref 24 [0], .ref 24 [1], .v (.int .i64 0)]) (.tup [.dead, .dead, .v (.int .i64 0)]) (.ref 24 [0]) (.ref 5 [])
        have h3 := ro_step v h0 hv hl back _ n' 9 x21 x24 x25 x33 y21 y24 y25 y33 h2
        obtain ⟨z21, z24, z25, z33, h4⟩ := ih (v / 1000000000) (by omega) (back ++ dpad 9 (v % 1000000000)) ⟨limbs_lim _, by omega⟩ (by omega) (by simp [dpad_length]; omega) y21 y24 y25 y33
        refine ⟨z21, z24, z25, z33, ?_⟩
        have hcut := revD_cut 9 v h1
        rw [h3, h4, hcut, List.append_assoc]
/-- The digits, turned about. -/
theorem rev_loop (l : List UInt8) (hl : l.length ≤ 4398046511104) : ∀ (k : Nat) (out : List UInt8), k ≤ l.length → out.length + k ≤ 4398046511104 →
    Exec T l2_thicketref01_Print [(4, .own 1 (bl l)), (11, .own 1 (bl out)), (12, .v (.int .i64 ((k : Int) - 1))), (53, .dead), (69, .dead)] = some (.exit 4, [(4, .own 1 (bl l)), (11, .own 1 (bl (out ++ (l.take k).reverse))), (12, .v (.int .i64 (-1))), (53, .dead), (69, .dead)]) := by
  intro k
  induction k with
  | zero =>
    intro out hk ho
    rw [ex2_thicketref01_Print]
    simp
  | succ k ih =>
    intro out hk ho
    have hlt : k < l.length := by omega
    have h0 := ih (out ++ [l[k]]) (by omega) (by simp; omega)
    have ht : (l.take (k + 1)).reverse = l[k] :: (l.take k).reverse := by rw [List.take_succ_eq_append_getElem hlt, List.reverse_append]; rfl
    rw [List.append_assoc, List.singleton_append, ← ht, bl_snoc] at h0
    have hg2 : (bl l)[k]'(by simpa using hlt) = .v (.int .u8 l[k].toNat) := (List.getElem?_eq_some_iff.1 (bl_get hlt)).2
    obtain ⟨b, hb⟩ : ∃ b, l[k] = b := ⟨_, rfl⟩
    rw [hb] at hg2 h0
    have w5 : IntKind.i64.wrap ((k : Int) - 1) = (k : Int) - 1 := by rw [wrap_i64] <;> omega
    have e1 : out.length + 1 ≤ 140737488355328 := by omega
    have e2 : out.length ≤ 140737488355327 := by omega
    have e3 : out.length ≤ 4611686018427387903 := by omega
    rw [show ((k + 1 : Nat) : Int) - 1 = (k : Int) by omega, ← h0, ex2_thicketref01_Print]
    simp [hlt, hg2, w5, e1, e2, e3]
theorem revD_len (v : Nat) : (revD v).length ≤ 9 * (chunks v).length := by
  obtain ⟨m, hm⟩ := chunks_revD v
  have h := congrArg List.length hm
  have h2 : ∀ cs : List Nat, (cs.flatMap (dpad 9)).length = 9 * cs.length := by
    intro cs
    induction cs with
    | nil => rfl
    | cons c r ih => rw [List.flatMap_cons, List.length_append, dpad_length, ih, List.length_cons]; omega
  rw [h2, List.length_append] at h
  omega
theorem c_rPrint (l : List Nat) (h : Fit l) (hl : l.length ≤ 17179869184) : Cinf T n_thicketref01_Print [.ro 1 (ul l)] = some (.v (.string (printT (val l))), [.dead]) := by
  have h0 := c_rNorm l h
  have hf := h.limbs
  have hll := limbs_len h.1
  rw [run_thicketref01_Print]
  unfold printT
  by_cases hv : val l = 0
  · rw [if_pos hv]
    rw [hv, limbs_zero, ul_nil] at h0
    simp [Run, h0]
  · rw [if_neg hv]
    have hne : ¬ limbs (val l) = [] := by rw [limbs_pos hv]; simp
    have hcl := chunks_limbs (val l)
    obtain ⟨z21, z24, z25, z33, h1⟩ := ro_loop (val l) [] hf (by omega) (by simp; omega) .dead .dead .dead .dead
    have hrl := revD_len (val l)
    have h2 := rev_loop (revD (val l)) (by omega) (revD (val l)).length [] (Nat.le_refl _) (by simp; omega)
    rw [List.take_of_length_le (Nat.le_refl _), List.nil_append] at h2
    rw [List.nil_append] at h1
    simp only [roE, bl_nil, ul_nil] at h1
    rw [bl_nil] at h2
    have h3 := bytesOf_bl (revD (val l)).reverse
    have w : IntKind.i64.wrap (((revD (val l)).length : Int) - 1) = ((revD (val l)).length : Int) - 1 := by rw [wrap_i64] <;> omega
    simp [Run, h0, hne, h1, w, h2, h3]
    rfl
/-- What Read answers is alike on both sides, and has no needless limbs. -/
theorem readR_cases (s : ByteArray) : (∃ z : Int, readR s = .tup [.own 1 [], .v (.int .i64 10), .v (.int .i64 z)]) ∨ readR s = .tup [.own 1 (ul (limbs (decN s 0 s.size))), .v (.int .i64 0), .v (.int .i64 0)] ∧ (limbs (decN s 0 s.size)).length ≤ s.size := by
  unfold readR
  split
  · exact .inl ⟨_, rfl⟩
  · rename_i h1
    split
    · exact .inl ⟨_, rfl⟩
    · exact .inr ⟨rfl, decN_fit (fun k hk => stop_not (badDig s) s.size 0 k (Nat.zero_le _) (by unfold fault at h1; omega)) (Nat.le_refl _)⟩
end Go.AM.F
