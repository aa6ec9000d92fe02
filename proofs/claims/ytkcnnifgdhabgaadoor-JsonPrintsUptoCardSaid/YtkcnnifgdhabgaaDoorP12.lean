/- JSON: a rune's bytes are put behind others. No conditions. -/
import Derived.Test.YtkcnnifgdhabgaaDoorP11
import Derived.Test.YtkcnnifgdhabgaaDoorK7
namespace Go.AM.F
open Go Go.AM
set_option maxRecDepth 10000
set_option linter.unusedSimpArgs false

theorem g_shr (v k : Nat) (hk : k ≤ 32) : (v : Int).fdiv (2 ^ min k IntKind.i32.bits) = ((v / 2 ^ k : Nat) : Int) := by
  rw [show min k IntKind.i32.bits = k from Nat.min_eq_left hk, show ((2 : Int) ^ k) = ((2 ^ k : Nat) : Int) by simp, Int.fdiv_eq_ediv_of_nonneg _ (Int.natCast_nonneg _)]
  first | rfl | exact (Int.natCast_ediv _ _).symm
theorem g_u8 (x : Nat) : IntKind.u8.wrap (x : Int) = ((x % 256 : Nat) : Int) := by
  unfold IntKind.wrap
  simp [IntKind.signed, IntKind.bits]
theorem g_u32 (x : Nat) (h : x < 4294967296) : IntKind.u32.wrap (x : Int) = (x : Int) := by
  unfold IntKind.wrap
  simp [IntKind.signed, IntKind.bits]
  omega
theorem g_and (x : Nat) (hx : x < 256) : IntKind.u8.wrap ((x % 2 ^ IntKind.u8.bits &&& 63 % 2 ^ IntKind.u8.bits : Nat) : Int) = ((x % 64 : Nat) : Int) := by
  rw [show x % 2 ^ IntKind.u8.bits = x by simp only [IntKind.bits]; omega, show (63 % 2 ^ IntKind.u8.bits : Nat) = 2 ^ 6 - 1 by rfl, Nat.and_two_pow_sub_one_eq_mod, g_u8]
  omega
theorem g_or {q : Nat} (a k : Nat) (hq : q < 2 ^ k) (ha : a * 2 ^ k + 2 ^ k ≤ 256) : IntKind.u8.wrap (((a * 2 ^ k) % 2 ^ IntKind.u8.bits ||| q % 2 ^ IntKind.u8.bits : Nat) : Int) = ((a * 2 ^ k + q : Nat) : Int) := by
  have h := Nat.shiftLeft_add_eq_or_of_lt hq a
  rw [Nat.shiftLeft_eq] at h
  rw [show (a * 2 ^ k) % 2 ^ IntKind.u8.bits = a * 2 ^ k by simp only [IntKind.bits]; omega, show q % 2 ^ IntKind.u8.bits = q by simp only [IntKind.bits]; omega, ← h, g_u8]
  omega
abbrev nb (l : List Nat) : List PV := l.map fun b => .v (.int .u8 (b : Nat))
attribute [local simp] j0_utf8_appendRuneNonASCII b_utf8_appendRuneNonASCII a_utf8_appendRuneNonASCII
theorem low6 (v : Nat) : v % 256 % 64 = v % 64 := by omega
theorem na2 (l : List PV) (v : Nat) (h1 : 128 ≤ v) (h : v < 2048) (hl : l.length ≤ 134217728) : Cinf T n_utf8_appendRuneNonASCII [.own 1 l, .v (.int .i32 v)] = some (.own 1 (l ++ nb [192 + v / 64, 128 + v % 64]), [.dead, .dead]) := by
  have hu := g_u32 v (by omega)
  have s1 := g_shr v 6 (by decide)
  have c1 := g_u8 (v / 64)
  have c2 := g_u8 v
  have a1 := g_and (v % 256) (by omega)
  have hq : v / 64 < 2 ^ 5 := by omega
  have o1 := g_or 6 5 hq (by decide)
  have hr : v % 64 < 2 ^ 6 := by omega
  have o2 := g_or 2 6 hr (by decide)
  have e1 : (6 * 2 ^ 5 : Nat) = 192 := rfl
  have e2 : (2 * 2 ^ 6 : Nat) = 128 := rfl
  have e3 : (2 ^ 6 : Nat) = 64 := rfl
  rw [e1] at o1
  rw [e2] at o2
  rw [e3] at s1
  rw [show v / 64 % 256 = v / 64 by omega] at c1
  rw [low6] at a1
  have e4 : l.length ≤ 140737488355326 := by omega
  have e5 : l.length ≤ 4611686018427387902 := by omega
  have e6 : v ≤ 2047 := by omega
  have e7 : (v : Int) ≤ 2047 := by omega
  simp only [nb, List.map_cons, List.map_nil]
  generalize v / 64 = q at *
  generalize v % 64 = r at *
  generalize v % 256 = w at *
  generalize 192 + q = x at *
  generalize 128 + r = y at *
  simp [run_utf8_appendRuneNonASCII, Run, home, hu, s1, c1, c2, a1, o1, o2, e4, e5, e6, e7]
theorem na3 (l : List PV) (v : Nat) (h1 : 2048 ≤ v) (h : v < 55296 ∨ (57344 ≤ v ∧ v < 65536)) (hl : l.length ≤ 134217728) : Cinf T n_utf8_appendRuneNonASCII [.own 1 l, .v (.int .i32 v)] = some (.own 1 (l ++ nb [224 + v / 4096, 128 + v / 64 % 64, 128 + v % 64]), [.dead, .dead]) := by
  have hu := g_u32 v (by omega)
  have s1 := g_shr v 6 (by decide)
  have s2 := g_shr v 12 (by decide)
  have c0 := g_u8 (v / 4096)
  have c1 := g_u8 (v / 64)
  have c2 := g_u8 v
  have a0 := g_and (v / 64 % 256) (by omega)
  have a1 := g_and (v % 256) (by omega)
  have hq : v / 4096 < 2 ^ 4 := by omega
  have o1 := g_or 14 4 hq (by decide)
  have hr : v % 64 < 2 ^ 6 := by omega
  have o2 := g_or 2 6 hr (by decide)
  have hr' : v / 64 % 64 < 2 ^ 6 := by omega
  have o3 := g_or 2 6 hr' (by decide)
  have e1 : (14 * 2 ^ 4 : Nat) = 224 := rfl
  have e2 : (2 * 2 ^ 6 : Nat) = 128 := rfl
  have e3 : (2 ^ 6 : Nat) = 64 := rfl
  have e3' : (2 ^ 12 : Nat) = 4096 := rfl
  rw [e1] at o1
  rw [e2] at o2 o3
  rw [e3] at s1
  rw [e3'] at s2
  rw [show v / 4096 % 256 = v / 4096 by omega] at c0
  rw [low6] at a1 a0
  have e4 : l.length ≤ 140737488355325 := by omega
  have e5 : l.length ≤ 4611686018427387901 := by omega
  have e6 : ¬ v ≤ 2047 := by omega
  have e7 : ¬ (v : Int) ≤ 2047 := by omega
  simp only [nb, List.map_cons, List.map_nil]
  rcases h with h | ⟨h2, h3⟩
  · have e8 : (v : Int) < 55296 := by omega
    generalize v / 4096 = p at *
    generalize v / 64 % 64 = r' at *
    generalize v / 64 % 256 = w' at *
    generalize v / 64 = q at *
    generalize v % 64 = r at *
    generalize v % 256 = w at *
    generalize 224 + p = x at *
    generalize 128 + r = y at *
    generalize 128 + r' = z at *
    simp [run_utf8_appendRuneNonASCII, Run, home, hu, s1, s2, c0, c1, c2, a0, a1, o1, o2, o3, e4, e5, e6, e7, h, e8]
  · have e8 : ¬ v < 55296 := by omega
    have e9 : 57343 < v := by omega
    have e10 : v ≤ 65535 := by omega
    have f8 : ¬ (v : Int) < 55296 := by omega
    have f9 : (57343 : Int) < v := by omega
    have f10 : (v : Int) ≤ 65535 := by omega
    generalize v / 4096 = p at *
    generalize v / 64 % 64 = r' at *
    generalize v / 64 % 256 = w' at *
    generalize v / 64 = q at *
    generalize v % 64 = r at *
    generalize v % 256 = w at *
    generalize 224 + p = x at *
    generalize 128 + r = y at *
    generalize 128 + r' = z at *
    simp [run_utf8_appendRuneNonASCII, Run, home, hu, s1, s2, c0, c1, c2, a0, a1, o1, o2, o3, e4, e5, e6, e7, e8, e9, e10, f8, f9, f10]
theorem na4 (l : List PV) (v : Nat) (h1 : 65536 ≤ v) (h : v ≤ 1114111) (hl : l.length ≤ 134217728) : Cinf T n_utf8_appendRuneNonASCII [.own 1 l, .v (.int .i32 v)] = some (.own 1 (l ++ nb [240 + v / 262144, 128 + v / 4096 % 64, 128 + v / 64 % 64, 128 + v % 64]), [.dead, .dead]) := by
  have hu := g_u32 v (by omega)
  have s1 := g_shr v 6 (by decide)
  have s2 := g_shr v 12 (by decide)
  have s3 := g_shr v 18 (by decide)
  have c0 := g_u8 (v / 4096)
  have c1 := g_u8 (v / 64)
  have c2 := g_u8 v
  have c3 := g_u8 (v / 262144)
  have a0 := g_and (v / 64 % 256) (by omega)
  have a1 := g_and (v % 256) (by omega)
  have a2 := g_and (v / 4096 % 256) (by omega)
  have hq : v / 262144 < 2 ^ 3 := by omega
  have o1 := g_or 30 3 hq (by decide)
  have hr : v % 64 < 2 ^ 6 := by omega
  have o2 := g_or 2 6 hr (by decide)
  have hr' : v / 64 % 64 < 2 ^ 6 := by omega
  have o3 := g_or 2 6 hr' (by decide)
  have hr'' : v / 4096 % 64 < 2 ^ 6 := by omega
  have o4 := g_or 2 6 hr'' (by decide)
  have e1 : (30 * 2 ^ 3 : Nat) = 240 := rfl
  have e2 : (2 * 2 ^ 6 : Nat) = 128 := rfl
  have e3 : (2 ^ 6 : Nat) = 64 := rfl
  have e3' : (2 ^ 12 : Nat) = 4096 := rfl
  have e3'' : (2 ^ 18 : Nat) = 262144 := rfl
  rw [e1] at o1
  rw [e2] at o2 o3 o4
  rw [e3] at s1
  rw [e3'] at s2
  rw [e3''] at s3
  rw [show v / 262144 % 256 = v / 262144 by omega] at c3
  rw [low6] at a1 a0 a2
  have e4 : l.length ≤ 140737488355324 := by omega
  have e5 : l.length ≤ 4611686018427387900 := by omega
  have e6 : ¬ v ≤ 2047 := by omega
  have e7 : ¬ (v : Int) ≤ 2047 := by omega
  have e8 : ¬ v < 55296 := by omega
  have e9 : 57343 < v := by omega
  have e10 : ¬ v ≤ 65535 := by omega
  have e11 : 65535 < v := by omega
  have f8 : ¬ (v : Int) < 55296 := by omega
  have f9 : (57343 : Int) < v := by omega
  have f10 : ¬ (v : Int) ≤ 65535 := by omega
  have f11 : (65535 : Int) < v := by omega
  have f12 : (v : Int) ≤ 1114111 := by omega
  simp only [nb, List.map_cons, List.map_nil]
  generalize v / 262144 = p' at *
  generalize v / 4096 % 64 = r'' at *
  generalize v / 4096 % 256 = w'' at *
  generalize v / 4096 = p at *
  generalize v / 64 % 64 = r' at *
  generalize v / 64 % 256 = w' at *
  generalize v / 64 = q at *
  generalize v % 64 = r at *
  generalize v % 256 = w at *
  generalize 240 + p' = x at *
  generalize 128 + r = y at *
  generalize 128 + r' = z at *
  generalize 128 + r'' = z' at *
  simp [run_utf8_appendRuneNonASCII, Run, home, hu, s1, s2, s3, c0, c1, c2, c3, a0, a1, a2, o1, o2, o3, o4, e4, e5, e6, e7, e8, e9, e10, e11, f8, f9, f10, f11, f12, h]
theorem nb_bl (l : List Nat) : nb l = bl (l.map UInt8.ofNat) ∨ ∃ b ∈ l, 256 ≤ b := by
  by_cases h : ∃ b ∈ l, 256 ≤ b
  · exact .inr h
  · refine .inl ?_
    simp only [nb, bl, List.map_map]
    refine List.map_congr_left fun b hb => ?_
    have : b < 256 := Classical.byContradiction fun hn => h ⟨b, hb, by omega⟩
    simp only [Function.comp, UInt8.toNat_ofNat']
    rw [Nat.mod_eq_of_lt (by omega)]
theorem bl_of {l : List Nat} (h : ∀ b ∈ l, b < 256) : nb l = bl (l.map UInt8.ofNat) := by
  rcases nb_bl l with h1 | ⟨b, h1, h2⟩
  · exact h1
  · have := h b h1
    omega
attribute [local simp] j0_utf8_AppendRune b_utf8_AppendRune a_utf8_AppendRune
theorem c_AppendRune (l : List UInt8) (v : Nat) (h : v < 55296 ∨ (57344 ≤ v ∧ v ≤ 1114111)) (hl : l.length ≤ 134217728) :
    Cinf T n_utf8_AppendRune [.own 1 (bl l), .v (.int .i32 v)] = some (.own 1 (bl (l ++ Lib.encodeRune (v : Int))), [.dead, .dead]) := by
  have hu := g_u32 v (by omega)
  have hbl : (bl l).length = l.length := by simp
  have key : ∀ q : List Nat, (∀ b ∈ q, b < 256) → Lib.encodeRune (v : Int) = q.map UInt8.ofNat → bl (l ++ Lib.encodeRune (v : Int)) = bl l ++ nb q := by
    intro q h1 h2
    rw [h2, bl_of h1, bl_append]
  have big : ∀ q : List Nat, 128 ≤ v → Cinf T n_utf8_appendRuneNonASCII [.own 1 (bl l), .v (.int .i32 v)] = some (.own 1 (bl l ++ nb q), [.dead, .dead]) → Cinf T n_utf8_AppendRune [.own 1 (bl l), .v (.int .i32 v)] = some (.own 1 (bl l ++ nb q), [.dead, .dead]) := by
    intro q h1 h2
    have e1 : ¬ v ≤ 127 := by omega
    have e2 : ¬ (v : Int) ≤ 127 := by omega
    generalize bl l ++ nb q = X at *
    generalize bl l = Y at *
    simp [run_utf8_AppendRune, Run, home, hu, e1, e2, h2]
  by_cases c1 : v < 128
  · rw [key [v] (by simp; omega) (by
      rw [Lib.encodeRune, Lib.encodeRuneZ_one (by omega) (by omega)]
      simp [Nat.toUInt8])]
    have hw := g_u8 v
    rw [show v % 256 = v by omega] at hw
    have e1 : v ≤ 127 := by omega
    have e2 : (v : Int) ≤ 127 := by omega
    have e4 : l.length ≤ 140737488355327 := by omega
    have e5 : l.length ≤ 4611686018427387903 := by omega
    simp [run_utf8_AppendRune, Run, home, hu, e1, e2, hw, e4, e5]
  by_cases c2 : v < 2048
  · rw [key [192 + v / 64, 128 + v % 64] (by simp; omega) (by
      rw [Lib.encodeRune, Lib.encodeRuneZ_two (by omega) (by omega)]
      have e1 : (192 + (v : Int) / 64).toNat = 192 + v / 64 := by omega
      have e2 : (128 + (v : Int) % 64).toNat = 128 + v % 64 := by omega
      simp only [List.map_cons, List.map_nil, e1, e2, Nat.toUInt8])]
    exact big _ (by omega) (na2 (bl l) v (by omega) c2 (by omega))
  by_cases c3 : v < 65536
  · rw [key [224 + v / 4096, 128 + v / 64 % 64, 128 + v % 64] (by simp; omega) (by
      rw [Lib.encodeRune, Lib.encodeRuneZ_three (by omega)]
      have e0 : (224 + (v : Int) / 4096).toNat = 224 + v / 4096 := by omega
      have e1 : (128 + (v : Int) / 64 % 64).toNat = 128 + v / 64 % 64 := by omega
      have e2 : (128 + (v : Int) % 64).toNat = 128 + v % 64 := by omega
      simp only [List.map_cons, List.map_nil, e0, e1, e2, Nat.toUInt8])]
    exact big _ (by omega) (na3 (bl l) v (by omega) (by omega) (by omega))
  · rw [key [240 + v / 262144, 128 + v / 4096 % 64, 128 + v / 64 % 64, 128 + v % 64] (by simp; omega) (by
      rw [Lib.encodeRune, Lib.encodeRuneZ_four (by omega) (by omega)]
      have e3 : (240 + (v : Int) / 262144).toNat = 240 + v / 262144 := by omega
      have e0 : (128 + (v : Int) / 4096 % 64).toNat = 128 + v / 4096 % 64 := by omega
      have e1 : (128 + (v : Int) / 64 % 64).toNat = 128 + v / 64 % 64 := by omega
      have e2 : (128 + (v : Int) % 64).toNat = 128 + v % 64 := by omega
      simp only [List.map_cons, List.map_nil, e0, e1, e2, e3, Nat.toUInt8])]
    exact big _ (by omega) (na4 (bl l) v (by omega) (by omega) (by omega))
end Go.AM.F
