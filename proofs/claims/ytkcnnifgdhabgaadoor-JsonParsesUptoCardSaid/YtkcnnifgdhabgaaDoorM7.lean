/- JSON: the document's encoding of a character. No conditions. -/
import Derived.Test.YtkcnnifgdhabgaaDoorM6
namespace Go.AM.F
open Go Go.AM
set_option maxRecDepth 10000
set_option linter.unusedSimpArgs false

def sk (A1 A2 A3 : IR) : IR → IR
  | .seq r0 (.seq (.block n (.seq r1 (.cond k1 c1 _ (.seq r2 (.cond k2 c2 _ (.seq r3 (.cond k3 c3 _ s))))))) k) => .seq r0 (.seq (.block n (.seq r1 (.cond k1 c1 A1 (.seq r2 (.cond k2 c2 A2 (.seq r3 (.cond k3 c3 A3 s))))))) k)
  | x => x
def uA1 : IR := match b_thicketref10_utf8 with
  | .seq _ (.seq (.block _ (.seq _ (.cond _ _ A _))) _) => A
  | _ => .skip
def uA2 : IR := match b_thicketref10_utf8 with
  | .seq _ (.seq (.block _ (.seq _ (.cond _ _ _ (.seq _ (.cond _ _ A _))))) _) => A
  | _ => .skip
def uA3 : IR := match b_thicketref10_utf8 with
  | .seq _ (.seq (.block _ (.seq _ (.cond _ _ _ (.seq _ (.cond _ _ _ (.seq _ (.cond _ _ A _))))))) _) => A
  | _ => .skip
theorem sk_1 (A1 A2 A3 : IR) (v : Nat) (h : v < 128) {e' : Env} (hA : Exec T A1 [(0, .v (.int .i64 v))] = some (.ret, e')) : Exec T (sk A1 A2 A3 b_thicketref10_utf8) [(0, .v (.int .i64 v))] = some (.ret, e') := by
  simp [sk, b_thicketref10_utf8, h, hA]
theorem sk_2 (A1 A2 A3 : IR) (v : Nat) (h1 : ¬ v < 128) (h : v < 2048) {e' : Env} (hA : Exec T A2 [(0, .v (.int .i64 v))] = some (.ret, e')) : Exec T (sk A1 A2 A3 b_thicketref10_utf8) [(0, .v (.int .i64 v))] = some (.ret, e') := by
  simp [sk, b_thicketref10_utf8, h, h1, hA]
theorem sk_3 (A1 A2 A3 : IR) (v : Nat) (h1 : ¬ v < 128) (h2 : ¬ v < 2048) (h : v < 65536) {e' : Env} (hA : Exec T A3 [(0, .v (.int .i64 v))] = some (.ret, e')) : Exec T (sk A1 A2 A3 b_thicketref10_utf8) [(0, .v (.int .i64 v))] = some (.ret, e') := by
  simp [sk, b_thicketref10_utf8, h, h1, h2, hA]
theorem sk_4 (A1 A2 A3 : IR) (v : Nat) (h1 : ¬ v < 128) (h2 : ¬ v < 2048) (h : ¬ v < 65536) {e' : Env} (hA : Exec T j0_thicketref10_utf8 [(0, .v (.int .i64 v))] = some (.ret, e')) : Exec T (sk A1 A2 A3 b_thicketref10_utf8) [(0, .v (.int .i64 v))] = some (.ret, e') := by
  simp [sk, b_thicketref10_utf8, h, h1, h2, hA]
theorem f_shr (v k : Nat) (hk : k ≤ 64) : (v : Int).fdiv (2 ^ min k IntKind.i64.bits) = ((v / 2 ^ k : Nat) : Int) := by
  rw [show min k IntKind.i64.bits = k from Nat.min_eq_left hk, show ((2 : Int) ^ k) = ((2 ^ k : Nat) : Int) by simp, Int.fdiv_eq_ediv_of_nonneg _ (Int.natCast_nonneg _)]
  first | rfl | exact (Int.natCast_ediv _ _).symm
theorem f_and (x : Nat) (hx : x < 4294967296) : IntKind.i64.wrap ((x % 2 ^ IntKind.i64.bits &&& 63 % 2 ^ IntKind.i64.bits : Nat) : Int) = ((x % 64 : Nat) : Int) := by
  rw [show x % 2 ^ IntKind.i64.bits = x by simp only [IntKind.bits]; omega, show (63 % 2 ^ IntKind.i64.bits : Nat) = 2 ^ 6 - 1 by rfl, Nat.and_two_pow_sub_one_eq_mod, wrap_i64] <;> omega
theorem f_or {q : Nat} (a k : Nat) (hq : q < 2 ^ k) (ha : a * 2 ^ k < 256) (hk : k ≤ 6) : IntKind.i64.wrap (((a * 2 ^ k) % 2 ^ IntKind.i64.bits ||| q % 2 ^ IntKind.i64.bits : Nat) : Int) = ((a * 2 ^ k + q : Nat) : Int) := by
  have hb : (2 : Nat) ^ k ≤ 2 ^ 6 := Nat.pow_le_pow_right (by decide) hk
  have h6 : (2 : Nat) ^ 6 = 64 := rfl
  have h := Nat.shiftLeft_add_eq_or_of_lt hq a
  rw [Nat.shiftLeft_eq] at h
  rw [show (a * 2 ^ k) % 2 ^ IntKind.i64.bits = a * 2 ^ k by simp only [IntKind.bits]; omega, show q % 2 ^ IntKind.i64.bits = q by simp only [IntKind.bits]; omega, ← h, wrap_i64] <;> omega
theorem f_u8 (b : Nat) (h : b < 256) : IntKind.u8.wrap (b : Int) = (b : Int) := by rw [wrap_u8] <;> omega
theorem enc_valid {v : Nat} (h : v < 55296 ∨ (57344 ≤ v ∧ v ≤ 1114111)) : Utf8.valid (v : Int) = true := by
  unfold Utf8.valid
  simp only [Bool.or_eq_true, Bool.and_eq_true, decide_eq_true_eq]
  omega
abbrev uE (l : List Nat) : Env := [(2, .own 1 (l.map fun b => .v (.int .u8 (b : Nat)))), (8, .dead), (20, .dead), (37, .dead), (56, .dead)]
theorem t1 (v : Nat) (h : v < 128) : Exec T uA1 [(0, .v (.int .i64 v))] = some (.ret, uE [v]) := by
  have hw := f_u8 v (by omega)
  simp [uA1, b_thicketref10_utf8, hw]
theorem t2 (v : Nat) (h : v < 2048) : Exec T uA2 [(0, .v (.int .i64 v))] = some (.ret, uE [192 + v / 64, 128 + v % 64]) := by
  have h1 := f_shr v 6 (by decide)
  have h2 := f_and v (by omega)
  have hq : v / 2 ^ 6 < 2 ^ 6 := by omega
  have h3 := f_or 3 6 hq (by decide) (by decide)
  have hr : v % 64 < 2 ^ 6 := by omega
  have h4 := f_or 2 6 hr (by decide) (by decide)
  have h5 := f_u8 (3 * 2 ^ 6 + v / 2 ^ 6) (by omega)
  have h6 := f_u8 (2 * 2 ^ 6 + v % 64) (by omega)
  have e1 : (3 * 2 ^ 6 : Nat) = 192 := rfl
  have e2 : (2 * 2 ^ 6 : Nat) = 128 := rfl
  have e3 : (2 ^ 6 : Nat) = 64 := rfl
  rw [e1] at h3 h5
  rw [e2] at h4 h6
  rw [e3] at h1 h3 h5
  generalize v / 64 = q at *
  generalize v % 64 = r at *
  generalize 192 + q = x at *
  generalize 128 + r = y at *
  simp [uA2, b_thicketref10_utf8, h1, h2, h3, h4, h5, h6]
theorem t3 (v : Nat) (h : v < 65536) : Exec T uA3 [(0, .v (.int .i64 v))] = some (.ret, uE [224 + v / 4096, 128 + v / 64 % 64, 128 + v % 64]) := by
  have h1 := f_shr v 12 (by decide)
  have h1' := f_shr v 6 (by decide)
  have h2 := f_and v (by omega)
  have h2' := f_and (v / 64) (by omega)
  have hq : v / 2 ^ 12 < 2 ^ 5 := by omega
  have h3 := f_or 7 5 hq (by decide) (by decide)
  have hr : v % 64 < 2 ^ 6 := by omega
  have h4 := f_or 2 6 hr (by decide) (by decide)
  have hr' : v / 64 % 64 < 2 ^ 6 := by omega
  have h4' := f_or 2 6 hr' (by decide) (by decide)
  have h5 := f_u8 (7 * 2 ^ 5 + v / 2 ^ 12) (by omega)
  have h6 := f_u8 (2 * 2 ^ 6 + v % 64) (by omega)
  have h6' := f_u8 (2 * 2 ^ 6 + v / 64 % 64) (by omega)
  have e1 : (7 * 2 ^ 5 : Nat) = 224 := rfl
  have e2 : (2 * 2 ^ 6 : Nat) = 128 := rfl
  have e3 : (2 ^ 6 : Nat) = 64 := rfl
  have e4 : (2 ^ 12 : Nat) = 4096 := rfl
  rw [e1] at h3 h5
  rw [e2] at h4 h4' h6 h6'
  rw [e3] at h1'
  rw [e4] at h1 h3 h5
  generalize v / 4096 = p at *
  generalize v / 64 % 64 = r' at *
  generalize v / 64 = q at *
  generalize v % 64 = r at *
  generalize 224 + p = x at *
  generalize 128 + r = y at *
  generalize 128 + r' = z at *
  simp [uA3, b_thicketref10_utf8, h1, h2, h3, h4, h5, h6, h1', h2', h4', h6']
theorem t4 (v : Nat) (h : v < 2097152) : Exec T j0_thicketref10_utf8 [(0, .v (.int .i64 v))] = some (.ret, uE [240 + v / 262144, 128 + v / 4096 % 64, 128 + v / 64 % 64, 128 + v % 64]) := by
  have h0 := f_shr v 18 (by decide)
  have h1 := f_shr v 12 (by decide)
  have h1' := f_shr v 6 (by decide)
  have h2 := f_and v (by omega)
  have h2' := f_and (v / 64) (by omega)
  have h2'' := f_and (v / 4096) (by omega)
  have hq : v / 2 ^ 18 < 2 ^ 4 := by omega
  have h3 := f_or 15 4 hq (by decide) (by decide)
  have hr : v % 64 < 2 ^ 6 := by omega
  have h4 := f_or 2 6 hr (by decide) (by decide)
  have hr' : v / 64 % 64 < 2 ^ 6 := by omega
  have h4' := f_or 2 6 hr' (by decide) (by decide)
  have hr'' : v / 4096 % 64 < 2 ^ 6 := by omega
  have h4'' := f_or 2 6 hr'' (by decide) (by decide)
  have h5 := f_u8 (15 * 2 ^ 4 + v / 2 ^ 18) (by omega)
  have h6 := f_u8 (2 * 2 ^ 6 + v % 64) (by omega)
  have h6' := f_u8 (2 * 2 ^ 6 + v / 64 % 64) (by omega)
  have h6'' := f_u8 (2 * 2 ^ 6 + v / 4096 % 64) (by omega)
  have e1 : (15 * 2 ^ 4 : Nat) = 240 := rfl
  have e2 : (2 * 2 ^ 6 : Nat) = 128 := rfl
  have e3 : (2 ^ 6 : Nat) = 64 := rfl
  have e4 : (2 ^ 12 : Nat) = 4096 := rfl
  have e5 : (2 ^ 18 : Nat) = 262144 := rfl
  rw [e1] at h3 h5
  rw [e2] at h4 h4' h4'' h6 h6' h6''
  rw [e3] at h1'
  rw [e4] at h1
  rw [e5] at h0 h3 h5
  generalize v / 262144 = p at *
  generalize v / 4096 % 64 = r'' at *
  generalize v / 4096 = q' at *
  generalize v / 64 % 64 = r' at *
  generalize v / 64 = q at *
  generalize v % 64 = r at *
  generalize 240 + p = x at *
  generalize 128 + r = y at *
  generalize 128 + r' = z at *
  generalize 128 + r'' = z' at *
  simp [j0_thicketref10_utf8, h0, h1, h2, h3, h4, h5, h6, h1', h2', h4', h6', h2'', h4'', h6'']
theorem c_utf8 (v : Nat) (h : v < 55296 ∨ (57344 ≤ v ∧ v ≤ 1114111)) : Cinf T n_thicketref10_utf8 [.v (.int .i64 v)] = some (.own 1 (byteList (Utf8.encode (v : Int))), [.dead]) := by
  have hv := enc_valid h
  have hsk : b_thicketref10_utf8 = sk uA1 uA2 uA3 b_thicketref10_utf8 := rfl
  have fin : ∀ l : List Nat, finish a_thicketref10_utf8 [.v (.int .i64 v)] (some (.ret, uE l)) = some (.own 1 (l.map fun b => .v (.int .u8 (b : Nat))), [.dead]) := by
    intro l
    simp [a_thicketref10_utf8]
  have main : ∀ l : List Nat, Exec T (sk uA1 uA2 uA3 b_thicketref10_utf8) [(0, .v (.int .i64 v))] = some (.ret, uE l) → Cinf T n_thicketref10_utf8 [.v (.int .i64 v)] = some (.own 1 (l.map fun b => .v (.int .u8 (b : Nat))), [.dead]) := by
    intro l hl
    rw [run_thicketref10_utf8, ← fin l, ← hl, ← hsk]
    rfl
  have hby : ∀ l : List Nat, (∀ b ∈ l, b < 256) → byteList ⟨(l.map UInt8.ofNat).toArray⟩ = l.map fun b => .v (.int .u8 (b : Nat)) := by
    intro l hl
    rw [byteList_bl]
    simp only [bl, List.map_map]
    refine List.map_congr_left fun b hb => ?_
    have := hl b hb
    simp only [Function.comp, UInt8.toNat_ofNat']
    rw [Nat.mod_eq_of_lt (by omega)]
  have henc : ∀ l : List Nat, (∀ b ∈ l, b < 256) → Utf8.encode (v : Int) = ⟨(l.map UInt8.ofNat).toArray⟩ → Exec T (sk uA1 uA2 uA3 b_thicketref10_utf8) [(0, .v (.int .i64 v))] = some (.ret, uE l) → Cinf T n_thicketref10_utf8 [.v (.int .i64 v)] = some (.own 1 (byteList (Utf8.encode (v : Int))), [.dead]) := by
    intro l h1 h2 h3
    rw [h2, hby l h1]
    exact main l h3
  have htn : ((v : Int)).toNat = v := rfl
  by_cases c1 : v < 128
  · refine henc [v] (by simp; omega) ?_ (sk_1 _ _ _ v c1 (t1 v c1))
    simp [Utf8.encode, hv, c1]
  by_cases c2 : v < 2048
  · refine henc [192 + v / 64, 128 + v % 64] (by simp; omega) ?_ (sk_2 _ _ _ v c1 c2 (t2 v c2))
    simp [Utf8.encode, hv, c1, c2]
  by_cases c3 : v < 65536
  · refine henc [224 + v / 4096, 128 + v / 64 % 64, 128 + v % 64] (by simp; omega) ?_ (sk_3 _ _ _ v c1 c2 c3 (t3 v c3))
    simp [Utf8.encode, hv, c1, c2, c3]
  · refine henc [240 + v / 262144, 128 + v / 4096 % 64, 128 + v / 64 % 64, 128 + v % 64] (by simp; omega) ?_ (sk_4 _ _ _ v c1 c2 c3 (t4 v (by omega)))
    simp [Utf8.encode, hv, c1, c2, c3]
end Go.AM.F
