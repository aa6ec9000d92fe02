/- JSON: the document's reader: escapes. No conditions. -/
import Derived.Test.YtkcnnifgdhabgaaDoorM8
namespace Go.AM.F
open Go Go.AM
set_option maxRecDepth 10000
set_option linter.unusedSimpArgs false

def sayE (k v : Int) (c : Nat) : MapEntry := ⟨.int .u8 k, .int .u8 v, c⟩
/-- What letters behind the stroke say, as the document's map has it. -/
def saysE : List MapEntry := [sayE 34 34 0, sayE 92 92 1, sayE 47 47 2, sayE 98 8 3, sayE 102 12 4, sayE 110 10 5, sayE 114 13 6, sayE 116 9 7]
def saysTest (c : Nat) : Bool := match Instr.findNow (kdOf (some .u8)) (.int .u8 (c : Int)) saysE 0, esc c with
  | some (some (_, .int .u8 z)), some e => z == (e : Int) && decide (e ≠ 0) && decide (e < 256)
  | some none, none => true
  | _, _ => false
theorem says_all : (List.range 256).all saysTest = true := by kernel_rfl
theorem says_some {c e : Nat} (hc : c < 256) (h : esc c = some e) : e ≠ 0 ∧ e < 256 ∧ ∃ i, Instr.findNow (kdOf (some .u8)) (.int .u8 (c : Int)) saysE 0 = some (some (i, .int .u8 (e : Int))) := by
  have := List.all_eq_true.1 says_all c (by simpa using hc)
  unfold saysTest at this
  rw [h] at this
  split at this
  · rename_i i z e' h1 h2
    cases h2
    simp only [Bool.and_eq_true, beq_iff_eq, decide_eq_true_eq] at this
    obtain ⟨⟨rfl, h3⟩, h4⟩ := this
    exact ⟨h3, h4, i, h1⟩
  · rename_i h2
    cases h2
  · cases this
theorem says_none {c : Nat} (hc : c < 256) (h : esc c = none) : Instr.findNow (kdOf (some .u8)) (.int .u8 (c : Int)) saysE 0 = some none := by
  have := List.all_eq_true.1 says_all c (by simpa using hc)
  unfold saysTest at this
  rw [h] at this
  split at this
  · rename_i i z e' h1 h2
    cases h2
  · rename_i h1 h2
    exact h1
  · cases this
attribute [local simp] j0_thicketref10_reading_escape j1_thicketref10_reading_escape j2_thicketref10_reading_escape j3_thicketref10_reading_escape a_thicketref10_reading_escape
def ops7 : List GOp := match j4_thicketref10_reading_escape with
  | .seq _ (.seq (.reg _ l _ _) _) => l
  | _ => []
theorem put_new (e : Env) (k v : Int) (es : List MapEntry) (c : Nat) (h : e.get 44 = .mapc es c) (hn : Instr.findNow (kdOf (some .u8)) (.int .u8 k) es 0 = some none) : putPV e (some .u8) (.ref 44 []) (.v (.int .u8 k)) (.v (.int .u8 v)) = some (.dead, e.setAt 44 [] (.mapc (es ++ [sayE k v c]) (c + 1))) := by
  rw [putPV_ref, h, putK_map, hn]
  rfl
theorem ops7_run (C : Oracle) (L : List UInt8) (i a c : Nat) : opsRun T C ops7 ops7 [(0, .ref 100000 []), (3, .v (.int .i64 a)), (4, .v (.int .u8 c)), (100000, rg L i 0 0)] = some [(0, .ref 100000 []), (3, .v (.int .i64 a)), (4, .v (.int .u8 c)), (100000, rg L i 0 0), (44, .dead), (45, .ref 44 []), (5, .mapc saysE 8)] := by
  simp [ops7, j4_thicketref10_reading_escape, Instr.findNow, Instr.sameNow, kdOf, saysE, sayE]
theorem esc_end (L : List UInt8) (i : Nat) (hi : i + 1 < L.length) (hl : L.length ≤ 16777216) :
    Rs L 0 (finish a_thicketref10_reading_escape [rg L i 0 0] (Exec T j3_thicketref10_reading_escape [(0, .ref 100000 []), (3, .v (.int .i64 i)), (4, .v (.int .u8 (lt L (i + 1) : Nat))), (100000, rg L (i + 1) 0 0)]))
      (if lt L (i + 1) = 117 then
        (pFour L 4 0 (i + 2)).bind fun j v => if 56320 ≤ v ∧ v ≤ 57343 then .bad 100 i else if v < 55296 ∨ 56319 < v then .ok j (Utf8.encode (v : Int)) else pPair L i v j
      else .bad 100 (i + 1)) := by
  have h100 : ((100 : Nat) : Int) = 100 := rfl
  by_cases c1 : lt L (i + 1) = 117
  · rw [if_pos c1]
    obtain ⟨p, hp2⟩ : ∃ p, i + 2 = p := ⟨_, rfl⟩
    obtain ⟨q, hq2⟩ : ∃ q, i + 1 = q := ⟨_, rfl⟩
    have hw : IntKind.i64.wrap ((q : Int) + 1) = (p : Int) := by rw [wrap_i64] <;> omega
    obtain ⟨h4, hbad⟩ := c_rfour L (i + 2) (by omega) hl
    simp only [rg_eq, Int.natCast_zero] at h4
    rw [hp2] at h4 hbad ⊢
    rw [hq2] at c1 ⊢
    cases hp : pFour L 4 0 p with
    | bad w a =>
      obtain ⟨rfl, ha⟩ := hbad _ _ hp
      rw [hp] at h4
      have ho := c_rokN L a a (show 100 ≠ 0 by decide)
      have hu := c_utf8 0 (by omega)
      simp only [rg_eq, h100, fourOut, Int.natCast_zero] at h4 ho hu
      rw [PR.bind_bad]
      refine ⟨by decide, a, Utf8.encode 0, ha, encode_size 0, ?_⟩
      simp [c1, hw, h4, ho, hu, home, -j1_thicketref10_reading_escape]
    | ok j v =>
      rw [PR.bind_ok]
      rw [hp] at h4
      have hj := pFour_le (by omega) hp
      have hv : v < 65536 := by simpa using hj.2.2
      have ho := c_rok0 L j 0
      have hf := c_rfail L j 100 i
      simp only [rg_eq, h100, fourOut, Int.natCast_zero] at h4 ho hf
      by_cases d1 : 56320 ≤ v ∧ v ≤ 57343
      · rw [if_pos d1]
        have e1 : ¬ v < 55296 := by omega
        have e2 : ¬ 57343 < v := by omega
        have e3 : 56319 < v := by omega
        refine ⟨by decide, j, eS, hj.2.1, by decide, ?_⟩
        simp [c1, hw, h4, ho, hf, e1, e2, e3, home, bl_empty]
      rw [if_neg d1]
      by_cases d2 : v < 55296 ∨ 56319 < v
      · rw [if_pos d2]
        have hu := c_utf8 v (by omega)
        unfold Rs
        by_cases e1 : v < 55296
        · simp [c1, hw, h4, ho, hu, e1, home, -j1_thicketref10_reading_escape]
        · have e2 : 57343 < v := by omega
          simp [c1, hw, h4, ho, hu, e1, e2, home, -j1_thicketref10_reading_escape]
      · rw [if_neg d2]
        have e1 : ¬ v < 55296 := by omega
        have e2 : ¬ 57343 < v := by omega
        have e3 : ¬ 56319 < v := by omega
        have hpr := c_rpair L i v j hj.2.1 hl (by omega)
        cases hq : pPair L i v j with
        | ok k s =>
          rw [hq] at hpr
          simp only [Rs, rg_eq, Int.natCast_zero, ownS_eq] at hpr ⊢
          simp [c1, hw, h4, ho, hpr, e1, e2, e3, home]
        | bad w b =>
          rw [hq] at hpr
          obtain ⟨g1, k, s, g2, g3, hpr⟩ := hpr
          refine ⟨g1, k, s, g2, g3, ?_⟩
          simp only [rg_eq, ownS_eq, Int.natCast_zero] at hpr
          simp [c1, hw, h4, ho, hpr, e1, e2, e3, home]
  · rw [if_neg c1]
    have hf := c_rfail L (i + 1) 100 (i + 1)
    simp only [rg_eq, h100, Int.natCast_zero] at hf
    refine ⟨by decide, i + 1, eS, by omega, by decide, ?_⟩
    generalize i + 1 = q at *
    simp [c1, hf, home, bl_empty]
def escP : IR := match j4_thicketref10_reading_escape with
  | .seq r _ => r
  | x => x
def escR : IR := match j4_thicketref10_reading_escape with
  | .seq _ (.seq _ r) => r
  | x => x
abbrev escE (L : List UInt8) (i : Nat) : Env := [(0, .ref 100000 []), (3, .v (.int .i64 i)), (4, .v (.int .u8 (lt L (i + 1) : Nat))), (5, .mapc saysE 8), (44, .dead), (45, .ref 44 []), (100000, rg L (i + 1) 0 0)]
theorem esc_map (L : List UInt8) (i : Nat) : Exec T (.reg 7 ops7 none [0, 3, 4, 5, 44, 45, 100000]) [(0, .ref 100000 []), (3, .v (.int .i64 i)), (4, .v (.int .u8 (lt L (i + 1) : Nat))), (100000, rg L (i + 1) 0 0)] = some (.normal, escE L i) := by
  have h7 := ops7_run (Cinf T) L (i + 1) i (lt L (i + 1))
  rw [Exec_reg', h7]
  simp
theorem esc_first (L : List UInt8) (i : Nat) (h1 : i + 1 < L.length) : Exec T escP [(0, .ref 100000 []), (3, .v (.int .i64 i)), (100000, rg L (i + 1) 0 0)] = some (.normal, [(0, .ref 100000 []), (3, .v (.int .i64 i)), (4, .v (.int .u8 (lt L (i + 1) : Nat))), (100000, rg L (i + 1) 0 0)]) := by
  generalize i + 1 = q at *
  simp [escP, j4_thicketref10_reading_escape, h1, bl_getE h1]
theorem j4_run (L : List UInt8) (i : Nat) (h1 : i + 1 < L.length) : Exec T j4_thicketref10_reading_escape [(0, .ref 100000 []), (3, .v (.int .i64 i)), (100000, rg L (i + 1) 0 0)] = Exec T escR (escE L i) := by
  have hreg : j4_thicketref10_reading_escape = .seq escP (.seq (.reg 7 ops7 none [0, 3, 4, 5, 44, 45, 100000]) escR) := rfl
  rw [hreg, Exec_seq, esc_first L i h1]
  show Exec T (.seq (.reg 7 ops7 none [0, 3, 4, 5, 44, 45, 100000]) escR) _ = _
  rw [Exec_seq, esc_map]
  rfl
theorem byte_one {e : Nat} (h : e < 256) : byteList ⟨#[e.toUInt8]⟩ = [.v (.int .u8 (e : Nat))] := by
  rw [byteList_bl]
  simp only [bl, List.map_cons, List.map_nil, Nat.toUInt8, UInt8.toNat_ofNat']
  rw [Nat.mod_eq_of_lt (by omega)]
theorem esc_no (L : List UInt8) (i : Nat) (he : esc (lt L (i + 1)) = none) : Exec T escR (escE L i) = Exec T j3_thicketref10_reading_escape [(0, .ref 100000 []), (3, .v (.int .i64 i)), (4, .v (.int .u8 (lt L (i + 1) : Nat))), (100000, rg L (i + 1) 0 0)] := by
  have hf := says_none (lt_small L (i + 1)) he
  have one : ∀ (k : IntKind) (v : Int), (Value.int k v).oneCell' = true := fun _ _ => rfl
  rw [escE]
  generalize i + 1 = q at *
  simp [escR, j4_thicketref10_reading_escape, hf, one, -j3_thicketref10_reading_escape]
theorem esc_rest (L : List UInt8) (i : Nat) (hi : i + 1 < L.length) (hl : L.length ≤ 16777216) :
    Rs L 0 (finish a_thicketref10_reading_escape [rg L i 0 0] (Exec T escR (escE L i))) (match esc (lt L (i + 1)) with
      | some e => .ok (i + 2) ⟨#[e.toUInt8]⟩
      | none => if lt L (i + 1) = 117 then
        (pFour L 4 0 (i + 2)).bind fun j v => if 56320 ≤ v ∧ v ≤ 57343 then .bad 100 i else if v < 55296 ∨ 56319 < v then .ok j (Utf8.encode (v : Int)) else pPair L i v j
        else .bad 100 (i + 1)) := by
  have hc := lt_small L (i + 1)
  cases he : esc (lt L (i + 1)) with
  | none =>
    rw [esc_no L i he]
    exact esc_end L i hi hl
  | some e =>
    obtain ⟨h0, h256, k, hf⟩ := says_some hc he
    obtain ⟨p, hp2⟩ : ∃ p, i + 2 = p := ⟨_, rfl⟩
    obtain ⟨q, hq2⟩ : ∃ q, i + 1 = q := ⟨_, rfl⟩
    have hw : IntKind.i64.wrap ((q : Int) + 1) = (p : Int) := by rw [wrap_i64] <;> omega
    have hb := byte_one h256
    simp only
    rw [hp2]
    rw [escE, hq2]
    rw [hq2] at hf
    have h0' : ¬ ((e : Int) = 0) := by omega
    have one : ∀ (k : IntKind) (v : Int), (Value.int k v).oneCell' = true := fun _ _ => rfl
    simp [Rs, escR, j4_thicketref10_reading_escape, hf, h0, one, hw, hb, home, -j3_thicketref10_reading_escape]
theorem c_rescape (L : List UInt8) (i : Nat) (hi : i < L.length) (hl : L.length ≤ 16777216) : Rs L 0 (Cinf T n_thicketref10_reading_escape [rg L i 0 0]) (pEscape L i) := by
  have h100 : ((100 : Nat) : Int) = 100 := rfl
  have hw := wrap_succ hi (by omega)
  unfold pEscape
  by_cases h1 : i + 1 < L.length
  · rw [if_pos h1]
    have n2 : ¬ ((L.length : Int) ≤ (i : Int) + 1) := by omega
    have hj := j4_run L i h1
    have h := esc_rest L i h1 hl
    rw [← hj] at h
    rw [run_thicketref10_reading_escape]
    have h2 : Run T a_thicketref10_reading_escape [rg L i 0 0] = finish a_thicketref10_reading_escape [rg L i 0 0] (Exec T j4_thicketref10_reading_escape [(0, .ref 100000 []), (3, .v (.int .i64 i)), (100000, rg L (i + 1) 0 0)]) := by
      simp [Run, b_thicketref10_reading_escape, hi, hw, n2, home]
    rw [h2]
    exact h
  · rw [if_neg h1]
    have hf := c_rfail L (i + 1) 100 (i + 1)
    have n2 : ((L.length : Int) ≤ (i : Int) + 1) := by omega
    simp only [rg_eq, h100, Int.natCast_zero, succ_cast] at hf
    refine ⟨by decide, i + 1, eS, by omega, by decide, ?_⟩
    simp [run_thicketref10_reading_escape, Run, b_thicketref10_reading_escape, hi, hw, n2, hf, home, bl_empty]
end Go.AM.F
