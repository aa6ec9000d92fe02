/- JSON: the document's reader: faults, blanks, letters, words, digits, numbers. JSON: the document's reader: numbers. JSON: the document's reader: numbers. JSON: the document's reader: four hexadecimal digits. JSON: the document's length of a character. JSON: the document's length of a character is the library's. No conditions. -/
import Derived.Test.YtkcnnifgdhabgaaDoorKx
/- JSON: the document's reader: faults, blanks, letters, words, digits, numbers. No conditions. -/
namespace Go.AM.F
open Go Go.AM
set_option maxRecDepth 10000
set_option linter.unusedSimpArgs false

/-- The document's reader: where it stands, what is wrong, where. -/
def rg (L : List UInt8) (i w b : Nat) : PV := .box [.ro 1 (bl L), .v (.int .i64 i), .v (.int .i64 w), .v (.int .i64 b)]
@[simp] theorem rg_eq (L : List UInt8) (i w b : Nat) : rg L i w b = .box [.ro 1 (bl L), .v (.int .i64 i), .v (.int .i64 w), .v (.int .i64 b)] := rfl
/-- The answer of the document's reader, told as the plain reading tells it. -/
def Rg {α : Type} (L : List UInt8) (k : Nat) (f : α → PV) (x : Option (PV × List PV)) : PR α → Prop
  | .ok i a => x = some (f a, rg L i 0 0 :: List.replicate k .dead)
  | .bad w a => w ≠ 0 ∧ ∃ i a', i ≤ L.length ∧ x = some (f a', rg L i w a :: List.replicate k .dead)
theorem lt_end {L : List UInt8} {i : Nat} (h : ¬ i < L.length) : lt L i = 0 := by
  unfold lt
  rw [List.getElem?_eq_none (by omega)]
  rfl
end Go.AM.F

/- JSON: the document's reader: numbers. No conditions. -/
namespace Go.AM.F
open Go Go.AM
set_option maxRecDepth 10000
set_option linter.unusedSimpArgs false

theorem tk_of {s : ByteArray} {p : Nat → Bool} (h : (List.range 256).all (fun c => inSet s c == p c) = true) (h0 : p 0 = false) (L : List UInt8) (i : Nat) : tk s L i = p (lt L i) := by
  unfold tk
  by_cases hi : i < L.length
  · have := List.all_eq_true.1 h (lt L i) (by simpa using lt_small L i)
    rw [beq_iff_eq] at this
    simp [hi, this]
  · rw [lt_end hi, h0]
    simp [hi]
theorem tk_minus (L : List UInt8) (i : Nat) : tk sMinus L i = (lt L i == 45) := tk_of (p := fun c => c == 45) (by kernel_rfl) rfl L i
theorem tk_zero (L : List UInt8) (i : Nat) : tk sZero L i = (lt L i == 48) := tk_of (p := fun c => c == 48) (by kernel_rfl) rfl L i
theorem tk_point (L : List UInt8) (i : Nat) : tk sPoint L i = (lt L i == 46) := tk_of (p := fun c => c == 46) (by kernel_rfl) rfl L i
theorem tk_exp (L : List UInt8) (i : Nat) : tk sExp L i = (lt L i == 101 || lt L i == 69) := tk_of (p := fun c => c == 101 || c == 69) (by kernel_rfl) rfl L i
theorem tk_sign (L : List UInt8) (i : Nat) : tk sSign L i = (lt L i == 43 || lt L i == 45) := tk_of (p := fun c => c == 43 || c == 45) (by kernel_rfl) rfl L i
theorem tk_end (L : List UInt8) (i : Nat) : tk sEnd L i = (lt L i == 93) := tk_of (p := fun c => c == 93) (by kernel_rfl) rfl L i
theorem tk_stop (L : List UInt8) (i : Nat) : tk sStop L i = (lt L i == 125) := tk_of (p := fun c => c == 125) (by kernel_rfl) rfl L i
theorem lt_pos {L : List UInt8} {i : Nat} (h : lt L i ≠ 0) : i < L.length := Classical.byContradiction fun hn => h (lt_end hn)
def mTo (L : List UInt8) (a j : Nat) : ByteArray := tx ((L.drop a).take (j - a))
/-- How the document's number ends. -/
def NumEnd (L : List UInt8) (a : Nat) (x : Option (Out × Env)) : PR Unit → Prop
  | .ok j _ => x = some (.ret, [(2, .v (.string (mTo L a j))), (100000, rg L j 0 0)])
  | .bad w b => w ≠ 0 ∧ ∃ j s, j ≤ L.length ∧ x = some (.ret, [(2, .v (.string s)), (100000, rg L j w b)])
theorem pDigits_bad {L : List UInt8} {i w b : Nat} (h : pDigits L i = .bad w b) : w = 100 ∧ b = i := by
  unfold pDigits at h
  split at h
  · cases h
  · cases h
    exact ⟨rfl, rfl⟩
/-- Digits, exactly. -/
def digOut (L : List UInt8) (i : Nat) : PR Unit → PV
  | .ok j _ => rg L j 0 0
  | .bad _ _ => rg L i 100 i
end Go.AM.F

/- JSON: the document's reader: numbers. No conditions. -/
namespace Go.AM.F
open Go Go.AM
set_option maxRecDepth 10000
set_option linter.unusedSimpArgs false

/-- A number, with its text. -/
def pNum (L : List UInt8) (i : Nat) : PR ByteArray := (pNumber L i).bind fun j _ => .ok j (mTo L i j)
def hexI (c : Nat) : Int := match hexv c with
  | some v => v
  | none => -1
end Go.AM.F

/- JSON: the document's reader: four hexadecimal digits. No conditions. -/
namespace Go.AM.F
open Go Go.AM
set_option maxRecDepth 10000
set_option linter.unusedSimpArgs false

/-- Four digits, exactly. -/
def fourOut (L : List UInt8) : PR Nat → Option (PV × List PV)
  | .ok j u => some (.v (.int .i64 u), [rg L j 0 0])
  | .bad _ a => some (.v (.int .i64 0), [rg L a 100 a])
end Go.AM.F

/- JSON: the document's length of a character. No conditions. -/
namespace Go.AM.F
open Go Go.AM
set_option maxRecDepth 10000
set_option linter.unusedSimpArgs false

theorem and_all : (List.range 256).all (fun c => decide (IntKind.u8.wrap ((c % 2 ^ IntKind.u8.bits &&& 192 % 2 ^ IntKind.u8.bits : Nat) : Int) = 128) == cont c && decide (IntKind.u8.wrap ((c % 2 ^ IntKind.u8.bits &&& 63 % 2 ^ IntKind.u8.bits : Nat) : Int) = ((c % 64 : Nat) : Int))) = true := by kernel_rfl
theorem and_top {c : Nat} (h : c < 256) : (IntKind.u8.wrap ((c % 2 ^ IntKind.u8.bits &&& 192 % 2 ^ IntKind.u8.bits : Nat) : Int) = 128) = (cont c = true) := by
  have := List.all_eq_true.1 and_all c (by simpa using h)
  simp only [Bool.and_eq_true, beq_iff_eq] at this
  rw [← this.1, decide_eq_true_eq]
theorem and_low {c : Nat} (h : c < 256) : IntKind.u8.wrap ((c % 2 ^ IntKind.u8.bits &&& 63 % 2 ^ IntKind.u8.bits : Nat) : Int) = ((c % 64 : Nat) : Int) := by
  have := List.all_eq_true.1 and_all c (by simpa using h)
  simp only [Bool.and_eq_true, decide_eq_true_eq] at this
  exact this.2
theorem or_join {v r : Nat} (hr : r < 64) (hv : v < 16777216) : IntKind.i64.wrap ((((v * 64) % 2 ^ IntKind.i64.bits ||| r % 2 ^ IntKind.i64.bits : Nat)) : Int) = ((v * 64 + r : Nat) : Int) := by
  have h1 : (v * 64) % 2 ^ IntKind.i64.bits = v * 64 := by simp only [IntKind.bits]; omega
  have h2 : r % 2 ^ IntKind.i64.bits = r := by simp only [IntKind.bits]; omega
  rw [h1, h2]
  have h3 : v * 64 ||| r = v * 64 + r := by
    have := Nat.shiftLeft_add_eq_or_of_lt (show r < 2 ^ 6 by omega) v
    rw [Nat.shiftLeft_eq] at this
    exact this.symm
  rw [h3, wrap_i64] <;> omega
abbrev chE (M : List UInt8) (n v q i : Nat) : Env := [(0, .ro 1 (bl M)), (3, .v (.int .i64 n)), (4, .v (.int .i64 v)), (5, .v (.int .i64 q)), (7, .v (.int .i64 i))]
def chV (M : List UInt8) : Nat → Nat → Nat → Option Nat
  | 0, _, v => some v
  | m + 1, i, v => if cont (lt M i) = true then chV M m (i + 1) (v * 64 + lt M i % 64) else none
def chT (M : List UInt8) (n q v : Nat) : Nat := if M.length < n then 0 else match chV M (n - 1) 1 v with
  | none => 0
  | some u => if u < q ∨ 1114111 < u ∨ (55296 ≤ u ∧ u < 57344) then 0 else n
end Go.AM.F

/- JSON: the document's length of a character is the library's. No conditions. -/
namespace Go.AM.F
open Go Go.AM
set_option maxRecDepth 10000
set_option linter.unusedSimpArgs false

theorem and31_all : (List.range 256).all (fun c => decide (IntKind.i64.wrap ((c % 2 ^ IntKind.i64.bits &&& 31 % 2 ^ IntKind.i64.bits : Nat) : Int) = ((c % 32 : Nat) : Int)) && decide (IntKind.i64.wrap ((c % 2 ^ IntKind.i64.bits &&& 15 % 2 ^ IntKind.i64.bits : Nat) : Int) = ((c % 16 : Nat) : Int)) && decide (IntKind.i64.wrap ((c % 2 ^ IntKind.i64.bits &&& 7 % 2 ^ IntKind.i64.bits : Nat) : Int) = ((c % 8 : Nat) : Int))) = true := by kernel_rfl
theorem and_high {c : Nat} (h : c < 256) : IntKind.i64.wrap ((c % 2 ^ IntKind.i64.bits &&& 31 % 2 ^ IntKind.i64.bits : Nat) : Int) = ((c % 32 : Nat) : Int) ∧ IntKind.i64.wrap ((c % 2 ^ IntKind.i64.bits &&& 15 % 2 ^ IntKind.i64.bits : Nat) : Int) = ((c % 16 : Nat) : Int) ∧ IntKind.i64.wrap ((c % 2 ^ IntKind.i64.bits &&& 7 % 2 ^ IntKind.i64.bits : Nat) : Int) = ((c % 8 : Nat) : Int) := by
  have := List.all_eq_true.1 and31_all c (by simpa using h)
  simp only [Bool.and_eq_true, decide_eq_true_eq] at this
  exact ⟨this.1.1, this.1.2, this.2⟩
def chH (M : List UInt8) : Nat := if M.length = 0 then 0 else if lt M 0 < 128 then 1
  else if 192 ≤ lt M 0 ∧ lt M 0 < 224 then chT M 2 128 (lt M 0 % 32)
  else if 224 ≤ lt M 0 ∧ lt M 0 < 240 then chT M 3 2048 (lt M 0 % 16)
  else if 240 ≤ lt M 0 ∧ lt M 0 < 248 then chT M 4 65536 (lt M 0 % 8) else 0
theorem cont_iff (c : Nat) : cont c = true ↔ 128 ≤ c ∧ c ≤ 191 := by simp [cont]
theorem in1_iff (c d : Nat) : in1 c d = true ↔ ((c = 224 → 160 ≤ d) ∧ (c = 240 → 144 ≤ d) ∧ 128 ≤ d) ∧ ((c = 237 → d ≤ 159) ∧ (c = 244 → d ≤ 143) ∧ d ≤ 191) := by
  simp only [in1, lo1, hi1, Bool.and_eq_true, decide_eq_true_eq]
  by_cases a1 : c = 224
  · subst a1
    simp
    omega
  by_cases a2 : c = 240
  · subst a2
    simp
    omega
  by_cases a3 : c = 237
  · subst a3
    simp
    omega
  by_cases a4 : c = 244
  · subst a4
    simp
    omega
  · simp [a1, a2, a3, a4]
theorem same_if {P Q : Prop} [Decidable P] [Decidable Q] (k : Nat) (h : P ↔ Q) : (if P then k else 0) = if Q then k else 0 := by
  by_cases hp : P
  · rw [if_pos hp, if_pos (h.1 hp)]
  · rw [if_neg hp, if_neg (fun hq => hp (h.2 hq))]
def badV (q u : Nat) : Prop := u < q ∨ 1114111 < u ∨ (55296 ≤ u ∧ u < 57344)
instance (q u : Nat) : Decidable (badV q u) := by unfold badV; exact inferInstance
theorem chT2 (M : List UInt8) (q v : Nat) : chT M 2 q v = if 1 < M.length ∧ cont (lt M 1) = true ∧ ¬ badV q (v * 64 + lt M 1 % 64) then 2 else 0 := by
  unfold chT badV
  simp only [chV]
  by_cases h : M.length < 2
  · rw [if_pos h, if_neg (fun k => by omega)]
  rw [if_neg h]
  by_cases h1 : cont (lt M 1) = true
  · rw [if_pos h1]
    simp only
    split
    · rename_i hb
      rw [if_neg (fun k => k.2.2 hb)]
    · rename_i hb
      rw [if_pos ⟨by omega, h1, hb⟩]
  · rw [if_neg h1, if_neg (fun k => h1 k.2.1)]
theorem chT3 (M : List UInt8) (q v : Nat) : chT M 3 q v = if 2 < M.length ∧ cont (lt M 1) = true ∧ cont (lt M 2) = true ∧ ¬ badV q ((v * 64 + lt M 1 % 64) * 64 + lt M 2 % 64) then 3 else 0 := by
  unfold chT badV
  simp only [chV]
  by_cases h : M.length < 3
  · rw [if_pos h, if_neg (fun k => by omega)]
  rw [if_neg h]
  by_cases h1 : cont (lt M 1) = true
  · rw [if_pos h1]
    by_cases h2 : cont (lt M 2) = true
    · rw [if_pos h2]
      simp only
      split
      · rename_i hb
        rw [if_neg (fun k => k.2.2.2 hb)]
      · rename_i hb
        rw [if_pos ⟨by omega, h1, h2, hb⟩]
    · rw [if_neg h2, if_neg (fun k => h2 k.2.2.1)]
  · rw [if_neg h1, if_neg (fun k => h1 k.2.1)]
theorem chT4 (M : List UInt8) (q v : Nat) : chT M 4 q v = if 3 < M.length ∧ cont (lt M 1) = true ∧ cont (lt M 2) = true ∧ cont (lt M 3) = true ∧ ¬ badV q (((v * 64 + lt M 1 % 64) * 64 + lt M 2 % 64) * 64 + lt M 3 % 64) then 4 else 0 := by
  unfold chT badV
  simp only [chV]
  by_cases h : M.length < 4
  · rw [if_pos h, if_neg (fun k => by omega)]
  rw [if_neg h]
  by_cases h1 : cont (lt M 1) = true
  · rw [if_pos h1]
    by_cases h2 : cont (lt M 2) = true
    · rw [if_pos h2]
      by_cases h3 : cont (lt M 3) = true
      · rw [if_pos h3]
        simp only
        split
        · rename_i hb
          rw [if_neg (fun k => k.2.2.2.2 hb)]
        · rename_i hb
          rw [if_pos ⟨by omega, h1, h2, h3, hb⟩]
      · rw [if_neg h3, if_neg (fun k => h3 k.2.2.2.1)]
    · rw [if_neg h2, if_neg (fun k => h2 k.2.2.1)]
  · rw [if_neg h1, if_neg (fun k => h1 k.2.1)]
theorem low_of {c : Nat} (h : cont c = true) : c = 128 + c % 64 := by
  have := (cont_iff c).1 h
  omega
theorem chH_uc (M : List UInt8) : chH M = uc M := by
  unfold chH uc
  by_cases h0 : M.length = 0
  · rw [if_pos h0, if_pos h0]
  rw [if_neg h0, if_neg h0]
  have hs := lt_small M 0
  generalize hc : lt M 0 = c at *
  by_cases c1 : c < 128
  · rw [if_pos c1, if_pos c1]
  rw [if_neg c1, if_neg c1]
  by_cases c2 : c < 192
  · rw [if_neg (by omega), if_neg (by omega), if_neg (by omega), if_pos (by omega)]
  by_cases c3 : c < 224
  · rw [if_pos ⟨by omega, c3⟩, chT2]
    have hv : c % 32 = c - 192 := by omega
    rw [hv]
    by_cases c4 : c < 194
    · rw [if_pos c4, if_neg]
      rintro ⟨_, _, h⟩
      apply h
      unfold badV
      omega
    · rw [if_neg c4, if_pos c3]
      refine same_if 2 ⟨fun h => ⟨h.1, h.2.1⟩, fun h => ⟨h.1, h.2, ?_⟩⟩
      unfold badV
      omega
  rw [if_neg (fun h => c3 h.2), if_neg (show ¬ c < 194 by omega), if_neg c3]
  by_cases c4 : c < 240
  · rw [if_pos ⟨by omega, c4⟩, if_pos c4, chT3]
    have hv : c % 16 = c - 224 := by omega
    rw [hv]
    refine same_if 3 ?_
    rw [in1_iff]
    constructor
    · rintro ⟨h1, h2, h3, h4⟩
      have e2 := low_of h2
      have e3 := low_of h3
      unfold badV at h4
      generalize lt M 1 % 64 = x at *
      generalize lt M 2 % 64 = y at *
      have g2 := (cont_iff _).1 h2
      have g3 := (cont_iff _).1 h3
      rw [e2] at g2 ⊢
      rw [e3] at g3
      refine ⟨h1, ?_, h3⟩
      omega
    · rintro ⟨h1, h2, h3⟩
      have h2' : cont (lt M 1) = true := (cont_iff _).2 ⟨h2.1.2.2, h2.2.2.2⟩
      have e2 := low_of h2'
      have e3 := low_of h3
      refine ⟨h1, h2', h3, ?_⟩
      unfold badV
      have b2 : lt M 1 % 64 < 64 := Nat.mod_lt _ (by decide)
      have b3 : lt M 2 % 64 < 64 := Nat.mod_lt _ (by decide)
      generalize lt M 1 % 64 = x at *
      generalize lt M 2 % 64 = y at *
      rw [e2] at h2
      omega
  rw [if_neg (fun h => c4 h.2), if_neg c4]
  by_cases c5 : c < 248
  · rw [if_pos ⟨by omega, c5⟩, chT4]
    have hv : c % 8 = c - 240 := by omega
    rw [hv]
    have hz : (if c < 245 then (if 3 < M.length ∧ in1 c (lt M 1) = true ∧ cont (lt M 2) = true ∧ cont (lt M 3) = true then 4 else 0) else 0 : Nat) = if c < 245 ∧ 3 < M.length ∧ in1 c (lt M 1) = true ∧ cont (lt M 2) = true ∧ cont (lt M 3) = true then 4 else 0 := by
      by_cases h5 : c < 245
      · rw [if_pos h5]
        exact same_if 4 ⟨fun h => ⟨h5, h⟩, fun h => h.2⟩
      · rw [if_neg h5, if_neg (fun h => h5 h.1)]
    rw [hz]
    refine same_if 4 ?_
    rw [in1_iff]
    constructor
    · rintro ⟨h1, h2, h3, h3', h4⟩
      have e2 := low_of h2
      have b3 : lt M 2 % 64 < 64 := Nat.mod_lt _ (by decide)
      have b4 : lt M 3 % 64 < 64 := Nat.mod_lt _ (by decide)
      unfold badV at h4
      have g2 := (cont_iff _).1 h2
      generalize lt M 1 % 64 = x at *
      generalize lt M 2 % 64 = y at *
      generalize lt M 3 % 64 = z at *
      rw [e2] at g2 ⊢
      refine ⟨by omega, h1, ?_, h3, h3'⟩
      omega
    · rintro ⟨h5, h1, h2, h3, h3'⟩
      have h2' : cont (lt M 1) = true := (cont_iff _).2 ⟨h2.1.2.2, h2.2.2.2⟩
      have e2 := low_of h2'
      refine ⟨h1, h2', h3, h3', ?_⟩
      unfold badV
      have b2 : lt M 1 % 64 < 64 := Nat.mod_lt _ (by decide)
      have b3 : lt M 2 % 64 < 64 := Nat.mod_lt _ (by decide)
      have b4 : lt M 3 % 64 < 64 := Nat.mod_lt _ (by decide)
      generalize lt M 1 % 64 = x at *
      generalize lt M 2 % 64 = y at *
      generalize lt M 3 % 64 = z at *
      rw [e2] at h2
      omega
  · rw [if_neg (fun h => c5 h.2), if_neg (by omega)]
end Go.AM.F
