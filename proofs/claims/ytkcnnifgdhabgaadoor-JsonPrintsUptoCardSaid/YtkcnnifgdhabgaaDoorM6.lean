/- JSON: the document's length of a character is the library's. No conditions. -/
import Derived.Test.YtkcnnifgdhabgaaDoorM5
namespace Go.AM.F
open Go Go.AM
set_option maxRecDepth 10000
set_option linter.unusedSimpArgs false

theorem and31_all : (List.range 256).all (fun c => decide (IntKind.i64.wrap ((c % 2 ^ IntKind.i64.bits &&& 31 % 2 ^ IntKind.i64.bits : Nat) : Int) = ((c % 32 : Nat) : Int)) && decide (IntKind.i64.wrap ((c % 2 ^ IntKind.i64.bits &&& 15 % 2 ^ IntKind.i64.bits : Nat) : Int) = ((c % 16 : Nat) : Int)) && decide (IntKind.i64.wrap ((c % 2 ^ IntKind.i64.bits &&& 7 % 2 ^ IntKind.i64.bits : Nat) : Int) = ((c % 8 : Nat) : Int))) = true := by kernel_rfl
theorem and_high {c : Nat} (h : c < 256) : IntKind.i64.wrap ((c % 2 ^ IntKind.i64.bits &&& 31 % 2 ^ IntKind.i64.bits : Nat) : Int) = ((c % 32 : Nat) : Int) ∧ IntKind.i64.wrap ((c % 2 ^ IntKind.i64.bits &&& 15 % 2 ^ IntKind.i64.bits : Nat) : Int) = ((c % 16 : Nat) : Int) ∧ IntKind.i64.wrap ((c % 2 ^ IntKind.i64.bits &&& 7 % 2 ^ IntKind.i64.bits : Nat) : Int) = ((c % 8 : Nat) : Int) := by
  have := List.all_eq_true.1 and31_all c (by simpa using h)
  simp only [Bool.and_eq_true, decide_eq_true_eq] at this
  exact ⟨this.1.1, this.1.2, this.2⟩
attribute [local simp] j7_thicketref10_Char b_thicketref10_Char a_thicketref10_Char
def chH (M : List UInt8) : Nat := if M.length = 0 then 0 else if lt M 0 < 128 then 1
  else if 192 ≤ lt M 0 ∧ lt M 0 < 224 then chT M 2 128 (lt M 0 % 32)
  else if 224 ≤ lt M 0 ∧ lt M 0 < 240 then chT M 3 2048 (lt M 0 % 16)
  else if 240 ≤ lt M 0 ∧ lt M 0 < 248 then chT M 4 65536 (lt M 0 % 8) else 0
theorem c_Char0 (M : List UInt8) : Cinf T n_thicketref10_Char [.ro 1 (bl M)] = some (.v (.int .i64 (chH M : Nat)), [.dead]) := by
  unfold chH
  by_cases h0 : M.length = 0
  · rw [if_pos h0]
    simp [run_thicketref10_Char, Run, h0]
  rw [if_neg h0]
  have h1 : 0 < M.length := by omega
  have hs := lt_small M 0
  have hw : IntKind.i64.wrap (lt M 0 : Int) = (lt M 0 : Int) := by rw [wrap_i64] <;> omega
  obtain ⟨m1, m2, m3⟩ := and_high hs
  by_cases c1 : lt M 0 < 128
  · rw [if_pos c1]
    simp [run_thicketref10_Char, Run, h0, h1, bl_getE h1, hw, c1]
  rw [if_neg c1]
  by_cases c2 : 192 ≤ lt M 0 ∧ lt M 0 < 224
  · rw [if_pos c2]
    have ht := ch_tail M 2 128 (lt M 0 % 32) (by omega) (by omega) (by omega)
    generalize lt M 0 % 32 = v at *
    generalize chT M 2 128 v = z at *
    have e1 : ((2 : Nat) : Int) = 2 := rfl
    have e2 : ((128 : Nat) : Int) = 128 := rfl
    rw [e1, e2] at ht
    simp [run_thicketref10_Char, Run, h0, h1, bl_getE h1, hw, c1, c2.1, c2.2, m1, ht]
  rw [if_neg c2]
  by_cases c3 : 224 ≤ lt M 0 ∧ lt M 0 < 240
  · rw [if_pos c3]
    have c4 : 192 ≤ lt M 0 := by omega
    have c5 : ¬ lt M 0 < 224 := by omega
    have ht := ch_tail M 3 2048 (lt M 0 % 16) (by omega) (by omega) (by omega)
    generalize lt M 0 % 16 = v at *
    generalize chT M 3 2048 v = z at *
    have e1 : ((3 : Nat) : Int) = 3 := rfl
    have e2 : ((2048 : Nat) : Int) = 2048 := rfl
    rw [e1, e2] at ht
    simp [run_thicketref10_Char, Run, h0, h1, bl_getE h1, hw, c1, c3.1, c3.2, c4, c5, m2, ht]
  rw [if_neg c3]
  by_cases c6 : 240 ≤ lt M 0 ∧ lt M 0 < 248
  · rw [if_pos c6]
    have c4 : 192 ≤ lt M 0 := by omega
    have c5 : ¬ lt M 0 < 224 := by omega
    have c7 : 224 ≤ lt M 0 := by omega
    have c8 : ¬ lt M 0 < 240 := by omega
    have ht := ch_tail M 4 65536 (lt M 0 % 8) (by omega) (by omega) (by omega)
    generalize lt M 0 % 8 = v at *
    generalize chT M 4 65536 v = z at *
    have e1 : ((4 : Nat) : Int) = 4 := rfl
    have e2 : ((65536 : Nat) : Int) = 65536 := rfl
    rw [e1, e2] at ht
    simp [run_thicketref10_Char, Run, h0, h1, bl_getE h1, hw, c1, c6.1, c6.2, c4, c5, c7, c8, m3, ht]
  · rw [if_neg c6]
    by_cases c4 : 192 ≤ lt M 0
    · have c5 : ¬ lt M 0 < 224 := by omega
      have c7 : 224 ≤ lt M 0 := by omega
      have c8 : ¬ lt M 0 < 240 := by omega
      have c9 : 240 ≤ lt M 0 := by omega
      have c10 : ¬ lt M 0 < 248 := by omega
      simp [run_thicketref10_Char, Run, h0, h1, bl_getE h1, hw, c1, c4, c5, c7, c8, c9, c10]
    · have c7 : ¬ 224 ≤ lt M 0 := by omega
      have c9 : ¬ 240 ≤ lt M 0 := by omega
      simp [run_thicketref10_Char, Run, h0, h1, bl_getE h1, hw, c1, c4, c7, c9]
theorem cont_iff (c : Nat) : cont c = true ↔ 128 ≤ c ∧ c ≤ 191 := by simp [cont]
theorem in1_iff (c d : Nat) : in1 c d = true ↔ ((c = 224 → 160 ≤ d) ∧ (c = 240 → 144 ≤ d) ∧ 128 ≤ d) ∧ ((c = 237 → d ≤ 159) ∧ (c = 244 → d ≤ 143) ∧ d ≤ 191) := by
  simp only [in1, lo1, hi1, Bool.and_eq_true, decide_eq_true_eq]
  by_cases a1 : c = 224
  · subst a1
    simp
    omega
  by_cases a2 : c = 240
  · subst a2
    simp
    omega
  by_cases a3 : c = 237
  · subst a3
    simp
    omega
  by_cases a4 : c = 244
  · subst a4
    simp
    omega
  · simp [a1, a2, a3, a4]
theorem same_if {P Q : Prop} [Decidable P] [Decidable Q] (k : Nat) (h : P ↔ Q) : (if P then k else 0) = if Q then k else 0 := by
  by_cases hp : P
  · rw [if_pos hp, if_pos (h.1 hp)]
  · rw [if_neg hp, if_neg (fun hq => hp (h.2 hq))]
def badV (q u : Nat) : Prop := u < q ∨ 1114111 < u ∨ (55296 ≤ u ∧ u < 57344)
instance (q u : Nat) : Decidable (badV q u) := by unfold badV; exact inferInstance
theorem chT2 (M : List UInt8) (q v : Nat) : chT M 2 q v = if 1 < M.length ∧ cont (lt M 1) = true ∧ ¬ badV q (v * 64 + lt M 1 % 64) then 2 else 0 := by
  unfold chT badV
  simp only [chV]
  by_cases h : M.length < 2
  · rw [if_pos h, if_neg (fun k => by omega)]
  rw [if_neg h]
  by_cases h1 : cont (lt M 1) = true
  · rw [if_pos h1]
    simp only
    split
    · rename_i hb
      rw [if_neg (fun k => k.2.2 hb)]
    · rename_i hb
      rw [if_pos ⟨by omega, h1, hb⟩]
  · rw [if_neg h1, if_neg (fun k => h1 k.2.1)]
theorem chT3 (M : List UInt8) (q v : Nat) : chT M 3 q v = if 2 < M.length ∧ cont (lt M 1) = true ∧ cont (lt M 2) = true ∧ ¬ badV q ((v * 64 + lt M 1 % 64) * 64 + lt M 2 % 64) then 3 else 0 := by
  unfold chT badV
  simp only [chV]
  by_cases h : M.length < 3
  · rw [if_pos h, if_neg (fun k => by omega)]
  rw [if_neg h]
  by_cases h1 : cont (lt M 1) = true
  · rw [if_pos h1]
    by_cases h2 : cont (lt M 2) = true
    · rw [if_pos h2]
      simp only
      split
      · rename_i hb
        rw [if_neg (fun k => k.2.2.2 hb)]
      · rename_i hb
        rw [if_pos ⟨by omega, h1, h2, hb⟩]
    · rw [if_neg h2, if_neg (fun k => h2 k.2.2.1)]
  · rw [if_neg h1, if_neg (fun k => h1 k.2.1)]
theorem chT4 (M : List UInt8) (q v : Nat) : chT M 4 q v = if 3 < M.length ∧ cont (lt M 1) = true ∧ cont (lt M 2) = true ∧ cont (lt M 3) = true ∧ ¬ badV q (((v * 64 + lt M 1 % 64) * 64 + lt M 2 % 64) * 64 + lt M 3 % 64) then 4 else 0 := by
  unfold chT badV
  simp only [chV]
  by_cases h : M.length < 4
  · rw [if_pos h, if_neg (fun k => by omega)]
  rw [if_neg h]
  by_cases h1 : cont (lt M 1) = true
  · rw [if_pos h1]
    by_cases h2 : cont (lt M 2) = true
    · rw [if_pos h2]
      by_cases h3 : cont (lt M 3) = true
      · rw [if_pos h3]
        simp only
        split
        · rename_i hb
          rw [if_neg (fun k => k.2.2.2.2 hb)]
        · rename_i hb
          rw [if_pos ⟨by omega, h1, h2, h3, hb⟩]
      · rw [if_neg h3, if_neg (fun k => h3 k.2.2.2.1)]
    · rw [if_neg h2, if_neg (fun k => h2 k.2.2.1)]
  · rw [if_neg h1, if_neg (fun k => h1 k.2.1)]
theorem low_of {c : Nat} (h : cont c = true) : c = 128 + c % 64 := by
  have := (cont_iff c).1 h
  omega
theorem chH_uc (M : List UInt8) : chH M = uc M := by
  unfold chH uc
  by_cases h0 : M.length = 0
  · rw [if_pos h0, if_pos h0]
  rw [if_neg h0, if_neg h0]
  have hs := lt_small M 0
  generalize hc : lt M 0 = c at *
  by_cases c1 : c < 128
  · rw [if_pos c1, if_pos c1]
  rw [if_neg c1, if_neg c1]
  by_cases c2 : c < 192
  · rw [if_neg (by omega), if_neg (by omega), if_neg (by omega), if_pos (by omega)]
  by_cases c3 : c < 224
  · rw [if_pos ⟨by omega, c3⟩, chT2]
    have hv : c % 32 = c - 192 := by omega
    rw [hv]
    by_cases c4 : c < 194
    · rw [if_pos c4, if_neg]
      rintro ⟨_, _, h⟩
      apply h
      unfold badV
      omega
    · rw [if_neg c4, if_pos c3]
      refine same_if 2 ⟨fun h => ⟨h.1, h.2.1⟩, fun h => ⟨h.1, h.2, ?_⟩⟩
      unfold badV
      omega
  rw [if_neg (fun h => c3 h.2), if_neg (show ¬ c < 194 by omega), if_neg c3]
  by_cases c4 : c < 240
  · rw [if_pos ⟨by omega, c4⟩, if_pos c4, chT3]
    have hv : c % 16 = c - 224 := by omega
    rw [hv]
    refine same_if 3 ?_
    rw [in1_iff]
    constructor
    · rintro ⟨h1, h2, h3, h4⟩
      have e2 := low_of h2
      have e3 := low_of h3
      unfold badV at h4
      generalize lt M 1 % 64 = x at *
      generalize lt M 2 % 64 = y at *
      have g2 := (cont_iff _).1 h2
      have g3 := (cont_iff _).1 h3
      rw [e2] at g2 ⊢
      rw [e3] at g3
      refine ⟨h1, ?_, h3⟩
      omega
    · rintro ⟨h1, h2, h3⟩
      have h2' : cont (lt M 1) = true := (cont_iff _).2 ⟨h2.1.2.2, h2.2.2.2⟩
      have e2 := low_of h2'
      have e3 := low_of h3
      refine ⟨h1, h2', h3, ?_⟩
      unfold badV
      have b2 : lt M 1 % 64 < 64 := Nat.mod_lt _ (by decide)
      have b3 : lt M 2 % 64 < 64 := Nat.mod_lt _ (by decide)
      generalize lt M 1 % 64 = x at *
      generalize lt M 2 % 64 = y at *
      rw [e2] at h2
      omega
  rw [if_neg (fun h => c4 h.2), if_neg c4]
  by_cases c5 : c < 248
  · rw [if_pos ⟨by omega, c5⟩, chT4]
    have hv : c % 8 = c - 240 := by omega
    rw [hv]
    have hz : (if c < 245 then (if 3 < M.length ∧ in1 c (lt M 1) = true ∧ cont (lt M 2) = true ∧ cont (lt M 3) = true then 4 else 0) else 0 : Nat) = if c < 245 ∧ 3 < M.length ∧ in1 c (lt M 1) = true ∧ cont (lt M 2) = true ∧ cont (lt M 3) = true then 4 else 0 := by
      by_cases h5 : c < 245
      · rw [if_pos h5]
        exact same_if 4 ⟨fun h => ⟨h5, h⟩, fun h => h.2⟩
      · rw [if_neg h5, if_neg (fun h => h5 h.1)]
    rw [hz]
    refine same_if 4 ?_
    rw [in1_iff]
    constructor
    · rintro ⟨h1, h2, h3, h3', h4⟩
      have e2 := low_of h2
      have b3 : lt M 2 % 64 < 64 := Nat.mod_lt _ (by decide)
      have b4 : lt M 3 % 64 < 64 := Nat.mod_lt _ (by decide)
      unfold badV at h4
      have g2 := (cont_iff _).1 h2
      generalize lt M 1 % 64 = x at *
      generalize lt M 2 % 64 = y at *
      generalize lt M 3 % 64 = z at *
      rw [e2] at g2 ⊢
      refine ⟨by omega, h1, ?_, h3, h3'⟩
      omega
    · rintro ⟨h5, h1, h2, h3, h3'⟩
      have h2' : cont (lt M 1) = true := (cont_iff _).2 ⟨h2.1.2.2, h2.2.2.2⟩
      have e2 := low_of h2'
      refine ⟨h1, h2', h3, h3', ?_⟩
      unfold badV
      have b2 : lt M 1 % 64 < 64 := Nat.mod_lt _ (by decide)
      have b3 : lt M 2 % 64 < 64 := Nat.mod_lt _ (by decide)
      have b4 : lt M 3 % 64 < 64 := Nat.mod_lt _ (by decide)
      generalize lt M 1 % 64 = x at *
      generalize lt M 2 % 64 = y at *
      generalize lt M 3 % 64 = z at *
      rw [e2] at h2
      omega
  · rw [if_neg (fun h => c5 h.2), if_neg (by omega)]
theorem c_Char (M : List UInt8) : Cinf T n_thicketref10_Char [.ro 1 (bl M)] = some (.v (.int .i64 (uc M : Nat)), [.dead]) := by
  rw [c_Char0, chH_uc]
end Go.AM.F
