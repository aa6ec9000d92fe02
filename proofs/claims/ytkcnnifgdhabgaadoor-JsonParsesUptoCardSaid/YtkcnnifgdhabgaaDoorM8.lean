/- JSON: the document's reader: the other half of a pair. No conditions. -/
import Derived.Test.YtkcnnifgdhabgaaDoorM7
namespace Go.AM.F
open Go Go.AM
set_option maxRecDepth 10000
set_option linter.unusedSimpArgs false

def ownS : ByteArray → PV := fun s => .own 1 (byteList s)
@[simp] theorem ownS_eq (s : ByteArray) : ownS s = .own 1 (byteList s) := rfl
/-- The answer of what reads a few letters. -/
def Rs (L : List UInt8) (k : Nat) (x : Option (PV × List PV)) : PR ByteArray → Prop
  | .ok i a => x = some (ownS a, rg L i 0 0 :: List.replicate k .dead)
  | .bad w a => w ≠ 0 ∧ ∃ (i : Nat) (s : ByteArray), i ≤ L.length ∧ s.size ≤ 4 ∧ x = some (ownS s, rg L i w a :: List.replicate k .dead)
theorem bl_empty : byteList eS = [] := rfl
theorem pFour_bad {L : List UInt8} {m v i w a : Nat} (h : pFour L m v i = .bad w a) : w = 100 := by
  induction m generalizing v i with
  | zero => cases h
  | succ m ih =>
    simp only [pFour] at h
    split at h
    · split at h
      · exact ih h
      · cases h
        rfl
    · cases h
      rfl
attribute [local simp] j0_thicketref10_reading_pair j1_thicketref10_reading_pair j2_thicketref10_reading_pair j3_thicketref10_reading_pair j4_thicketref10_reading_pair w0_thicketref10_reading_pair b_thicketref10_reading_pair a_thicketref10_reading_pair
def sU : ByteArray := ⟨#[92, 117]⟩
theorem pair_low (L : List UInt8) (i v j : Nat) (hj : j + 2 ≤ L.length) (hl : L.length ≤ 16777216) (hv : 55296 ≤ v ∧ v ≤ 56319) :
    Rs L 2 (finish a_thicketref10_reading_pair [rg L j 0 0, .v (.int .i64 v), .v (.int .i64 i)] (Exec T j5_thicketref10_reading_pair [(0, .ref 100000 []), (1, .v (.int .i64 v)), (2, .v (.int .i64 i)), (100000, rg L j 0 0)]))
      ((pFour L 4 0 (j + 2)).bind fun k m => if m < 56320 ∨ 57343 < m then .bad 100 i else .ok k (Utf8.encode ((65536 + (v - 55296) * 1024 + (m - 56320) : Nat) : Int))) := by
  have hw : IntKind.i64.wrap ((j : Int) + 2) = ((j + 2 : Nat) : Int) := by rw [wrap_i64] <;> omega
  obtain ⟨h4, hbad⟩ := c_rfour L (j + 2) hj hl
  simp only [rg_eq, Int.natCast_zero] at h4
  have h100 : ((100 : Nat) : Int) = 100 := rfl
  cases hp : pFour L 4 0 (j + 2) with
  | bad w a =>
    obtain ⟨rfl, ha⟩ := hbad _ _ hp
    rw [hp] at h4
    have ho := c_rokN L a a (show 100 ≠ 0 by decide)
    simp only [rg_eq, h100, fourOut, Int.natCast_zero] at h4 ho
    rw [PR.bind_bad]
    refine ⟨by decide, a, eS, ha, by decide, ?_⟩
    simp [j5_thicketref10_reading_pair, hw, h4, ho, bl_empty, home, -Int.natCast_add]
  | ok k m =>
    rw [PR.bind_ok]
    rw [hp] at h4
    have hk := pFour_le hj hp
    have hm : m < 65536 := by simpa using hk.2.2
    have ho := c_rok0 L k 0
    have hf := c_rfail L k 100 i
    simp only [rg_eq, h100, fourOut, Int.natCast_zero] at h4 ho hf
    by_cases c1 : m < 56320
    · rw [if_pos (.inl c1)]
      refine ⟨by decide, k, eS, hk.2.1, by decide, ?_⟩
      simp [j5_thicketref10_reading_pair, hw, h4, ho, hf, c1, bl_empty, home, -Int.natCast_add]
    by_cases c2 : 57343 < m
    · rw [if_pos (.inr c2)]
      refine ⟨by decide, k, eS, hk.2.1, by decide, ?_⟩
      simp [j5_thicketref10_reading_pair, hw, h4, ho, hf, c1, c2, bl_empty, home, -Int.natCast_add]
    rw [if_neg (by omega)]
    have w1 : IntKind.i64.wrap ((v : Int) - 55296) = ((v - 55296 : Nat) : Int) := by rw [wrap_i64] <;> omega
    have w2 : IntKind.i64.wrap (((v - 55296 : Nat) : Int) * 1024) = (((v - 55296) * 1024 : Nat) : Int) := by rw [wrap_i64] <;> omega
    have w3 : IntKind.i64.wrap (65536 + (((v - 55296) * 1024 : Nat) : Int)) = ((65536 + (v - 55296) * 1024 : Nat) : Int) := by rw [wrap_i64] <;> omega
    have w4 : IntKind.i64.wrap ((m : Int) - 56320) = ((m - 56320 : Nat) : Int) := by rw [wrap_i64] <;> omega
    have w5 : IntKind.i64.wrap (((65536 + (v - 55296) * 1024 : Nat) : Int) + ((m - 56320 : Nat) : Int)) = ((65536 + (v - 55296) * 1024 + (m - 56320) : Nat) : Int) := by rw [wrap_i64] <;> omega
    have hmin : min 10 IntKind.i64.bits = 10 := rfl
    have hu := c_utf8 (65536 + (v - 55296) * 1024 + (m - 56320)) (by omega)
    unfold Rs
    generalize 65536 + (v - 55296) * 1024 + (m - 56320) = z at *
    simp [j5_thicketref10_reading_pair, hw, h4, ho, c1, c2, w1, w2, w3, w4, w5, hmin, hu, home, -Int.natCast_add, -Int.natCast_mul]
theorem c_rpair (L : List UInt8) (i v j : Nat) (hj : j ≤ L.length) (hl : L.length ≤ 16777216) (hv : 55296 ≤ v ∧ v ≤ 56319) :
    Rs L 2 (Cinf T n_thicketref10_reading_pair [rg L j 0 0, .v (.int .i64 v), .v (.int .i64 i)]) (pPair L i v j) := by
  have hU : (⟨#[92, 117]⟩ : ByteArray) = sU := rfl
  have hs : sU.size = 2 := rfl
  have u0 : ch sU 0 = 92 := rfl
  have u1 : ch sU 1 = 117 := rfl
  have hw : IntKind.i64.wrap ((j : Int) + 1) = (j : Int) + 1 := by rw [wrap_i64] <;> omega
  have hw0 : IntKind.i64.wrap (j : Int) = (j : Int) := by rw [wrap_i64] <;> omega
  have g2 : ((L.length : Int) ≤ (j : Int) + 1) = ¬ (j + 1 < L.length) := propext (by omega)
  have h100 : ((100 : Nat) : Int) = 100 := rfl
  have hf := c_rfail L j 100 i
  have hf2 := c_rfail L j 100 L.length
  simp only [rg_eq, h100, Int.natCast_zero] at hf hf2
  unfold pPair
  by_cases c0 : j < L.length
  · have n0 : ¬ L.length ≤ j := by omega
    by_cases c2 : lt L j = 92
    · by_cases c1 : j + 1 < L.length
      · by_cases c3 : lt L (j + 1) = 117
        · rw [if_pos ⟨c1, c2, c3⟩]
          have h := pair_low L i v j (by omega) hl hv
          simp only [rg_eq, Int.natCast_zero] at h
          rw [run_thicketref10_reading_pair]
          simpa [Run, ex0_thicketref10_reading_pair, hU, hs, u0, u1, hw, hw0, g2, c0, n0, c1, c2, c3, bl_getE c0, bl_getE c1, home, ch_eq] using h
        · rw [if_neg (fun h => c3 h.2.2)]
          have hc : cut L j = false := by
            unfold cut
            have l1 : (L.drop j).length = L.length - j := List.length_drop
            have e1 : ¬ L.drop j = [] := fun h => by rw [h] at l1; simp at l1; omega
            have e2 : ¬ L.drop j = [92] := fun h => by rw [h] at l1; simp at l1; omega
            simp [e1, e2]
          rw [hc]
          refine ⟨by decide, j, eS, hj, by decide, ?_⟩
          have c3' : ¬ ((lt L (j + 1) : Int) = 117) := by omega
          simp [run_thicketref10_reading_pair, Run, ex0_thicketref10_reading_pair, hU, hs, u0, u1, hw, hw0, g2, c0, n0, c1, c2, c3, bl_getE c0, bl_getE c1, home, ch_eq, hf, bl_empty]
      · rw [if_neg (fun h => c1 h.1)]
        have hc : cut L j = true := by
          unfold cut
          have e2 : L.drop j = [92] := by
            rw [List.drop_eq_getElem_cons c0, List.drop_eq_nil_of_le (by omega)]
            have : lt L j = (L[j]).toNat := by simp [lt, c0]
            rw [this] at c2
            have h92 : L[j] = 92 := UInt8.toNat_inj.1 (by rw [c2]; rfl)
            rw [h92]
          simp [e2]
        rw [hc]
        refine ⟨by decide, j, eS, hj, by decide, ?_⟩
        simp [run_thicketref10_reading_pair, Run, ex0_thicketref10_reading_pair, hU, hs, u0, u1, hw, hw0, g2, c0, n0, c1, c2, bl_getE c0, home, ch_eq, hf2, bl_empty]
    · rw [if_neg (fun h => c2 h.2.1)]
      have hc : cut L j = false := by
        unfold cut
        have l1 : (L.drop j).length = L.length - j := List.length_drop
        have e1 : ¬ L.drop j = [] := fun h => by rw [h] at l1; simp at l1; omega
        have e2 : ¬ L.drop j = [92] := fun h => by
          have h0 : (L.drop j)[0]? = some 92 := by rw [h]; rfl
          rw [List.getElem?_drop] at h0
          apply c2
          simp only [Nat.add_zero] at h0
          simp [lt, h0]
        simp [e1, e2]
      rw [hc]
      refine ⟨by decide, j, eS, hj, by decide, ?_⟩
      simp [run_thicketref10_reading_pair, Run, ex0_thicketref10_reading_pair, hU, hs, u0, u1, hw, hw0, g2, c0, n0, c2, bl_getE c0, home, ch_eq, hf, bl_empty]
  · have n0 : L.length ≤ j := by omega
    rw [if_neg (fun h => by omega)]
    have hc : cut L j = true := by
      unfold cut
      have e2 : L.drop j = [] := List.drop_eq_nil_of_le n0
      simp [e2]
    rw [hc]
    refine ⟨by decide, j, eS, hj, by decide, ?_⟩
    simp [run_thicketref10_reading_pair, Run, ex0_thicketref10_reading_pair, hU, hs, u0, u1, hw, hw0, g2, n0, home, ch_eq, hf2, bl_empty]
end Go.AM.F
