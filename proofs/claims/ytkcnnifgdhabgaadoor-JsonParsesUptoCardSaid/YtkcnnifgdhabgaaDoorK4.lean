/- JSON: the program's reader: what is cut off, escapes. No conditions. -/
import Derived.Test.YtkcnnifgdhabgaaDoorK3
namespace Go.AM.F
open Go Go.AM
set_option maxRecDepth 10000
set_option linter.unusedSimpArgs false

theorem bytesOf_bl (L : List UInt8) : bytesOfPV (bl L) = some L := by
  induction L with
  | nil => rfl
  | cons b r ih =>
    have h1 : bytesOfPV (bl (b :: r)) = (byteOfPV (.v (.int .u8 b.toNat))).bind fun b => (bytesOfPV (bl r)).bind fun bs => some (b :: bs) := rfl
    rw [h1, ih]
    simp [byteOfPV]
theorem bl_drop (L : List UInt8) (i : Nat) : (bl L).drop i = bl (L.drop i) := by simp [bl]
theorem bl_take (L : List UInt8) (i : Nat) : (bl L).take i = bl (L.take i) := by simp [bl]
theorem bl_full (L : List UInt8) : (bl L).take L.length = bl L := List.take_of_length_le (by simp)
/-- What ends only too early, from there on. -/
def cut (L : List UInt8) (j : Nat) : Bool := decide (L.drop j = []) || decide (L.drop j = [92])
theorem tx_eq {a b : List UInt8} : ((⟨a.toArray⟩ : ByteArray) = ⟨b.toArray⟩) = (a = b) := by
  apply propext
  constructor
  · intro h; exact tx_inj h
  · rintro rfl; rfl
attribute [local simp] j0_json_reader_cutOff b_json_reader_cutOff a_json_reader_cutOff
theorem c_cutOff (L : List UInt8) (j a : Nat) (hj : j ≤ L.length) : Cinf T n_json_reader_cutOff [rd L j, .v (.int .i64 a)] = some (.pan (wrong 100 (if cut L j then L.length else a)), [.dead, .dead]) := by
  have h1 : ((⟨#[]⟩ : ByteArray)) = ⟨([] : List UInt8).toArray⟩ := rfl
  have h2 : ((⟨#[92]⟩ : ByteArray)) = ⟨([92] : List UInt8).toArray⟩ := rfl
  have hj2 : (j : Int) ≤ L.length := by omega
  by_cases c1 : L.drop j = []
  · simp [run_json_reader_cutOff, Run, home, hj, hj2, bl_drop, bl_full, bytesOf_bl, h1, h2, tx_eq, cut, c1, wrong]
  · by_cases c2 : L.drop j = [92]
    · simp [run_json_reader_cutOff, Run, home, hj, hj2, bl_drop, bl_full, bytesOf_bl, h1, h2, tx_eq, cut, c1, c2, wrong]
    · simp [run_json_reader_cutOff, Run, home, hj, hj2, bl_drop, bl_full, bytesOf_bl, h1, h2, tx_eq, cut, c1, c2, wrong]
/-- What a letter behind the stroke says. -/
def esc (c : Nat) : Option Nat := if c = 34 then some 34 else if c = 92 then some 92 else if c = 47 then some 47 else if c = 98 then some 8 else if c = 102 then some 12 else if c = 110 then some 10 else if c = 114 then some 13 else if c = 116 then some 9 else none
def sEsc : ByteArray := ⟨#[34, 92, 47, 98, 102, 110, 114, 116]⟩
def sTo : ByteArray := ⟨#[34, 92, 47, 8, 12, 10, 13, 9]⟩
def escTest (c : Nat) : Bool := match esc c with
  | some e => decide (0 ≤ firstIdx sEsc c.toUInt8) && decide (firstIdx sEsc c.toUInt8 < 8) && decide ((sTo.extract (firstIdx sEsc c.toUInt8).toNat ((firstIdx sEsc c.toUInt8).toNat + 1)).data = #[e.toUInt8])
  | none => decide (firstIdx sEsc c.toUInt8 = -1)
theorem esc_all : (List.range 256).all escTest = true := by kernel_rfl
theorem esc_some {c e : Nat} (hc : c < 256) (h : esc c = some e) : ∃ k : Nat, firstIdx sEsc c.toUInt8 = (k : Int) ∧ k < 8 ∧ sTo.extract k (k + 1) = ⟨#[e.toUInt8]⟩ := by
  have := List.all_eq_true.1 esc_all c (by simp [hc])
  simp only [escTest, h, Bool.and_eq_true, decide_eq_true_eq] at this
  obtain ⟨⟨h1, h2⟩, h3⟩ := this
  refine ⟨(firstIdx sEsc c.toUInt8).toNat, by omega, by omega, ?_⟩
  apply ByteArray.ext
  exact h3
theorem esc_none {c : Nat} (hc : c < 256) (h : esc c = none) : firstIdx sEsc c.toUInt8 = -1 := by
  have := List.all_eq_true.1 esc_all c (by simp [hc])
  simpa [escTest, h] using this
/-- The other half of a pair. -/
def pPair (L : List UInt8) (i v j : Nat) : PR ByteArray :=
  if j + 1 < L.length ∧ lt L j = 92 ∧ lt L (j + 1) = 117 then
    (pFour L 4 0 (j + 2)).bind fun k m => if m < 56320 ∨ 57343 < m then .bad 100 i else .ok k (Utf8.encode ((65536 + (v - 55296) * 1024 + (m - 56320) : Nat) : Int))
  else .bad 100 (if cut L j then L.length else i)
/-- An escape, from its stroke on. -/
def pEscape (L : List UInt8) (i : Nat) : PR ByteArray :=
  if i + 1 < L.length then
    match esc (lt L (i + 1)) with
    | some e => .ok (i + 2) ⟨#[e.toUInt8]⟩
    | none => if lt L (i + 1) = 117 then
        (pFour L 4 0 (i + 2)).bind fun j v => if 56320 ≤ v ∧ v ≤ 57343 then .bad 100 i else if v < 55296 ∨ 56319 < v then .ok j (Utf8.encode (v : Int)) else pPair L i v j
      else .bad 100 (i + 1)
  else .bad 100 (i + 1)
/-- What a part of a function that returns within leaves. -/
def Ret {α : Type} (L : List UInt8) (f : α → PV) (k : Nat) (x : Option (Out × Env)) : PR α → Prop
  | .ok i v => ∃ e', x = some (.ret, e') ∧ e'.get 100000 = rd L i ∧ e'.get k = f v
  | .bad w a => ∃ e', x = some (.pan (wrong w a), e')
def strP : ByteArray → PV := fun s => .v (.string s)
@[simp] theorem strP_eq (s : ByteArray) : strP s = .v (.string s) := rfl
attribute [local simp] j0_json_reader_escape j1_json_reader_escape j2_json_reader_escape j3_json_reader_escape j4_json_reader_escape b_json_reader_escape a_json_reader_escape
theorem low_part (L : List UInt8) (i v j : Nat) (hj : j + 2 ≤ L.length) (hl : L.length ≤ 16777216) (hv : 55296 ≤ v ∧ v ≤ 56319) :
    Ret L strP 2 (Exec T j1_json_reader_escape [(0, .ref 100000 []), (3, .v (.int .i64 i)), (6, .v (.int .i32 v)), (100000, rd L j)])
      ((pFour L 4 0 (j + 2)).bind fun k m => if m < 56320 ∨ 57343 < m then .bad 100 i else .ok k (Utf8.encode ((65536 + (v - 55296) * 1024 + (m - 56320) : Nat) : Int))) := by
  have hw : IntKind.i64.wrap ((j : Int) + 2) = ((j + 2 : Nat) : Int) := by rw [wrap_i64] <;> omega
  have h4 := c_four L (j + 2) hj hl
  simp only [rd_eq] at h4
  cases hp : pFour L 4 0 (j + 2) with
  | bad w a => simp [Ret, hw, h4, hp, -Int.natCast_add]
  | ok k m =>
    have hm := (pFour_le hj hp).2.2
    have hm2 : m < 65536 := by simpa using hm
    by_cases c1 : m < 56320
    · simp [Ret, hw, h4, hp, c1, -Int.natCast_add, wrong]
    · by_cases c2 : 57343 < m
      · simp [Ret, hw, h4, hp, c1, c2, -Int.natCast_add, wrong]
      · have w1 : IntKind.i32.wrap ((v : Int) - 55296) = ((v - 55296 : Nat) : Int) := by rw [wrap_i32] <;> omega
        have w2 : IntKind.i32.wrap (((v - 55296 : Nat) : Int) * 1024) = (((v - 55296) * 1024 : Nat) : Int) := by rw [wrap_i32] <;> omega
        have w3 : IntKind.i32.wrap (65536 + (((v - 55296) * 1024 : Nat) : Int)) = ((65536 + (v - 55296) * 1024 : Nat) : Int) := by rw [wrap_i32] <;> omega
        have w4 : IntKind.i32.wrap ((m : Int) - 56320) = ((m - 56320 : Nat) : Int) := by rw [wrap_i32] <;> omega
        have w5 : IntKind.i32.wrap (((65536 + (v - 55296) * 1024 : Nat) : Int) + ((m - 56320 : Nat) : Int)) = ((65536 + (v - 55296) * 1024 + (m - 56320) : Nat) : Int) := by rw [wrap_i32] <;> omega
        have hmin : min 10 IntKind.i32.bits = 10 := rfl
        simp [Ret, hw, h4, hp, c1, c2, w1, w2, w3, w4, w5, hmin, -Int.natCast_add, -Int.natCast_mul]
theorem pair_part (L : List UInt8) (i v j : Nat) (hj : j ≤ L.length) (hl : L.length ≤ 16777216) (hv : 55296 ≤ v ∧ v ≤ 56319) :
    Ret L strP 2 (Exec T j2_json_reader_escape [(0, .ref 100000 []), (3, .v (.int .i64 i)), (6, .v (.int .i32 v)), (100000, rd L j)]) (pPair L i v j) := by
  have hc := c_cutOff L j i hj
  have hw : IntKind.i64.wrap ((j : Int) + 1) = (j : Int) + 1 := by rw [wrap_i64] <;> omega
  have g2 : ((L.length : Int) ≤ (j : Int) + 1) = ¬ (j + 1 < L.length) := propext (by omega)
  simp only [rd_eq] at hc
  unfold pPair
  by_cases c1 : j + 1 < L.length
  · have c0 : j < L.length := by omega
    by_cases c2 : lt L j = 92
    · by_cases c3 : lt L (j + 1) = 117
      · rw [if_pos ⟨c1, c2, c3⟩]
        have h := low_part L i v j (by omega) hl hv
        simp only [rd_eq] at h
        simpa [hw, g2, c1, c0, bl_getE c0, bl_getE c1, c2, c3, -j1_json_reader_escape, -Int.natCast_add] using h
      · rw [if_neg (fun h => c3 h.2.2)]
        simp [Ret, hw, g2, c1, c0, bl_getE c0, bl_getE c1, c2, c3, hc]
    · rw [if_neg (fun h => c2 h.2.1)]
      simp [Ret, hw, g2, c1, c0, bl_getE c0, bl_getE c1, c2, hc]
  · rw [if_neg (fun h => c1 h.1)]
    simp [Ret, hw, g2, c1, hc]
theorem u_part (L : List UInt8) (i : Nat) (hi : i + 1 < L.length) (hl : L.length ≤ 16777216) :
    Ret L strP 2 (Exec T j3_json_reader_escape [(0, .ref 100000 []), (3, .v (.int .i64 i)), (100000, rd L (i + 1))])
      ((pFour L 4 0 (i + 2)).bind fun j v => if 56320 ≤ v ∧ v ≤ 57343 then .bad 100 i else if v < 55296 ∨ 56319 < v then .ok j (Utf8.encode (v : Int)) else pPair L i v j) := by
  have hw : IntKind.i64.wrap (((i + 1 : Nat) : Int) + 1) = ((i + 2 : Nat) : Int) := by rw [wrap_i64] <;> omega
  have h4 := c_four L (i + 2) (by omega) hl
  simp only [rd_eq] at h4
  cases hp : pFour L 4 0 (i + 2) with
  | bad w a => simp [Ret, hw, h4, hp, -Int.natCast_add]
  | ok j v =>
    have hj := (pFour_le (by omega) hp).2.1
    rw [PR.bind_ok]
    by_cases c1 : 56320 ≤ v
    · by_cases c2 : v ≤ 57343
      · simp [Ret, hw, h4, hp, c1, c2, wrong, -Int.natCast_add]
      · have c3 : ¬ v < 55296 := by omega
        have c4 : 56319 < v := by omega
        simp [Ret, hw, h4, hp, c1, c2, c3, c4, -Int.natCast_add]
    · by_cases c3 : v < 55296
      · simp [Ret, hw, h4, hp, c1, c3, -Int.natCast_add]
      · have c4 : ¬ 56319 < v := by omega
        have h := pair_part L i v j hj hl (by omega)
        simp only [rd_eq] at h
        simpa [hw, h4, hp, c1, c3, c4, -j2_json_reader_escape, -Int.natCast_add] using h
theorem c_escape (L : List UInt8) (i : Nat) (hi : i < L.length) (hl : L.length ≤ 16777216) : Cinf T n_json_reader_escape [rd L i] = res L 0 strP (pEscape L i) := by
  have hw : IntKind.i64.wrap ((i : Int) + 1) = ((i + 1 : Nat) : Int) := by rw [wrap_i64] <;> omega
  have hb := c_byte L (i + 1)
  have hf := c_fail L (i + 1)
  have hsm := lt_small L (i + 1)
  have hE : (⟨#[34, 92, 47, 98, 102, 110, 114, 116]⟩ : ByteArray) = sEsc := rfl
  have hT : (⟨#[34, 92, 47, 8, 12, 10, 13, 9]⟩ : ByteArray) = sTo := rfl
  have hTs : sTo.size = 8 := rfl
  simp only [rd_eq] at hb hf
  have fin : ∀ {x : Option (Out × Env)} {r : PR ByteArray}, Ret L strP 2 x r → finish a_json_reader_escape [rd L i] x = res L 0 strP r := by
    intro x r h
    cases r with
    | ok m u =>
      obtain ⟨e', rfl, h1, h2⟩ := h
      simp only [rd_eq, strP_eq] at h1 h2
      simp [home, h1, h2]
    | bad w a =>
      obtain ⟨e', rfl⟩ := h
      simp [home]
  unfold pEscape
  by_cases c0 : i + 1 < L.length
  · rw [if_pos c0]
    cases he : esc (lt L (i + 1)) with
    | some e =>
      obtain ⟨k, k1, k2, k3⟩ := esc_some hsm he
      have hwk : IntKind.i64.wrap ((k : Int) + 1) = (k : Int) + 1 := by rw [wrap_i64] <;> omega
      have hw2 : IntKind.i64.wrap (((i + 1 : Nat) : Int) + 1) = ((i + 2 : Nat) : Int) := by rw [wrap_i64] <;> omega
      have b1 : (k : Int) + 1 ≤ 8 := by omega
      have b2 : k ≤ k + 1 := by omega
      simp [run_json_reader_escape, Run, home, hw, hb, c0, hE, hT, c_IndexByte, k1, hwk, hw2, hTs, b1, b2, k3, -Int.natCast_add]
    | none =>
      have k1 := esc_none hsm he
      by_cases c2 : lt L (i + 1) = 117
      · have k2 : firstIdx sEsc 117 = -1 := by
          rw [c2] at k1
          exact k1
        simp only [if_pos c2]
        rw [← fin (u_part L i c0 hl)]
        simp [run_json_reader_escape, Run, home, hw, hb, c0, hE, hT, c_IndexByte, k2, c2, -Int.natCast_add, -j3_json_reader_escape]
      · simp [run_json_reader_escape, Run, home, hw, hb, hf, c0, hE, hT, c_IndexByte, k1, c2, -Int.natCast_add]
  · rw [if_neg c0]
    simp [run_json_reader_escape, Run, home, hw, hb, c0, -Int.natCast_add]
end Go.AM.F
