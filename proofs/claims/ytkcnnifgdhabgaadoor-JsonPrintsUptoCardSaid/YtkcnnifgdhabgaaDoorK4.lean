/- JSON: the program's reader: what is cut off, escapes. No conditions. -/
import Derived.Test.YtkcnnifgdhabgaaDoorK3
namespace Go.AM.F
open Go Go.AM
set_option maxRecDepth 10000
set_option linter.unusedSimpArgs false

theorem bytesOf_bl (L : List UInt8) : bytesOfPV (bl L) = some L := by
  induction L with
  | nil => rfl
  | cons b r ih =>
    have h1 : bytesOfPV (bl (b :: r)) = (byteOfPV (.v (.int .u8 b.toNat))).bind fun b => (bytesOfPV (bl r)).bind fun bs => some (b :: bs) := rfl
    rw [h1, ih]
    simp [byteOfPV]
theorem bl_drop (L : List UInt8) (i : Nat) : (bl L).drop i = bl (L.drop i) := by simp [bl]
theorem bl_take (L : List UInt8) (i : Nat) : (bl L).take i = bl (L.take i) := by simp [bl]
theorem bl_full (L : List UInt8) : (bl L).take L.length = bl L := List.take_of_length_le (by simp)
/-- What ends only too early, from there on. -/
def cut (L : List UInt8) (j : Nat) : Bool := decide (L.drop j = []) || decide (L.drop j = [92])
theorem tx_eq {a b : List UInt8} : ((⟨a.toArray⟩ : ByteArray) = ⟨b.toArray⟩) = (a = b) := by
  apply propext
  constructor
  · intro h; exact tx_inj h
  · rintro rfl; rfl
/-- What a letter behind the stroke says. -/
def esc (c : Nat) : Option Nat := if c = 34 then some 34 else if c = 92 then some 92 else if c = 47 then some 47 else if c = 98 then some 8 else if c = 102 then some 12 else if c = 110 then some 10 else if c = 114 then some 13 else if c = 116 then some 9 else none
def sEsc : ByteArray := ⟨#[34, 92, 47, 98, 102, 110, 114, 116]⟩
def sTo : ByteArray := ⟨#[34, 92, 47, 8, 12, 10, 13, 9]⟩
def escTest (c : Nat) : Bool := match esc c with
  | some e => decide (0 ≤ firstIdx sEsc c.toUInt8) && decide (firstIdx sEsc c.toUInt8 < 8) && decide ((sTo.extract (firstIdx sEsc c.toUInt8).toNat ((firstIdx sEsc c.toUInt8).toNat + 1)).data = #[e.toUInt8])
  | none => decide (firstIdx sEsc c.toUInt8 = -1)
theorem esc_all : (List.range 256).all escTest = true := by kernel_rfl
theorem esc_some {c e : Nat} (hc : c < 256) (h : esc c = some e) : ∃ k : Nat, firstIdx sEsc c.toUInt8 = (k : Int) ∧ k < 8 ∧ sTo.extract k (k + 1) = ⟨#[e.toUInt8]⟩ := by
  have := List.all_eq_true.1 esc_all c (by simp [hc])
  simp only [escTest, h, Bool.and_eq_true, decide_eq_true_eq] at this
  obtain ⟨⟨h1, h2⟩, h3⟩ := this
  refine ⟨(firstIdx sEsc c.toUInt8).toNat, by omega, by omega, ?_⟩
  apply ByteArray.ext
  exact h3
theorem esc_none {c : Nat} (hc : c < 256) (h : esc c = none) : firstIdx sEsc c.toUInt8 = -1 := by
  have := List.all_eq_true.1 esc_all c (by simp [hc])
  simpa [escTest, h] using this
/-- The other half of a pair. -/
def pPair (L : List UInt8) (i v j : Nat) : PR ByteArray :=
  if j + 1 < L.length ∧ lt L j = 92 ∧ lt L (j + 1) = 117 then
    (pFour L 4 0 (j + 2)).bind fun k m => if m < 56320 ∨ 57343 < m then .bad 100 i else .ok k (Utf8.encode ((65536 + (v - 55296) * 1024 + (m - 56320) : Nat) : Int))
  else .bad 100 (if cut L j then L.length else i)
/-- An escape, from its stroke on. -/
def pEscape (L : List UInt8) (i : Nat) : PR ByteArray :=
  if i + 1 < L.length then
    match esc (lt L (i + 1)) with
    | some e => .ok (i + 2) ⟨#[e.toUInt8]⟩
    | none => if lt L (i + 1) = 117 then
        (pFour L 4 0 (i + 2)).bind fun j v => if 56320 ≤ v ∧ v ≤ 57343 then .bad 100 i else if v < 55296 ∨ 56319 < v then .ok j (Utf8.encode (v : Int)) else pPair L i v j
      else .bad 100 (i + 1)
  else .bad 100 (i + 1)
/-- What a part of a function that returns within leaves. -/
def Ret {α : Type} (L : List UInt8) (f : α → PV) (k : Nat) (x : Option (Out × Env)) : PR α → Prop
  | .ok i v => ∃ e', x = some (.ret, e') ∧ e'.get 100000 = rd L i ∧ e'.get k = f v
  | .bad w a => ∃ e', x = some (.pan (wrong w a), e')
def strP : ByteArray → PV := fun s => .v (.string s)
@[simp] theorem strP_eq (s : ByteArray) : strP s = .v (.string s) := rfl
end Go.AM.F
