/- JSON: the program's reader, letter by letter: faults, bytes, digits, blanks. No conditions. -/
import Derived.Test.YtkcnnifgdhabgaaDoorIr
import Derived.Test.YtkcnnifgdhabgaaDoorAmTxt
import Derived.Laws.Runes
namespace Go.AM.F
open Go Go.AM
set_option maxRecDepth 10000
set_option linter.unusedSimpArgs false

def str (s : ByteArray) : PV := .v (.string s)
@[simp] theorem str_eq (s : ByteArray) : str s = .v (.string s) := rfl
/-- Bytes in a row. -/
def bl (L : List UInt8) : List PV := L.map fun b => .v (.int .u8 b.toNat)
@[simp] theorem bl_length (L : List UInt8) : (bl L).length = L.length := by simp [bl]
/-- The letter at a place; 0 behind the end. -/
def lt (L : List UInt8) (i : Nat) : Nat := (L[i]?.getD 0).toNat
theorem lt_small (L : List UInt8) (i : Nat) : lt L i < 256 := UInt8.toNat_lt _
theorem bl_get {L : List UInt8} {i : Nat} (h : i < L.length) : (bl L)[i]? = some (.v (.int .u8 (lt L i : Nat))) := by
  simp [bl, lt, h]
theorem bl_getE {L : List UInt8} {i : Nat} (h : i < L.length) : (bl L)[i]'(by simpa using h) = .v (.int .u8 (lt L i : Nat)) := by
  simp [bl, lt, h]
/-- A reader. -/
def rd (L : List UInt8) (i : Nat) : PV := .box [.ro 1 (bl L), .v (.int .i64 i)]
@[simp] theorem rd_eq (L : List UInt8) (i : Nat) : rd L i = .box [.ro 1 (bl L), .v (.int .i64 i)] := rfl
/-- What is given up by. -/
def wrong (why at_ : Nat) : Value := .iface 46 (.agg #[.int .i64 why, .int .i64 at_])
theorem c_fail (L : List UInt8) (i : Nat) : Cinf T n_json_reader_fail [rd L i] = some (.pan (wrong 100 i), [.dead]) := by
  simp [run_json_reader_fail, Run, a_json_reader_fail, b_json_reader_fail, home, wrong]
attribute [local simp] j0_json_reader_takes b_json_reader_takes a_json_reader_takes
attribute [local simp] b_json_reader_digit a_json_reader_digit
attribute [local simp] j0_json_reader_digits w0_json_reader_digits j1_json_reader_digits b_json_reader_digits a_json_reader_digits
attribute [local simp] b_strings_IndexByte a_strings_IndexByte
attribute [local simp] b_stringslite_IndexByte a_stringslite_IndexByte
/-- The first place from i on where the letter is none of those, or the end. -/
def skip (p : Nat → Bool) (L : List UInt8) (i : Nat) : Nat := stop (fun k => !p (lt L k)) (L.length - i) i
theorem skip_end (p : Nat → Bool) (L : List UInt8) {i : Nat} (h : L.length ≤ i) : skip p L i = i := by
  unfold skip
  rw [show L.length - i = 0 by omega]
  rfl
theorem skip_step (p : Nat → Bool) (L : List UInt8) {i : Nat} (h : i < L.length) : skip p L i = if p (lt L i) then skip p L (i + 1) else i := by
  unfold skip
  obtain ⟨m, hm⟩ : ∃ m, L.length - i = m + 1 := ⟨L.length - i - 1, by omega⟩
  rw [hm, show L.length - (i + 1) = m by omega]
  simp only [stop]
  by_cases hp : p (lt L i) = true <;> simp [hp]
theorem skip_le (p : Nat → Bool) (L : List UInt8) {i : Nat} (h : i ≤ L.length) : i ≤ skip p L i ∧ skip p L i ≤ L.length := by
  have := stop_le (fun k => !p (lt L k)) (L.length - i) i
  unfold skip
  omega
def blank (c : Nat) : Bool := c == 32 || c == 9 || c == 10 || c == 13
def digit (c : Nat) : Bool := decide (48 ≤ c) && decide (c ≤ 57)
theorem c_sIndexByte (s : ByteArray) (c : Int) : Cinf T n_stringslite_IndexByte [.v (.string s), .v (.int .u8 c)] = some (.v (.int .i64 (firstIdx s c.toNat.toUInt8)), [.dead, .dead]) := by
  simp [run_stringslite_IndexByte, Run]
theorem c_IndexByte (s : ByteArray) (c : Int) : Cinf T n_strings_IndexByte [.v (.string s), .v (.int .u8 c)] = some (.v (.int .i64 (firstIdx s c.toNat.toUInt8)), [.dead, .dead]) := by
  simp [run_strings_IndexByte, Run, c_sIndexByte]
/-- Is the letter one of the text's? -/
def inSet (s : ByteArray) (c : Nat) : Bool := decide (0 ≤ firstIdx s c.toUInt8)
def tk (s : ByteArray) (L : List UInt8) (i : Nat) : Bool := decide (i < L.length) && inSet s (lt L i)
theorem c_takes (L : List UInt8) (i : Nat) (s : ByteArray) (hl : L.length ≤ 16777216) : Cinf T n_json_reader_takes [rd L i, .v (.string s)] = some (.v (.bool (tk s L i)), [rd L (if tk s L i then i + 1 else i), .dead]) := by
  by_cases h : i < L.length
  · have hw := wrap_succ h (by omega)
    by_cases h2 : 0 ≤ firstIdx s (lt L i).toUInt8
    · simp [run_json_reader_takes, Run, home, h, bl_getE h, c_IndexByte, tk, inSet, h2, hw]
    · simp [run_json_reader_takes, Run, home, h, bl_getE h, c_IndexByte, tk, inSet, h2]
  · simp [run_json_reader_takes, Run, home, h, tk]
theorem c_digit (L : List UInt8) (i : Nat) : Cinf T n_json_reader_digit [rd L i] = some (.v (.bool (decide (i < L.length) && digit (lt L i))), [rd L i]) := by
  by_cases h : i < L.length
  · by_cases h2 : 48 ≤ lt L i
    · simp [run_json_reader_digit, Run, home, h, bl_getE h, digit, h2]
    · simp [run_json_reader_digit, Run, home, h, bl_getE h, digit, h2]
  · simp [run_json_reader_digit, Run, home, h]
end Go.AM.F
