/- JSON: the program's reader, letter by letter: faults, bytes, digits, blanks. JSON: the program's reader: digits, numbers, words. JSON: the program's reader: words, four hexadecimal digits, what is cut off, escapes. JSON: the program's reader: what is cut off, escapes. JSON: the length of a right character, as the program and as the library find it. JSON: the program's reader: a character; texts. JSON: the program's reader: texts. JSON: values as trees, the plain reading of a value, the map of the names that were seen. JSON: the program's reader: values. JSON: the program's reader: lists. JSON: the program's reader: lists. JSON: the program's reader: objects, then every value. JSON: the program's Parse. No conditions. -/
import Derived.Test.YtkcnnifgdhabgaaDoorIr
import Derived.Test.YtkcnnifgdhabgaaDoorAmTxt
import Derived.Laws.Runes
/- JSON: the program's reader, letter by letter: faults, bytes, digits, blanks. No conditions. -/
namespace Go.AM.F
open Go Go.AM
set_option maxRecDepth 10000
set_option linter.unusedSimpArgs false

def str (s : ByteArray) : PV := .v (.string s)
@[simp] theorem str_eq (s : ByteArray) : str s = .v (.string s) := rfl
/-- Bytes in a row. -/
def bl (L : List UInt8) : List PV := L.map fun b => .v (.int .u8 b.toNat)
@[simp] theorem bl_length (L : List UInt8) : (bl L).length = L.length := by simp [bl]
/-- The letter at a place; 0 behind the end. -/
def lt (L : List UInt8) (i : Nat) : Nat := (L[i]?.getD 0).toNat
theorem lt_small (L : List UInt8) (i : Nat) : lt L i < 256 := UInt8.toNat_lt _
theorem bl_get {L : List UInt8} {i : Nat} (h : i < L.length) : (bl L)[i]? = some (.v (.int .u8 (lt L i : Nat))) := by
  simp [bl, lt, h]
theorem bl_getE {L : List UInt8} {i : Nat} (h : i < L.length) : (bl L)[i]'(by simpa using h) = .v (.int .u8 (lt L i : Nat)) := by
  simp [bl, lt, h]
/-- A reader. -/
def rd (L : List UInt8) (i : Nat) : PV := .box [.ro 1 (bl L), .v (.int .i64 i)]
@[simp] theorem rd_eq (L : List UInt8) (i : Nat) : rd L i = .box [.ro 1 (bl L), .v (.int .i64 i)] := rfl
/-- What is given up by. -/
def wrong (why at_ : Nat) : Value := .iface 46 (.agg #[.int .i64 why, .int .i64 at_])
theorem c_fail (L : List UInt8) (i : Nat) : Cinf T n_json_reader_fail [rd L i] = some (.pan (wrong 100 i), [.dead]) := by
  simp [run_json_reader_fail, Run, a_json_reader_fail, b_json_reader_fail, home, wrong]
theorem c_byte (L : List UInt8) (i : Nat) : Cinf T n_json_reader_byte [rd L i] = if i < L.length then some (.v (.int .u8 (lt L i : Nat)), [rd L i]) else some (.pan (wrong 100 i), [.dead]) := by
  by_cases h : i < L.length
  · have h1 : ¬ ((L.length : Int) ≤ i) := by omega
    simp [run_json_reader_byte, Run, a_json_reader_byte, b_json_reader_byte, j0_json_reader_byte, home, h, h1, bl_get h, bl_getE h]
  · have h1 : ((L.length : Int) ≤ i) := by omega
    have h2 := c_fail L i
    simp only [rd_eq] at h2
    simp [run_json_reader_byte, Run, a_json_reader_byte, b_json_reader_byte, j0_json_reader_byte, home, h, h1, h2]
attribute [local simp] j0_json_reader_blanks w0_json_reader_blanks b_json_reader_blanks a_json_reader_blanks
attribute [local simp] j0_json_reader_takes b_json_reader_takes a_json_reader_takes
attribute [local simp] b_json_reader_digit a_json_reader_digit
attribute [local simp] j0_json_reader_digits w0_json_reader_digits j1_json_reader_digits b_json_reader_digits a_json_reader_digits
attribute [local simp] b_strings_IndexByte a_strings_IndexByte
attribute [local simp] b_stringslite_IndexByte a_stringslite_IndexByte
/-- The first place from i on where the letter is none of those, or the end. -/
def skip (p : Nat → Bool) (L : List UInt8) (i : Nat) : Nat := stop (fun k => !p (lt L k)) (L.length - i) i
theorem skip_end (p : Nat → Bool) (L : List UInt8) {i : Nat} (h : L.length ≤ i) : skip p L i = i := by
  unfold skip
  rw [show L.length - i = 0 by omega]
  rfl
theorem skip_step (p : Nat → Bool) (L : List UInt8) {i : Nat} (h : i < L.length) : skip p L i = if p (lt L i) then skip p L (i + 1) else i := by
  unfold skip
  obtain ⟨m, hm⟩ : ∃ m, L.length - i = m + 1 := ⟨L.length - i - 1, by omega⟩
  rw [hm, show L.length - (i + 1) = m by omega]
  simp only [stop]
  by_cases hp : p (lt L i) = true <;> simp [hp]
theorem skip_le (p : Nat → Bool) (L : List UInt8) {i : Nat} (h : i ≤ L.length) : i ≤ skip p L i ∧ skip p L i ≤ L.length := by
  have := stop_le (fun k => !p (lt L k)) (L.length - i) i
  unfold skip
  omega
def blank (c : Nat) : Bool := c == 32 || c == 9 || c == 10 || c == 13
def digit (c : Nat) : Bool := decide (48 ≤ c) && decide (c ≤ 57)
theorem blanks_loop (L : List UInt8) (hl : L.length ≤ 16777216) : ∀ (m i : Nat), L.length - i = m → i ≤ L.length → Exec T l0_json_reader_blanks [(0, .ref 100000 []), (100000, rd L i)] = some (.exit 0, [(0, .ref 100000 []), (100000, rd L (skip blank L i))]) := by
  intro m
  induction m with
  | zero =>
    intro i hm hi
    have h1 : ¬ i < L.length := by omega
    rw [ex0_json_reader_blanks, skip_end _ _ (by omega)]
    simp [h1]
  | succ m ih =>
    intro i hm hi
    have h1 : i < L.length := by omega
    have h0 := ih (i + 1) (by omega) (by omega)
    have hw := wrap_succ h1 (by omega)
    rw [ex0_json_reader_blanks, skip_step _ _ h1]
    simp only [rd_eq, succ_cast] at h0
    by_cases c1 : lt L i = 32
    · simp [h1, bl_getE h1, c1, blank, hw, h0]
    by_cases c2 : lt L i = 9
    · simp [h1, bl_getE h1, c2, blank, hw, h0]
    by_cases c3 : lt L i = 10
    · simp [h1, bl_getE h1, c3, blank, hw, h0]
    by_cases c4 : lt L i = 13
    · simp [h1, bl_getE h1, c4, blank, hw, h0]
    · simp [h1, bl_getE h1, c1, c2, c3, c4, blank]
theorem c_blanks (L : List UInt8) (i : Nat) (hi : i ≤ L.length) (hl : L.length ≤ 16777216) : Cinf T n_json_reader_blanks [rd L i] = some (.tup [], [rd L (skip blank L i)]) := by
  have h := blanks_loop L hl _ i rfl hi
  simp only [rd_eq] at h
  simp [run_json_reader_blanks, Run, home, h]
theorem c_sIndexByte (s : ByteArray) (c : Int) : Cinf T n_stringslite_IndexByte [.v (.string s), .v (.int .u8 c)] = some (.v (.int .i64 (firstIdx s c.toNat.toUInt8)), [.dead, .dead]) := by
  simp [run_stringslite_IndexByte, Run]
theorem c_IndexByte (s : ByteArray) (c : Int) : Cinf T n_strings_IndexByte [.v (.string s), .v (.int .u8 c)] = some (.v (.int .i64 (firstIdx s c.toNat.toUInt8)), [.dead, .dead]) := by
  simp [run_strings_IndexByte, Run, c_sIndexByte]
/-- Is the letter one of the text's? -/
def inSet (s : ByteArray) (c : Nat) : Bool := decide (0 ≤ firstIdx s c.toUInt8)
def tk (s : ByteArray) (L : List UInt8) (i : Nat) : Bool := decide (i < L.length) && inSet s (lt L i)
theorem c_takes (L : List UInt8) (i : Nat) (s : ByteArray) (hl : L.length ≤ 16777216) : Cinf T n_json_reader_takes [rd L i, .v (.string s)] = some (.v (.bool (tk s L i)), [rd L (if tk s L i then i + 1 else i), .dead]) := by
  by_cases h : i < L.length
  · have hw := wrap_succ h (by omega)
    by_cases h2 : 0 ≤ firstIdx s (lt L i).toUInt8
    · simp [run_json_reader_takes, Run, home, h, bl_getE h, c_IndexByte, tk, inSet, h2, hw]
    · simp [run_json_reader_takes, Run, home, h, bl_getE h, c_IndexByte, tk, inSet, h2]
  · simp [run_json_reader_takes, Run, home, h, tk]
theorem c_digit (L : List UInt8) (i : Nat) : Cinf T n_json_reader_digit [rd L i] = some (.v (.bool (decide (i < L.length) && digit (lt L i))), [rd L i]) := by
  by_cases h : i < L.length
  · by_cases h2 : 48 ≤ lt L i
    · simp [run_json_reader_digit, Run, home, h, bl_getE h, digit, h2]
    · simp [run_json_reader_digit, Run, home, h, bl_getE h, digit, h2]
  · simp [run_json_reader_digit, Run, home, h]
end Go.AM.F

/- JSON: the program's reader: digits, numbers, words. No conditions. -/
namespace Go.AM.F
open Go Go.AM
set_option maxRecDepth 10000
set_option linter.unusedSimpArgs false

/-- What a piece of reading ends in: how far, with what; or the fault and its place. -/
inductive PR (α : Type) where
  | ok (i : Nat) (a : α)
  | bad (why at_ : Nat)
def PR.bind {α β : Type} (x : PR α) (f : Nat → α → PR β) : PR β := match x with
  | .ok i a => f i a
  | .bad w a => .bad w a
@[simp] theorem PR.bind_ok {α β : Type} (i : Nat) (a : α) (f : Nat → α → PR β) : (PR.ok i a).bind f = f i a := rfl
@[simp] theorem PR.bind_bad {α β : Type} (w a : Nat) (f : Nat → α → PR β) : (PR.bad w a : PR α).bind f = .bad w a := rfl
/-- The answer of a reader's method that has k arguments beside the reader. -/
def res {α : Type} (L : List UInt8) (k : Nat) (f : α → PV) : PR α → Option (PV × List PV)
  | .ok i a => some (f a, rd L i :: List.replicate k .dead)
  | .bad w a => some (.pan (wrong w a), List.replicate (k + 1) .dead)
@[simp] theorem res_ok {α : Type} (L : List UInt8) (k : Nat) (f : α → PV) (i : Nat) (a : α) : res L k f (.ok i a) = some (f a, rd L i :: List.replicate k .dead) := rfl
@[simp] theorem res_bad {α : Type} (L : List UInt8) (k : Nat) (f : α → PV) (w a : Nat) : res L k f (.bad w a) = some (.pan (wrong w a), List.replicate (k + 1) .dead) := rfl
def unitPV : Unit → PV := fun _ => .tup []
@[simp] theorem unitPV_eq (u : Unit) : unitPV u = .tup [] := rfl
def pDigits (L : List UInt8) (i : Nat) : PR Unit := if decide (i < L.length) && digit (lt L i) then .ok (skip digit L i) () else .bad 100 i
def sMinus : ByteArray := ⟨#[45]⟩
def sZero : ByteArray := ⟨#[48]⟩
def sPoint : ByteArray := ⟨#[46]⟩
def sExp : ByteArray := ⟨#[101, 69]⟩
def sSign : ByteArray := ⟨#[43, 45]⟩
def past (s : ByteArray) (L : List UInt8) (i : Nat) : Nat := if tk s L i then i + 1 else i
def pInt (L : List UInt8) (i : Nat) : PR Unit := if tk sZero L i then .ok (i + 1) () else pDigits L i
def pFrac (L : List UInt8) (i : Nat) : PR Unit := if tk sPoint L i then pDigits L (i + 1) else .ok i ()
def pExp (L : List UInt8) (i : Nat) : PR Unit := if tk sExp L i then pDigits L (past sSign L (i + 1)) else .ok i ()
def pNumber (L : List UInt8) (i : Nat) : PR Unit := (pInt L (past sMinus L i)).bind fun i _ => (pFrac L i).bind fun i _ => pExp L i
attribute [local simp] j0_json_reader_digits w0_json_reader_digits j1_json_reader_digits b_json_reader_digits a_json_reader_digits
attribute [local simp] j0_json_reader_number j1_json_reader_number b_json_reader_number a_json_reader_number
attribute [local simp] j0_json_reader_want j1_json_reader_want j2_json_reader_want w0_json_reader_want b_json_reader_want a_json_reader_want
theorem digits_loop (L : List UInt8) (hl : L.length ≤ 16777216) : ∀ (m i : Nat), L.length - i = m → i ≤ L.length → Exec T l0_json_reader_digits [(0, .ref 100000 []), (100000, rd L i)] = some (.exit 0, [(0, .ref 100000 []), (100000, rd L (skip digit L i))]) := by
  intro m
  induction m with
  | zero =>
    intro i hm hi
    have h1 : ¬ i < L.length := by omega
    have hd := c_digit L i
    simp only [rd_eq] at hd
    rw [ex0_json_reader_digits, skip_end _ _ (by omega)]
    simp [h1, hd]
  | succ m ih =>
    intro i hm hi
    have h1 : i < L.length := by omega
    have h0 := ih (i + 1) (by omega) (by omega)
    have hw := wrap_succ h1 (by omega)
    have hd := c_digit L i
    rw [ex0_json_reader_digits, skip_step _ _ h1]
    simp only [rd_eq, succ_cast] at h0 hd
    cases c1 : digit (lt L i)
    · simp [h1, hd, c1]
    · simp [h1, hd, c1, hw, h0]
theorem c_digits (L : List UInt8) (i : Nat) (hi : i ≤ L.length) (hl : L.length ≤ 16777216) : Cinf T n_json_reader_digits [rd L i] = res L 0 unitPV (pDigits L i) := by
  have hd := c_digit L i
  have hf := c_fail L i
  have h := digits_loop L hl _ i rfl hi
  simp only [rd_eq] at hd hf h
  cases c : (decide (i < L.length) && digit (lt L i))
  · simp [run_json_reader_digits, Run, home, hd, hf, c, pDigits]
  · simp [run_json_reader_digits, Run, home, hd, h, c, pDigits]
theorem past_le (s : ByteArray) (L : List UInt8) {i : Nat} (hi : i ≤ L.length) : i ≤ past s L i ∧ past s L i ≤ L.length := by
  unfold past tk
  split
  · rename_i h
    simp at h
    omega
  · omega
theorem pDigits_le {L : List UInt8} {i j : Nat} {u : Unit} (h : pDigits L i = .ok j u) : i < j ∧ j ≤ L.length := by
  unfold pDigits at h
  split at h
  · rename_i hc
    cases h
    simp only [Bool.and_eq_true, decide_eq_true_eq] at hc
    rw [skip_step _ _ hc.1, if_pos hc.2]
    have := skip_le digit L (show i + 1 ≤ L.length by omega)
    omega
  · cases h
theorem pInt_le {L : List UInt8} {i j : Nat} {u : Unit} (h : pInt L i = .ok j u) : i < j ∧ j ≤ L.length := by
  unfold pInt at h
  split at h
  · rename_i hc
    cases h
    unfold tk at hc
    simp at hc
    omega
  · exact pDigits_le h
theorem pFrac_le {L : List UInt8} {i j : Nat} {u : Unit} (hi : i ≤ L.length) (h : pFrac L i = .ok j u) : i ≤ j ∧ j ≤ L.length := by
  unfold pFrac at h
  split at h
  · have := pDigits_le h
    omega
  · cases h
    omega
theorem pExp_le {L : List UInt8} {i j : Nat} {u : Unit} (hi : i ≤ L.length) (h : pExp L i = .ok j u) : i ≤ j ∧ j ≤ L.length := by
  unfold pExp at h
  split at h
  · rename_i hc
    have h1 := pDigits_le h
    unfold tk at hc
    simp at hc
    have h2 := past_le sSign L (show i + 1 ≤ L.length by omega)
    omega
  · cases h
    omega
/-- What a part of a function leaves: the reader where it stands, or a panic. -/
def Leaves (L : List UInt8) (x : Option (Out × Env)) : PR Unit → Prop
  | .ok i _ => ∃ e', x = some (.normal, e') ∧ e'.get 100000 = rd L i
  | .bad w a => ∃ e', x = some (.pan (wrong w a), e')
theorem exp_part (L : List UInt8) (i : Nat) (hl : L.length ≤ 16777216) : Leaves L (Exec T j0_json_reader_number [(0, .ref 100000 []), (100000, rd L i)]) (pExp L i) := by
  have t1 := c_takes L i sExp hl
  simp only [rd_eq] at t1
  have hx : (Value.string { data := #[101, 69] }) = .string sExp := rfl
  have hs : (Value.string { data := #[43, 45] }) = .string sSign := rfl
  unfold pExp
  cases a1 : tk sExp L i
  · simp [Leaves, hx, hs, t1, a1]
  · have hlt : i < L.length := by unfold tk at a1; simp at a1; omega
    have t2 := c_takes L (i + 1) sSign hl
    have hk : past sSign L (i + 1) = if tk sSign L (i + 1) = true then i + 1 + 1 else i + 1 := rfl
    rw [← hk] at t2
    have hb := (past_le sSign L (show i + 1 ≤ L.length by omega)).2
    generalize past sSign L (i + 1) = k at t2 hb ⊢
    have d := c_digits L k hb hl
    simp only [rd_eq, succ_cast] at t2 d
    cases hd : pDigits L k with
    | ok j u => simp [Leaves, hx, hs, t1, a1, t2, d, hd]
    | bad w a => simp [Leaves, hx, hs, t1, a1, t2, d, hd]
theorem frac_part (L : List UInt8) (i : Nat) (hi : i ≤ L.length) (hl : L.length ≤ 16777216) : Leaves L (Exec T j1_json_reader_number [(0, .ref 100000 []), (100000, rd L i)]) ((pFrac L i).bind fun i _ => pExp L i) := by
  have t1 := c_takes L i sPoint hl
  simp only [rd_eq] at t1
  have hx : (Value.string { data := #[46] }) = .string sPoint := rfl
  unfold pFrac
  cases a1 : tk sPoint L i
  · have h := exp_part L i hl
    simp only [Bool.false_eq_true, if_false, PR.bind_ok]
    simp only [rd_eq] at h
    simpa [hx, t1, a1, -j0_json_reader_number] using h
  · have hlt : i < L.length := by unfold tk at a1; simp at a1; omega
    have d := c_digits L (i + 1) (by omega) hl
    simp only [rd_eq, succ_cast] at d
    simp only [if_true]
    cases hd : pDigits L (i + 1) with
    | bad w a => simp [Leaves, hx, t1, a1, d, hd]
    | ok j u =>
      have h := exp_part L j hl
      simp only [rd_eq] at h
      simp only [PR.bind_ok]
      simpa [hx, t1, a1, d, hd, -j0_json_reader_number] using h
theorem c_number (L : List UInt8) (i : Nat) (hi : i ≤ L.length) (hl : L.length ≤ 16777216) : Cinf T n_json_reader_number [rd L i] = res L 0 unitPV (pNumber L i) := by
  have t1 := c_takes L i sMinus hl
  have hx : (Value.string { data := #[45] }) = .string sMinus := rfl
  have hz : (Value.string { data := #[48] }) = .string sZero := rfl
  have hk : past sMinus L i = if tk sMinus L i = true then i + 1 else i := rfl
  rw [← hk] at t1
  have hb := (past_le sMinus L hi).2
  unfold pNumber
  generalize past sMinus L i = k at t1 hb ⊢
  have t2 := c_takes L k sZero hl
  have d := c_digits L k hb hl
  simp only [rd_eq] at t1 t2 d
  have fin : ∀ {x : Option (Out × Env)} {r : PR Unit}, Leaves L x r → finish a_json_reader_number [rd L i] x = res L 0 unitPV r := by
    intro x r h
    cases r with
    | ok m u =>
      obtain ⟨e', rfl, h⟩ := h
      simp only [rd_eq] at h
      simp [home, h]
    | bad w a =>
      obtain ⟨e', rfl⟩ := h
      simp [home]
  have hI : pInt L k = if tk sZero L k then .ok (k + 1) () else pDigits L k := rfl
  cases a1 : tk sZero L k
  · rw [hI, a1]
    simp only [Bool.false_eq_true, if_false]
    cases hd : pDigits L k with
    | bad w a => simp [run_json_reader_number, Run, home, hx, hz, t1, t2, d, a1, hd]
    | ok j u =>
      rw [PR.bind_ok, ← fin (frac_part L j (pDigits_le hd).2 hl)]
      simp [run_json_reader_number, Run, home, hx, hz, t1, t2, d, a1, hd, -j1_json_reader_number, -a_json_reader_number]
      simp [home, hx, hz, t1, t2, d, a1, hd, -j1_json_reader_number]
  · rw [hI, a1]
    have hlt : k < L.length := by unfold tk at a1; simp at a1; omega
    simp only [if_true]
    rw [PR.bind_ok, ← fin (frac_part L (k + 1) (by omega) hl)]
    simp [run_json_reader_number, Run, home, hx, hz, t1, t2, d, a1, -j1_json_reader_number]
end Go.AM.F

/- JSON: the program's reader: words, four hexadecimal digits, what is cut off, escapes. No conditions. -/
namespace Go.AM.F
open Go Go.AM
set_option maxRecDepth 10000
set_option linter.unusedSimpArgs false

/-- A word, letter by letter. -/
def pWord (s : ByteArray) (L : List UInt8) : Nat → Nat → Nat → PR Unit
  | 0, _, i => .ok i ()
  | m + 1, k, i => if i < L.length ∧ lt L i = ch s k then pWord s L m (k + 1) (i + 1) else .bad 100 i
def pWant (s : ByteArray) (L : List UInt8) (i : Nat) : PR Unit := pWord s L s.size 0 i
theorem pWord_le {s : ByteArray} {L : List UInt8} : ∀ {m k i j : Nat} {u : Unit}, i ≤ L.length → pWord s L m k i = .ok j u → j = i + m ∧ j ≤ L.length
  | 0, k, i, j, u, hi, h => by
    simp only [pWord] at h
    cases h
    exact ⟨rfl, hi⟩
  | m + 1, k, i, j, u, hi, h => by
    simp only [pWord] at h
    split at h
    · rename_i hc
      have := pWord_le (show i + 1 ≤ L.length by omega) h
      omega
    · cases h
attribute [local simp] j0_json_reader_want j1_json_reader_want j2_json_reader_want w0_json_reader_want b_json_reader_want a_json_reader_want
theorem want_loop (L : List UInt8) (s : ByteArray) (hl : L.length ≤ 16777216) (hs : s.size ≤ 16777216) : ∀ (m k i : Nat), s.size - k = m → k ≤ s.size → i ≤ L.length →
    match pWord s L m k i with
    | .ok j _ => Exec T l0_json_reader_want [(0, .ref 100000 []), (1, str s), (6, .v (.int .i64 s.size)), (7, .v (.int .i64 k)), (100000, rd L i)] = some (.exit 0, [(0, .ref 100000 []), (1, str s), (6, .v (.int .i64 s.size)), (7, .v (.int .i64 s.size)), (100000, rd L j)])
    | .bad w a => ∃ e', Exec T l0_json_reader_want [(0, .ref 100000 []), (1, str s), (6, .v (.int .i64 s.size)), (7, .v (.int .i64 k)), (100000, rd L i)] = some (.pan (wrong w a), e') := by
  intro m
  induction m with
  | zero =>
    intro k i hm hk hi
    obtain rfl : k = s.size := by omega
    simp only [pWord]
    rw [ex0_json_reader_want]
    simp
  | succ m ih =>
    intro k i hm hk hi
    have hlt : k < s.size := by omega
    have hw := wrap_succ hlt (by omega)
    have hb := c_byte L i
    simp only [rd_eq] at hb
    simp only [pWord]
    rw [ex0_json_reader_want]
    by_cases h1 : i < L.length
    · by_cases h2 : lt L i = ch s k
      · have h0 := ih (k + 1) (i + 1) (by omega) (by omega) (by omega)
        have hw2 := wrap_succ h1 (by omega)
        rw [if_pos ⟨h1, h2⟩]
        simp only [str_eq, rd_eq, succ_cast] at h0 ⊢
        split at h0
        · simpa [hlt, hb, h1, ch_eq, h2, hw, hw2] using h0
        · simpa [hlt, hb, h1, ch_eq, h2, hw, hw2] using h0
      · have hf := c_fail L i
        simp only [rd_eq] at hf
        rw [if_neg (fun h => h2 h.2)]
        have hne : ¬ ((lt L i : Int) = (ch s k : Int)) := by omega
        simp [hlt, hb, h1, ch_eq, hne, hf]
    · rw [if_neg (fun h => h1 h.1)]
      simp [hlt, hb, h1]
theorem c_want (L : List UInt8) (i : Nat) (s : ByteArray) (hi : i ≤ L.length) (hl : L.length ≤ 16777216) (hs : s.size ≤ 16777216) : Cinf T n_json_reader_want [rd L i, .v (.string s)] = res L 1 unitPV (pWant s L i) := by
  have h := want_loop L s hl hs s.size 0 i rfl (Nat.zero_le _) hi
  unfold pWant
  simp only [str_eq, rd_eq, Int.natCast_zero] at h
  split at h
  · rename_i j u he
    rw [he]
    simp [run_json_reader_want, Run, home, h]
  · rename_i w a he
    rw [he]
    obtain ⟨e', h⟩ := h
    simp [run_json_reader_want, Run, home, h]
/-- A hexadecimal digit. -/
def hexv (c : Nat) : Option Nat := if 48 ≤ c ∧ c ≤ 57 then some (c - 48) else if 97 ≤ c ∧ c ≤ 102 then some (c - 87) else if 65 ≤ c ∧ c ≤ 70 then some (c - 55) else none
theorem hexv_lt {c v : Nat} (h : hexv c = some v) : v < 16 := by
  unfold hexv at h
  split at h
  · cases h; omega
  · split at h
    · cases h; omega
    · split at h
      · cases h; omega
      · cases h
def pFour (L : List UInt8) : Nat → Nat → Nat → PR Nat
  | 0, v, i => .ok i v
  | m + 1, v, i => if i < L.length then (match hexv (lt L i) with | some h => pFour L m (16 * v + h) (i + 1) | none => .bad 100 i) else .bad 100 i
theorem pFour_le {L : List UInt8} : ∀ {m v i j u : Nat}, i ≤ L.length → pFour L m v i = .ok j u → j = i + m ∧ j ≤ L.length ∧ u < 16 ^ m * (v + 1)
  | 0, v, i, j, u, hi, h => by
    simp only [pFour] at h
    cases h
    exact ⟨rfl, hi, by simp⟩
  | m + 1, v, i, j, u, hi, h => by
    simp only [pFour] at h
    split at h
    · split at h
      · rename_i x hx
        have h1 := pFour_le (show i + 1 ≤ L.length by omega) h
        have h2 := hexv_lt hx
        refine ⟨by omega, h1.2.1, ?_⟩
        have h3 := h1.2.2
        have h4 : 16 ^ m * (16 * v + x + 1) ≤ 16 ^ m * (16 * (v + 1)) := Nat.mul_le_mul_left _ (by omega)
        have h5 : 16 ^ (m + 1) * (v + 1) = 16 ^ m * (16 * (v + 1)) := by rw [Nat.pow_succ, Nat.mul_assoc]
        omega
      · cases h
    · cases h
theorem wrap_i32 {v : Int} (h1 : -2147483648 ≤ v) (h2 : v < 2147483648) : IntKind.i32.wrap v = v := by
  simp only [IntKind.wrap, IntKind.signed, IntKind.bits]
  simp
  omega
attribute [local simp] j0_json_reader_four j1_json_reader_four j2_json_reader_four w0_json_reader_four j3_json_reader_four b_json_reader_four a_json_reader_four
theorem four_loop (L : List UInt8) (hl : L.length ≤ 16777216) : ∀ (m k v i : Nat), k + m = 4 → i ≤ L.length → v < 16 ^ k →
    match pFour L m v i with
    | .ok j u => Exec T l0_json_reader_four [(0, .ref 100000 []), (3, .v (.int .i32 v)), (5, .v (.int .i64 k)), (100000, rd L i)] = some (.exit 0, [(0, .ref 100000 []), (3, .v (.int .i32 u)), (5, .v (.int .i64 4)), (100000, rd L j)])
    | .bad w a => ∃ e', Exec T l0_json_reader_four [(0, .ref 100000 []), (3, .v (.int .i32 v)), (5, .v (.int .i64 k)), (100000, rd L i)] = some (.pan (wrong w a), e') := by
  intro m
  induction m with
  | zero =>
    intro k v i hm hi hv
    obtain rfl : k = 4 := by omega
    simp only [pFour]
    rw [ex0_json_reader_four]
    simp
  | succ m ih =>
    intro k v i hm hi hv
    have hlt : k < 4 := by omega
    have hw := wrap_succ hlt (by omega)
    have hb := c_byte L i
    simp only [rd_eq] at hb
    simp only [pFour]
    rw [ex0_json_reader_four]
    have hv2 : v < 4096 := by
      have : k = 0 ∨ k = 1 ∨ k = 2 ∨ k = 3 := by omega
      rcases this with rfl | rfl | rfl | rfl <;> simp at hv <;> omega
    have hsm := lt_small L i
    by_cases h1 : i < L.length
    · rw [if_pos h1]
      have hw2 := wrap_succ h1 (by omega)
      generalize hc : lt L i = c at hb hsm ⊢
      have m1 : IntKind.i32.wrap (16 * (v : Int)) = ((16 * v : Nat) : Int) := by rw [wrap_i32] <;> omega
      by_cases d1 : 48 ≤ c ∧ c ≤ 57
      · have hx : hexv c = some (c - 48) := by simp [hexv, d1]
        have h0 := ih (k + 1) (16 * v + (c - 48)) (i + 1) (by omega) (by omega) (by rw [Nat.pow_succ]; omega)
        have s1 : IntKind.u8.wrap ((c : Int) - 48) = ((c - 48 : Nat) : Int) := by rw [wrap_u8] <;> omega
        have s2 : IntKind.i32.wrap ((c - 48 : Nat) : Int) = ((c - 48 : Nat) : Int) := by rw [wrap_i32] <;> omega
        have s3 : IntKind.i32.wrap (((16 * v : Nat) : Int) + ((c - 48 : Nat) : Int)) = ((16 * v + (c - 48) : Nat) : Int) := by rw [wrap_i32] <;> omega
        rw [hx]
        simp only [rd_eq, succ_cast] at h0 ⊢
        split at h0
        · simpa [hlt, hb, h1, d1.1, d1.2, m1, s1, s2, s3, hw, hw2, -Int.natCast_add, -Int.natCast_mul] using h0
        · simpa [hlt, hb, h1, d1.1, d1.2, m1, s1, s2, s3, hw, hw2, -Int.natCast_add, -Int.natCast_mul] using h0
      by_cases d2 : 97 ≤ c ∧ c ≤ 102
      · have hx : hexv c = some (c - 87) := by simp [hexv, d1, d2]
        have h0 := ih (k + 1) (16 * v + (c - 87)) (i + 1) (by omega) (by omega) (by rw [Nat.pow_succ]; omega)
        have s1 : IntKind.u8.wrap ((c : Int) - 97) = ((c - 97 : Nat) : Int) := by rw [wrap_u8] <;> omega
        have s2 : IntKind.i32.wrap ((c - 97 : Nat) : Int) = ((c - 97 : Nat) : Int) := by rw [wrap_i32] <;> omega
        have s3 : IntKind.i32.wrap (((16 * v : Nat) : Int) + ((c - 97 : Nat) : Int)) = ((16 * v + (c - 97) : Nat) : Int) := by rw [wrap_i32] <;> omega
        have s4 : IntKind.i32.wrap (((16 * v + (c - 97) : Nat) : Int) + 10) = ((16 * v + (c - 87) : Nat) : Int) := by rw [wrap_i32] <;> omega
        have n1 : 48 ≤ c := by omega
        have n2 : ¬ c ≤ 57 := by omega
        rw [hx]
        simp only [rd_eq, succ_cast] at h0 ⊢
        split at h0
        · simpa [hlt, hb, h1, n1, n2, d2.1, d2.2, m1, s1, s2, s3, s4, hw, hw2, -Int.natCast_add, -Int.natCast_mul] using h0
        · simpa [hlt, hb, h1, n1, n2, d2.1, d2.2, m1, s1, s2, s3, s4, hw, hw2, -Int.natCast_add, -Int.natCast_mul] using h0
      by_cases d3 : 65 ≤ c ∧ c ≤ 70
      · have hx : hexv c = some (c - 55) := by simp [hexv, d1, d2, d3]
        have h0 := ih (k + 1) (16 * v + (c - 55)) (i + 1) (by omega) (by omega) (by rw [Nat.pow_succ]; omega)
        have s1 : IntKind.u8.wrap ((c : Int) - 65) = ((c - 65 : Nat) : Int) := by rw [wrap_u8] <;> omega
        have s2 : IntKind.i32.wrap ((c - 65 : Nat) : Int) = ((c - 65 : Nat) : Int) := by rw [wrap_i32] <;> omega
        have s3 : IntKind.i32.wrap (((16 * v : Nat) : Int) + ((c - 65 : Nat) : Int)) = ((16 * v + (c - 65) : Nat) : Int) := by rw [wrap_i32] <;> omega
        have s4 : IntKind.i32.wrap (((16 * v + (c - 65) : Nat) : Int) + 10) = ((16 * v + (c - 55) : Nat) : Int) := by rw [wrap_i32] <;> omega
        have n1 : 48 ≤ c := by omega
        have n2 : ¬ c ≤ 57 := by omega
        have n3 : ¬ 97 ≤ c := by omega
        rw [hx]
        simp only [rd_eq, succ_cast] at h0 ⊢
        split at h0
        · simpa [hlt, hb, h1, n1, n2, n3, d3.1, d3.2, m1, s1, s2, s3, s4, hw, hw2, -Int.natCast_add, -Int.natCast_mul] using h0
        · simpa [hlt, hb, h1, n1, n2, n3, d3.1, d3.2, m1, s1, s2, s3, s4, hw, hw2, -Int.natCast_add, -Int.natCast_mul] using h0
      · have hx : hexv c = none := by simp [hexv, d1, d2, d3]
        have hf := c_fail L i
        simp only [rd_eq] at hf
        have e1 : (decide (48 ≤ c) && decide (c ≤ 57)) = false := by simpa using d1
        have e2 : (decide (97 ≤ c) && decide (c ≤ 102)) = false := by simpa using d2
        have e3 : (decide (65 ≤ c) && decide (c ≤ 70)) = false := by simpa using d3
        rw [hx]
        by_cases f1 : 48 ≤ c <;> by_cases f2 : 97 ≤ c <;> by_cases f3 : 65 ≤ c <;>
          (simp only [f1, f2, f3, decide_true, decide_false, Bool.true_and, decide_eq_false_iff_not] at e1 e2 e3
           simp [hlt, hb, h1, f1, f2, f3, e1, e2, e3, hf])
    · rw [if_neg h1]
      simp [hlt, hb, h1]
theorem c_four (L : List UInt8) (i : Nat) (hi : i ≤ L.length) (hl : L.length ≤ 16777216) : Cinf T n_json_reader_four [rd L i] = res L 0 (fun (v : Nat) => .v (.int .i32 (v : Int))) (pFour L 4 0 i) := by
  have h := four_loop L hl 4 0 0 i rfl hi (by decide)
  simp only [rd_eq, Int.natCast_zero] at h
  split at h
  · rename_i j u he
    rw [he]
    simp [run_json_reader_four, Run, home, h]
  · rename_i w a he
    rw [he]
    obtain ⟨e', h⟩ := h
    simp [run_json_reader_four, Run, home, h]
end Go.AM.F

/- JSON: the program's reader: what is cut off, escapes. No conditions. -/
namespace Go.AM.F
open Go Go.AM
set_option maxRecDepth 10000
set_option linter.unusedSimpArgs false

theorem bytesOf_bl (L : List UInt8) : bytesOfPV (bl L) = some L := by
  induction L with
  | nil => rfl
  | cons b r ih =>
    have h1 : bytesOfPV (bl (b :: r)) = (byteOfPV (.v (.int .u8 b.toNat))).bind fun b => (bytesOfPV (bl r)).bind fun bs => some (b :: bs) := rfl
    rw [h1, ih]
    simp [byteOfPV]
theorem bl_drop (L : List UInt8) (i : Nat) : (bl L).drop i = bl (L.drop i) := by simp [bl]
theorem bl_take (L : List UInt8) (i : Nat) : (bl L).take i = bl (L.take i) := by simp [bl]
theorem bl_full (L : List UInt8) : (bl L).take L.length = bl L := List.take_of_length_le (by simp)
/-- What ends only too early, from there on. -/
def cut (L : List UInt8) (j : Nat) : Bool := decide (L.drop j = []) || decide (L.drop j = [92])
theorem tx_eq {a b : List UInt8} : ((⟨a.toArray⟩ : ByteArray) = ⟨b.toArray⟩) = (a = b) := by
  apply propext
  constructor
  · intro h; exact tx_inj h
  · rintro rfl; rfl
attribute [local simp] j0_json_reader_cutOff b_json_reader_cutOff a_json_reader_cutOff
theorem c_cutOff (L : List UInt8) (j a : Nat) (hj : j ≤ L.length) : Cinf T n_json_reader_cutOff [rd L j, .v (.int .i64 a)] = some (.pan (wrong 100 (if cut L j then L.length else a)), [.dead, .dead]) := by
  have h1 : ((⟨#[]⟩ : ByteArray)) = ⟨([] : List UInt8).toArray⟩ := rfl
  have h2 : ((⟨#[92]⟩ : ByteArray)) = ⟨([92] : List UInt8).toArray⟩ := rfl
  have hj2 : (j : Int) ≤ L.length := by omega
  by_cases c1 : L.drop j = []
  · simp [run_json_reader_cutOff, Run, home, hj, hj2, bl_drop, bl_full, bytesOf_bl, h1, h2, tx_eq, cut, c1, wrong]
  · by_cases c2 : L.drop j = [92]
    · simp [run_json_reader_cutOff, Run, home, hj, hj2, bl_drop, bl_full, bytesOf_bl, h1, h2, tx_eq, cut, c1, c2, wrong]
    · simp [run_json_reader_cutOff, Run, home, hj, hj2, bl_drop, bl_full, bytesOf_bl, h1, h2, tx_eq, cut, c1, c2, wrong]
/-- What a letter behind the stroke says. -/
def esc (c : Nat) : Option Nat := if c = 34 then some 34 else if c = 92 then some 92 else if c = 47 then some 47 else if c = 98 then some 8 else if c = 102 then some 12 else if c = 110 then some 10 else if c = 114 then some 13 else if c = 116 then some 9 else none
def sEsc : ByteArray := ⟨#[34, 92, 47, 98, 102, 110, 114, 116]⟩
def sTo : ByteArray := ⟨#[34, 92, 47, 8, 12, 10, 13, 9]⟩
def escTest (c : Nat) : Bool := match esc c with
  | some e => decide (0 ≤ firstIdx sEsc c.toUInt8) && decide (firstIdx sEsc c.toUInt8 < 8) && decide ((sTo.extract (firstIdx sEsc c.toUInt8).toNat ((firstIdx sEsc c.toUInt8).toNat + 1)).data = #[e.toUInt8])
  | none => decide (firstIdx sEsc c.toUInt8 = -1)
theorem esc_all : (List.range 256).all escTest = true := by kernel_rfl
theorem esc_some {c e : Nat} (hc : c < 256) (h : esc c = some e) : ∃ k : Nat, firstIdx sEsc c.toUInt8 = (k : Int) ∧ k < 8 ∧ sTo.extract k (k + 1) = ⟨#[e.toUInt8]⟩ := by
  have := List.all_eq_true.1 esc_all c (by simp [hc])
  simp only [escTest, h, Bool.and_eq_true, decide_eq_true_eq] at this
  obtain ⟨⟨h1, h2⟩, h3⟩ := this
  refine ⟨(firstIdx sEsc c.toUInt8).toNat, by omega, by omega, ?_⟩
  apply ByteArray.ext
  exact h3
theorem esc_none {c : Nat} (hc : c < 256) (h : esc c = none) : firstIdx sEsc c.toUInt8 = -1 := by
  have := List.all_eq_true.1 esc_all c (by simp [hc])
  simpa [escTest, h] using this
/-- The other half of a pair. -/
def pPair (L : List UInt8) (i v j : Nat) : PR ByteArray :=
  if j + 1 < L.length ∧ lt L j = 92 ∧ lt L (j + 1) = 117 then
    (pFour L 4 0 (j + 2)).bind fun k m => if m < 56320 ∨ 57343 < m then .bad 100 i else .ok k (Utf8.encode ((65536 + (v - 55296) * 1024 + (m - 56320) : Nat) : Int))
  else .bad 100 (if cut L j then L.length else i)
/-- An escape, from its stroke on. -/
def pEscape (L : List UInt8) (i : Nat) : PR ByteArray :=
  if i + 1 < L.length then
    match esc (lt L (i + 1)) with
    | some e => .ok (i + 2) ⟨#[e.toUInt8]⟩
    | none => if lt L (i + 1) = 117 then
        (pFour L 4 0 (i + 2)).bind fun j v => if 56320 ≤ v ∧ v ≤ 57343 then .bad 100 i else if v < 55296 ∨ 56319 < v then .ok j (Utf8.encode (v : Int)) else pPair L i v j
      else .bad 100 (i + 1)
  else .bad 100 (i + 1)
/-- What a part of a function that returns within leaves. -/
def Ret {α : Type} (L : List UInt8) (f : α → PV) (k : Nat) (x : Option (Out × Env)) : PR α → Prop
  | .ok i v => ∃ e', x = some (.ret, e') ∧ e'.get 100000 = rd L i ∧ e'.get k = f v
  | .bad w a => ∃ e', x = some (.pan (wrong w a), e')
def strP : ByteArray → PV := fun s => .v (.string s)
@[simp] theorem strP_eq (s : ByteArray) : strP s = .v (.string s) := rfl
attribute [local simp] j0_json_reader_escape j1_json_reader_escape j2_json_reader_escape j3_json_reader_escape j4_json_reader_escape b_json_reader_escape a_json_reader_escape
theorem low_part (L : List UInt8) (i v j : Nat) (hj : j + 2 ≤ L.length) (hl : L.length ≤ 16777216) (hv : 55296 ≤ v ∧ v ≤ 56319) :
    Ret L strP 2 (Exec T j1_json_reader_escape [(0, .ref 100000 []), (3, .v (.int .i64 i)), (6, .v (.int .i32 v)), (100000, rd L j)])
      ((pFour L 4 0 (j + 2)).bind fun k m => if m < 56320 ∨ 57343 < m then .bad 100 i else .ok k (Utf8.encode ((65536 + (v - 55296) * 1024 + (m - 56320) : Nat) : Int))) := by
  have hw : IntKind.i64.wrap ((j : Int) + 2) = ((j + 2 : Nat) : Int) := by rw [wrap_i64] <;> omega
  have h4 := c_four L (j + 2) hj hl
  simp only [rd_eq] at h4
  cases hp : pFour L 4 0 (j + 2) with
  | bad w a => simp [Ret, hw, h4, hp, -Int.natCast_add]
  | ok k m =>
    have hm := (pFour_le hj hp).2.2
    have hm2 : m < 65536 := by simpa using hm
    by_cases c1 : m < 56320
    · simp [Ret, hw, h4, hp, c1, -Int.natCast_add, wrong]
    · by_cases c2 : 57343 < m
      · simp [Ret, hw, h4, hp, c1, c2, -Int.natCast_add, wrong]
      · have w1 : IntKind.i32.wrap ((v : Int) - 55296) = ((v - 55296 : Nat) : Int) := by rw [wrap_i32] <;> omega
        have w2 : IntKind.i32.wrap (((v - 55296 : Nat) : Int) * 1024) = (((v - 55296) * 1024 : Nat) : Int) := by rw [wrap_i32] <;> omega
        have w3 : IntKind.i32.wrap (65536 + (((v - 55296) * 1024 : Nat) : Int)) = ((65536 + (v - 55296) * 1024 : Nat) : Int) := by rw [wrap_i32] <;> omega
        have w4 : IntKind.i32.wrap ((m : Int) - 56320) = ((m - 56320 : Nat) : Int) := by rw [wrap_i32] <;> omega
        have w5 : IntKind.i32.wrap (((65536 + (v - 55296) * 1024 : Nat) : Int) + ((m - 56320 : Nat) : Int)) = ((65536 + (v - 55296) * 1024 + (m - 56320) : Nat) : Int) := by rw [wrap_i32] <;> omega
        have hmin : min 10 IntKind.i32.bits = 10 := rfl
        simp [Ret, hw, h4, hp, c1, c2, w1, w2, w3, w4, w5, hmin, -Int.natCast_add, -Int.natCast_mul]
theorem pair_part (L : List UInt8) (i v j : Nat) (hj : j ≤ L.length) (hl : L.length ≤ 16777216) (hv : 55296 ≤ v ∧ v ≤ 56319) :
    Ret L strP 2 (Exec T j2_json_reader_escape [(0, .ref 100000 []), (3, .v (.int .i64 i)), (6, .v (.int .i32 v)), (100000, rd L j)]) (pPair L i v j) := by
  have hc := c_cutOff L j i hj
  have hw : IntKind.i64.wrap ((j : Int) + 1) = (j : Int) + 1 := by rw [wrap_i64] <;> omega
  have g2 : ((L.length : Int) ≤ (j : Int) + 1) = ¬ (j + 1 < L.length) := propext (by omega)
  simp only [rd_eq] at hc
  unfold pPair
  by_cases c1 : j + 1 < L.length
  · have c0 : j < L.length := by omega
    by_cases c2 : lt L j = 92
    · by_cases c3 : lt L (j + 1) = 117
      · rw [if_pos ⟨c1, c2, c3⟩]
        have h := low_part L i v j (by omega) hl hv
        simp only [rd_eq] at h
        simpa [hw, g2, c1, c0, bl_getE c0, bl_getE c1, c2, c3, -j1_json_reader_escape, -Int.natCast_add] using h
      · rw [if_neg (fun h => c3 h.2.2)]
        simp [Ret, hw, g2, c1, c0, bl_getE c0, bl_getE c1, c2, c3, hc]
    · rw [if_neg (fun h => c2 h.2.1)]
      simp [Ret, hw, g2, c1, c0, bl_getE c0, bl_getE c1, c2, hc]
  · rw [if_neg (fun h => c1 h.1)]
    simp [Ret, hw, g2, c1, hc]
theorem u_part (L : List UInt8) (i : Nat) (hi : i + 1 < L.length) (hl : L.length ≤ 16777216) :
    Ret L strP 2 (Exec T j3_json_reader_escape [(0, .ref 100000 []), (3, .v (.int .i64 i)), (100000, rd L (i + 1))])
      ((pFour L 4 0 (i + 2)).bind fun j v => if 56320 ≤ v ∧ v ≤ 57343 then .bad 100 i else if v < 55296 ∨ 56319 < v then .ok j (Utf8.encode (v : Int)) else pPair L i v j) := by
  have hw : IntKind.i64.wrap (((i + 1 : Nat) : Int) + 1) = ((i + 2 : Nat) : Int) := by rw [wrap_i64] <;> omega
  have h4 := c_four L (i + 2) (by omega) hl
  simp only [rd_eq] at h4
  cases hp : pFour L 4 0 (i + 2) with
  | bad w a => simp [Ret, hw, h4, hp, -Int.natCast_add]
  | ok j v =>
    have hj := (pFour_le (by omega) hp).2.1
    rw [PR.bind_ok]
    by_cases c1 : 56320 ≤ v
    · by_cases c2 : v ≤ 57343
      · simp [Ret, hw, h4, hp, c1, c2, wrong, -Int.natCast_add]
      · have c3 : ¬ v < 55296 := by omega
        have c4 : 56319 < v := by omega
        simp [Ret, hw, h4, hp, c1, c2, c3, c4, -Int.natCast_add]
    · by_cases c3 : v < 55296
      · simp [Ret, hw, h4, hp, c1, c3, -Int.natCast_add]
      · have c4 : ¬ 56319 < v := by omega
        have h := pair_part L i v j hj hl (by omega)
        simp only [rd_eq] at h
        simpa [hw, h4, hp, c1, c3, c4, -j2_json_reader_escape, -Int.natCast_add] using h
theorem c_escape (L : List UInt8) (i : Nat) (hi : i < L.length) (hl : L.length ≤ 16777216) : Cinf T n_json_reader_escape [rd L i] = res L 0 strP (pEscape L i) := by
  have hw : IntKind.i64.wrap ((i : Int) + 1) = ((i + 1 : Nat) : Int) := by rw [wrap_i64] <;> omega
  have hb := c_byte L (i + 1)
  have hf := c_fail L (i + 1)
  have hsm := lt_small L (i + 1)
  have hE : (⟨#[34, 92, 47, 98, 102, 110, 114, 116]⟩ : ByteArray) = sEsc := rfl
  have hT : (⟨#[34, 92, 47, 8, 12, 10, 13, 9]⟩ : ByteArray) = sTo := rfl
  have hTs : sTo.size = 8 := rfl
  simp only [rd_eq] at hb hf
  have fin : ∀ {x : Option (Out × Env)} {r : PR ByteArray}, Ret L strP 2 x r → finish a_json_reader_escape [rd L i] x = res L 0 strP r := by
    intro x r h
    cases r with
    | ok m u =>
      obtain ⟨e', rfl, h1, h2⟩ := h
      simp only [rd_eq, strP_eq] at h1 h2
      simp [home, h1, h2]
    | bad w a =>
      obtain ⟨e', rfl⟩ := h
      simp [home]
  unfold pEscape
  by_cases c0 : i + 1 < L.length
  · rw [if_pos c0]
    cases he : esc (lt L (i + 1)) with
    | some e =>
      obtain ⟨k, k1, k2, k3⟩ := esc_some hsm he
      have hwk : IntKind.i64.wrap ((k : Int) + 1) = (k : Int) + 1 := by rw [wrap_i64] <;> omega
      have hw2 : IntKind.i64.wrap (((i + 1 : Nat) : Int) + 1) = ((i + 2 : Nat) : Int) := by rw [wrap_i64] <;> omega
      have b1 : (k : Int) + 1 ≤ 8 := by omega
      have b2 : k ≤ k + 1 := by omega
      simp [run_json_reader_escape, Run, home, hw, hb, c0, hE, hT, c_IndexByte, k1, hwk, hw2, hTs, b1, b2, k3, -Int.natCast_add]
    | none =>
      have k1 := esc_none hsm he
      by_cases c2 : lt L (i + 1) = 117
      · have k2 : firstIdx sEsc 117 = -1 := by
          rw [c2] at k1
          exact k1
        simp only [if_pos c2]
        rw [← fin (u_part L i c0 hl)]
        simp [run_json_reader_escape, Run, home, hw, hb, c0, hE, hT, c_IndexByte, k2, c2, -Int.natCast_add, -j3_json_reader_escape]
      · simp [run_json_reader_escape, Run, home, hw, hb, hf, c0, hE, hT, c_IndexByte, k1, c2, -Int.natCast_add]
  · rw [if_neg c0]
    simp [run_json_reader_escape, Run, home, hw, hb, c0, -Int.natCast_add]
end Go.AM.F

/- JSON: the length of a right character, as the program and as the library find it. No conditions. -/
namespace Go.AM.F
open Go Go.AM
set_option maxRecDepth 10000
set_option linter.unusedSimpArgs false

def fstv (c : Nat) : Nat := if c < 128 then 240 else if c < 194 then 241 else if c < 224 then 2 else if c = 224 then 19 else if c < 237 then 3 else if c = 237 then 35 else if c < 240 then 3 else if c = 240 then 52 else if c < 244 then 4 else if c = 244 then 68 else 241
theorem first_all : (List.range 256).all (fun c => match glob0[c]? with | some (.v (.int .u8 z)) => decide (z = (fstv c : Int)) | _ => false) = true := by kernel_rfl
theorem first_get {c : Nat} (h : c < 256) : glob0[c]? = some (.v (.int .u8 (fstv c : Nat))) := by
  have := List.all_eq_true.1 first_all c (by simp [h])
  split at this
  · rename_i z hz
    rw [hz, of_decide_eq_true this]
  · cases this
theorem glob1_len : glob1.length = 32 := by kernel_rfl
def cont (c : Nat) : Bool := decide (128 ≤ c) && decide (c ≤ 191)
/-- What the second letter must be at least, at most. -/
def lo1 (c : Nat) : Nat := if c = 224 then 160 else if c = 240 then 144 else 128
def hi1 (c : Nat) : Nat := if c = 237 then 159 else if c = 244 then 143 else 191
def in1 (c d : Nat) : Bool := decide (lo1 c ≤ d) && decide (d ≤ hi1 c)
/-- The length of the right character at the beginning; 0: there is none. -/
def uc (M : List UInt8) : Nat :=
  if M.length = 0 then 0 else if lt M 0 < 128 then 1 else if lt M 0 < 194 then 0
  else if lt M 0 < 224 then (if 1 < M.length ∧ cont (lt M 1) = true then 2 else 0)
  else if lt M 0 < 240 then (if 2 < M.length ∧ in1 (lt M 0) (lt M 1) = true ∧ cont (lt M 2) = true then 3 else 0)
  else if lt M 0 < 245 then (if 3 < M.length ∧ in1 (lt M 0) (lt M 1) = true ∧ cont (lt M 2) = true ∧ cont (lt M 3) = true then 4 else 0)
  else 0
attribute [local simp] j0_utf8_decodeRuneSlow j1_utf8_decodeRuneSlow j2_utf8_decodeRuneSlow j3_utf8_decodeRuneSlow j4_utf8_decodeRuneSlow j5_utf8_decodeRuneSlow j6_utf8_decodeRuneSlow j7_utf8_decodeRuneSlow b_utf8_decodeRuneSlow a_utf8_decodeRuneSlow
/-- What is told of a character. -/
def Told (x m : Int) (n : Nat) : Prop := (n = 0 → x = 65533 ∧ m ≤ 1) ∧ (n ≠ 0 → m = n ∧ (m ≤ 1 → x ≠ 65533))
theorem told_err : Told 65533 1 0 := ⟨fun _ => ⟨rfl, by decide⟩, fun h => (h rfl).elim⟩
theorem w_mask : IntKind.i32.wrap 517543559168 = -2147483648 := by simp [IntKind.wrap, IntKind.signed, IntKind.bits]
theorem w_shift : (-2147483648 : Int).fdiv 2147483648 = -1 := by rfl
theorem w_not : (~~~BitVec.ofInt IntKind.i32.bits (-1)) = 0#_ := by rfl
theorem w_zero : IntKind.i32.wrap ((0#IntKind.i32.bits).toNat : Int) = 0 := by rfl
theorem w_and : IntKind.i32.wrap (BitVec.ofInt IntKind.i32.bits 65533 &&& BitVec.ofInt IntKind.i32.bits (-1)).toNat = 65533 := by rfl
theorem w_or : IntKind.i32.wrap (BitVec.ofInt IntKind.i32.bits 0 ||| BitVec.ofInt IntKind.i32.bits 65533).toNat = 65533 := by rfl
theorem slow_bad (M : List UInt8) (h0 : 0 < M.length) (hc : fstv (lt M 0) = 241) : Cinf T n_utf8_decodeRuneSlow [.ro 1 (bl M)] = some (.tup [.v (.int .i32 65533), .v (.int .i64 1)], [.dead]) := by
  have hf := first_get (lt_small M 0)
  rw [hc] at hf
  have h1 : ¬ ((M.length : Int) < 1) := by omega
  have hs := lt_small M 0
  have w0 : IntKind.i32.wrap 241 = 241 := by rw [wrap_i32] <;> omega
  have mn : min (31 : Nat) IntKind.i32.bits = 31 := rfl
  have w1 := w_mask
  have w2 := w_shift
  have w3 : IntKind.i32.wrap (lt M 0 : Int) = (lt M 0 : Int) := by rw [wrap_i32] <;> omega
  have w4 : IntKind.i32.wrap (BitVec.ofInt IntKind.i32.bits (lt M 0 : Int) &&& ~~~BitVec.ofInt IntKind.i32.bits (-1)).toNat = 0 := by
    rw [w_not, BitVec.and_zero]
    exact w_zero
  have w5 := w_and
  have w6 := w_or
  simp at w4 w5 w6
  simp [run_utf8_decodeRuneSlow, Run, h1, h0, bl_getE h0, hs, hf, w0, mn, w1, w2, w3, w4, w5, w6]
/-- Is the rest of a character right: its second letter, its third, its fourth? -/
def rest (M : List UInt8) (sz lo hi : Nat) : Prop := lo ≤ lt M 1 ∧ lt M 1 ≤ hi ∧ (3 ≤ sz → cont (lt M 2) = true) ∧ (4 ≤ sz → cont (lt M 3) = true)
def Says (x : Option (Out × Env)) (p : Prop) (sz : Nat) : Prop := (p ∧ ∃ y : Int, x = some (.ret, [(2, .v (.int .i32 y)), (3, .v (.int .i64 sz))])) ∨ (¬ p ∧ x = some (.ret, [(2, .v (.int .i32 65533)), (3, .v (.int .i64 1))]))
theorem opsRun_append {C : Oracle} (all : List GOp) : ∀ (a b : List GOp) (e : Env), opsRun T C all (a ++ b) e = (opsRun T C all a e).bind (opsRun T C all b)
  | [], b, e => rfl
  | o :: r, b, e => by
    simp only [List.cons_append, opsRun]
    cases wantedA all e o.g with
    | none => rfl
    | some t =>
      cases t
      · exact opsRun_append all r b _
      · simp only
        cases ev T C e o.op with
        | none => rfl
        | some q => exact opsRun_append all r b _
def ops26 : List GOp := match j0_utf8_decodeRuneSlow with
  | .seq (.reg _ l _ _) _ => l
  | _ => []
theorem last_a (C : Oracle) (c0 c1 c2 c3 : Int) : ∃ y : Int, opsRun T C ops26 (ops26.take 9) [(5, .v (.int .u8 c0)), (10, .v (.int .u8 c1)), (11, .v (.int .u8 c2)), (12, .v (.int .u8 c3))] = some [(11, .v (.int .u8 c2)), (12, .v (.int .u8 c3)), (112, .v (.int .i32 y))] := by
  simp [ops26]
theorem last_b (C : Oracle) (c2 c3 y : Int) : ∃ z : Int, opsRun T C ops26 ((ops26.drop 9).take 5) [(11, .v (.int .u8 c2)), (12, .v (.int .u8 c3)), (112, .v (.int .i32 y))] = some [(12, .v (.int .u8 c3)), (117, .v (.int .i32 z))] := by
  simp [ops26]
theorem last_c (C : Oracle) (c3 z : Int) : ∃ u : Int, opsRun T C ops26 ((ops26.drop 9).drop 5) [(12, .v (.int .u8 c3)), (117, .v (.int .i32 z))] = some [(2, .v (.int .i32 u)), (3, .v (.int .i64 4))] := by
  simp [ops26]
theorem last (c0 c1 c2 c3 : Int) : ∃ u : Int, Exec T j0_utf8_decodeRuneSlow [(5, .v (.int .u8 c0)), (10, .v (.int .u8 c1)), (11, .v (.int .u8 c2)), (12, .v (.int .u8 c3))] = some (.ret, [(2, .v (.int .i32 u)), (3, .v (.int .i64 4))]) := by
  obtain ⟨y, hy⟩ := last_a (Cinf T) c0 c1 c2 c3
  obtain ⟨z, hz⟩ := last_b (Cinf T) c2 c3 y
  obtain ⟨u, hu⟩ := last_c (Cinf T) c3 z
  have h0 : opsRun T (Cinf T) ops26 ops26 [(5, .v (.int .u8 c0)), (10, .v (.int .u8 c1)), (11, .v (.int .u8 c2)), (12, .v (.int .u8 c3))] = some [(2, .v (.int .i32 u)), (3, .v (.int .i64 4))] := by
    have e1 : ops26 = ops26.take 9 ++ ((ops26.drop 9).take 5 ++ (ops26.drop 9).drop 5) := by rw [List.take_append_drop, List.take_append_drop]
    have e2 : opsRun T (Cinf T) ops26 ops26 [(5, .v (.int .u8 c0)), (10, .v (.int .u8 c1)), (11, .v (.int .u8 c2)), (12, .v (.int .u8 c3))] = opsRun T (Cinf T) ops26 (ops26.take 9 ++ ((ops26.drop 9).take 5 ++ (ops26.drop 9).drop 5)) [(5, .v (.int .u8 c0)), (10, .v (.int .u8 c1)), (11, .v (.int .u8 c2)), (12, .v (.int .u8 c3))] := congrArg (fun l => opsRun T (Cinf T) ops26 l _) e1
    rw [e2, opsRun_append, hy, Option.bind_some, opsRun_append, hz, Option.bind_some, hu]
  refine ⟨u, ?_⟩
  have hj : j0_utf8_decodeRuneSlow = .seq (.reg 26 ops26 none [2, 3]) .ret := rfl
  rw [hj, Exec_seq, Exec_reg', h0]
  simp
theorem slow_fourthA (M : List UInt8) (h : 3 < M.length) (c0 c1 c2 : Nat) (a' : ¬ lt M 3 < 128) (b' : ¬ 191 < lt M 3) : ∃ y : Int, Exec T j1_utf8_decodeRuneSlow [(0, .ro 1 (bl M)), (5, .v (.int .u8 c0)), (10, .v (.int .u8 c1)), (11, .v (.int .u8 c2))] = some (.ret, [(2, .v (.int .i32 y)), (3, .v (.int .i64 4))]) := by
  obtain ⟨y, hy⟩ := last c0 c1 c2 (lt M 3)
  exact ⟨y, by simp [h, bl_getE h, a', b', hy, -j0_utf8_decodeRuneSlow]⟩
theorem slow_fourthB (M : List UInt8) (h : 3 < M.length) (c0 c1 c2 : Nat) (a' : ¬ lt M 3 < 128) (b' : 191 < lt M 3) : Exec T j1_utf8_decodeRuneSlow [(0, .ro 1 (bl M)), (5, .v (.int .u8 c0)), (10, .v (.int .u8 c1)), (11, .v (.int .u8 c2))] = some (.ret, [(2, .v (.int .i32 65533)), (3, .v (.int .i64 1))]) := by
  simp [h, bl_getE h, a', b']
theorem slow_fourthC (M : List UInt8) (h : 3 < M.length) (c0 c1 c2 : Nat) (a' : lt M 3 < 128) : Exec T j1_utf8_decodeRuneSlow [(0, .ro 1 (bl M)), (5, .v (.int .u8 c0)), (10, .v (.int .u8 c1)), (11, .v (.int .u8 c2))] = some (.ret, [(2, .v (.int .i32 65533)), (3, .v (.int .i64 1))]) := by
  simp [h, bl_getE h, a']
theorem slow_fourth (M : List UInt8) (h : 3 < M.length) (c0 c1 c2 : Nat) : Says (Exec T j1_utf8_decodeRuneSlow [(0, .ro 1 (bl M)), (5, .v (.int .u8 c0)), (10, .v (.int .u8 c1)), (11, .v (.int .u8 c2))]) (cont (lt M 3) = true) 4 := by
  unfold Says cont
  by_cases a : 128 ≤ lt M 3
  · have a' : ¬ lt M 3 < 128 := by omega
    by_cases b : lt M 3 ≤ 191
    · exact .inl ⟨by simp [a, b], slow_fourthA M h c0 c1 c2 a' (by omega)⟩
    · exact .inr ⟨by simp [b], slow_fourthB M h c0 c1 c2 a' (by omega)⟩
  · exact .inr ⟨by simp [a], slow_fourthC M h c0 c1 c2 (by omega)⟩
theorem slow_third (M : List UInt8) (sz : Nat) (hsz : sz = 3 ∨ sz = 4) (h : sz ≤ M.length) (c0 c1 : Nat) : Says (Exec T j3_utf8_decodeRuneSlow [(0, .ro 1 (bl M)), (5, .v (.int .u8 c0)), (8, .v (.int .i64 sz)), (10, .v (.int .u8 c1))]) (cont (lt M 2) = true ∧ (4 ≤ sz → cont (lt M 3) = true)) sz := by
  have h2 : 2 < M.length := by omega
  by_cases a : 128 ≤ lt M 2
  · have a' : ¬ lt M 2 < 128 := by omega
    by_cases b : lt M 2 ≤ 191
    · have b' : ¬ 191 < lt M 2 := by omega
      have hc : cont (lt M 2) = true := by simp [cont, a, b]
      rcases hsz with rfl | rfl
      · refine .inl ⟨⟨hc, by omega⟩, ?_⟩
        simp [h2, bl_getE h2, a', b']
      · rcases slow_fourth M (by omega) c0 c1 (lt M 2) with ⟨k1, y, k2⟩ | ⟨k1, k2⟩
        · refine .inl ⟨⟨hc, fun _ => k1⟩, y, ?_⟩
          simp [h2, bl_getE h2, a', b', k2, -j1_utf8_decodeRuneSlow]
        · refine .inr ⟨fun hh => k1 (hh.2 (by omega)), ?_⟩
          simp [h2, bl_getE h2, a', b', k2, -j1_utf8_decodeRuneSlow]
    · have b' : 191 < lt M 2 := by omega
      refine .inr ⟨by simp [cont, b], ?_⟩
      simp [h2, bl_getE h2, a', b']
  · have a' : lt M 2 < 128 := by omega
    refine .inr ⟨by simp [cont, a], ?_⟩
    simp [h2, bl_getE h2, a']
theorem slow_second (M : List UInt8) (sz lo hi : Nat) (hsz : sz = 2 ∨ sz = 3 ∨ sz = 4) (h : sz ≤ M.length) (c0 : Nat) : Says (Exec T j5_utf8_decodeRuneSlow [(0, .ro 1 (bl M)), (5, .v (.int .u8 c0)), (8, .v (.int .i64 sz)), (9, .box [.v (.int .u8 lo), .v (.int .u8 hi)])]) (rest M sz lo hi) sz := by
  have h1 : 1 < M.length := by omega
  by_cases a : lo ≤ lt M 1
  · have a' : ¬ ((lt M 1 : Int) < lo) := by omega
    by_cases b : lt M 1 ≤ hi
    · have b' : ¬ ((hi : Int) < lt M 1) := by omega
      by_cases c : sz = 2
      · subst c
        refine .inl ⟨⟨a, b, by omega, by omega⟩, ?_⟩
        simp [h1, bl_getE h1, a', b']
      · have c' : ¬ sz ≤ 2 := by omega
        rcases slow_third M sz (by omega) h c0 (lt M 1) with ⟨k1, y, k2⟩ | ⟨k1, k2⟩
        · refine .inl ⟨⟨a, b, fun _ => k1.1, k1.2⟩, y, ?_⟩
          simp [h1, bl_getE h1, a', b', c', k2, -j3_utf8_decodeRuneSlow]
        · refine .inr ⟨fun hh => k1 ⟨hh.2.2.1 (by omega), hh.2.2.2⟩, ?_⟩
          simp [h1, bl_getE h1, a', b', c', k2, -j3_utf8_decodeRuneSlow]
    · have b' : (hi : Int) < lt M 1 := by omega
      refine .inr ⟨fun hh => b hh.2.1, ?_⟩
      simp [h1, bl_getE h1, a', b']
  · have a' : (lt M 1 : Int) < lo := by omega
    refine .inr ⟨fun hh => a hh.1, ?_⟩
    simp [h1, bl_getE h1, a']
theorem slow_sizeA (M : List UInt8) {f sz k lo hi : Nat} (c0 : Nat) (ha : IntKind.u8.wrap (BitVec.ofInt IntKind.u8.bits (f : Int) &&& BitVec.ofInt IntKind.u8.bits 7).toNat = (sz : Int))
    (hk : (f : Int).fdiv 16 = (k : Int)) (hk2 : k < 16) (hg : (glob1.drop (k * 2)).take 2 = [.v (.int .u8 lo), .v (.int .u8 hi)]) (hsz : sz = 2 ∨ sz = 3 ∨ sz = 4)
    (c1' : ¬ ((M.length : Int) < sz)) {o : Option (Out × Env)} (k2 : Exec T j5_utf8_decodeRuneSlow [(0, .ro 1 (bl M)), (5, .v (.int .u8 c0)), (8, .v (.int .i64 sz)), (9, .box [.v (.int .u8 lo), .v (.int .u8 hi)])] = o) : Exec T j6_utf8_decodeRuneSlow [(0, .ro 1 (bl M)), (4, .v (.int .i64 M.length)), (5, .v (.int .u8 c0)), (6, .v (.int .u8 f))] = o := by
  have mn : min (4 : Nat) IntKind.u8.bits = 4 := rfl
  have hszw : IntKind.i64.wrap (sz : Int) = (sz : Int) := by rw [wrap_i64] <;> omega
  have hgk : 2 ≤ 32 - k * 2 := by omega
  simp at ha
  simp [ha, mn, hk, hk2, hg, hszw, c1', glob1_len, hgk, k2, -j5_utf8_decodeRuneSlow]
theorem slow_sizeB (M : List UInt8) {f sz k lo hi : Nat} (c0 : Nat) (ha : IntKind.u8.wrap (BitVec.ofInt IntKind.u8.bits (f : Int) &&& BitVec.ofInt IntKind.u8.bits 7).toNat = (sz : Int))
    (hk : (f : Int).fdiv 16 = (k : Int)) (hk2 : k < 16) (hg : (glob1.drop (k * 2)).take 2 = [.v (.int .u8 lo), .v (.int .u8 hi)]) (hsz : sz = 2 ∨ sz = 3 ∨ sz = 4)
    (c1' : (M.length : Int) < sz) : Exec T j6_utf8_decodeRuneSlow [(0, .ro 1 (bl M)), (4, .v (.int .i64 M.length)), (5, .v (.int .u8 c0)), (6, .v (.int .u8 f))] = some (.ret, [(2, .v (.int .i32 65533)), (3, .v (.int .i64 1))]) := by
  have mn : min (4 : Nat) IntKind.u8.bits = 4 := rfl
  have hszw : IntKind.i64.wrap (sz : Int) = (sz : Int) := by rw [wrap_i64] <;> omega
  have hgk : 2 ≤ 32 - k * 2 := by omega
  simp at ha
  simp [ha, mn, hk, hk2, hg, hszw, c1', glob1_len, hgk]
theorem slow_size (M : List UInt8) {f sz k lo hi : Nat} (c0 : Nat) (ha : IntKind.u8.wrap (BitVec.ofInt IntKind.u8.bits (f : Int) &&& BitVec.ofInt IntKind.u8.bits 7).toNat = (sz : Int))
    (hk : (f : Int).fdiv 16 = (k : Int)) (hk2 : k < 16) (hg : (glob1.drop (k * 2)).take 2 = [.v (.int .u8 lo), .v (.int .u8 hi)]) (hsz : sz = 2 ∨ sz = 3 ∨ sz = 4) :
    Says (Exec T j6_utf8_decodeRuneSlow [(0, .ro 1 (bl M)), (4, .v (.int .i64 M.length)), (5, .v (.int .u8 c0)), (6, .v (.int .u8 f))]) (sz ≤ M.length ∧ rest M sz lo hi) sz := by
  by_cases c1 : sz ≤ M.length
  · rcases slow_second M sz lo hi hsz c1 c0 with ⟨k1, y, k2⟩ | ⟨k1, k2⟩
    · exact .inl ⟨⟨c1, k1⟩, y, slow_sizeA M c0 ha hk hk2 hg hsz (by omega) k2⟩
    · exact .inr ⟨fun hh => k1 hh.2, slow_sizeA M c0 ha hk hk2 hg hsz (by omega) k2⟩
  · exact .inr ⟨fun hh => c1 hh.1, slow_sizeB M c0 ha hk hk2 hg hsz (by omega)⟩
def swapA (A : IR) : IR → IR
  | .seq r4 (.seq r5 (.seq (.seq r6 (.cond ks c _ s)) k)) => .seq r4 (.seq r5 (.seq (.seq r6 (.cond ks c A s)) k))
  | x => x
def oddA : IR := match j7_utf8_decodeRuneSlow with
  | .seq _ (.seq _ (.seq (.seq _ (.cond _ _ A _)) _)) => A
  | _ => .skip
theorem slow_pass (A : IR) (M : List UInt8) (h0 : 0 < M.length) {f : Nat} (hf : glob0[lt M 0]? = some (.v (.int .u8 f))) (h2 : ¬ 240 ≤ f) : Exec T (swapA A j7_utf8_decodeRuneSlow) [(0, .ro 1 (bl M)), (4, .v (.int .i64 M.length))] = Exec T j6_utf8_decodeRuneSlow [(0, .ro 1 (bl M)), (4, .v (.int .i64 M.length)), (5, .v (.int .u8 (lt M 0 : Nat))), (6, .v (.int .u8 f))] := by
  have hs := lt_small M 0
  simp [swapA, h0, bl_getE h0, hs, hf, h2, -j6_utf8_decodeRuneSlow]
theorem slow_good (M : List UInt8) (h0 : 0 < M.length) {f sz k lo hi : Nat} (hc : fstv (lt M 0) = f) (hlt : f < 240) (ha : IntKind.u8.wrap (BitVec.ofInt IntKind.u8.bits (f : Int) &&& BitVec.ofInt IntKind.u8.bits 7).toNat = (sz : Int))
    (hk : (f : Int).fdiv 16 = (k : Int)) (hk2 : k < 16) (hg : (glob1.drop (k * 2)).take 2 = [.v (.int .u8 lo), .v (.int .u8 hi)]) (hsz : sz = 2 ∨ sz = 3 ∨ sz = 4) :
    ((sz ≤ M.length ∧ rest M sz lo hi) ∧ ∃ y : Int, Cinf T n_utf8_decodeRuneSlow [.ro 1 (bl M)] = some (.tup [.v (.int .i32 y), .v (.int .i64 sz)], [.dead])) ∨
      (¬ (sz ≤ M.length ∧ rest M sz lo hi) ∧ Cinf T n_utf8_decodeRuneSlow [.ro 1 (bl M)] = some (.tup [.v (.int .i32 65533), .v (.int .i64 1)], [.dead])) := by
  have hf := first_get (lt_small M 0)
  rw [hc] at hf
  have h1 : ¬ ((M.length : Int) < 1) := by omega
  have h2 : ¬ 240 ≤ f := by omega
  have hp := slow_pass oddA M h0 hf h2
  have hsw : swapA oddA j7_utf8_decodeRuneSlow = j7_utf8_decodeRuneSlow := rfl
  rw [hsw] at hp
  rcases slow_size M (lt M 0) ha hk hk2 hg hsz with ⟨k1, y, k2⟩ | ⟨k1, k2⟩
  · refine .inl ⟨k1, y, ?_⟩
    simp [run_utf8_decodeRuneSlow, Run, h1, hp, k2, -j6_utf8_decodeRuneSlow, -j7_utf8_decodeRuneSlow]
  · refine .inr ⟨k1, ?_⟩
    simp [run_utf8_decodeRuneSlow, Run, h1, hp, k2, -j6_utf8_decodeRuneSlow, -j7_utf8_decodeRuneSlow]
end Go.AM.F

/- JSON: the program's reader: a character; texts. No conditions. -/
namespace Go.AM.F
open Go Go.AM
set_option maxRecDepth 10000
set_option linter.unusedSimpArgs false

attribute [local simp] j0_utf8_DecodeRune j1_utf8_DecodeRune j2_utf8_DecodeRune w0_utf8_DecodeRune b_utf8_DecodeRune a_utf8_DecodeRune
theorem dec_slow (M : List UInt8) (h0 : 0 < M.length) (h1 : ¬ lt M 0 < 128) {x m : Int} (hs : Cinf T n_utf8_decodeRuneSlow [.ro 1 (bl M)] = some (.tup [.v (.int .i32 x), .v (.int .i64 m)], [.dead])) : Cinf T n_utf8_DecodeRune [.ro 1 (bl M)] = some (.tup [.v (.int .i32 x), .v (.int .i64 m)], [.dead]) := by
  simp [run_utf8_DecodeRune, Run, ex0_utf8_DecodeRune, h0, bl_getE h0, h1, hs]
theorem dec_fast (M : List UInt8) (h0 : 0 < M.length) (h1 : lt M 0 < 128) : Cinf T n_utf8_DecodeRune [.ro 1 (bl M)] = some (.tup [.v (.int .i32 (lt M 0 : Nat)), .v (.int .i64 1)], [.dead]) := by
  have hw : IntKind.i32.wrap (lt M 0 : Int) = (lt M 0 : Int) := by rw [wrap_i32] <;> omega
  simp [run_utf8_DecodeRune, Run, ex0_utf8_DecodeRune, h0, bl_getE h0, h1, hw]
theorem told_of {M : List UInt8} {sz : Nat} {p : Prop} (hsz : 2 ≤ sz) (hy : p → uc M = sz) (hn : ¬ p → uc M = 0)
    (h : (p ∧ ∃ y : Int, Cinf T n_utf8_decodeRuneSlow [.ro 1 (bl M)] = some (.tup [.v (.int .i32 y), .v (.int .i64 sz)], [.dead])) ∨ (¬ p ∧ Cinf T n_utf8_decodeRuneSlow [.ro 1 (bl M)] = some (.tup [.v (.int .i32 65533), .v (.int .i64 1)], [.dead]))) :
    ∃ x m : Int, Cinf T n_utf8_decodeRuneSlow [.ro 1 (bl M)] = some (.tup [.v (.int .i32 x), .v (.int .i64 m)], [.dead]) ∧ Told x m (uc M) := by
  rcases h with ⟨hp, y, h⟩ | ⟨hp, h⟩
  · refine ⟨y, sz, h, ?_⟩
    rw [hy hp]
    exact ⟨by omega, fun _ => ⟨rfl, by omega⟩⟩
  · refine ⟨65533, 1, h, ?_⟩
    rw [hn hp]
    exact told_err
theorem slow_told (M : List UInt8) (h0 : 0 < M.length) (h1 : ¬ lt M 0 < 128) : ∃ x m : Int, Cinf T n_utf8_decodeRuneSlow [.ro 1 (bl M)] = some (.tup [.v (.int .i32 x), .v (.int .i64 m)], [.dead]) ∧ Told x m (uc M) := by
  have hne : ¬ M.length = 0 := by omega
  have hsm := lt_small M 0
  have bad : fstv (lt M 0) = 241 → uc M = 0 → ∃ x m : Int, Cinf T n_utf8_decodeRuneSlow [.ro 1 (bl M)] = some (.tup [.v (.int .i32 x), .v (.int .i64 m)], [.dead]) ∧ Told x m (uc M) := fun hb hu => ⟨65533, 1, slow_bad M h0 hb, by rw [hu]; exact told_err⟩
  by_cases a1 : lt M 0 < 194
  · exact bad (by simp [fstv, h1, a1]) (by simp [uc, hne, h1, a1])
  by_cases a2 : lt M 0 < 224
  · have hf : fstv (lt M 0) = 2 := by simp [fstv, h1, a1, a2]
    have hu : uc M = if 1 < M.length ∧ cont (lt M 1) = true then 2 else 0 := by simp [uc, hne, h1, a1, a2]
    refine told_of (by decide) ?_ ?_ (slow_good M h0 (sz := 2) (k := 0) (lo := 128) (hi := 191) hf (by decide) (by rfl) (by rfl) (by decide) (by kernel_rfl) (by simp))
    · rintro ⟨k1, k2, k3, _⟩
      rw [hu, if_pos ⟨by omega, by simp [cont, k2, k3]⟩]
    · intro k
      rw [hu, if_neg fun hh => k ?_]
      have := hh.2
      simp only [cont, Bool.and_eq_true, decide_eq_true_eq] at this
      exact ⟨by omega, this.1, this.2, by omega, by omega⟩
  have three : ∀ {f k : Nat}, lt M 0 < 240 → fstv (lt M 0) = f → f < 240 → IntKind.u8.wrap (BitVec.ofInt IntKind.u8.bits (f : Int) &&& BitVec.ofInt IntKind.u8.bits 7).toNat = ((3 : Nat) : Int) → (f : Int).fdiv 16 = (k : Int) → k < 16 → (glob1.drop (k * 2)).take 2 = [.v (.int .u8 (lo1 (lt M 0) : Nat)), .v (.int .u8 (hi1 (lt M 0) : Nat))] →
      ∃ x m : Int, Cinf T n_utf8_decodeRuneSlow [.ro 1 (bl M)] = some (.tup [.v (.int .i32 x), .v (.int .i64 m)], [.dead]) ∧ Told x m (uc M) := by
    intro f k a3 hf g1 g2 g3 g4 g5
    have hu : uc M = if 2 < M.length ∧ in1 (lt M 0) (lt M 1) = true ∧ cont (lt M 2) = true then 3 else 0 := by simp [uc, hne, h1, a1, a2, a3]
    refine told_of (by decide) ?_ ?_ (slow_good M h0 hf g1 g2 g3 g4 g5 (by simp))
    · rintro ⟨k1, k2, k3, k4, _⟩
      rw [hu, if_pos ⟨by omega, by simp [in1, k2, k3], k4 (by omega)⟩]
    · intro k
      rw [hu, if_neg fun hh => k ?_]
      have := hh.2.1
      simp only [in1, Bool.and_eq_true, decide_eq_true_eq] at this
      exact ⟨by omega, this.1, this.2, fun _ => hh.2.2, by omega⟩
  have four : ∀ {f k : Nat}, ¬ lt M 0 < 240 → lt M 0 < 245 → fstv (lt M 0) = f → f < 240 → IntKind.u8.wrap (BitVec.ofInt IntKind.u8.bits (f : Int) &&& BitVec.ofInt IntKind.u8.bits 7).toNat = ((4 : Nat) : Int) → (f : Int).fdiv 16 = (k : Int) → k < 16 → (glob1.drop (k * 2)).take 2 = [.v (.int .u8 (lo1 (lt M 0) : Nat)), .v (.int .u8 (hi1 (lt M 0) : Nat))] →
      ∃ x m : Int, Cinf T n_utf8_decodeRuneSlow [.ro 1 (bl M)] = some (.tup [.v (.int .i32 x), .v (.int .i64 m)], [.dead]) ∧ Told x m (uc M) := by
    intro f k a3 a4 hf g1 g2 g3 g4 g5
    have hu : uc M = if 3 < M.length ∧ in1 (lt M 0) (lt M 1) = true ∧ cont (lt M 2) = true ∧ cont (lt M 3) = true then 4 else 0 := by simp [uc, hne, h1, a1, a2, a3, a4]
    refine told_of (by decide) ?_ ?_ (slow_good M h0 hf g1 g2 g3 g4 g5 (by simp))
    · rintro ⟨k1, k2, k3, k4, k5⟩
      rw [hu, if_pos ⟨by omega, by simp [in1, k2, k3], k4 (by omega), k5 (by omega)⟩]
    · intro k
      rw [hu, if_neg fun hh => k ?_]
      have := hh.2.1
      simp only [in1, Bool.and_eq_true, decide_eq_true_eq] at this
      exact ⟨by omega, this.1, this.2, fun _ => hh.2.2.1, fun _ => hh.2.2.2⟩
  by_cases a3 : lt M 0 < 240
  · by_cases b1 : lt M 0 = 224
    · exact three (f := 19) (k := 1) a3 (by rw [b1]; rfl) (by decide) (by rfl) (by rfl) (by decide) (by rw [b1]; kernel_rfl)
    by_cases b2 : lt M 0 = 237
    · exact three (f := 35) (k := 2) a3 (by rw [b2]; rfl) (by decide) (by rfl) (by rfl) (by decide) (by rw [b2]; kernel_rfl)
    have n1 : ¬ lt M 0 = 240 := by omega
    have n2 : ¬ lt M 0 = 244 := by omega
    refine three (f := 3) (k := 0) a3 ?_ (by decide) (by rfl) (by rfl) (by decide) (by simp only [lo1, hi1, b1, b2, n1, n2, if_false]; kernel_rfl)
    by_cases b3 : lt M 0 < 237
    · simp [fstv, h1, a1, a2, b1, b3]
    · simp [fstv, h1, a1, a2, b1, b2, b3, a3]
  by_cases a4 : lt M 0 < 245
  · by_cases b1 : lt M 0 = 240
    · exact four (f := 52) (k := 3) a3 a4 (by rw [b1]; rfl) (by decide) (by rfl) (by rfl) (by decide) (by rw [b1]; kernel_rfl)
    by_cases b2 : lt M 0 = 244
    · exact four (f := 68) (k := 4) a3 a4 (by rw [b2]; rfl) (by decide) (by rfl) (by rfl) (by decide) (by rw [b2]; kernel_rfl)
    have n1 : ¬ lt M 0 = 224 := by omega
    have n2 : ¬ lt M 0 = 237 := by omega
    have n3 : ¬ lt M 0 < 237 := by omega
    have b3 : lt M 0 < 244 := by omega
    exact four (f := 4) (k := 0) a3 a4 (by simp [fstv, h1, a1, a2, n1, n2, n3, a3, b1, b3]) (by decide) (by rfl) (by rfl) (by decide) (by simp only [lo1, hi1, b1, b2, n1, n2, if_false]; kernel_rfl)
  · have n1 : ¬ lt M 0 = 224 := by omega
    have n2 : ¬ lt M 0 = 237 := by omega
    have n3 : ¬ lt M 0 < 237 := by omega
    have n4 : ¬ lt M 0 = 240 := by omega
    have n5 : ¬ lt M 0 < 244 := by omega
    have n6 : ¬ lt M 0 = 244 := by omega
    exact bad (by simp [fstv, h1, a1, a2, n1, n2, n3, n4, n5, n6, a3]) (by simp [uc, hne, h1, a1, a2, a3, a4])
theorem c_decode (M : List UInt8) (h0 : 0 < M.length) : ∃ x m : Int, Cinf T n_utf8_DecodeRune [.ro 1 (bl M)] = some (.tup [.v (.int .i32 x), .v (.int .i64 m)], [.dead]) ∧ Told x m (uc M) := by
  by_cases h1 : lt M 0 < 128
  · refine ⟨_, _, dec_fast M h0 h1, ?_⟩
    have hu : uc M = 1 := by
      have hne : ¬ M.length = 0 := by omega
      simp [uc, hne, h1]
    rw [hu]
    exact ⟨by omega, fun _ => ⟨rfl, fun _ => by omega⟩⟩
  · obtain ⟨x, m, k1, k2⟩ := slow_told M h0 h1
    exact ⟨x, m, dec_slow M h0 h1 k1, k2⟩
theorem uc_le (M : List UInt8) : uc M ≤ M.length ∧ uc M ≤ 4 := by
  unfold uc
  repeat' split
  all_goals omega
end Go.AM.F

/- JSON: the program's reader: texts. No conditions. -/
namespace Go.AM.F
open Go Go.AM
set_option maxRecDepth 10000
set_option linter.unusedSimpArgs false

theorem encode_size (r : Int) : (Utf8.encode r).size ≤ 4 := by
  unfold Utf8.encode
  simp only
  repeat' split
  all_goals simp [ByteArray.size]
theorem pPair_le {L : List UInt8} {i v j k : Nat} {s : ByteArray} (h : pPair L i v j = .ok k s) : j < k ∧ k ≤ L.length ∧ s.size ≤ 4 := by
  unfold pPair at h
  split at h
  · rename_i hc
    cases hp : pFour L 4 0 (j + 2) with
    | bad w a => rw [hp] at h; cases h
    | ok k' m =>
      rw [hp, PR.bind_ok] at h
      have := pFour_le (show j + 2 ≤ L.length by omega) hp
      split at h
      · cases h
      · cases h
        exact ⟨by omega, by omega, encode_size _⟩
  · cases h
theorem pEscape_le {L : List UInt8} {i k : Nat} {s : ByteArray} (h : pEscape L i = .ok k s) : i < k ∧ k ≤ L.length ∧ s.size ≤ 4 := by
  unfold pEscape at h
  split at h
  · rename_i hc
    split at h
    · cases h
      exact ⟨by omega, by omega, by simp [ByteArray.size]⟩
    · split at h
      · cases hp : pFour L 4 0 (i + 2) with
        | bad w a => rw [hp] at h; cases h
        | ok j v =>
          rw [hp, PR.bind_ok] at h
          have := pFour_le (show i + 2 ≤ L.length by omega) hp
          split at h
          · cases h
          · split at h
            · cases h
              exact ⟨by omega, by omega, encode_size _⟩
            · have := pPair_le h
              exact ⟨by omega, this.2.1, this.2.2⟩
      · cases h
  · cases h
/-- A text behind its first mark. -/
def pTx (L : List UInt8) : Nat → List UInt8 → Nat → PR ByteArray
  | 0, _, _ => .bad 0 0
  | m + 1, acc, i =>
    if i < L.length then
      if lt L i = 34 then .ok (i + 1) (tx acc)
      else if lt L i = 92 then (pEscape L i).bind fun j s => pTx L m (acc ++ s.data.toList) j
      else if lt L i < 32 then .bad 100 i
      else if uc (L.drop i) = 0 then .bad 100 i
      else pTx L m (acc ++ (L.drop i).take (uc (L.drop i))) (i + uc (L.drop i))
    else .bad 100 i
def pText (L : List UInt8) (i : Nat) : PR ByteArray := pTx L (L.length - i) [] (i + 1)
theorem pTx_le {L : List UInt8} : ∀ {m i j : Nat} {acc : List UInt8} {s : ByteArray}, i ≤ L.length → pTx L m acc i = .ok j s → i < j ∧ j ≤ L.length
  | 0, i, j, acc, s, hi, h => by cases h
  | m + 1, i, j, acc, s, hi, h => by
    simp only [pTx] at h
    split at h
    · split at h
      · cases h
        omega
      · split at h
        · cases hp : pEscape L i with
          | bad w a => rw [hp] at h; cases h
          | ok k t =>
            rw [hp, PR.bind_ok] at h
            have h1 := pEscape_le hp
            have h2 := pTx_le h1.2.1 h
            omega
        · split at h
          · cases h
          · split at h
            · cases h
            · have h1 := uc_le (L.drop i)
              rw [List.length_drop] at h1
              have h2 := pTx_le (by omega) h
              omega
    · cases h
theorem bl_append (a b : List UInt8) : bl a ++ bl b = bl (a ++ b) := List.map_append.symm
theorem byteList_bl (s : ByteArray) : byteList s = bl s.data.toList := rfl
theorem size_list (s : ByteArray) : s.data.toList.length = s.size := Array.length_toList
theorem bl_cut (L : List UInt8) (i k : Nat) : ((bl L).take (i + k)).drop i = bl ((L.drop i).take k) := by
  rw [bl_take, bl_drop, List.drop_take]
  congr 2
  omega
theorem imm_bl (L : List UInt8) : PV.immL (bl L) = true := by
  induction L with
  | nil => rfl
  | cons b r ih =>
    show (PV.imm (.v _) && PV.immL (bl r)) = true
    rw [ih]
    rfl
attribute [local simp] j0_json_reader_text w0_json_reader_text b_json_reader_text a_json_reader_text
theorem text_loop (L : List UInt8) (hl : L.length ≤ 16777216) : ∀ (m i : Nat) (acc : List UInt8), L.length - i < m → i ≤ L.length → acc.length ≤ 4 * i →
    Ret L strP 2 (Exec T l0_json_reader_text [(0, .ref 100000 []), (3, .own 1 (bl acc)), (53, .dead), (80, .dead), (100000, rd L i)]) (pTx L m acc i) := by
  intro m
  induction m with
  | zero => intro i acc h; omega
  | succ m ih =>
    intro i acc hm hi ha
    have hb := c_byte L i
    have hf := c_fail L i
    simp only [rd_eq] at hb hf
    rw [ex0_json_reader_text]
    simp only [pTx]
    by_cases h1 : i < L.length
    · rw [if_pos h1]
      have hw := wrap_succ h1 (by omega)
      have hsm := lt_small L i
      by_cases c1 : lt L i = 34
      · simp [Ret, c1, hb, h1, hw, bytesOf_bl, tx]
      by_cases c2 : lt L i = 92
      · have he := c_escape L i h1 hl
        simp only [rd_eq] at he
        rw [if_neg c1, if_pos c2]
        cases hp : pEscape L i with
        | bad w a => simp [Ret, c2, hb, h1, he, hp]
        | ok j s =>
          have h2 := pEscape_le hp
          have h0 := ih j (acc ++ s.data.toList) (by omega) h2.2.1 (by rw [List.length_append, size_list]; omega)
          have b1 : acc.length + s.size ≤ 140737488355328 := by omega
          have b2 : acc.length + s.size ≤ 4611686018427387904 := by omega
          simp only [rd_eq] at h0
          rw [PR.bind_ok]
          simpa [c2, hb, h1, he, hp, byteList_bl, bl_append, size_list, b1, b2] using h0
      rw [if_neg c1, if_neg c2]
      by_cases c3 : lt L i < 32
      · rw [if_pos c3]
        simp [Ret, c1, c2, c3, hb, h1, hf]
      rw [if_neg c3]
      have hd0 : 0 < (L.drop i).length := by rw [List.length_drop]; omega
      obtain ⟨x, n, hd, ht⟩ := c_decode (L.drop i) hd0
      have hu := uc_le (L.drop i)
      rw [List.length_drop] at hu
      have hi2 : (i : Int) ≤ L.length := by omega
      by_cases c4 : uc (L.drop i) = 0
      · rw [if_pos c4]
        obtain ⟨rfl, hn⟩ := ht.1 c4
        simp [Ret, c1, c2, c3, hb, h1, hi, hi2, bl_drop, bl_full, hd, hn, hf]
      · rw [if_neg c4]
        obtain ⟨rfl, hn⟩ := ht.2 c4
        generalize uc (L.drop i) = k at *
        have hk : IntKind.i64.wrap ((i : Int) + (k : Int)) = ((i + k : Nat) : Int) := by rw [wrap_i64] <;> omega
        have b1 : acc.length + k ≤ 140737488355328 := by omega
        have b2 : acc.length + k ≤ 4611686018427387904 := by omega
        have hk2 : i + k ≤ L.length := by omega
        have htk : ((L.drop i).take k).length = k := by rw [List.length_take, List.length_drop]; omega
        have h0 := ih (i + k) (acc ++ (L.drop i).take k) (by omega) (by omega) (by rw [List.length_append, htk]; omega)
        simp only [rd_eq] at h0
        have k1 : i ≤ i + k := by omega
        by_cases c5 : x = 65533
        · have c6 : ¬ k ≤ 1 := by
            intro h
            exact hn (by omega) c5
          simpa [c1, c2, c3, hb, h1, hi, hi2, bl_drop, bl_full, hd, c5, c6, hk, hk2, k1, bl_cut, bl_append, htk, b1, b2, -Int.natCast_add] using h0
        · simpa [c1, c2, c3, hb, h1, hi, hi2, bl_drop, bl_full, hd, c5, hk, hk2, k1, bl_cut, bl_append, htk, b1, b2, -Int.natCast_add] using h0
    · rw [if_neg h1]
      simp [Ret, hb, h1]
theorem c_text (L : List UInt8) (i : Nat) (hi : i < L.length) (hl : L.length ≤ 16777216) : Cinf T n_json_reader_text [rd L i] = res L 0 strP (pText L i) := by
  have hw := wrap_succ hi (by omega)
  have h := text_loop L hl (L.length - i) (i + 1) [] (by omega) (by omega) (by simp)
  simp only [rd_eq, succ_cast] at h
  have hbl : bl [] = [] := rfl
  rw [hbl] at h
  unfold pText
  cases hp : pTx L (L.length - i) [] (i + 1) with
  | ok j s =>
    rw [hp] at h
    obtain ⟨e', h1, h2, h3⟩ := h
    simp only [rd_eq, strP_eq] at h2 h3
    simp [run_json_reader_text, Run, home, hw, h1, h2, h3, -w0_json_reader_text]
  | bad w a =>
    rw [hp] at h
    obtain ⟨e', h1⟩ := h
    simp [run_json_reader_text, Run, home, hw, h1]
end Go.AM.F

/- JSON: values as trees, the plain reading of a value, the map of the names that were seen. No conditions. -/
namespace Go.AM.F
open Go Go.AM
set_option maxRecDepth 10000
set_option linter.unusedSimpArgs false

/-! ### Values -/
def strs (l : List ByteArray) : PV := .ro 1 (l.map str)
inductive J where
  | mk (k : Int) (t : ByteArray) (ns : List ByteArray) (is : List J)
mutual
def J.pv : J → PV
  | .mk k t ns is => .agg [.v (.int .u8 k), str t, strs ns, .ro 4 (J.pvL is)]
def J.pvL : List J → List PV
  | [] => []
  | j :: r => j.pv :: J.pvL r
end
theorem pvL_map (l : List J) : J.pvL l = l.map J.pv := by
  induction l with
  | nil => rfl
  | cons j r ih => simp [J.pvL, ih]
def J.parts : J → List PV
  | .mk k t ns is => [.v (.int .u8 k), .v (.string t), .own 1 (ns.map str), .own 4 (is.map J.pv)]
def J.copied (j : J) : PV := .agg j.parts
theorem J.pv_mk (k : Int) (t : ByteArray) (ns : List ByteArray) (is : List J) : (J.mk k t ns is).pv = .agg [.v (.int .u8 k), .v (.string t), .ro 1 (ns.map str), .ro 4 (is.map J.pv)] := by
  simp only [J.pv, pvL_map, strs, str]
theorem imm_strs (l : List ByteArray) : PV.immL (l.map str) = true := by
  induction l with
  | nil => rfl
  | cons x r ih => simp [ih]
theorem imm_pvs (l : List J) : PV.immL (l.map J.pv) = true := by
  induction l with
  | nil => rfl
  | cons x r ih =>
    obtain ⟨k, t, ns, is⟩ := x
    simp [ih, J.pv_mk]
/-! ### The plain reading -/
def eS : ByteArray := ⟨#[]⟩
def sNull : ByteArray := ⟨#[110, 117, 108, 108]⟩
def sFalse : ByteArray := ⟨#[102, 97, 108, 115, 101]⟩
def sTrue : ByteArray := ⟨#[116, 114, 117, 101]⟩
def sEnd : ByteArray := ⟨#[93]⟩
def sStop : ByteArray := ⟨#[125]⟩
def sComma : ByteArray := ⟨#[44]⟩
def sColon : ByteArray := ⟨#[58]⟩
/-- What a value that holds no values is read as. -/
def pFlat (L : List UInt8) (i : Nat) : PR J :=
  if lt L i = 110 then (pWant sNull L i).bind fun j _ => .ok j (.mk 1 eS [] [])
  else if lt L i = 102 then (pWant sFalse L i).bind fun j _ => .ok j (.mk 2 eS [] [])
  else if lt L i = 116 then (pWant sTrue L i).bind fun j _ => .ok j (.mk 3 eS [] [])
  else if lt L i = 34 then (pText L i).bind fun j s => .ok j (.mk 5 s [] [])
  else if lt L i = 45 ∨ digit (lt L i) = true then (pNumber L i).bind fun j _ => .ok j (.mk 4 (tx ((L.drop i).take (j - i))) [] [])
  else .bad 100 i
def seen (s : ByteArray) (ns : List ByteArray) : Bool := ns.any fun x => s == x
theorem seen_iff {s : ByteArray} {ns : List ByteArray} : seen s ns = true ↔ s ∈ ns := by
  unfold seen
  rw [List.any_eq_true]
  constructor
  · rintro ⟨x, h1, h2⟩
    rw [bytes_eq_iff] at h2
    have h3 : s = x := by simpa using h2
    rw [h3]
    exact h1
  · intro h
    exact ⟨s, h, by rw [bytes_eq_iff]; simp⟩
mutual
def pV (L : List UInt8) : Nat → Nat → Nat → Option (PR J)
  | 0, _, _ => none
  | f + 1, d, i =>
    if i < L.length then
      if lt L i = 91 ∨ lt L i = 123 then
        if d = 256 then some (.bad 101 i)
        else if lt L i = 91 then
          (if tk sEnd L (skip blank L (i + 1)) then some (.ok (skip blank L (i + 1) + 1) (.mk 6 eS [] [])) else pItems L f (d + 1) (skip blank L (i + 1)) [])
        else (if tk sStop L (skip blank L (i + 1)) then some (.ok (skip blank L (i + 1) + 1) (.mk 7 eS [] [])) else pMembers L f (d + 1) (skip blank L (i + 1)) [] [])
      else some (pFlat L i)
    else some (.bad 100 i)
def pItems (L : List UInt8) : Nat → Nat → Nat → List J → Option (PR J)
  | 0, _, _, _ => none
  | f + 1, d, i, acc =>
    match pV L f d (skip blank L i) with
    | none => none
    | some (.bad w a) => some (.bad w a)
    | some (.ok j v) =>
      if tk sEnd L (skip blank L j) then some (.ok (skip blank L j + 1) (.mk 6 eS [] (acc ++ [v])))
      else match pWant sComma L (skip blank L j) with
        | .bad w a => some (.bad w a)
        | .ok k _ => pItems L f d k (acc ++ [v])
def pMembers (L : List UInt8) : Nat → Nat → Nat → List ByteArray → List J → Option (PR J)
  | 0, _, _, _, _ => none
  | f + 1, d, i, ns, acc =>
    let a := skip blank L i
    if a < L.length ∧ lt L a = 34 then
      match pText L a with
      | .bad w b => some (.bad w b)
      | .ok j s =>
        if seen s ns = true then some (.bad 102 a)
        else match pWant sColon L (skip blank L j) with
          | .bad w b => some (.bad w b)
          | .ok k _ => match pV L f d (skip blank L k) with
            | none => none
            | some (.bad w b) => some (.bad w b)
            | some (.ok m v) =>
              if tk sStop L (skip blank L m) then some (.ok (skip blank L m + 1) (.mk 7 eS (ns ++ [s]) (acc ++ [v])))
              else match pWant sComma L (skip blank L m) with
                | .bad w b => some (.bad w b)
                | .ok q _ => pMembers L f d q (ns ++ [s]) (acc ++ [v])
    else some (.bad 100 a)
end
/-! ### The names that were seen -/
def seenE : Nat → List ByteArray → List MapEntry
  | _, [] => []
  | c, s :: r => ⟨.string s, .int .i64 1, c⟩ :: seenE (c + 1) r
theorem seenE_append (s : ByteArray) : ∀ (ns : List ByteArray) (c : Nat), seenE c (ns ++ [s]) = seenE c ns ++ [⟨.string s, .int .i64 1, c + ns.length⟩]
  | [], c => rfl
  | x :: r, c => by
    simp only [List.cons_append, seenE, seenE_append s r, List.length_cons]
    rw [show c + 1 + r.length = c + (r.length + 1) by omega]
theorem seen_none {s : ByteArray} : ∀ {ns : List ByteArray} {c i : Nat}, s ∉ ns → Instr.findNow (kdOf none) (.string s) (seenE c ns) i = some none
  | [], _, _, _ => rfl
  | x :: r, c, i, h => by
    have h1 : s ≠ x := fun e => h (by simp [e])
    have h2 : (s == x) = false := by rw [bytes_eq_iff]; simpa using h1
    simp only [seenE, Instr.findNow, kdOf, Instr.sameNow, h2]
    exact seen_none (fun hm => h (by simp [hm]))
theorem seen_some {s : ByteArray} : ∀ {ns : List ByteArray} {c i : Nat}, s ∈ ns → ∃ j, Instr.findNow (kdOf none) (.string s) (seenE c ns) i = some (some (i + j, .int .i64 1)) ∧ (∃ en, (seenE c ns)[j]? = some en ∧ en.key = .string s) ∧
    ∀ u, Instr.findNow (kdOf none) (.string s) ((seenE c ns).modify j fun m => { m with key := .string s, val := u }) i = some (some (i + j, u))
  | [], _, _, h => by simp at h
  | x :: r, c, i, h => by
    by_cases h1 : s = x
    · subst h1
      have h2 : (s == s) = true := by rw [bytes_eq_iff]; simp
      exact ⟨0, by simp [seenE, Instr.findNow, kdOf, Instr.sameNow, h2], ⟨_, rfl, rfl⟩, fun u => by simp [seenE, List.modify, Instr.findNow, kdOf, Instr.sameNow, h2]⟩
    · have h2 : (s == x) = false := by rw [bytes_eq_iff]; simpa using h1
      obtain ⟨j, k1, ⟨en, k2, k3⟩, k4⟩ := seen_some (c := c + 1) (i := i + 1) ((List.mem_cons.1 h).resolve_left h1)
      refine ⟨j + 1, ?_, ⟨en, by simpa [seenE] using k2, k3⟩, fun u => ?_⟩
      · simp only [seenE, Instr.findNow, kdOf, Instr.sameNow, h2]
        rw [show i + (j + 1) = i + 1 + j by omega]
        exact k1
      · simp only [seenE, List.modify_succ_cons, Instr.findNow, kdOf, Instr.sameNow, h2]
        rw [show i + (j + 1) = i + 1 + j by omega]
        exact k4 u
theorem seen_new (s : ByteArray) : ∀ {ns : List ByteArray} {c i : Nat}, s ∉ ns → ∃ j, Instr.findNow (kdOf none) (.string s) (seenE c ns ++ [⟨.string s, .int .i64 1, c + ns.length⟩]) i = some (some (j, .int .i64 1)) := by
  intro ns c i _
  obtain ⟨j, h, _⟩ := seen_some (s := s) (ns := ns ++ [s]) (c := c) (i := i) (by simp)
  rw [seenE_append] at h
  exact ⟨_, h⟩
end Go.AM.F

/- JSON: the program's reader: values. No conditions. -/
namespace Go.AM.F
open Go Go.AM
set_option maxRecDepth 10000
set_option linter.unusedSimpArgs false

attribute [local simp] j0_json_reader_value j1_json_reader_value j2_json_reader_value b_json_reader_value a_json_reader_value
theorem c_value_end (L : List UInt8) (i : Nat) (d : Int) (hi : ¬ i < L.length) : Cinf T n_json_reader_value [rd L i, .v (.int .i64 d)] = res L 1 J.copied (.bad 100 i) := by
  have hb := c_byte L i
  rw [if_neg hi] at hb
  simp only [rd_eq] at hb
  simp [run_json_reader_value, Run, home, hb]
theorem c_value_word (L : List UInt8) (i : Nat) (d : Int) (hi : i < L.length) (hl : L.length ≤ 16777216) (h : lt L i = 110 ∨ lt L i = 102 ∨ lt L i = 116) : Cinf T n_json_reader_value [rd L i, .v (.int .i64 d)] = res L 1 J.copied (pFlat L i) := by
  have hb := c_byte L i
  rw [if_pos hi] at hb
  have w1 := c_want L i sNull (by omega) hl (by decide)
  have w2 := c_want L i sFalse (by omega) hl (by decide)
  have w3 := c_want L i sTrue (by omega) hl (by decide)
  have e1 : (⟨#[110, 117, 108, 108]⟩ : ByteArray) = sNull := rfl
  have e2 : (⟨#[102, 97, 108, 115, 101]⟩ : ByteArray) = sFalse := rfl
  have e3 : (⟨#[116, 114, 117, 101]⟩ : ByteArray) = sTrue := rfl
  simp only [rd_eq] at hb w1 w2 w3
  rcases h with h | h | h
  · cases hp : pWant sNull L i with
    | ok j u => simp [run_json_reader_value, Run, home, hb, w1, e1, h, hp, pFlat, J.copied, J.parts, eS]
    | bad w a => simp [run_json_reader_value, Run, home, hb, w1, e1, h, hp, pFlat]
  · cases hp : pWant sFalse L i with
    | ok j u => simp [run_json_reader_value, Run, home, hb, w2, e2, h, hp, pFlat, J.copied, J.parts, eS]
    | bad w a => simp [run_json_reader_value, Run, home, hb, w2, e2, h, hp, pFlat]
  · cases hp : pWant sTrue L i with
    | ok j u => simp [run_json_reader_value, Run, home, hb, w3, e3, h, hp, pFlat, J.copied, J.parts, eS]
    | bad w a => simp [run_json_reader_value, Run, home, hb, w3, e3, h, hp, pFlat]
theorem c_value_text (L : List UInt8) (i : Nat) (d : Int) (hi : i < L.length) (hl : L.length ≤ 16777216) (h : lt L i = 34) : Cinf T n_json_reader_value [rd L i, .v (.int .i64 d)] = res L 1 J.copied (pFlat L i) := by
  have hb := c_byte L i
  rw [if_pos hi] at hb
  have w1 := c_text L i hi hl
  simp only [rd_eq] at hb w1
  cases hp : pText L i with
  | ok j u => simp [run_json_reader_value, Run, home, hb, w1, h, hp, pFlat, J.copied, J.parts, eS]
  | bad w a => simp [run_json_reader_value, Run, home, hb, w1, h, hp, pFlat]
theorem pNumber_le {L : List UInt8} {i j : Nat} {u : Unit} (hi : i ≤ L.length) (h : pNumber L i = .ok j u) : i < j ∧ j ≤ L.length := by
  unfold pNumber at h
  have h1 := past_le sMinus L hi
  cases hp : pInt L (past sMinus L i) with
  | bad w a => rw [hp] at h; cases h
  | ok k u1 =>
    rw [hp, PR.bind_ok] at h
    have h2 := pInt_le hp
    cases hq : pFrac L k with
    | bad w a => rw [hq] at h; cases h
    | ok m u2 =>
      rw [hq, PR.bind_ok] at h
      have h3 := pFrac_le h2.2 hq
      have h4 := pExp_le h3.2 h
      omega
theorem c_value_number (L : List UInt8) (i : Nat) (d : Int) (hi : i < L.length) (hl : L.length ≤ 16777216) (h : lt L i = 45 ∨ digit (lt L i) = true) : Cinf T n_json_reader_value [rd L i, .v (.int .i64 d)] = res L 1 J.copied (pFlat L i) := by
  have hb := c_byte L i
  rw [if_pos hi] at hb
  have w1 := c_number L i (by omega) hl
  simp only [rd_eq] at hb w1
  have n0 : ¬ lt L i = 110 ∧ ¬ lt L i = 102 ∧ ¬ lt L i = 116 ∧ ¬ lt L i = 34 ∧ ¬ lt L i = 91 ∧ ¬ lt L i = 123 := by
    rcases h with h | h
    · omega
    · simp [digit] at h
      omega
  obtain ⟨n1, n2, n3, n4, n5, n6⟩ := n0
  have hf : pFlat L i = (pNumber L i).bind fun j _ => .ok j (.mk 4 (tx ((L.drop i).take (j - i))) [] []) := by
    unfold pFlat
    rw [if_neg n1, if_neg n2, if_neg n3, if_neg n4, if_pos h]
  rw [hf]
  have hor : lt L i = 45 ∨ (¬ lt L i = 45 ∧ 48 ≤ lt L i ∧ lt L i ≤ 57) := by
    rcases h with h | h
    · exact .inl h
    · simp [digit] at h
      by_cases h2 : lt L i = 45
      · exact .inl h2
      · exact .inr ⟨h2, h.1, h.2⟩
  cases hp : pNumber L i with
  | ok j u =>
    have hj := pNumber_le (by omega) hp
    have g1 : i ≤ j := by omega
    have g2 : j ≤ L.length := hj.2
    have hcut : ((bl L).take j).drop i = bl ((L.drop i).take (j - i)) := by
      rw [← bl_cut, show i + (j - i) = j by omega]
    rcases hor with h | ⟨h, h2, h3⟩
    · simp [run_json_reader_value, Run, home, hb, w1, n1, n2, n3, n4, n5, n6, h, hp, J.copied, J.parts, g1, g2, hcut, bytesOf_bl, tx]
    · simp [run_json_reader_value, Run, home, hb, w1, n1, n2, n3, n4, n5, n6, h, h2, h3, hp, J.copied, J.parts, g1, g2, hcut, bytesOf_bl, tx]
  | bad w a =>
    rcases hor with h | ⟨h, h2, h3⟩
    · simp [run_json_reader_value, Run, home, hb, w1, n1, n2, n3, n4, n5, n6, h, hp]
    · simp [run_json_reader_value, Run, home, hb, w1, n1, n2, n3, n4, n5, n6, h, h2, h3, hp]
theorem c_value_none (L : List UInt8) (i : Nat) (d : Int) (hi : i < L.length) (h : ¬ (lt L i = 91 ∨ lt L i = 123)) (h2 : ¬ (lt L i = 110 ∨ lt L i = 102 ∨ lt L i = 116)) (h3 : ¬ lt L i = 34) (h4 : ¬ (lt L i = 45 ∨ digit (lt L i) = true)) :
    Cinf T n_json_reader_value [rd L i, .v (.int .i64 d)] = res L 1 J.copied (pFlat L i) := by
  have hb := c_byte L i
  rw [if_pos hi] at hb
  have hf := c_fail L i
  simp only [rd_eq] at hb hf
  simp only [not_or] at h h2 h4
  obtain ⟨n5, n6⟩ := h
  obtain ⟨n1, n2, n3⟩ := h2
  obtain ⟨n7, n8⟩ := h4
  have hfl : pFlat L i = .bad 100 i := by
    unfold pFlat
    rw [if_neg n1, if_neg n2, if_neg n3, if_neg h3, if_neg (by rw [not_or]; exact ⟨n7, n8⟩)]
  rw [hfl]
  have n9 : lt L i < 48 ∨ (48 ≤ lt L i ∧ ¬ lt L i ≤ 57) := by
    simp [digit] at n8
    omega
  rcases n9 with n9 | ⟨n9, n10⟩
  · have n11 : ¬ 48 ≤ lt L i := by omega
    simp [run_json_reader_value, Run, home, hb, hf, n1, n2, n3, h3, n5, n6, n7, n9, n11]
  · simp [run_json_reader_value, Run, home, hb, hf, n1, n2, n3, h3, n5, n6, n7, n9, n10]
theorem c_value_flat (L : List UInt8) (i : Nat) (d : Int) (hi : i < L.length) (hl : L.length ≤ 16777216) (h : ¬ (lt L i = 91 ∨ lt L i = 123)) : Cinf T n_json_reader_value [rd L i, .v (.int .i64 d)] = res L 1 J.copied (pFlat L i) := by
  by_cases h2 : lt L i = 110 ∨ lt L i = 102 ∨ lt L i = 116
  · exact c_value_word L i d hi hl h2
  by_cases h3 : lt L i = 34
  · exact c_value_text L i d hi hl h3
  by_cases h4 : lt L i = 45 ∨ digit (lt L i) = true
  · exact c_value_number L i d hi hl h4
  exact c_value_none L i d hi h h2 h3 h4
theorem c_value_deep (L : List UInt8) (i : Nat) (hi : i < L.length) (h : lt L i = 91 ∨ lt L i = 123) : Cinf T n_json_reader_value [rd L i, .v (.int .i64 256)] = res L 1 J.copied (.bad 101 i) := by
  have hb := c_byte L i
  rw [if_pos hi] at hb
  simp only [rd_eq] at hb
  rcases h with h | h
  · simp [run_json_reader_value, Run, home, hb, h, wrong]
  · simp [run_json_reader_value, Run, home, hb, h, wrong]
theorem c_value_list (L : List UInt8) (i d : Nat) (r : PR J) (hi : i < L.length) (hl : L.length ≤ 16777216) (hd : d < 256) (h : lt L i = 91) (hc : Cinf T n_json_reader_list [rd L (i + 1), .v (.int .i64 (d + 1 : Nat))] = res L 1 J.copied r) :
    Cinf T n_json_reader_value [rd L i, .v (.int .i64 d)] = res L 1 J.copied r := by
  have hb := c_byte L i
  rw [if_pos hi] at hb
  have hw := wrap_succ hi (by omega)
  have hw2 := wrap_succ hd (by omega)
  have hd2 : ¬ d = 256 := by omega
  have hd3 : ¬ (d : Int) = 256 := by omega
  simp only [rd_eq, succ_cast] at hb hc
  cases r with
  | ok j v =>
    obtain ⟨k, t, ns, is⟩ := v
    simp only [res_ok, J.copied, J.parts] at hc ⊢
    simp [run_json_reader_value, Run, home, hb, hc, h, hw, hw2, hd2, hd3]
  | bad w a =>
    simp only [res_bad] at hc ⊢
    simp [run_json_reader_value, Run, home, hb, hc, h, hw, hw2, hd2, hd3]
theorem c_value_object (L : List UInt8) (i d : Nat) (r : PR J) (hi : i < L.length) (hl : L.length ≤ 16777216) (hd : d < 256) (h : lt L i = 123) (hc : Cinf T n_json_reader_object [rd L (i + 1), .v (.int .i64 (d + 1 : Nat))] = res L 1 J.copied r) :
    Cinf T n_json_reader_value [rd L i, .v (.int .i64 d)] = res L 1 J.copied r := by
  have hb := c_byte L i
  rw [if_pos hi] at hb
  have hw := wrap_succ hi (by omega)
  have hw2 := wrap_succ hd (by omega)
  have hd2 : ¬ d = 256 := by omega
  have hd3 : ¬ (d : Int) = 256 := by omega
  simp only [rd_eq, succ_cast] at hb hc
  cases r with
  | ok j v =>
    obtain ⟨k, t, ns, is⟩ := v
    simp only [res_ok, J.copied, J.parts] at hc ⊢
    simp [run_json_reader_value, Run, home, hb, hc, h, hw, hw2, hd2, hd3]
  | bad w a =>
    simp only [res_bad] at hc ⊢
    simp [run_json_reader_value, Run, home, hb, hc, h, hw, hw2, hd2, hd3]
end Go.AM.F

/- JSON: the program's reader: lists. No conditions. -/
namespace Go.AM.F
open Go Go.AM
set_option maxRecDepth 10000
set_option linter.unusedSimpArgs false

theorem pWant_le {s : ByteArray} {L : List UInt8} {i j : Nat} {u : Unit} (hi : i ≤ L.length) (h : pWant s L i = .ok j u) : i ≤ j ∧ j ≤ L.length := by
  have := pWord_le hi h
  omega
theorem pFlat_le {L : List UInt8} {i j : Nat} {v : J} (hi : i < L.length) (h : pFlat L i = .ok j v) : i ≤ j ∧ j ≤ L.length := by
  have hw : ∀ {s : ByteArray} {g : Nat → Unit → PR J} (_ : ∀ k u, ∃ w, g k u = .ok k w), (pWant s L i).bind g = .ok j v → i ≤ j ∧ j ≤ L.length := by
    intro s g hg h
    cases hp : pWant s L i with
    | bad w a => rw [hp] at h; cases h
    | ok k u =>
      rw [hp, PR.bind_ok] at h
      obtain ⟨w, hk⟩ := hg k u
      rw [hk] at h
      cases h
      exact pWant_le (by omega) hp
  unfold pFlat at h
  split at h
  · exact hw (fun k u => ⟨_, rfl⟩) h
  split at h
  · exact hw (fun k u => ⟨_, rfl⟩) h
  split at h
  · exact hw (fun k u => ⟨_, rfl⟩) h
  split at h
  · cases hp : pText L i with
    | bad w a => rw [hp] at h; cases h
    | ok k u =>
      rw [hp, PR.bind_ok] at h
      cases h
      have := pTx_le (show i + 1 ≤ L.length by omega) hp
      omega
  split at h
  · cases hp : pNumber L i with
    | bad w a => rw [hp] at h; cases h
    | ok k u =>
      rw [hp, PR.bind_ok] at h
      cases h
      have := pNumber_le (show i ≤ L.length by omega) hp
      omega
  · cases h
theorem tk_lt {s : ByteArray} {L : List UInt8} {i : Nat} (h : tk s L i = true) : i < L.length := by
  unfold tk at h
  simp at h
  exact h.1
theorem p_le (L : List UInt8) : ∀ f : Nat,
    (∀ d i j v, i ≤ L.length → pV L f d i = some (.ok j v) → i ≤ j ∧ j ≤ L.length) ∧
    (∀ d i acc j v, i ≤ L.length → pItems L f d i acc = some (.ok j v) → i ≤ j ∧ j ≤ L.length) ∧
    (∀ d i ns acc j v, i ≤ L.length → pMembers L f d i ns acc = some (.ok j v) → i ≤ j ∧ j ≤ L.length)
  | 0 => ⟨fun _ _ _ _ _ h => by simp [pV] at h, fun _ _ _ _ _ _ h => by simp [pItems] at h, fun _ _ _ _ _ _ _ h => by simp [pMembers] at h⟩
  | f + 1 => by
    obtain ⟨h1, h2, h3⟩ := p_le L f
    refine ⟨fun d i j v hi h => ?_, fun d i acc j v hi h => ?_, fun d i ns acc j v hi h => ?_⟩
    · simp only [pV] at h
      split at h
      · rename_i hlt
        have hs := skip_le blank L (show i + 1 ≤ L.length by omega)
        split at h
        · split at h
          · cases h
          · split at h
            · split at h
              · rename_i ht
                have := tk_lt ht
                cases h
                omega
              · have := h2 _ _ _ _ _ hs.2 h
                omega
            · split at h
              · rename_i ht
                have := tk_lt ht
                cases h
                omega
              · have := h3 _ _ _ _ _ _ hs.2 h
                omega
        · simp only [Option.some.injEq] at h
          exact pFlat_le hlt h
      · cases h
    · simp only [pItems] at h
      have hs := skip_le blank L hi
      cases hv : pV L f d (skip blank L i) with
      | none => rw [hv] at h; cases h
      | some r =>
        cases r with
        | bad w a => rw [hv] at h; cases h
        | ok k x =>
          rw [hv] at h
          have k1 := h1 _ _ _ _ hs.2 hv
          have k2 := skip_le blank L k1.2
          simp only at h
          split at h
          · rename_i ht
            have := tk_lt ht
            cases h
            omega
          · cases hw : pWant sComma L (skip blank L k) with
            | bad w a => rw [hw] at h; cases h
            | ok q u =>
              rw [hw] at h
              have k3 := pWant_le k2.2 hw
              have k4 := h2 _ _ _ _ _ k3.2 h
              omega
    · simp only [pMembers] at h
      have hs := skip_le blank L hi
      split at h
      · rename_i hc
        cases ht : pText L (skip blank L i) with
        | bad w b => rw [ht] at h; cases h
        | ok k s =>
          rw [ht] at h
          simp only at h
          have k1 := pTx_le (show skip blank L i + 1 ≤ L.length by omega) ht
          have k2 := skip_le blank L k1.2
          split at h
          · cases h
          · cases hw : pWant sColon L (skip blank L k) with
            | bad w b => rw [hw] at h; cases h
            | ok q u =>
              rw [hw] at h
              simp only at h
              have k3 := pWant_le k2.2 hw
              have k4 := skip_le blank L k3.2
              cases hv : pV L f d (skip blank L q) with
              | none => rw [hv] at h; cases h
              | some r =>
                cases r with
                | bad w a => rw [hv] at h; cases h
                | ok m x =>
                  rw [hv] at h
                  simp only at h
                  have k5 := h1 _ _ _ _ k4.2 hv
                  have k6 := skip_le blank L k5.2
                  split at h
                  · rename_i ht
                    have := tk_lt ht
                    cases h
                    omega
                  · cases hz : pWant sComma L (skip blank L m) with
                    | bad w a => rw [hz] at h; cases h
                    | ok y u =>
                      rw [hz] at h
                      have k7 := pWant_le k6.2 hz
                      have k8 := h3 _ _ _ _ _ _ k7.2 h
                      omega
      · cases h
end Go.AM.F

/- JSON: the program's reader: lists. No conditions. -/
namespace Go.AM.F
open Go Go.AM
set_option maxRecDepth 10000
set_option linter.unusedSimpArgs false

def ValOK (L : List UInt8) (f : Nat) : Prop := ∀ (d i : Nat) (r : PR J), pV L f d i = some r → i ≤ L.length → d ≤ 256 → Cinf T n_json_reader_value [rd L i, .v (.int .i64 d)] = res L 1 J.copied r
def J.boxed (j : J) : PV := .box j.parts
theorem pComma_le {L : List UInt8} {i j : Nat} {u : Unit} (hi : i ≤ L.length) (h : pWant sComma L i = .ok j u) : i < j ∧ j ≤ L.length := by
  have h1 := pWord_le hi h
  have h2 : sComma.size = 1 := rfl
  omega
/-- What the loop of a list or an object leaves. -/
def RetE (L : List UInt8) (x : Option (Out × Env)) : PR J → Prop
  | .ok i v => x = some (.ret, [(4, v.boxed), (100000, rd L i)])
  | .bad w a => ∃ e', x = some (.pan (wrong w a), e')
abbrev z4 : PV := .box [.v (.int .u8 0), .v (.string ⟨#[]⟩), .own 1 [], .own 4 []]
attribute [local simp] j0_json_reader_list w0_json_reader_list b_json_reader_list a_json_reader_list
def ListOK (L : List UInt8) (f : Nat) : Prop := ∀ (d i : Nat) (acc : List J) (r : PR J), pItems L f d i acc = some r → i ≤ L.length → d ≤ 256 → acc.length ≤ i →
  RetE L (Exec T l0_json_reader_list [(0, .ref 100000 []), (1, .v (.int .i64 d)), (4, z4), (5, .box [.v (.int .u8 6), .v (.string ⟨#[]⟩), .own 1 [], .own 4 (acc.map J.pv)]), (100000, rd L i)]) r
theorem list_loop (L : List UInt8) (hl : L.length ≤ 16777216) (f : Nat) (hV : ValOK L f) (hI : ListOK L f) : ListOK L (f + 1) := by
  intro d i acc r hr hi hd ha
  have hs := skip_le blank L hi
  have b1 := c_blanks L i hi hl
  simp only [rd_eq] at b1
  have hE : (⟨#[93]⟩ : ByteArray) = sEnd := rfl
  have hC : (⟨#[44]⟩ : ByteArray) = sComma := rfl
  rw [ex0_json_reader_list]
  simp only [pItems] at hr
  generalize skip blank L i = p at *
  cases hv : pV L f d p with
  | none => rw [hv] at hr; cases hr
  | some r1 =>
    have hc := hV d p r1 hv hs.2 hd
    rw [hv] at hr
    cases r1 with
    | bad w a =>
      simp only [Option.some.injEq] at hr
      subst hr
      simp only [rd_eq, res_bad] at hc
      simp [RetE, b1, hc]
    | ok j v =>
      have k1 := (p_le L f).1 _ _ _ _ hs.2 hv
      have k2 := skip_le blank L k1.2
      have b2 := c_blanks L j k1.2 hl
      simp only at hr
      generalize skip blank L j = q at *
      have t1 := c_takes L q sEnd hl
      have e1 : (acc.length + 1) * 72 ≤ 140737488355328 := by omega
      have e2 : acc.length ≤ 4611686018427387903 := by omega
      have hap : acc.map J.pv ++ [v.pv] = (acc ++ [v]).map J.pv := by simp
      have hlen : (acc.map J.pv).length = acc.length := by simp
      have hpv := v.pv
      cases ht : tk sEnd L q with
      | true =>
        rw [ht] at hr t1
        simp only [if_true, Option.some.injEq] at hr
        subst hr
        obtain ⟨k0, t0, ns0, is0⟩ := v
        simp only [rd_eq, res_ok, J.copied, J.parts, if_true, J.pv_mk] at hc b2 t1 hap
        simp [RetE, b1, b2, hc, hE, t1, imm_strs, imm_pvs, e1, e2, J.boxed, J.parts, J.pv_mk, eS]
      | false =>
        rw [ht] at hr t1
        simp only [Bool.false_eq_true, if_false] at hr
        have w1 := c_want L q sComma k2.2 hl (by decide)
        cases hw : pWant sComma L q with
        | bad w a =>
          rw [hw] at hr w1
          simp only [Option.some.injEq] at hr
          subst hr
          obtain ⟨k0, t0, ns0, is0⟩ := v
          simp only [rd_eq, res_ok, res_bad, J.copied, J.parts, Bool.false_eq_true, if_false, J.pv_mk] at hc b2 t1 hap w1
          simp [RetE, b1, b2, hc, hE, hC, t1, w1, imm_strs, imm_pvs, e1, e2]
        | ok k u =>
          rw [hw] at hr w1
          have k3 := pComma_le k2.2 hw
          have h0 := hI d k (acc ++ [v]) r hr k3.2 hd (by simp; omega)
          rw [← hap] at h0
          obtain ⟨k0, t0, ns0, is0⟩ := v
          simp only [rd_eq, res_ok, J.copied, J.parts, Bool.false_eq_true, if_false, J.pv_mk] at hc b2 t1 hap w1 h0
          simpa [b1, b2, hc, hE, hC, t1, w1, imm_strs, imm_pvs, e1, e2] using h0
def pList (L : List UInt8) (f d i : Nat) : Option (PR J) := if tk sEnd L (skip blank L i) then some (.ok (skip blank L i + 1) (.mk 6 eS [] [])) else pItems L f d (skip blank L i) []
theorem c_list (L : List UInt8) (hl : L.length ≤ 16777216) (f : Nat) (hI : ListOK L f) (d i : Nat) (r : PR J) (hr : pList L f d i = some r) (hi : i ≤ L.length) (hd : d ≤ 256) :
    Cinf T n_json_reader_list [rd L i, .v (.int .i64 d)] = res L 1 J.copied r := by
  have hs := skip_le blank L hi
  have b1 := c_blanks L i hi hl
  have hE : (⟨#[93]⟩ : ByteArray) = sEnd := rfl
  unfold pList at hr
  generalize skip blank L i = p at *
  have t1 := c_takes L p sEnd hl
  simp only [rd_eq] at b1
  cases ht : tk sEnd L p with
  | true =>
    rw [ht] at hr t1
    simp only [if_true, Option.some.injEq, rd_eq] at hr t1
    subst hr
    simp [run_json_reader_list, Run, home, b1, t1, hE, J.copied, J.parts, eS]
  | false =>
    rw [ht] at hr t1
    simp only [Bool.false_eq_true, if_false, rd_eq] at hr t1
    have h0 := hI d p [] r hr hs.2 hd (by simp)
    simp only [rd_eq, List.map_nil] at h0
    cases r with
    | ok j v =>
      obtain ⟨k0, t0, ns0, is0⟩ := v
      simp only [RetE, rd_eq, J.boxed, J.parts] at h0
      simp [run_json_reader_list, Run, home, b1, t1, hE, J.copied, J.parts, h0, -w0_json_reader_list]
    | bad w a =>
      obtain ⟨e', h1⟩ := h0
      simp [run_json_reader_list, Run, home, b1, t1, hE, h1, -w0_json_reader_list]
end Go.AM.F

/- JSON: the program's reader: objects, then every value. No conditions. -/
namespace Go.AM.F
open Go Go.AM
set_option maxRecDepth 10000
set_option linter.unusedSimpArgs false

theorem one_int (k : IntKind) (v : Int) : (Value.int k v).oneCell' = true := rfl
attribute [local simp] one_int
attribute [local simp] j0_json_reader_object j1_json_reader_object j2_json_reader_object j3_json_reader_object w0_json_reader_object b_json_reader_object a_json_reader_object
/-- Where an object's loop stands. -/
abbrev oEnv (L : List UInt8) (d i : Nat) (ns : List ByteArray) (acc : List J) : Env :=
  [(0, .ref 100000 []), (1, .v (.int .i64 d)), (4, z4), (5, .box [.v (.int .u8 7), .v (.string ⟨#[]⟩), .own 1 (ns.map str), .own 4 (acc.map J.pv)]), (6, .mapc (seenE 0 ns) ns.length), (10, .dead), (100000, rd L i)]
def ObjOK (L : List UInt8) (f : Nat) : Prop := ∀ (d i : Nat) (ns : List ByteArray) (acc : List J) (r : PR J), pMembers L f d i ns acc = some r → i ≤ L.length → d ≤ 256 → acc.length ≤ i → ns.length ≤ i →
  RetE L (Exec T l0_json_reader_object (oEnv L d i ns acc)) r
theorem obj_loop (L : List UInt8) (hl : L.length ≤ 16777216) (f : Nat) (hV : ValOK L f) (hI : ObjOK L f) : ObjOK L (f + 1) := by
  intro d i ns acc r hr hi hd ha hn
  have hs := skip_le blank L hi
  have b1 := c_blanks L i hi hl
  simp only [rd_eq] at b1
  have hE : (⟨#[125]⟩ : ByteArray) = sStop := rfl
  have hC : (⟨#[44]⟩ : ByteArray) = sComma := rfl
  have hC2 : (⟨#[58]⟩ : ByteArray) = sColon := rfl
  rw [ex0_json_reader_object]
  simp only [pMembers] at hr
  generalize skip blank L i = p at *
  have y1 := c_byte L p
  have y2 := c_fail L p
  simp only [rd_eq] at y1 y2
  by_cases hp : p < L.length
  case neg =>
    rw [if_neg (fun h => hp h.1), Option.some.injEq] at hr
    subst hr
    rw [if_neg hp] at y1
    simp [RetE, b1, y1]
  rw [if_pos hp] at y1
  by_cases hq : lt L p = 34
  case neg =>
    rw [if_neg (fun h => hq h.2), Option.some.injEq] at hr
    subst hr
    simp [RetE, b1, y1, y2, hq]
  rw [if_pos ⟨hp, hq⟩] at hr
  have t0 := c_text L p hp hl
  cases ht : pText L p with
  | bad w a =>
    rw [ht] at hr t0
    simp only [Option.some.injEq] at hr
    subst hr
    simp only [rd_eq, res_bad] at t0
    simp [RetE, b1, y1, hq, t0]
  | ok j s =>
    rw [ht] at hr t0
    have k1 := pTx_le (show p + 1 ≤ L.length by omega) ht
    simp only at hr
    simp only [rd_eq, res_ok, strP_eq] at t0
    by_cases hm : s ∈ ns
    case pos =>
      rw [if_pos (seen_iff.2 hm), Option.some.injEq] at hr
      subst hr
      obtain ⟨q, m1, ⟨en, m2, m3⟩, m4⟩ := seen_some (c := 0) (i := 0) hm
      have m5 : Instr.sameBits 0 en.key (.string s) = true := by rw [m3]; simp [Instr.sameBits, bytes_eq_iff]
      have m6 := m4 (.int .i64 2)
      simp only [kdOf, Nat.zero_add] at m1 m6
      simp [RetE, b1, y1, hq, t0, m1, m2, m5, m6, kdOf, wrong]
    case neg =>
      rw [if_neg (fun h => hm (seen_iff.1 h))] at hr
      have m1 := seen_none (c := 0) (i := 0) hm
      obtain ⟨q, m2⟩ := seen_new s (c := 0) (i := 0) hm
      simp only [kdOf, Nat.zero_add] at m1 m2
      have k2 := skip_le blank L k1.2
      have b2 := c_blanks L j k1.2 hl
      generalize skip blank L j = j1 at *
      have w1 := c_want L j1 sColon k2.2 hl (by decide)
      have a1 : ns.length + 1 ≤ 8796093022208 := by omega
      have a2 : ns.length ≤ 4611686018427387903 := by omega
      have a3 : (ns.length + 1) * 16 ≤ 140737488355328 := by omega
      cases hw : pWant sColon L j1 with
      | bad w a =>
        rw [hw] at hr w1
        simp only [Option.some.injEq] at hr
        subst hr
        simp only [rd_eq, res_bad] at b2 w1
        simp [RetE, b1, y1, hq, t0, m1, m2, kdOf, b2, hC2, w1]
      | ok j2 u =>
        rw [hw] at hr w1
        have k3 := pWant_le k2.2 hw
        have k4 := skip_le blank L k3.2
        have b3 := c_blanks L j2 k3.2 hl
        simp only at hr
        generalize skip blank L j2 = j3 at *
        simp only [rd_eq, res_ok] at b2 w1 b3
        cases hv : pV L f d j3 with
        | none => rw [hv] at hr; cases hr
        | some r1 =>
          have hc := hV d j3 r1 hv k4.2 hd
          rw [hv] at hr
          cases r1 with
          | bad w a =>
            simp only [Option.some.injEq] at hr
            subst hr
            simp only [rd_eq, res_bad] at hc
            simp [RetE, b1, y1, hq, t0, m1, m2, kdOf, b2, hC2, w1, b3, hc, a1, a2, a3]
          | ok j4 v =>
            have k5 := (p_le L f).1 _ _ _ _ k4.2 hv
            have k6 := skip_le blank L k5.2
            have b4 := c_blanks L j4 k5.2 hl
            simp only at hr
            generalize skip blank L j4 = j5 at *
            have t1 := c_takes L j5 sStop hl
            have e1 : (acc.length + 1) * 72 ≤ 140737488355328 := by omega
            have e2 : acc.length ≤ 4611686018427387903 := by omega
            cases ht : tk sStop L j5 with
            | true =>
              rw [ht] at hr t1
              simp only [if_true, Option.some.injEq] at hr
              subst hr
              obtain ⟨k0, tt0, ns0, is0⟩ := v
              simp only [rd_eq, res_ok, J.copied, J.parts, if_true, J.pv_mk] at hc b4 t1
              simp [RetE, b1, y1, hq, t0, m1, m2, kdOf, b2, hC2, w1, b3, hc, a1, a2, a3, b4, hE, t1, imm_strs, imm_pvs, e1, e2, J.boxed, J.parts, J.pv_mk, eS]
            | false =>
              rw [ht] at hr t1
              simp only [Bool.false_eq_true, if_false] at hr
              have w2 := c_want L j5 sComma k6.2 hl (by decide)
              cases hz : pWant sComma L j5 with
              | bad w a =>
                rw [hz] at hr w2
                simp only [Option.some.injEq] at hr
                subst hr
                obtain ⟨k0, tt0, ns0, is0⟩ := v
                simp only [rd_eq, res_ok, res_bad, J.copied, J.parts, Bool.false_eq_true, if_false, J.pv_mk] at hc b4 t1 w2
                simp [RetE, b1, y1, hq, t0, m1, m2, kdOf, b2, hC2, w1, b3, hc, a1, a2, a3, b4, hE, hC, t1, w2, imm_strs, imm_pvs, e1, e2]
              | ok k u =>
                rw [hz] at hr w2
                have k7 := pComma_le k6.2 hz
                have h0 := hI d k (ns ++ [s]) (acc ++ [v]) r hr k7.2 hd (by simp; omega) (by simp; omega)
                have hap : acc.map J.pv ++ [v.pv] = (acc ++ [v]).map J.pv := by simp
                have han : ns.map str ++ [.v (.string s)] = (ns ++ [s]).map str := by simp
                rw [oEnv, ← hap, ← han, seenE_append, Nat.zero_add, List.length_append, List.length_singleton] at h0
                obtain ⟨k0, tt0, ns0, is0⟩ := v
                simp only [rd_eq, res_ok, J.copied, J.parts, Bool.false_eq_true, if_false, J.pv_mk] at hc b4 t1 w2 h0
                simpa [b1, y1, hq, t0, m1, m2, kdOf, b2, hC2, w1, b3, hc, a1, a2, a3, b4, hE, hC, t1, w2, imm_strs, imm_pvs, e1, e2] using h0
def pObject (L : List UInt8) (f d i : Nat) : Option (PR J) := if tk sStop L (skip blank L i) then some (.ok (skip blank L i + 1) (.mk 7 eS [] [])) else pMembers L f d (skip blank L i) [] []
theorem c_object (L : List UInt8) (hl : L.length ≤ 16777216) (f : Nat) (hI : ObjOK L f) (d i : Nat) (r : PR J) (hr : pObject L f d i = some r) (hi : i ≤ L.length) (hd : d ≤ 256) :
    Cinf T n_json_reader_object [rd L i, .v (.int .i64 d)] = res L 1 J.copied r := by
  have hs := skip_le blank L hi
  have b1 := c_blanks L i hi hl
  have hE : (⟨#[125]⟩ : ByteArray) = sStop := rfl
  unfold pObject at hr
  generalize skip blank L i = p at *
  have t1 := c_takes L p sStop hl
  simp only [rd_eq] at b1
  cases ht : tk sStop L p with
  | true =>
    rw [ht] at hr t1
    simp only [if_true, Option.some.injEq, rd_eq] at hr t1
    subst hr
    simp [run_json_reader_object, Run, home, b1, t1, hE, J.copied, J.parts, eS]
  | false =>
    rw [ht] at hr t1
    simp only [Bool.false_eq_true, if_false, rd_eq] at hr t1
    have h0 := hI d p [] [] r hr hs.2 hd (by simp) (by simp)
    simp only [oEnv, rd_eq, List.map_nil, seenE, List.length_nil] at h0
    cases r with
    | ok j v =>
      obtain ⟨k0, tt0, ns0, is0⟩ := v
      simp only [RetE, rd_eq, J.boxed, J.parts] at h0
      simp [run_json_reader_object, Run, home, b1, t1, hE, J.copied, J.parts, h0, -w0_json_reader_object]
    | bad w a =>
      obtain ⟨e', h1⟩ := h0
      simp [run_json_reader_object, Run, home, b1, t1, hE, h1, -w0_json_reader_object]
theorem all_ok (L : List UInt8) (hl : L.length ≤ 16777216) : ∀ f : Nat, ValOK L f ∧ ListOK L f ∧ ObjOK L f
  | 0 => ⟨fun _ _ _ h => by simp [pV] at h, fun _ _ _ _ h => by simp [pItems] at h, fun _ _ _ _ _ h => by simp [pMembers] at h⟩
  | f + 1 => by
    obtain ⟨h1, h2, h3⟩ := all_ok L hl f
    refine ⟨fun d i r hr hi hd => ?_, list_loop L hl f h1 h2, obj_loop L hl f h1 h3⟩
    simp only [pV] at hr
    by_cases hlt : i < L.length
    · rw [if_pos hlt] at hr
      by_cases hc : lt L i = 91 ∨ lt L i = 123
      · rw [if_pos hc] at hr
        by_cases hd2 : d = 256
        · subst hd2
          rw [if_pos rfl, Option.some.injEq] at hr
          subst hr
          exact c_value_deep L i hlt hc
        · rw [if_neg hd2] at hr
          by_cases hc2 : lt L i = 91
          · rw [if_pos hc2] at hr
            exact c_value_list L i d r hlt hl (by omega) hc2 (c_list L hl f h2 (d + 1) (i + 1) r hr (by omega) (by omega))
          · rw [if_neg hc2] at hr
            exact c_value_object L i d r hlt hl (by omega) (hc.resolve_left hc2) (c_object L hl f h3 (d + 1) (i + 1) r hr (by omega) (by omega))
      · rw [if_neg hc, Option.some.injEq] at hr
        subst hr
        exact c_value_flat L i d hlt hl hc
    · rw [if_neg hlt, Option.some.injEq] at hr
      subst hr
      exact c_value_end L i d hlt
end Go.AM.F

/- JSON: the program's Parse. No conditions. -/
namespace Go.AM.F
open Go Go.AM
set_option maxRecDepth 10000
set_option linter.unusedSimpArgs false

def zeroJ : J := .mk 0 eS [] []
/-- What a text is read as: the value, what is wrong, where. -/
def pEnd (L : List UInt8) : PR J → J × Nat × Nat
  | .bad w a => (zeroJ, w, a)
  | .ok j v => if skip blank L j < L.length then (zeroJ, 100, skip blank L j) else (v, 0, 0)
def pParse (L : List UInt8) (f : Nat) : Option (J × Nat × Nat) :=
  if 16777216 < L.length then some (zeroJ, 4, 0) else (pV L f 0 (skip blank L 0)).map (pEnd L)
def told (r : J × Nat × Nat) : PV := .tup [r.1.copied, .v (.int .i64 (r.2.1 : Nat)), .v (.int .i64 (r.2.2 : Nat))]
attribute [local simp] j0_json_Parse j1_json_Parse j2_json_Parse b_json_Parse a_json_Parse hnd_json_Parse
theorem c_Parse (L : List UInt8) (f : Nat) (r : J × Nat × Nat) (hr : pParse L f = some r) (hL : L.length ≤ 140737488355328) : Cinf T n_json_Parse [.ro 1 (bl L)] = some (told r, [.dead]) := by
  unfold pParse at hr
  by_cases hl : 16777216 < L.length
  · rw [if_pos hl, Option.some.injEq] at hr
    subst hr
    have h2 : (16777216 : Int) < L.length := by omega
    simp [run_json_Parse, Run, home, hl, h2, told, zeroJ, J.copied, J.parts, eS]
  · rw [if_neg hl] at hr
    have hl2 : L.length ≤ 16777216 := by omega
    have h2 : ¬ (16777216 : Int) < L.length := by omega
    have b1 := c_blanks L 0 (Nat.zero_le _) hl2
    have hs := skip_le blank L (Nat.zero_le L.length)
    generalize skip blank L 0 = p at *
    cases hv : pV L f 0 p with
    | none => rw [hv] at hr; cases hr
    | some q =>
      rw [hv, Option.map_some, Option.some.injEq] at hr
      subst hr
      have hc := (all_ok L hl2 f).1 0 p q hv hs.2 (by omega)
      cases q with
      | bad w a =>
        simp only [rd_eq, res_bad, Int.natCast_zero] at hc b1
        simp [run_json_Parse, Run, home, hl, h2, told, zeroJ, J.copied, J.parts, eS, b1, hc, pEnd, wrong]
      | ok j v =>
        have k1 := (p_le L f).1 _ _ _ _ hs.2 hv
        have b2 := c_blanks L j k1.2 hl2
        have k2 := skip_le blank L k1.2
        unfold pEnd
        simp only
        generalize skip blank L j = i at *
        have hf := c_fail L i
        obtain ⟨k0, tt0, ns0, is0⟩ := v
        simp only [rd_eq, res_ok, Int.natCast_zero, J.copied, J.parts] at hc b1 b2 hf
        by_cases hi : i < L.length
        · rw [if_pos hi]
          simp [run_json_Parse, Run, home, hl, h2, told, zeroJ, J.copied, J.parts, eS, b1, hc, b2, hi, hf, wrong]
        · rw [if_neg hi]
          simp [run_json_Parse, Run, home, hl, h2, told, J.copied, J.parts, b1, hc, b2, hi, imm_strs, imm_pvs]
end Go.AM.F
