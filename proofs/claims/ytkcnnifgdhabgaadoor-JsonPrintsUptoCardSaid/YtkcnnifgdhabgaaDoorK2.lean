/- JSON: the program's reader: digits, numbers, words. No conditions. -/
import Derived.Test.YtkcnnifgdhabgaaDoorK1
namespace Go.AM.F
open Go Go.AM
set_option maxRecDepth 10000
set_option linter.unusedSimpArgs false

/-- What a piece of reading ends in: how far, with what; or the fault and its place. -/
inductive PR (α : Type) where
  | ok (i : Nat) (a : α)
  | bad (why at_ : Nat)
def PR.bind {α β : Type} (x : PR α) (f : Nat → α → PR β) : PR β := match x with
  | .ok i a => f i a
  | .bad w a => .bad w a
@[simp] theorem PR.bind_ok {α β : Type} (i : Nat) (a : α) (f : Nat → α → PR β) : (PR.ok i a).bind f = f i a := rfl
@[simp] theorem PR.bind_bad {α β : Type} (w a : Nat) (f : Nat → α → PR β) : (PR.bad w a : PR α).bind f = .bad w a := rfl
/-- The answer of a reader's method that has k arguments beside the reader. -/
def res {α : Type} (L : List UInt8) (k : Nat) (f : α → PV) : PR α → Option (PV × List PV)
  | .ok i a => some (f a, rd L i :: List.replicate k .dead)
  | .bad w a => some (.pan (wrong w a), List.replicate (k + 1) .dead)
@[simp] theorem res_ok {α : Type} (L : List UInt8) (k : Nat) (f : α → PV) (i : Nat) (a : α) : res L k f (.ok i a) = some (f a, rd L i :: List.replicate k .dead) := rfl
@[simp] theorem res_bad {α : Type} (L : List UInt8) (k : Nat) (f : α → PV) (w a : Nat) : res L k f (.bad w a) = some (.pan (wrong w a), List.replicate (k + 1) .dead) := rfl
def unitPV : Unit → PV := fun _ => .tup []
@[simp] theorem unitPV_eq (u : Unit) : unitPV u = .tup [] := rfl
def pDigits (L : List UInt8) (i : Nat) : PR Unit := if decide (i < L.length) && digit (lt L i) then .ok (skip digit L i) () else .bad 100 i
def sMinus : ByteArray := ⟨#[45]⟩
def sZero : ByteArray := ⟨#[48]⟩
def sPoint : ByteArray := ⟨#[46]⟩
def sExp : ByteArray := ⟨#[101, 69]⟩
def sSign : ByteArray := ⟨#[43, 45]⟩
def past (s : ByteArray) (L : List UInt8) (i : Nat) : Nat := if tk s L i then i + 1 else i
def pInt (L : List UInt8) (i : Nat) : PR Unit := if tk sZero L i then .ok (i + 1) () else pDigits L i
def pFrac (L : List UInt8) (i : Nat) : PR Unit := if tk sPoint L i then pDigits L (i + 1) else .ok i ()
def pExp (L : List UInt8) (i : Nat) : PR Unit := if tk sExp L i then pDigits L (past sSign L (i + 1)) else .ok i ()
def pNumber (L : List UInt8) (i : Nat) : PR Unit := (pInt L (past sMinus L i)).bind fun i _ => (pFrac L i).bind fun i _ => pExp L i
attribute [local simp] j0_json_reader_digits w0_json_reader_digits j1_json_reader_digits b_json_reader_digits a_json_reader_digits
attribute [local simp] j0_json_reader_number j1_json_reader_number b_json_reader_number a_json_reader_number
theorem digits_loop (L : List UInt8) (hl : L.length ≤ 16777216) : ∀ (m i : Nat), L.length - i = m → i ≤ L.length → Exec T l0_json_reader_digits [(0, .ref 100000 []), (100000, rd L i)] = some (.exit 0, [(0, .ref 100000 []), (100000, rd L (skip digit L i))]) := by
  intro m
  induction m with
  | zero =>
    intro i hm hi
    have h1 : ¬ i < L.length := by omega
    have hd := c_digit L i
    simp only [rd_eq] at hd
    rw [ex0_json_reader_digits, skip_end _ _ (by omega)]
    simp [h1, hd]
  | succ m ih =>
    intro i hm hi
    have h1 : i < L.length := by omega
    have h0 := ih (i + 1) (by omega) (by omega)
    have hw := wrap_succ h1 (by omega)
    have hd := c_digit L i
    rw [ex0_json_reader_digits, skip_step _ _ h1]
    simp only [rd_eq, succ_cast] at h0 hd
    cases c1 : digit (lt L i)
    · simp [h1, hd, c1]
    · simp [h1, hd, c1, hw, h0]
theorem c_digits (L : List UInt8) (i : Nat) (hi : i ≤ L.length) (hl : L.length ≤ 16777216) : Cinf T n_json_reader_digits [rd L i] = res L 0 unitPV (pDigits L i) := by
  have hd := c_digit L i
  have hf := c_fail L i
  have h := digits_loop L hl _ i rfl hi
  simp only [rd_eq] at hd hf h
  cases c : (decide (i < L.length) && digit (lt L i))
  · simp [run_json_reader_digits, Run, home, hd, hf, c, pDigits]
  · simp [run_json_reader_digits, Run, home, hd, h, c, pDigits]
theorem past_le (s : ByteArray) (L : List UInt8) {i : Nat} (hi : i ≤ L.length) : i ≤ past s L i ∧ past s L i ≤ L.length := by
  unfold past tk
  split
  · rename_i h
    simp at h
    omega
  · omega
theorem pDigits_le {L : List UInt8} {i j : Nat} {u : Unit} (h : pDigits L i = .ok j u) : i < j ∧ j ≤ L.length := by
  unfold pDigits at h
  split at h
  · rename_i hc
    cases h
    simp only [Bool.and_eq_true, decide_eq_true_eq] at hc
    rw [skip_step _ _ hc.1, if_pos hc.2]
    have := skip_le digit L (show i + 1 ≤ L.length by omega)
    omega
  · cases h
theorem pInt_le {L : List UInt8} {i j : Nat} {u : Unit} (h : pInt L i = .ok j u) : i < j ∧ j ≤ L.length := by
  unfold pInt at h
  split at h
  · rename_i hc
    cases h
    unfold tk at hc
    simp at hc
    omega
  · exact pDigits_le h
theorem pFrac_le {L : List UInt8} {i j : Nat} {u : Unit} (hi : i ≤ L.length) (h : pFrac L i = .ok j u) : i ≤ j ∧ j ≤ L.length := by
  unfold pFrac at h
  split at h
  · have := pDigits_le h
    omega
  · cases h
    omega
theorem pExp_le {L : List UInt8} {i j : Nat} {u : Unit} (hi : i ≤ L.length) (h : pExp L i = .ok j u) : i ≤ j ∧ j ≤ L.length := by
  unfold pExp at h
  split at h
  · rename_i hc
    have h1 := pDigits_le h
    unfold tk at hc
    simp at hc
    have h2 := past_le sSign L (show i + 1 ≤ L.length by omega)
    omega
  · cases h
    omega
/-- What a part of a function leaves: the reader where it stands, or a panic. -/
def Leaves (L : List UInt8) (x : Option (Out × Env)) : PR Unit → Prop
  | .ok i _ => ∃ e', x = some (.normal, e') ∧ e'.get 100000 = rd L i
  | .bad w a => ∃ e', x = some (.pan (wrong w a), e')
theorem exp_part (L : List UInt8) (i : Nat) (hl : L.length ≤ 16777216) : Leaves L (Exec T j0_json_reader_number [(0, .ref 100000 []), (100000, rd L i)]) (pExp L i) := by
  have t1 := c_takes L i sExp hl
  simp only [rd_eq] at t1
  have hx : (Value.string { data := #[101, 69] }) = .string sExp := rfl
  have hs : (Value.string { data := #[43, 45] }) = .string sSign := rfl
  unfold pExp
  cases a1 : tk sExp L i
  · simp [Leaves, hx, hs, t1, a1]
  · have hlt : i < L.length := by unfold tk at a1; simp at a1; omega
    have t2 := c_takes L (i + 1) sSign hl
    have hk : past sSign L (i + 1) = if tk sSign L (i + 1) = true then i + 1 + 1 else i + 1 := rfl
    rw [← hk] at t2
    have hb := (past_le sSign L (show i + 1 ≤ L.length by omega)).2
    generalize past sSign L (i + 1) = k at t2 hb ⊢
    have d := c_digits L k hb hl
    simp only [rd_eq, succ_cast] at t2 d
    cases hd : pDigits L k with
    | ok j u => simp [Leaves, hx, hs, t1, a1, t2, d, hd]
    | bad w a => simp [Leaves, hx, hs, t1, a1, t2, d, hd]
theorem frac_part (L : List UInt8) (i : Nat) (hi : i ≤ L.length) (hl : L.length ≤ 16777216) : Leaves L (Exec T j1_json_reader_number [(0, .ref 100000 []), (100000, rd L i)]) ((pFrac L i).bind fun i _ => pExp L i) := by
  have t1 := c_takes L i sPoint hl
  simp only [rd_eq] at t1
  have hx : (Value.string { data := #[46] }) = .string sPoint := rfl
  unfold pFrac
  cases a1 : tk sPoint L i
  · have h := exp_part L i hl
    simp only [Bool.false_eq_true, if_false, PR.bind_ok]
    simp only [rd_eq] at h
    simpa [hx, t1, a1, -j0_json_reader_number] using h
  · have hlt : i < L.length := by unfold tk at a1; simp at a1; omega
    have d := c_digits L (i + 1) (by omega) hl
    simp only [rd_eq, succ_cast] at d
    simp only [if_true]
    cases hd : pDigits L (i + 1) with
    | bad w a => simp [Leaves, hx, t1, a1, d, hd]
    | ok j u =>
      have h := exp_part L j hl
      simp only [rd_eq] at h
      simp only [PR.bind_ok]
      simpa [hx, t1, a1, d, hd, -j0_json_reader_number] using h
theorem c_number (L : List UInt8) (i : Nat) (hi : i ≤ L.length) (hl : L.length ≤ 16777216) : Cinf T n_json_reader_number [rd L i] = res L 0 unitPV (pNumber L i) := by
  have t1 := c_takes L i sMinus hl
  have hx : (Value.string { data := #[45] }) = .string sMinus := rfl
  have hz : (Value.string { data := #[48] }) = .string sZero := rfl
  have hk : past sMinus L i = if tk sMinus L i = true then i + 1 else i := rfl
  rw [← hk] at t1
  have hb := (past_le sMinus L hi).2
  unfold pNumber
  generalize past sMinus L i = k at t1 hb ⊢
  have t2 := c_takes L k sZero hl
  have d := c_digits L k hb hl
  simp only [rd_eq] at t1 t2 d
  have fin : ∀ {x : Option (Out × Env)} {r : PR Unit}, Leaves L x r → finish a_json_reader_number [rd L i] x = res L 0 unitPV r := by
    intro x r h
    cases r with
    | ok m u =>
      obtain ⟨e', rfl, h⟩ := h
      simp only [rd_eq] at h
      simp [home, h]
    | bad w a =>
      obtain ⟨e', rfl⟩ := h
      simp [home]
  have hI : pInt L k = if tk sZero L k then .ok (k + 1) () else pDigits L k := rfl
  cases a1 : tk sZero L k
  · rw [hI, a1]
    simp only [Bool.false_eq_true, if_false]
    cases hd : pDigits L k with
    | bad w a => simp [run_json_reader_number, Run, home, hx, hz, t1, t2, d, a1, hd]
    | ok j u =>
      rw [PR.bind_ok, ← fin (frac_part L j (pDigits_le hd).2 hl)]
      simp [run_json_reader_number, Run, home, hx, hz, t1, t2, d, a1, hd, -j1_json_reader_number, -a_json_reader_number]
      simp [home, hx, hz, t1, t2, d, a1, hd, -j1_json_reader_number]
  · rw [hI, a1]
    have hlt : k < L.length := by unfold tk at a1; simp at a1; omega
    simp only [if_true]
    rw [PR.bind_ok, ← fin (frac_part L (k + 1) (by omega) hl)]
    simp [run_json_reader_number, Run, home, hx, hz, t1, t2, d, a1, -j1_json_reader_number]
end Go.AM.F
