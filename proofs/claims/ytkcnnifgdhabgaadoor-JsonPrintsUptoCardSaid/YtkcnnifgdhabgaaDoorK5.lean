/- JSON: the length of a right character, as the program and as the library find it. No conditions. -/
import Derived.Test.YtkcnnifgdhabgaaDoorK4
namespace Go.AM.F
open Go Go.AM
set_option maxRecDepth 10000
set_option linter.unusedSimpArgs false

def fstv (c : Nat) : Nat := if c < 128 then 240 else if c < 194 then 241 else if c < 224 then 2 else if c = 224 then 19 else if c < 237 then 3 else if c = 237 then 35 else if c < 240 then 3 else if c = 240 then 52 else if c < 244 then 4 else if c = 244 then 68 else 241
theorem first_all : (List.range 256).all (fun c => match glob0[c]? with | some (.v (.int .u8 z)) => decide (z = (fstv c : Int)) | _ => false) = true := by kernel_rfl
theorem first_get {c : Nat} (h : c < 256) : glob0[c]? = some (.v (.int .u8 (fstv c : Nat))) := by
  have := List.all_eq_true.1 first_all c (by simp [h])
  split at this
  · rename_i z hz
    rw [hz, of_decide_eq_true this]
  · cases this
theorem glob1_len : glob1.length = 32 := by kernel_rfl
def cont (c : Nat) : Bool := decide (128 ≤ c) && decide (c ≤ 191)
/-- What the second letter must be at least, at most. -/
def lo1 (c : Nat) : Nat := if c = 224 then 160 else if c = 240 then 144 else 128
def hi1 (c : Nat) : Nat := if c = 237 then 159 else if c = 244 then 143 else 191
def in1 (c d : Nat) : Bool := decide (lo1 c ≤ d) && decide (d ≤ hi1 c)
/-- The length of the right character at the beginning; 0: there is none. -/
def uc (M : List UInt8) : Nat :=
  if M.length = 0 then 0 else if lt M 0 < 128 then 1 else if lt M 0 < 194 then 0
  else if lt M 0 < 224 then (if 1 < M.length ∧ cont (lt M 1) = true then 2 else 0)
  else if lt M 0 < 240 then (if 2 < M.length ∧ in1 (lt M 0) (lt M 1) = true ∧ cont (lt M 2) = true then 3 else 0)
  else if lt M 0 < 245 then (if 3 < M.length ∧ in1 (lt M 0) (lt M 1) = true ∧ cont (lt M 2) = true ∧ cont (lt M 3) = true then 4 else 0)
  else 0
/-- What is told of a character. -/
def Told (x m : Int) (n : Nat) : Prop := (n = 0 → x = 65533 ∧ m ≤ 1) ∧ (n ≠ 0 → m = n ∧ (m ≤ 1 → x ≠ 65533))
theorem told_err : Told 65533 1 0 := ⟨fun _ => ⟨rfl, by decide⟩, fun h => (h rfl).elim⟩
theorem w_mask : IntKind.i32.wrap 517543559168 = -2147483648 := by simp [IntKind.wrap, IntKind.signed, IntKind.bits]
theorem w_shift : (-2147483648 : Int).fdiv 2147483648 = -1 := by rfl
theorem w_not : (~~~BitVec.ofInt IntKind.i32.bits (-1)) = 0#_ := by rfl
theorem w_zero : IntKind.i32.wrap ((0#IntKind.i32.bits).toNat : Int) = 0 := by rfl
theorem w_and : IntKind.i32.wrap (BitVec.ofInt IntKind.i32.bits 65533 &&& BitVec.ofInt IntKind.i32.bits (-1)).toNat = 65533 := by rfl
theorem w_or : IntKind.i32.wrap (BitVec.ofInt IntKind.i32.bits 0 ||| BitVec.ofInt IntKind.i32.bits 65533).toNat = 65533 := by rfl
/-- Is the rest of a character right: its second letter, its third, its fourth? -/
def rest (M : List UInt8) (sz lo hi : Nat) : Prop := lo ≤ lt M 1 ∧ lt M 1 ≤ hi ∧ (3 ≤ sz → cont (lt M 2) = true) ∧ (4 ≤ sz → cont (lt M 3) = true)
def Says (x : Option (Out × Env)) (p : Prop) (sz : Nat) : Prop := (p ∧ ∃ y : Int, x = some (.ret, [(2, .v (.int .i32 y)), (3, .v (.int .i64 sz))])) ∨ (¬ p ∧ x = some (.ret, [(2, .v (.int .i32 65533)), (3, .v (.int .i64 1))]))
theorem opsRun_append {C : Oracle} (all : List GOp) : ∀ (a b : List GOp) (e : Env), opsRun T C all (a ++ b) e = (opsRun T C all a e).bind (opsRun T C all b)
  | [], b, e => rfl
  | o :: r, b, e => by
    simp only [List.cons_append, opsRun]
    cases wantedA all e o.g with
    | none => rfl
    | some t =>
      cases t
      · exact opsRun_append all r b _
      · simp only
        cases ev T C e o.op with
        | none => rfl
        | some q => exact opsRun_append all r b _
def swapA (A : IR) : IR → IR
  | .seq r4 (.seq r5 (.seq (.seq r6 (.cond ks c _ s)) k)) => .seq r4 (.seq r5 (.seq (.seq r6 (.cond ks c A s)) k))
  | x => x
end Go.AM.F
