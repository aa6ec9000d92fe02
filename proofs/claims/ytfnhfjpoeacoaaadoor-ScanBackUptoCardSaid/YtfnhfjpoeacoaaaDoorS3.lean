/- Functions of one byte, by running them at all bytes. No conditions. -/
import Derived.Test.YtfnhfjpoeacoaaaDoorS1
import Derived.KernelRfl
namespace Go.AM.F
open Go Go.AM
set_option maxRecDepth 100000
set_option linter.unusedSimpArgs false

def u8 (n : Nat) : PV := .v (.int .u8 n)
def byteRuns (f : FuncId) (r : Nat → PV) : Prop := (List.range 256).map (fun c => callN T 9 f [.v (.int .u8 (c : Nat))]) = (List.range 256).map fun c => some (r c, [.dead])
theorem byteRuns_ok {f : FuncId} {r : Nat → PV} (h : byteRuns f r) (c : Nat) (hc : c < 256) : Cinf T f [.v (.int .u8 (c : Nat))] = some (r c, [.dead]) := by
  refine Cinf_iff.2 ⟨9, ?_⟩
  have := congrArg (·[c]?) h
  simp only [List.getElem?_map, List.getElem?_range hc, Option.map_some, Option.some.injEq] at this
  exact this
def letterB (c : Nat) : Bool := decide (97 ≤ c ∧ c ≤ 122) || decide (65 ≤ c ∧ c ≤ 90)
def digitB (c : Nat) : Bool := decide (48 ≤ c ∧ c ≤ 57)
def blankB (c : Nat) : Bool := decide (c = 32) || decide (c = 9)
def markB (c : Nat) : Bool := [44, 58, 59, 61, 60, 62, 40, 41, 91, 93, 123, 125, 124].contains c
def hexN (c : Nat) : Option Nat := if 48 ≤ c ∧ c ≤ 57 then some (c - 48) else if 97 ≤ c ∧ c ≤ 102 then some (c - 87) else if 65 ≤ c ∧ c ≤ 70 then some (c - 55) else none
/-- A byte's class. -/
def cls (c : Nat) : Nat := if letterB c || decide (c = 95) then 1 else if digitB c then 2 else if c = 43 ∨ c = 45 then 4 else if c = 46 then 8 else if markB c then 16 else if blankB c then 32 else 0
theorem c_of (c : Nat) (hc : c < 256) : Cinf T n_scan_of [.v (.int .u8 (c : Nat))] = some (.v (.int .u8 (cls c : Nat)), [.dead]) :=
  byteRuns_ok (r := fun c => .v (.int .u8 (cls c : Nat))) (by unfold byteRuns; kernel_rfl) c hc
def hexR (c : Nat) : PV := match hexN c with | some d => .tup [.v (.int .u8 (d : Nat)), .v (.bool true)] | none => .tup [.v (.int .u8 0), .v (.bool false)]
theorem c_hex (c : Nat) (hc : c < 256) : Cinf T n_scan_hex [.v (.int .u8 (c : Nat))] = some (hexR c, [.dead]) :=
  byteRuns_ok (r := hexR) (by unfold byteRuns; kernel_rfl) c hc
def rhexR (c : Nat) : PV := match hexN c with | some d => .v (.int .i64 (d : Nat)) | none => .v (.int .i64 (-1))
end Go.AM.F
