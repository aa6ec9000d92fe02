/- Quoted texts, as the document has them; marks. No conditions. -/
import Derived.Test.YtfnhfjpoeacoaaaDoorS5
namespace Go.AM.F
open Go Go.AM
set_option maxRecDepth 10000
set_option linter.unusedSimpArgs false
theorem u8_nat {n : Nat} (h : n < 256) : IntKind.u8.wrap (n : Int) = n := by
  simp only [IntKind.wrap, IntKind.signed, IntKind.bits]
  simp
  omega
def qR : QR → Nat → Option (Out × Env)
  | .ok l e, _ => some (.ret, [(4, .v (.string (bytesOf l))), (5, .v (.int .i64 (e : Nat))), (6, .v (.bool true))])
  | .bad p, _ => some (.ret, [(4, .v (.string ⟨#[]⟩)), (5, .v (.int .i64 (p : Nat))), (6, .v (.bool false))])
  | .over _, n => some (.ret, [(4, .v (.string ⟨#[]⟩)), (5, .v (.int .i64 (n : Nat))), (6, .v (.bool false))])
def quotedR : (ByteArray × Nat) ⊕ Nat → PV
  | .inl (t, e) => .tup [.v (.string t), .v (.int .i64 (e : Nat)), .v (.bool true)]
  | .inr p => .tup [.v (.string ⟨#[]⟩), .v (.int .i64 (p : Nat)), .v (.bool false)]
def marks : List Nat := [44, 58, 59, 61, 60, 62, 40, 41, 91, 93, 123, 125, 124]
end Go.AM.F
