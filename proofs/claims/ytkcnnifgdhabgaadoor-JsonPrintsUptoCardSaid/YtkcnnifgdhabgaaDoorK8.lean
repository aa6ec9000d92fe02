/- JSON: values as trees, the plain reading of a value, the map of the names that were seen. No conditions. -/
import Derived.Test.YtkcnnifgdhabgaaDoorK7
namespace Go.AM.F
open Go Go.AM
set_option maxRecDepth 10000
set_option linter.unusedSimpArgs false

/-! ### Values -/
def strs (l : List ByteArray) : PV := .ro 1 (l.map str)
inductive J where
  | mk (k : Int) (t : ByteArray) (ns : List ByteArray) (is : List J)
mutual
def J.pv : J → PV
  | .mk k t ns is => .agg [.v (.int .u8 k), str t, strs ns, .ro 4 (J.pvL is)]
def J.pvL : List J → List PV
  | [] => []
  | j :: r => j.pv :: J.pvL r
end
theorem pvL_map (l : List J) : J.pvL l = l.map J.pv := by
  induction l with
  | nil => rfl
  | cons j r ih => simp [J.pvL, ih]
def J.parts : J → List PV
  | .mk k t ns is => [.v (.int .u8 k), .v (.string t), .own 1 (ns.map str), .own 4 (is.map J.pv)]
def J.copied (j : J) : PV := .agg j.parts
theorem J.pv_mk (k : Int) (t : ByteArray) (ns : List ByteArray) (is : List J) : (J.mk k t ns is).pv = .agg [.v (.int .u8 k), .v (.string t), .ro 1 (ns.map str), .ro 4 (is.map J.pv)] := by
  simp only [J.pv, pvL_map, strs, str]
theorem imm_strs (l : List ByteArray) : PV.immL (l.map str) = true := by
  induction l with
  | nil => rfl
  | cons x r ih => simp [ih]
theorem imm_pvs (l : List J) : PV.immL (l.map J.pv) = true := by
  induction l with
  | nil => rfl
  | cons x r ih =>
    obtain ⟨k, t, ns, is⟩ := x
    simp [ih, J.pv_mk]
/-! ### The plain reading -/
def eS : ByteArray := ⟨#[]⟩
def sNull : ByteArray := ⟨#[110, 117, 108, 108]⟩
def sFalse : ByteArray := ⟨#[102, 97, 108, 115, 101]⟩
def sTrue : ByteArray := ⟨#[116, 114, 117, 101]⟩
def sEnd : ByteArray := ⟨#[93]⟩
def sStop : ByteArray := ⟨#[125]⟩
def sComma : ByteArray := ⟨#[44]⟩
def sColon : ByteArray := ⟨#[58]⟩
/-- What a value that holds no values is read as. -/
def pFlat (L : List UInt8) (i : Nat) : PR J :=
  if lt L i = 110 then (pWant sNull L i).bind fun j _ => .ok j (.mk 1 eS [] [])
  else if lt L i = 102 then (pWant sFalse L i).bind fun j _ => .ok j (.mk 2 eS [] [])
  else if lt L i = 116 then (pWant sTrue L i).bind fun j _ => .ok j (.mk 3 eS [] [])
  else if lt L i = 34 then (pText L i).bind fun j s => .ok j (.mk 5 s [] [])
  else if lt L i = 45 ∨ digit (lt L i) = true then (pNumber L i).bind fun j _ => .ok j (.mk 4 (tx ((L.drop i).take (j - i))) [] [])
  else .bad 100 i
def seen (s : ByteArray) (ns : List ByteArray) : Bool := ns.any fun x => s == x
theorem seen_iff {s : ByteArray} {ns : List ByteArray} : seen s ns = true ↔ s ∈ ns := by
  unfold seen
  rw [List.any_eq_true]
  constructor
  · rintro ⟨x, h1, h2⟩
    rw [bytes_eq_iff] at h2
    have h3 : s = x := by simpa using h2
    rw [h3]
    exact h1
  · intro h
    exact ⟨s, h, by rw [bytes_eq_iff]; simp⟩
mutual
def pV (L : List UInt8) : Nat → Nat → Nat → Option (PR J)
  | 0, _, _ => none
  | f + 1, d, i =>
    if i < L.length then
      if lt L i = 91 ∨ lt L i = 123 then
        if d = 256 then some (.bad 101 i)
        else if lt L i = 91 then
          (if tk sEnd L (skip blank L (i + 1)) then some (.ok (skip blank L (i + 1) + 1) (.mk 6 eS [] [])) else pItems L f (d + 1) (skip blank L (i + 1)) [])
        else (if tk sStop L (skip blank L (i + 1)) then some (.ok (skip blank L (i + 1) + 1) (.mk 7 eS [] [])) else pMembers L f (d + 1) (skip blank L (i + 1)) [] [])
      else some (pFlat L i)
    else some (.bad 100 i)
def pItems (L : List UInt8) : Nat → Nat → Nat → List J → Option (PR J)
  | 0, _, _, _ => none
  | f + 1, d, i, acc =>
    match pV L f d (skip blank L i) with
    | none => none
    | some (.bad w a) => some (.bad w a)
    | some (.ok j v) =>
      if tk sEnd L (skip blank L j) then some (.ok (skip blank L j + 1) (.mk 6 eS [] (acc ++ [v])))
      else match pWant sComma L (skip blank L j) with
        | .bad w a => some (.bad w a)
        | .ok k _ => pItems L f d k (acc ++ [v])
def pMembers (L : List UInt8) : Nat → Nat → Nat → List ByteArray → List J → Option (PR J)
  | 0, _, _, _, _ => none
  | f + 1, d, i, ns, acc =>
    let a := skip blank L i
    if a < L.length ∧ lt L a = 34 then
      match pText L a with
      | .bad w b => some (.bad w b)
      | .ok j s =>
        if seen s ns = true then some (.bad 102 a)
        else match pWant sColon L (skip blank L j) with
          | .bad w b => some (.bad w b)
          | .ok k _ => match pV L f d (skip blank L k) with
            | none => none
            | some (.bad w b) => some (.bad w b)
            | some (.ok m v) =>
              if tk sStop L (skip blank L m) then some (.ok (skip blank L m + 1) (.mk 7 eS (ns ++ [s]) (acc ++ [v])))
              else match pWant sComma L (skip blank L m) with
                | .bad w b => some (.bad w b)
                | .ok q _ => pMembers L f d q (ns ++ [s]) (acc ++ [v])
    else some (.bad 100 a)
end
/-! ### The names that were seen -/
def seenE : Nat → List ByteArray → List MapEntry
  | _, [] => []
  | c, s :: r => ⟨.string s, .int .i64 1, c⟩ :: seenE (c + 1) r
theorem seenE_append (s : ByteArray) : ∀ (ns : List ByteArray) (c : Nat), seenE c (ns ++ [s]) = seenE c ns ++ [⟨.string s, .int .i64 1, c + ns.length⟩]
  | [], c => rfl
  | x :: r, c => by
    simp only [List.cons_append, seenE, seenE_append s r, List.length_cons]
    rw [show c + 1 + r.length = c + (r.length + 1) by omega]
theorem seen_none {s : ByteArray} : ∀ {ns : List ByteArray} {c i : Nat}, s ∉ ns → Instr.findNow (kdOf none) (.string s) (seenE c ns) i = some none
  | [], _, _, _ => rfl
  | x :: r, c, i, h => by
    have h1 : s ≠ x := fun e => h (by simp [e])
    have h2 : (s == x) = false := by rw [bytes_eq_iff]; simpa using h1
    simp only [seenE, Instr.findNow, kdOf, Instr.sameNow, h2]
    exact seen_none (fun hm => h (by simp [hm]))
theorem seen_some {s : ByteArray} : ∀ {ns : List ByteArray} {c i : Nat}, s ∈ ns → ∃ j, Instr.findNow (kdOf none) (.string s) (seenE c ns) i = some (some (i + j, .int .i64 1)) ∧ (∃ en, (seenE c ns)[j]? = some en ∧ en.key = .string s) ∧
    ∀ u, Instr.findNow (kdOf none) (.string s) ((seenE c ns).modify j fun m => { m with key := .string s, val := u }) i = some (some (i + j, u))
  | [], _, _, h => by simp at h
  | x :: r, c, i, h => by
    by_cases h1 : s = x
    · subst h1
      have h2 : (s == s) = true := by rw [bytes_eq_iff]; simp
      exact ⟨0, by simp [seenE, Instr.findNow, kdOf, Instr.sameNow, h2], ⟨_, rfl, rfl⟩, fun u => by simp [seenE, List.modify, Instr.findNow, kdOf, Instr.sameNow, h2]⟩
    · have h2 : (s == x) = false := by rw [bytes_eq_iff]; simpa using h1
      obtain ⟨j, k1, ⟨en, k2, k3⟩, k4⟩ := seen_some (c := c + 1) (i := i + 1) ((List.mem_cons.1 h).resolve_left h1)
      refine ⟨j + 1, ?_, ⟨en, by simpa [seenE] using k2, k3⟩, fun u => ?_⟩
      · simp only [seenE, Instr.findNow, kdOf, Instr.sameNow, h2]
        rw [show i + (j + 1) = i + 1 + j by omega]
        exact k1
      · simp only [seenE, List.modify_succ_cons, Instr.findNow, kdOf, Instr.sameNow, h2]
        rw [show i + (j + 1) = i + 1 + j by omega]
        exact k4 u
theorem seen_new (s : ByteArray) : ∀ {ns : List ByteArray} {c i : Nat}, s ∉ ns → ∃ j, Instr.findNow (kdOf none) (.string s) (seenE c ns ++ [⟨.string s, .int .i64 1, c + ns.length⟩]) i = some (some (j, .int .i64 1)) := by
  intro ns c i _
  obtain ⟨j, h, _⟩ := seen_some (s := s) (ns := ns ++ [s]) (c := c) (i := i) (by simp)
  rw [seenE_append] at h
  exact ⟨_, h⟩
end Go.AM.F
