/- Digits written by the document; every Read and Print. No conditions. -/
import Derived.Test.YtlokekpiajholaaDoorL31
namespace Go.AM.F
open Go Go.AM
set_option maxRecDepth 10000
set_option linter.unusedSimpArgs false
/-- A row of bytes. -/
def bl (l : List UInt8) : List PV := l.map fun b => .v (.int .u8 b.toNat)
@[simp] theorem bl_length (l : List UInt8) : (bl l).length = l.length := by simp [bl]
@[simp] theorem bl_nil : bl [] = [] := rfl
theorem bl_append (a b : List UInt8) : bl (a ++ b) = bl a ++ bl b := by simp [bl]
theorem bl_snoc (a : List UInt8) (x : UInt8) : bl (a ++ [x]) = bl a ++ [.v (.int .u8 x.toNat)] := by simp [bl]
theorem bl_get {l : List UInt8} {k : Nat} (h : k < l.length) : (bl l)[k]? = some (.v (.int .u8 l[k].toNat)) := by simp [bl, h]
theorem bytesOf_bl : ∀ l : List UInt8, bytesOfPV (bl l) = some l
  | [] => rfl
  | x :: r => by
    have h := bytesOf_bl r
    simp only [bl, List.map_cons] at h ⊢
    simp only [bytesOfPV, byteOfPV, h]
    show some (UInt8.ofNat ((x.toNat : Int).toNat) :: r) = _
    rw [Int.toNat_natCast, UInt8.ofNat_toNat]
theorem db_conv {d : Nat} (h : d < 10) : IntKind.u8.wrap ((48 + d : Nat) : Int) = ((db d).toNat : Int) := by
  rw [db_nat h]
  exact u8_nat (by omega)
def rpE (x : List Nat) (back : List UInt8) (n i : Nat) (x21 x24 x25 x33 : PV) : Env := [(3, .own 1 (ul x)), (4, .own 1 (bl back)), (5, .dead), (8, .v (.int .u64 n)), (10, .v (.int .i64 i)), (14, .dead), (21, x21), (24, x24), (25, x25), (33, x33), (53, .dead)]
def roE (x : List Nat) (back : List UInt8) (x21 x24 x25 x33 : PV) : Env := [(3, .own 1 (ul x)), (4, .own 1 (bl back)), (5, .dead), (14, .dead), (21, x21), (24, x24), (25, x25), (33, x33), (53, .dead)]
theorem revD_len (v : Nat) : (revD v).length ≤ 9 * (chunks v).length := by
  obtain ⟨m, hm⟩ := chunks_revD v
  have h := congrArg List.length hm
  have h2 : ∀ cs : List Nat, (cs.flatMap (dpad 9)).length = 9 * cs.length := by
    intro cs
    induction cs with
    | nil => rfl
    | cons c r ih => rw [List.flatMap_cons, List.length_append, dpad_length, ih, List.length_cons]; omega
  rw [h2, List.length_append] at h
  omega
/-- What Read answers is alike on both sides, and has no needless limbs. -/
theorem readR_cases (s : ByteArray) : (∃ z : Int, readR s = .tup [.own 1 [], .v (.int .i64 10), .v (.int .i64 z)]) ∨ readR s = .tup [.own 1 (ul (limbs (decN s 0 s.size))), .v (.int .i64 0), .v (.int .i64 0)] ∧ (limbs (decN s 0 s.size)).length ≤ s.size := by
  unfold readR
  split
  · exact .inl ⟨_, rfl⟩
  · rename_i h1
    split
    · exact .inl ⟨_, rfl⟩
    · exact .inr ⟨rfl, decN_fit (fun k hk => stop_not (badDig s) s.size 0 k (Nat.zero_le _) (by unfold fault at h1; omega)) (Nat.le_refl _)⟩
end Go.AM.F
