/- Builders of texts: what their methods answer. No conditions. -/
import Derived.Test.YtlokekpiajholaaDoorAmSim
import Derived.Lib.AppendStr
import Derived.Lib.Replace
import Derived.Lib.SplitLaws
namespace Go.AM
open Go

def xCopyCheck (T e : TypeId) : List PV → Option (PV × List PV)
  | [.bld T' e' l] => if T' = T ∧ e' = e then some (.tup [], [.bld T' e' l]) else none
  | _ => none
def xWriteString (T e : TypeId) : List PV → Option (PV × List PV)
  | [.bld T' e' l, .v (.string s)] => if T' = T ∧ e' = e ∧ l.length + s.size ≤ 140737488355328 then some (.tup [.v (.int .i64 s.size), .v .nilIface], [.bld T' e' (l ++ s.data.toList), .dead]) else none
  | _ => none
def xWriteByte (T e : TypeId) : List PV → Option (PV × List PV)
  | [.bld T' e' l, .v (.int .u8 c)] => if T' = T ∧ e' = e ∧ 0 ≤ c ∧ c < 256 ∧ l.length + 1 ≤ 140737488355328 then some (.v .nilIface, [.bld T' e' (l ++ [UInt8.ofNat c.toNat]), .dead]) else none
  | _ => none
def xString (T e : TypeId) : List PV → Option (PV × List PV)
  | [.bld T' e' l] => if T' = T ∧ e' = e ∧ l ≠ [] then some (.v (.string ⟨l.toArray⟩), [.dead]) else none
  | _ => none
def xLen (T e : TypeId) : List PV → Option (PV × List PV)
  | [.bld T' e' l] => if T' = T ∧ e' = e then some (.v (.int .i64 l.length), [.bld T' e' l]) else none
  | _ => none
def repL (l : List UInt8) : Nat → List UInt8
  | 0 => []
  | c + 1 => l ++ repL l c
def xRepeat : List PV → Option (PV × List PV)
  | [.v (.string s), .v (.int .i64 c)] => if 0 ≤ c ∧ c ≤ 9223372036854775807 ∧ s.size * c.toNat ≤ 140737488355328 then some (.v (.string ⟨(repL s.data.toList c.toNat).toArray⟩), [.dead, .dead]) else none
  | _ => none
def decL : Nat → Nat → List UInt8
  | 0, _ => []
  | f + 1, u => if u < 10 then [UInt8.ofNat (48 + u)] else decL f (u / 10) ++ [UInt8.ofNat (48 + u % 10)]
def xFormatUint : List PV → Option (PV × List PV)
  | [.v (.int .u64 u), .v (.int .i64 c)] => if c = 10 ∧ 0 ≤ u ∧ u < 18446744073709551616 then some (.v (.string ⟨(decL 20 u.toNat).toArray⟩), [.dead, .dead]) else none
  | _ => none
def xReplaceAll : List PV → Option (PV × List PV)
  | [.v (.string s), .v (.string old), .v (.string new)] => if 1 ≤ old.size ∧ s.size < 4294967281 ∧ s.size + Lib.countB s old * new.size ≤ 140737488355328 then some (.v (.string ⟨(Lib.replaceAll s.data.toList old.data.toList new.data.toList).toArray⟩), [.dead, .dead, .dead]) else none
  | _ => none
/-- A builder's text, though it may be empty. -/
def xStringE (T e : TypeId) : List PV → Option (PV × List PV)
  | [.bld T' e' l] => if T' = T ∧ e' = e then some (.v (.string ⟨l.toArray⟩), [.dead]) else none
  | _ => none
/-- What a builder's memory is, in a call's. -/
theorem BldAt.take {w : World} {I : Nat → Prop} {T e : TypeId} {l : List UInt8} {vs : List Value} {bss : List Nat} {xs : List PV} (h : Rs w I nope (.bld T e l :: xs) vs bss) (hx : PV.hasObjL xs = false) :
    ∃ (b : Nat) (p v : Value) (us : List Value), vs = .pointer (some ⟨b, 0, none⟩) :: us ∧ Rs w I nope xs us [] ∧ bss = b :: v.ownBlock.toList ∧ (p = .pointer none ∨ p = .pointer (some ⟨b, 0, none⟩)) ∧ w.heap[b]? = some (.cells #[p, v] T (0, 0)) ∧
      w.ownsRow 0 e 1 v l.length (l.map fun x => .int .u8 x.toNat) ∧ v.ownBlock ≠ some b := by
  obtain ⟨V, us, b1, b2, rfl, rfl, h1, h2⟩ := h
  obtain rfl := Rs.noObj_nil _ _ _ hx h2
  obtain ⟨b, p, v, rfl, rfl, h3, h4, h5, h6⟩ := h1
  exact ⟨b, p, v, us, rfl, h2, by simp, h3, h4, h5, h6⟩
/-- A method that leaves the builder with more bytes. -/
theorem Left.bld {w w' : World} {I : Nat → Prop} {T e : TypeId} {l' : List UInt8} {b : Nat} {v v' : Value} {us : List Value} {xs : List PV} {y : PV} {V : Value} (hlt : ∀ b, I b → b < w.heap.size) (hI : ∀ k, k ∈ b :: v.ownBlock.toList → ¬ I k)
    (hos : w'.os = w.os) (htape : w'.tape = w.tape) (hout : w'.output = w.output) (hsize : w.heap.size ≤ w'.heap.size) (hsame : ∀ k, k < w.heap.size → k ∉ b :: v.ownBlock.toList → w'.heap[k]? = w.heap[k]?)
    (hb : w'.heap[b]? = some (.cells #[.pointer (some ⟨b, 0, none⟩), v'] T (0, 0))) (hrow : w'.ownsRow 0 e 1 v' l'.length (l'.map fun x => .int .u8 x.toNat)) (hne : v'.ownBlock ≠ some b)
    (hnew : ∀ g, v'.ownBlock = some g → v.ownBlock = some g ∨ w.heap.size ≤ g) (hy : R w' I nope y V []) (hus : us.length = xs.length) :
    Left w I (b :: v.ownBlock.toList) (.pointer (some ⟨b, 0, none⟩) :: us) w' y V (.bld T e l' :: xs.map fun _ => .dead) := by
  refine ⟨I, [], b :: v'.ownBlock.toList ++ [], fun _ h => h, fun _ h => .inl h, fun k hk => Nat.lt_of_lt_of_le (hlt k hk) hsize, hos, htape, hout, hsize, hsame, hy, ?_, ?_, ?_⟩
  · refine ⟨_, us, b :: v'.ownBlock.toList, [], rfl, rfl, ⟨b, _, v', rfl, rfl, .inr rfl, hb, hrow, hne⟩, ?_⟩
    clear hy
    induction xs generalizing us with
    | nil => exact ⟨List.eq_nil_of_length_eq_zero (by simpa using hus), rfl⟩
    | cons x r ih =>
      match us, hus with
      | u :: us, hus => exact ⟨u, us, [], [], rfl, rfl, rfl, ih (by simpa using hus)⟩
  · simp only [List.nil_append, List.append_nil, List.nodup_cons]
    cases hv : v'.ownBlock with
    | none => simp
    | some g => simp only [Option.toList_some, List.mem_singleton, List.nodup_cons, List.not_mem_nil, not_false_iff, List.nodup_nil, and_true]; rintro rfl; exact hne hv
  · intro k hk
    simp only [List.nil_append, List.append_nil, List.mem_cons, Option.mem_toList] at hk
    rcases hk with rfl | hk
    · exact ⟨hI _ (by simp), .inl (by simp)⟩
    · rcases hnew k hk with h | h
      · exact ⟨hI k (by simp [h]), .inl (by simp [h])⟩
      · exact ⟨fun hi => by have := hlt k hi; omega, .inr h⟩
/-- A builder's row, as a slice that is owned. -/
theorem row_own {w : World} {e : TypeId} {l : List UInt8} {v : Value} (h : w.ownsRow 0 e 1 v l.length (l.map fun x => .int .u8 x.toNat)) : R w (fun _ => False) nope (.own 1 (l.map fun x => .v (.int .u8 x.toNat))) v v.ownBlock.toList := by
  have hRs : ∀ l : List UInt8, Rs w (fun _ => False) nope (l.map fun x => .v (.int .u8 x.toNat)) (l.map fun x => .int .u8 x.toNat) [] := by
    intro l
    induction l with
    | nil => exact ⟨rfl, rfl⟩
    | cons x r ih => exact ⟨_, _, [], [], rfl, rfl, ⟨rfl, rfl, rfl⟩, ih⟩
  have hfl : ∀ l : List UInt8, flatV (l.map fun x => Value.int .u8 x.toNat) = l.map fun x => .int .u8 x.toNat := by
    intro l
    induction l with
    | nil => rfl
    | cons x r ih => simp only [flatV, List.map_cons, List.flatMap_cons] at ih ⊢; rw [ih]; rfl
  refine ⟨fun x hx => ?_, ?_⟩
  · obtain ⟨b, _, rfl⟩ := List.mem_map.1 hx
    exact ⟨rfl, rfl⟩
  · rcases h.2 with ⟨rfl, k⟩ | ⟨g, cap, cur, rfl, k1, k2, k3, k4, k5, k6⟩
    · exact .inl ⟨rfl, by simpa using k, rfl⟩
    · refine .inr ⟨g, _, rfl, hRs l, cap, cur, e, (0, 0), by simp, k2, by simpa using k3, k4, by omega, .inl rfl, ?_⟩
      rw [hfl, ← k6]
      simp
/-- A text is appended to a builder's row. -/
theorem append_bld {P : Program} {t u ty e : TypeId} {i : TypeInfo} (ht : P.underlying t = some (.slice e)) (hu : P.underlying u = some .string) (hi : P.info? e = some i) (hz : i.zero = some (.int .u8 0)) (hsize : i.size = 1) (hby : i.bytes = 1)
    {w : World} {l : List UInt8} {v : Value} (hown : w.ownsRow 0 e 1 v l.length (l.map fun x => .int .u8 x.toNat)) (s : ByteArray) (hlen : l.length + s.size ≤ 140737488355328) :
    ∃ v' w', (Builtin.append_ #[t, u] ty #[v, .string s]).run P w = .ok v' w' ∧ w'.ownsRow 0 e 1 v' (l.length + s.size) ((l.map fun x => .int .u8 x.toNat) ++ Lib.strCells s) ∧ w.grownBy w' v.ownBlock ∧ ∀ g, v'.ownBlock = some g → v.ownBlock = some g ∨ w.heap.size ≤ g := by
  obtain ⟨v', w', h1, h2, h3, _⟩ := Lib.run_append_own_string (P := P) w 0 t u ty e i ht hu hi hz hsize hby v l.length _ hown s (by unfold maxLen; omega) hlen (Nat.zero_le _)
  obtain ⟨V', w2, bs', k1, _, _, _, _, _, k2, k3⟩ := append_own (P := P) (ty := ty) (Y := .string s) ht (.inr hu) hi hz hsize hby rfl (row_own hown) (byteList_sz s) (byteList_Rs s) (by simp [Builtin.lenOf, byteList_length])
    (fun w' _ => by rw [byteList_length, flat_strCells]; exact Lib.run_firstCells_string w' 1 s) (by rw [flat_strCells]; exact Lib.strCells_oneCell s) (by rw [List.length_map, byteList_length]; omega) (by rw [List.length_map, byteList_length]; omega) (fun _ h => h.elim) (fun _ h => h.elim)
  rw [h1] at k1
  obtain ⟨rfl, rfl⟩ : v' = V' ∧ w' = w2 := by
    simp only [Result.ok.injEq] at k1
    exact k1
  refine ⟨v', w', h1, h2, h3, fun g hg => ?_⟩
  rcases k3.2 with ⟨rfl, _⟩ | ⟨g', vs, hb, _, cap, cur, tt, fr, rfl, _⟩
  · simp [Value.ownBlock] at hg
  · simp only [Value.ownBlock, Option.some.injEq] at hg
    subst hg
    rcases k2 with k | ⟨k, _⟩
    · rw [hb] at k
      left
      cases hv : v.ownBlock with
      | none => rw [hv] at k; simp at k
      | some g => rw [hv] at k; simp at k; rw [k]
    · rw [hb] at k
      simp at k
      omega
end Go.AM
