/- The types' facts, asked by a test. No conditions. -/
import Derived.Test.YtkcnnifgdhabgaaDoorAmG
namespace Go.AM
open Go

def veq : Value → Value → Bool
  | .int k n, .int k' m => decide (k = k') && decide (n = m)
  | .bool a, .bool b => a == b
  | .float k a, .float k' b => decide (k = k') && decide (a = b)
  | .string a, .string b => a.size == 0 && b.size == 0
  | .pointer none, .pointer none => true
  | .slice none 0 0, .slice none 0 0 => true
  | .nilFunc, .nilFunc => true
  | .nilIface, .nilIface => true
  | _, _ => false
theorem bytes_nil {a : ByteArray} (h : a.size = 0) : a = ⟨#[]⟩ := by
  cases a with
  | mk d =>
    congr 1
    exact Array.eq_empty_of_size_eq_zero h
theorem veq_ok {x y : Value} (h : veq x y = true) : x = y := by
  unfold veq at h
  split at h
  case h_4 a b =>
    simp only [Bool.and_eq_true, beq_iff_eq] at h
    rw [bytes_nil h.1, bytes_nil h.2]
  all_goals simp_all
def veqL : List Value → List Value → Bool
  | [], [] => true
  | x :: r, y :: q => veq x y && veqL r q
  | _, _ => false
theorem veqL_ok : ∀ {x y : List Value}, veqL x y = true → x = y
  | [], [], _ => rfl
  | x :: r, y :: q, h => by
    simp only [veqL, Bool.and_eq_true] at h
    rw [veq_ok h.1, veqL_ok h.2]
  | [], _ :: _, h => by simp [veqL] at h
  | _ :: _, [], h => by simp [veqL] at h
def zvB (l : List PV) (vs : List Value) : Bool := match zvL l with
  | some us => veqL us vs
  | none => false
theorem zvB_ok {l : List PV} {vs : List Value} (h : zvB l vs = true) : zvL l = some vs := by
  unfold zvB at h
  split at h
  · rename_i us e
    rw [e, veqL_ok h]
  · simp at h
def zaB (l : List PV) (vs : List Value) : Bool := match zaL l with
  | some us => veqL us vs
  | none => false
theorem zaB_ok {l : List PV} {vs : List Value} (h : zaB l vs = true) : zaL l = some vs := by
  unfold zaB at h
  split at h
  · rename_i us e
    rw [e, veqL_ok h]
  · simp at h
def TypeDesc.whole : TypeDesc → Bool
  | .struct _ => true
  | .array _ _ => true
  | _ => false
def loadB (P : Program) (t : TypeId) (n : Option Nat) : Bool :=
  match P.underlying t, P.info? t with
  | some d, some ti => match n with
    | none => !(TypeDesc.whole d) && ti.size == 1
    | some k => TypeDesc.whole d && ti.size == k
  | _, _ => false
theorem loadB_ok {P : Program} {t : TypeId} {n : Option Nat} (h : loadB P t n = true) : LoadOK P t n := by
  unfold loadB at h
  split at h
  · rename_i d ti h1 h2
    refine ⟨d, h1, ?_⟩
    cases n with
    | none =>
      simp only [Bool.and_eq_true, Bool.not_eq_true', beq_iff_eq] at h
      refine ⟨?_, ti, h2, h.2⟩
      have := h.1
      cases d <;> simp_all [TypeDesc.whole]
    | some k =>
      simp only [Bool.and_eq_true, beq_iff_eq] at h
      refine ⟨?_, ti, h2, h.2⟩
      have := h.1
      cases d <;> simp_all [TypeDesc.whole]
  · simp at h
def fitsB (P : Program) (t : TypeId) : EqK → Bool
  | .int => match P.underlying t with | some (.int _) => true | _ => false
  | .str => match P.underlying t with | some .string => true | _ => false
  | .bool => match P.underlying t with | some .bool => true | _ => false
theorem fitsB_ok {P : Program} {t : TypeId} {k : EqK} (h : fitsB P t k = true) : k.fits P t := by
  cases k <;> simp only [fitsB] at h <;> split at h <;> first | exact ⟨_, ‹_›⟩ | assumption | simp at h
def stB (P : Program) : Nat → List Field → List EqK → Bool
  | _, [], [] => true
  | i, f :: fs, k :: ks => decide (f.name ≠ "_") && f.offset == i && loadB P f.type none && fitsB P f.type k && stB P (i + 1) fs ks
  | _, _, _ => false
theorem stB_ok {P : Program} : ∀ {i : Nat} {fs : List Field} {ks : List EqK}, stB P i fs ks = true → fs.length = ks.length ∧ ∀ j (f : Field), fs[j]? = some f → f.name ≠ "_" ∧ f.offset = i + j ∧ LoadOK P f.type none ∧ ∀ k, ks[j]? = some k → k.fits P f.type
  | i, [], [], _ => ⟨rfl, fun j f h => by simp at h⟩
  | i, f :: fs, k :: ks, h => by
    simp only [stB, Bool.and_eq_true, decide_eq_true_eq, beq_iff_eq] at h
    obtain ⟨⟨⟨⟨h1, h2⟩, h3⟩, h4⟩, h5⟩ := h
    obtain ⟨k1, k2⟩ := stB_ok h5
    refine ⟨by simp [k1], fun j g hg => ?_⟩
    cases j with
    | zero =>
      simp at hg
      subst hg
      exact ⟨h1, h2, loadB_ok h3, fun k' hk => by simp at hk; subst hk; exact fitsB_ok h4⟩
    | succ j =>
      obtain ⟨a, b, c, d⟩ := k2 j g (by simpa using hg)
      exact ⟨a, by omega, c, fun k' hk => d k' (by simpa using hk)⟩
  | _, [], _ :: _, h => by simp [stB] at h
  | _, _ :: _, [], h => by simp [stB] at h
def eqB (P : Program) (t : TypeId) : EqT → Bool
  | .one k => fitsB P t k
  | .st ks => match P.underlying t with
    | some (.struct fs) => !(P.eqGuardType P.depth t) && !(P.stoodInHeld t) && stB P 0 fs.toList ks
    | _ => false
theorem eqB_ok {P : Program} {t : TypeId} {k : EqT} (h : eqB P t k = true) : EqOK P t k := by
  cases k with
  | one k => exact fitsB_ok h
  | st ks =>
    simp only [eqB] at h
    split at h
    · rename_i fs hf
      simp only [Bool.and_eq_true, Bool.not_eq_true'] at h
      obtain ⟨⟨h1, h2⟩, h3⟩ := h
      obtain ⟨k1, k2⟩ := stB_ok h3
      refine ⟨fs, h1, hf, h2, by simpa using k1, fun i f hi => ?_⟩
      have := k2 i f (by simpa using hi)
      rwa [Nat.zero_add] at this
    · simp at h
def convB (P : Program) (src dst : TypeId) : ConvK → Bool
  | .int k => (P.underlying src).isSome && match P.underlying dst with | some (.int k') => decide (k' = k) | _ => false
  | .same => (P.underlying src).isSome && match P.underlying dst with | some .string => true | _ => false
  | .rune => (P.underlying src).isSome && match P.underlying dst with | some .string => true | _ => false
  | .bytes => match P.underlying src, P.underlying dst with
    | some (.slice el), some .string => match P.underlying el with | some (.int .u8) => true | _ => false
    | _, _ => false
  | .toBytes => (P.underlying src).isSome && match P.underlying dst with
    | some (.slice el) => match P.underlying el with | some (.int .u8) => true | _ => false
    | _ => false
  | .flt k => (P.underlying src).isSome && match P.underlying dst with | some (.float k') => decide (k' = k) | _ => false
  | .fint k => (P.underlying src).isSome && match P.underlying dst with | some (.int k') => decide (k' = k) | _ => false
theorem convB_ok {P : Program} {s d : TypeId} {k : ConvK} (h : convB P s d k = true) : ConvOK P s d k := by
  cases k with
  | int k =>
    simp only [convB, Bool.and_eq_true, Option.isSome_iff_exists] at h
    refine ⟨h.1, ?_⟩
    have h2 := h.2
    split at h2
    · rename_i k' e
      rw [e]
      simp at h2
      rw [h2]
    · simp at h2
  | flt k =>
    simp only [convB, Bool.and_eq_true, Option.isSome_iff_exists] at h
    refine ⟨h.1, ?_⟩
    have h2 := h.2
    split at h2
    · rename_i k' e
      rw [e]
      simp at h2
      rw [h2]
    · simp at h2
  | fint k =>
    simp only [convB, Bool.and_eq_true, Option.isSome_iff_exists] at h
    refine ⟨h.1, ?_⟩
    have h2 := h.2
    split at h2
    · rename_i k' e
      rw [e]
      simp at h2
      rw [h2]
    · simp at h2
  | same =>
    simp only [convB, Bool.and_eq_true, Option.isSome_iff_exists] at h
    refine ⟨h.1, ?_⟩
    have h2 := h.2
    split at h2
    · assumption
    · simp at h2
  | rune =>
    simp only [convB, Bool.and_eq_true, Option.isSome_iff_exists] at h
    refine ⟨h.1, ?_⟩
    have h2 := h.2
    split at h2
    · assumption
    · simp at h2
  | bytes =>
    simp only [convB] at h
    split at h
    · rename_i el e1 e2
      split at h
      · exact ⟨el, e1, by assumption, e2⟩
      · simp at h
    · simp at h
  | toBytes =>
    simp only [convB, Bool.and_eq_true, Option.isSome_iff_exists] at h
    refine ⟨h.1, ?_⟩
    have h2 := h.2
    split at h2
    · rename_i el e1
      split at h2
      · exact ⟨el, e1, by assumption⟩
      · simp at h2
    · simp at h2

mutual
def pvEq : PV → PV → Bool
  | .v x, .v y => veq x y
  | .agg l, .agg m => pvEqL l m
  | .tup l, .tup m => pvEqL l m
  | .ro s l, .ro t m => s == t && pvEqL l m
  | .nil s, .nil t => s == t
  | _, _ => false
def pvEqL : List PV → List PV → Bool
  | [], [] => true
  | x :: r, y :: q => pvEq x y && pvEqL r q
  | _, _ => false
end
mutual
theorem pvEq_ok : ∀ (x y : PV), pvEq x y = true → x = y
  | .v x, y, h => by cases y <;> simp only [pvEq] at h <;> first | (rw [veq_ok h]; done) | (simp at h)
  | .agg l, y, h => by cases y <;> simp only [pvEq] at h <;> first | (rw [pvEqL_ok l _ h]; done) | (simp at h)
  | .tup l, y, h => by cases y <;> simp only [pvEq] at h <;> first | (rw [pvEqL_ok l _ h]; done) | (simp at h)
  | .ro s l, y, h => by
    cases y <;> simp only [pvEq, Bool.and_eq_true, beq_iff_eq] at h <;> first | (obtain ⟨rfl, h⟩ := h; rw [pvEqL_ok l _ h]; done) | (simp at h)
  | .nil s, y, h => by cases y <;> simp only [pvEq, beq_iff_eq] at h <;> first | (rw [h]; done) | (simp at h)
  | .own _ _, y, h => by cases y <;> simp [pvEq] at h
  | .box _, y, h => by cases y <;> simp [pvEq] at h
  | .ref _ _, y, h => by cases y <;> simp [pvEq] at h
  | .win _ _ _ _ _, y, h => by cases y <;> simp [pvEq] at h
  | .addr _ _, y, h => by cases y <;> simp [pvEq] at h
  | .eaddr _ _ _ _ _, y, h => by cases y <;> simp [pvEq] at h
  | .raddr _, y, h => by cases y <;> simp [pvEq] at h
  | .dead, y, h => by cases y <;> simp [pvEq] at h
theorem pvEqL_ok : ∀ (x y : List PV), pvEqL x y = true → x = y
  | [], y, h => by cases y <;> simp_all [pvEqL]
  | x :: r, y, h => by
    cases y with
    | nil => simp [pvEqL] at h
    | cons z q =>
      simp only [pvEqL, Bool.and_eq_true] at h
      rw [pvEq_ok x z h.1, pvEqL_ok r q h.2]
end
def opdB (G : Nat → List PV) : Opd → Bool
  | .t s => decide (s < home)
  | .c x => x.oneCell'
  | .nilS _ => true
  | .f _ => true
  | .g n cs => pvEqL cs (G n) && !cs.isEmpty
theorem opdB_ok {G : Nat → List PV} {x : Opd} (h : opdB G x = true) : x.ok G := by
  cases x <;> simp_all [opdB, Opd.ok]
  exact pvEqL_ok _ _ h.1
def allB (G : Nat → List PV) (l : List Opd) : Bool := l.all (opdB G)
theorem allB_ok {G : Nat → List PV} {l : List Opd} (h : allB G l = true) : ∀ x ∈ l, x.ok G := fun x hx => opdB_ok (by simpa using List.all_eq_true.1 h x hx)
def sliceB (P : Program) (t : TypeId) (sz : Nat) : Bool := match P.underlying t with
  | some (.slice el) => match P.info? el with
    | some ti => ti.size == sz
    | none => false
  | _ => false
theorem sliceB_ok {P : Program} {t : TypeId} {sz : Nat} (h : sliceB P t sz = true) : ∃ el ti, P.underlying t = some (.slice el) ∧ P.info? el = some ti ∧ ti.size = sz := by
  unfold sliceB at h
  split at h
  · rename_i el h1
    split at h
    · rename_i ti h2
      exact ⟨el, ti, h1, h2, by simpa using h⟩
    · simp at h
  · simp at h
def plB (P : Program) (sz : Nat) : List (Nat × Nat) → Nat → Bool
  | [], _ => true
  | (o, m) :: r, i => o == i * sz && m == sz && plB P sz r (i + 1)
theorem plB_ok {P : Program} {sz : Nat} : ∀ {pl : List (Nat × Nat)} {k : Nat}, plB P sz pl k = true → ∀ i o m, pl[i]? = some (o, m) → o = (k + i) * sz ∧ m = sz
  | [], _, _, i, o, m, h => by simp at h
  | (o', m') :: r, k, hb, i, o, m, h => by
    simp only [plB, Bool.and_eq_true, beq_iff_eq] at hb
    cases i with
    | zero =>
      simp at h
      obtain ⟨rfl, rfl⟩ := h
      exact ⟨by simpa using hb.1.1, hb.1.2⟩
    | succ i =>
      have := plB_ok hb.2 i o m (by simpa using h)
      rw [show k + (i + 1) = k + 1 + i by omega]
      exact this
def listEqB (a b : List (Nat × Nat)) : Bool := match a, b with
  | [], [] => true
  | (x, y) :: r, (z, u) :: q => x == z && y == u && listEqB r q
  | _, _ => false
theorem listEqB_ok : ∀ {a b : List (Nat × Nat)}, listEqB a b = true → a = b
  | [], [], _ => rfl
  | (x, y) :: r, (z, u) :: q, h => by
    unfold listEqB at h
    simp only [Bool.and_eq_true, beq_iff_eq] at h
    rw [h.1.1, h.1.2, listEqB_ok h.2]
  | [], _ :: _, h => by simp [listEqB] at h
  | _ :: _, [], h => by simp [listEqB] at h
def buildB (P : Program) (t : TypeId) (pl : List (Nat × Nat)) (zero : List PV) : Bool :=
  match P.info? t with
  | some it => match it.zero with
    | some z => zvB zero z.cells.toList && match P.underlying t with
      | some (.struct fs) => match fs.toList.mapM (fun f => (P.info? f.type).map fun i => (f.offset, i.size)) with
        | some pl' => listEqB pl' pl
        | none => false
      | some (.array _ el) => match P.info? el with
        | some ie => plB P ie.size pl 0
        | none => false
      | _ => false
    | none => false
  | none => false
theorem buildB_ok {P : Program} {t : TypeId} {pl : List (Nat × Nat)} {zero : List PV} (h : buildB P t pl zero = true) : BuildOK P t pl zero := by
  unfold buildB at h
  split at h
  · rename_i it h1
    split at h
    · rename_i z h2
      simp only [Bool.and_eq_true] at h
      refine ⟨it, z, h1, h2, zvB_ok h.1, ?_⟩
      have h3 := h.2
      split at h3
      · rename_i fs h4
        split at h3
        · rename_i pl' h5
          exact .inl ⟨fs, h4, by rw [h5, listEqB_ok h3]⟩
        · simp at h3
      · rename_i n el h4
        split at h3
        · rename_i ie h5
          refine .inr ⟨n, el, ie, h4, h5, fun i o m hi => ?_⟩
          have := plB_ok h3 i o m hi
          rwa [Nat.zero_add] at this
        · simp at h3
      · simp at h3
    · simp at h
  · simp at h
def elemB (P : Program) (t : TypeId) (sz : Nat) : Bool := match P.underlying t with
  | some (.slice el) => match P.info? el with
    | some ie => ie.size == sz && ie.zero.isSome
    | none => false
  | _ => false
def fieldB (P : Program) (t : TypeId) (f off : Nat) : Option Field := match P.underlying t with
  | some (.struct fs) => match fs[f]? with
    | some fd => if fd.offset = off then some fd else none
    | none => none
  | _ => none
theorem fieldB_ok {P : Program} {t : TypeId} {f off : Nat} {fd : Field} (h : fieldB P t f off = some fd) : ∃ fs : Array Field, P.underlying t = some (.struct fs) ∧ fs[f]? = some fd ∧ fd.offset = off := by
  unfold fieldB at h
  split at h
  · rename_i fs h1
    split at h
    · rename_i fd' h2
      split at h
      · rename_i h3
        obtain rfl := Option.some.inj h
        exact ⟨fs, h1, h2, h3⟩
      · simp at h
    · simp at h
  · simp at h
def arrB (P : Program) (t : TypeId) (n sz : Nat) : Option TypeId := match P.underlying t with
  | some (.array n' el) => match P.info? el with
    | some ti => if n' = n ∧ ti.size = sz then some el else none
    | none => none
  | _ => none
theorem arrB_ok {P : Program} {t : TypeId} {n sz : Nat} {el : TypeId} (h : arrB P t n sz = some el) : ∃ ti, P.underlying t = some (.array n el) ∧ P.info? el = some ti ∧ ti.size = sz := by
  unfold arrB at h
  split at h
  · rename_i n' el' h1
    split at h
    · rename_i ti h2
      split at h
      · rename_i h3
        obtain rfl := Option.some.inj h
        exact ⟨ti, by rw [← h3.1]; exact h1, h2, h3.2⟩
      · simp at h
    · simp at h
  · simp at h
def zeroB (zero : PV) (z : Value) : Bool := match zero with
  | .agg cs => match z with
    | .agg arr => zvB cs arr.toList
    | _ => false
  | x => match x.zv with
    | some u => veq u z
    | none => false
theorem zeroB_ok {zero : PV} {z : Value} (h : zeroB zero z = true) : ZeroV zero z := by
  unfold zeroB at h
  split at h
  · rename_i cs
    split at h
    · rename_i arr
      exact .inr ⟨cs, arr, rfl, rfl, zvB_ok h⟩
    · simp at h
  · split at h
    · rename_i u e
      exact .inl (by rw [e, veq_ok h])
    · simp at h
def notSel : Op → Bool
  | .select _ _ => false
  | _ => true
def kdB (P : Program) (t : TypeId) : Option IntKind → Bool
  | none => match P.underlying t with
    | some .string => true
    | _ => false
  | some k => match P.underlying t with
    | some (.int k') => decide (k' = k)
    | _ => false
theorem kdB_ok {P : Program} {t : TypeId} {kd : Option IntKind} (h : kdB P t kd = true) : P.underlying t = some (kdOf kd) := by
  cases kd <;> simp only [kdB] at h <;> split at h <;> first | (cases h; done) | skip
  · assumption
  · rename_i k k' hk
    rw [hk, of_decide_eq_true h]
    rfl
/-- The operation's facts, asked. -/
def IOp.okB (P : Program) (ents : List FuncId) (exts : List (FuncId × ExtK)) (G : Nat → List PV) : IOp → Bool
  | .move x | .assign x | .box _ x | .nilck x | .un _ _ x | .extr x _ => opdB G x
  | .pick c a b => opdB G c && opdB G a && opdB G b
  | .alloc t zero => match P.info? t with
    | some i => match i.zero with
      | some z => zaB zero z.cells.toList
      | none => false
    | none => false
  | .build t pl zero parts => allB G (parts.map (·.2)) && buildB P t pl zero
  | .lit t sz parts => allB G parts && elemB P t sz && decide (0 < sz) && decide (parts.length * sz ≤ 2 ^ 24)
  | .load t n a => opdB G a && loadB P t n
  | .store t n a x => opdB G a && opdB G x && loadB P t n
  | .bin _ _ x y _ => opdB G x && opdB G y
  | .eqs _ xt ks x y _ => opdB G x && opdB G y && eqB P xt ks
  | .conv src dst k x => opdB G x && convB P src dst k
  | .mk t sz bytes zero l c => opdB G l && opdB G c && match P.underlying t with
    | some (.slice el) => match P.info? el with
      | some ie => match ie.zero with
        | some z => ie.size == sz && ie.bytes == bytes && zeroB zero z
        | none => false
      | none => false
    | _ => false
  | .slice t k x lo hi mx => opdB G x && allB G lo.toList && allB G hi.toList && allB G mx.toList && match k with
    | .str => mx.isNone && match P.underlying t with | some .string => true | _ => false
    | .sl sz => sliceB P t sz
    | .arr _ => true
  | .faddr t x f off => opdB G x && match fieldB P t f off with
    | some fd => match P.info? fd.type with
      | some ti => decide (ti.size ≠ 0)
      | none => false
    | none => false
  | .field t x f off n => opdB G x && match fieldB P t f off with
    | some fd => loadB P fd.type n
    | none => false
  | .iaddr t k x i => opdB G x && opdB G i && match k with
    | .sl sz => sliceB P t sz
    | .arr n sz => (arrB P t n sz).isSome
    | .str => true
  | .index t k m x i => opdB G x && opdB G i && match k with
    | .str => match P.underlying t with | some .string => true | _ => false
    | .arr n sz => match arrB P t n sz with
      | some el => loadB P el m
      | none => false
    | .sl _ => true
  | .call f args _ => allB G args && ents.contains f
  | .allocB t _ => match P.info? t with
    | some i => match i.zero with
      | some z => veqL [.pointer none, .slice none 0 0] z.cells.toList
      | none => false
    | none => false
  | .range t x => opdB G x && match P.underlying t with
    | some .string => true
    | _ => false
  | .next x => opdB G x
  | .mkmap _ => true
  | .mlook t kd z x k => opdB G x && opdB G k && match P.underlying t with
    | some (.map kt el) => kdB P kt kd && match P.info? el with
      | some i => match i.zero with
        | some z' => veq z z'
        | none => false
      | none => false
    | _ => false
  | .mput _ t kd x k v => opdB G x && opdB G k && opdB G v && match P.underlying t with
    | some (.map kt _) => kdB P kt kd
    | _ => false
  | .throw x => opdB G x
  | .mkclo _ x => opdB G x
  | .tass _ t x => opdB G x && P.concrete t
  | .mkiface t x => opdB G x && P.concrete t
  | .mark t x => opdB G x && match P.underlying t with
    | some (.slice el) => match P.underlying el with
      | some (.int .u8) => true
      | _ => false
    | _ => false
  | .append t u _ sz bytes x y => opdB G x && opdB G y && match P.underlying t with
    | some (.slice el) => match P.info? el with
      | some ie => match ie.zero with
        | some z => ie.size == sz && ie.bytes == bytes && z.cells.size == sz && match P.underlying u with
          | some (.slice el') => decide (el' = el)
          | some .string => true
          | _ => false
        | none => false
      | none => false
    | _ => false
  | .len t txt x => opdB G x && match P.underlying t with
    | some .string => txt
    | some (.slice _) => !txt
    | _ => false
  | .minmax _ _ x y => opdB G x && opdB G y
  | .ext f k args _ => allB G args && exts.contains (f, k)
  | .callv es f args _ => opdB G f && allB G args && es.all ents.contains
  | .other x => notSel x
theorem IOp.okB_ok {P : Program} {ents : List FuncId} {exts : List (FuncId × ExtK)} {G : Nat → List PV} (he : ∀ f ∈ ents, Enters P f) (hx : ∀ p ∈ exts, Extn P p.1 p.2) {o : IOp} (h : o.okB P ents exts G = true) : o.ok P G := by
  cases o with
  | move x => exact opdB_ok h
  | assign x => exact opdB_ok h
  | next x => exact opdB_ok h
  | mkmap t => exact trivial
  | mlook t kd z x k =>
    simp only [IOp.okB, Bool.and_eq_true] at h
    obtain ⟨⟨h1, h2⟩, h3⟩ := h
    refine ⟨opdB_ok h1, opdB_ok h2, ?_⟩
    split at h3
    · rename_i kt el ht
      simp only [Bool.and_eq_true] at h3
      obtain ⟨h3, h4⟩ := h3
      split at h4
      · rename_i i hi
        split at h4
        · rename_i z' hz
          exact ⟨kt, el, i, ht, kdB_ok h3, hi, by rw [hz, veq_ok h4]⟩
        · cases h4
      · cases h4
    · cases h3
  | mput ins t kd x k v =>
    simp only [IOp.okB, Bool.and_eq_true] at h
    obtain ⟨⟨⟨h1, h2⟩, h3⟩, h4⟩ := h
    refine ⟨opdB_ok h1, opdB_ok h2, opdB_ok h3, ?_⟩
    split at h4
    · rename_i kt el ht
      exact ⟨kt, el, ht, kdB_ok h4⟩
    · cases h4
  | throw x => exact opdB_ok h
  | mkclo f x => exact opdB_ok h
  | tass xt t x =>
    simp only [IOp.okB, Bool.and_eq_true] at h
    exact ⟨opdB_ok h.1, h.2⟩
  | mkiface t x =>
    simp only [IOp.okB, Bool.and_eq_true] at h
    exact ⟨opdB_ok h.1, h.2⟩
  | allocB t b =>
    simp only [IOp.okB] at h
    split at h
    · rename_i i h1
      split at h
      · rename_i z h2
        exact ⟨i, z, h1, h2, by have := veqL_ok h; apply Array.toList_inj.1; rw [← this]⟩
      · simp at h
    · simp at h
  | range t x =>
    simp only [IOp.okB, Bool.and_eq_true] at h
    obtain ⟨h1, h2⟩ := h
    split at h2
    · rename_i e1
      exact ⟨opdB_ok h1, e1⟩
    · simp at h2
  | mark t x =>
    simp only [IOp.okB, Bool.and_eq_true] at h
    obtain ⟨h1, h2⟩ := h
    split at h2
    · rename_i el e1
      split at h2
      · rename_i e2
        exact ⟨opdB_ok h1, el, e1, e2⟩
      · simp at h2
    · simp at h2
  | box t x => exact opdB_ok h
  | nilck x => exact opdB_ok h
  | un op t x => exact opdB_ok h
  | extr x j => exact opdB_ok h
  | pick c a b =>
    simp only [IOp.okB, Bool.and_eq_true] at h
    exact ⟨opdB_ok h.1.1, opdB_ok h.1.2, opdB_ok h.2⟩
  | alloc t zero =>
    simp only [IOp.okB] at h
    split at h
    · rename_i i h1
      split at h
      · rename_i z h2
        exact ⟨i, z, h1, h2, zaB_ok h⟩
      · simp at h
    · simp at h
  | build t pl zero parts =>
    simp only [IOp.okB, Bool.and_eq_true] at h
    exact ⟨fun p hp => allB_ok h.1 p.2 (List.mem_map_of_mem hp), buildB_ok h.2⟩
  | lit t sz parts =>
    simp only [IOp.okB, Bool.and_eq_true, decide_eq_true_eq] at h
    obtain ⟨⟨⟨h1, h2⟩, h3⟩, h4⟩ := h
    refine ⟨allB_ok h1, ?_⟩
    unfold elemB at h2
    split at h2
    · rename_i el e1
      split at h2
      · rename_i ie e2
        simp only [Bool.and_eq_true, beq_iff_eq, Option.isSome_iff_exists] at h2
        obtain ⟨e3, z, e4⟩ := h2
        exact ⟨el, ie, z, e1, e2, e4, e3, h3, h4⟩
      · simp at h2
    · simp at h2
  | load t n a =>
    simp only [IOp.okB, Bool.and_eq_true] at h
    exact ⟨opdB_ok h.1, loadB_ok h.2⟩
  | store t n a x =>
    simp only [IOp.okB, Bool.and_eq_true] at h
    exact ⟨opdB_ok h.1.1, opdB_ok h.1.2, loadB_ok h.2⟩
  | bin op t x y yt =>
    simp only [IOp.okB, Bool.and_eq_true] at h
    exact ⟨opdB_ok h.1, opdB_ok h.2⟩
  | eqs neg t ks x y yt =>
    simp only [IOp.okB, Bool.and_eq_true] at h
    exact ⟨opdB_ok h.1.1, opdB_ok h.1.2, eqB_ok h.2⟩
  | conv s d k x =>
    simp only [IOp.okB, Bool.and_eq_true] at h
    exact ⟨opdB_ok h.1, convB_ok h.2⟩
  | mk t sz bytes zero l c =>
    simp only [IOp.okB, Bool.and_eq_true] at h
    refine ⟨opdB_ok h.1.1, opdB_ok h.1.2, ?_⟩
    have h2 := h.2
    split at h2
    · rename_i el e1
      split at h2
      · rename_i ie e2
        split at h2
        · rename_i z e3
          simp only [Bool.and_eq_true, beq_iff_eq] at h2
          exact ⟨el, ie, z, e1, e2, e3, h2.1.1, h2.1.2, zeroB_ok h2.2⟩
        · simp at h2
      · simp at h2
    · simp at h2
  | slice t k x lo hi mx =>
    simp only [IOp.okB, Bool.and_eq_true] at h
    obtain ⟨⟨⟨⟨h1, h2⟩, h3⟩, h4⟩, h5⟩ := h
    refine ⟨opdB_ok h1, fun z hz => allB_ok h2 z (by simpa using hz), fun z hz => allB_ok h3 z (by simpa using hz), fun z hz => allB_ok h4 z (by simpa using hz), ?_⟩
    cases k with
    | str =>
      simp only [Bool.and_eq_true, Option.isNone_iff_eq_none] at h5
      refine ⟨?_, h5.1⟩
      have h6 := h5.2
      split at h6
      · assumption
      · simp at h6
    | sl sz => exact sliceB_ok h5
    | arr n => trivial
  | faddr t x f off =>
    simp only [IOp.okB, Bool.and_eq_true] at h
    refine ⟨opdB_ok h.1, ?_⟩
    have h2 := h.2
    split at h2
    · rename_i fd e1
      split at h2
      · rename_i ti e2
        obtain ⟨fs, k1, k2, k3⟩ := fieldB_ok e1
        exact ⟨fs, fd, ti, k1, k2, k3, e2, by simpa using h2⟩
      · simp at h2
    · simp at h2
  | field t x f off n =>
    simp only [IOp.okB, Bool.and_eq_true] at h
    refine ⟨opdB_ok h.1, ?_⟩
    have h2 := h.2
    split at h2
    · rename_i fd e1
      obtain ⟨fs, k1, k2, k3⟩ := fieldB_ok e1
      exact ⟨fs, fd, k1, k2, k3, loadB_ok h2⟩
    · simp at h2
  | iaddr t k x i =>
    simp only [IOp.okB, Bool.and_eq_true] at h
    refine ⟨opdB_ok h.1.1, opdB_ok h.1.2, ?_⟩
    have h2 := h.2
    cases k with
    | sl sz => exact sliceB_ok h2
    | arr n sz =>
      simp only [Option.isSome_iff_exists] at h2
      obtain ⟨el, h2⟩ := h2
      obtain ⟨ti, k1, k2, k3⟩ := arrB_ok h2
      exact ⟨el, ti, k1, k2, k3⟩
    | str => trivial
  | index t k m x i =>
    simp only [IOp.okB, Bool.and_eq_true] at h
    refine ⟨opdB_ok h.1.1, opdB_ok h.1.2, ?_⟩
    have h2 := h.2
    cases k with
    | sl sz => trivial
    | arr n sz =>
      simp only at h2
      split at h2
      · rename_i el e1
        obtain ⟨ti, k1, k2, k3⟩ := arrB_ok e1
        exact ⟨el, ti, k1, k2, k3, loadB_ok h2⟩
      · simp at h2
    | str =>
      simp only at h2
      split at h2
      · assumption
      · simp at h2
  | call f args ts =>
    simp only [IOp.okB, Bool.and_eq_true] at h
    exact ⟨allB_ok h.1, he f (by simpa using h.2)⟩
  | append t u txt sz bytes x y =>
    simp only [IOp.okB, Bool.and_eq_true] at h
    refine ⟨opdB_ok h.1.1, opdB_ok h.1.2, ?_⟩
    have h2 := h.2
    split at h2
    · rename_i el e1
      split at h2
      · rename_i ie e2
        split at h2
        · rename_i z e3
          simp only [Bool.and_eq_true, beq_iff_eq] at h2
          obtain ⟨⟨⟨k1, k2⟩, k3⟩, k4⟩ := h2
          refine ⟨el, ie, z, e1, ?_, e2, e3, k1, k2, k3⟩
          split at k4
          · rename_i el' e4
            simp only [decide_eq_true_eq] at k4
            subst k4
            exact .inl e4
          · rename_i e4
            exact .inr e4
          · simp at k4
        · simp at h2
      · simp at h2
    · simp at h2
  | len t txt x =>
    simp only [IOp.okB, Bool.and_eq_true] at h
    refine ⟨opdB_ok h.1, ?_⟩
    have h2 := h.2
    split at h2
    · rename_i e1
      rw [if_pos h2]
      exact e1
    · rename_i el e1
      rw [if_neg (by simpa using h2)]
      exact ⟨el, e1⟩
    · simp at h2
  | minmax mx ts x y =>
    simp only [IOp.okB, Bool.and_eq_true] at h
    exact ⟨opdB_ok h.1, opdB_ok h.2⟩
  | ext f k args ts =>
    simp only [IOp.okB, Bool.and_eq_true] at h
    exact ⟨allB_ok h.1, hx (f, k) (by simpa using h.2)⟩
  | callv es f args ts =>
    simp only [IOp.okB, Bool.and_eq_true] at h
    exact ⟨opdB_ok h.1.1, allB_ok h.1.2, fun n hn => he n (by have := List.all_eq_true.1 h.2 n hn; simpa using this)⟩
  | other x =>
    intro cs b hx
    subst hx
    simp [IOp.okB, notSel] at h
def GOp.okB (P : Program) (ents : List FuncId) (exts : List (FuncId × ExtK)) (G : Nat → List PV) (n : Nat) (g : GOp) : Bool := g.op.okB P ents exts G && match g.dst with
  | some d => decide (d < n) && decide (d < home)
  | none => true
def IR.okB (P : Program) (ents : List FuncId) (exts : List (FuncId × ExtK)) (G : Nat → List PV) (n : Nat) : IR → Bool
  | .reg _ ops _ _ => ops.all (GOp.okB P ents exts G n)
  | .regp _ ops _ _ => ops.all (GOp.okB P ents exts G n)
  | .seq a b => IR.okB P ents exts G n a && IR.okB P ents exts G n b
  | .cond _ c a b => opdB G c && IR.okB P ents exts G n a && IR.okB P ents exts G n b
  | .block _ b => IR.okB P ents exts G n b
  | .scope b => IR.okB P ents exts G n b
  | .loop _ b => IR.okB P ents exts G n b
  | .tail _ b => IR.okB P ents exts G n b
  | .frz _ b => IR.okB P ents exts G n b
  | .gd _ _ _ _ _ _ => false
  | _ => true
theorem IR.okB_ok {P : Program} {ents : List FuncId} {exts : List (FuncId × ExtK)} {G : Nat → List PV} {n : Nat} (he : ∀ f ∈ ents, Enters P f) (hx : ∀ p ∈ exts, Extn P p.1 p.2) : ∀ {ir : IR}, IR.okB P ents exts G n ir = true → ir.ok P G n
  | .reg _ ops _ _, h => by
    intro g hg
    have := List.all_eq_true.1 h g hg
    simp only [GOp.okB, Bool.and_eq_true] at this
    refine ⟨IOp.okB_ok he hx this.1, fun d hd => ?_⟩
    have h2 := this.2
    rw [hd] at h2
    simpa using h2
  | .regp _ ops _ _, h => by
    intro g hg
    have := List.all_eq_true.1 h g hg
    simp only [GOp.okB, Bool.and_eq_true] at this
    refine ⟨IOp.okB_ok he hx this.1, fun d hd => ?_⟩
    have h2 := this.2
    rw [hd] at h2
    simpa using h2
  | .seq a b, h => by
    simp only [IR.okB, Bool.and_eq_true] at h
    exact ⟨IR.okB_ok he hx h.1, IR.okB_ok he hx h.2⟩
  | .cond _ c a b, h => by
    simp only [IR.okB, Bool.and_eq_true] at h
    exact ⟨opdB_ok h.1.1, IR.okB_ok he hx h.1.2, IR.okB_ok he hx h.2⟩
  | .block _ b, h => IR.okB_ok (ir := b) he hx h
  | .scope b, h => IR.okB_ok (ir := b) he hx h
  | .loop _ b, h => IR.okB_ok (ir := b) he hx h
  | .tail _ b, h => IR.okB_ok (ir := b) he hx h
  | .frz _ b, h => IR.okB_ok (ir := b) he hx h
  | .skip, _ => trivial
  | .ret, _ => trivial
  | .label _, _ => trivial
  | .exit _, _ => trivial
  | .other, _ => trivial
  | .gd _ _ _ _ _ _, h => by cases h
/-- The same for a function with a guard. -/
def IR.okGB (P : Program) (ents : List FuncId) (exts : List (FuncId × ExtK)) (G : Nat → List PV) (n : Nat) : IR → Bool
  | .seq a b => IR.okB P ents exts G n a && IR.okGB P ents exts G n b
  | .tail _ b => IR.okGB P ents exts G n b
  | .gd _ d _ caps _ b => decide (d < n) && decide (d < home) && (caps.all fun s => decide (s < home) && decide (s ≠ d)) && IR.okB P ents exts G n b
  | _ => false
/-- What the deferred functions are asked. -/
def IR.hnds (P : Program) : IR → Prop
  | .seq _ b => b.hnds P
  | .tail _ b => b.hnds P
  | .gd _ _ cf caps hnd _ => HndOK P cf caps.length hnd
  | _ => True
theorem IR.okGB_ok {P : Program} {ents : List FuncId} {exts : List (FuncId × ExtK)} {G : Nat → List PV} {n : Nat} (he : ∀ f ∈ ents, Enters P f) (hx : ∀ p ∈ exts, Extn P p.1 p.2) : ∀ {ir : IR}, IR.okGB P ents exts G n ir = true → ir.hnds P → ir.okG P G n
  | .seq a b, h, k => by
    simp only [IR.okGB, Bool.and_eq_true] at h
    exact ⟨IR.okB_ok he hx h.1, IR.okGB_ok he hx h.2 k⟩
  | .tail _ b, h, k => IR.okGB_ok (ir := b) he hx h k
  | .gd _ d cf caps hnd b, h, k => by
    simp only [IR.okGB, Bool.and_eq_true, decide_eq_true_eq, List.all_eq_true] at h
    exact ⟨h.1.1.1, h.1.1.2, fun s hs => by simpa using h.1.2 s hs, k, IR.okB_ok he hx h.2⟩
def RV.okB (P : Program) : RV → Bool
  | .tmp s => decide (s < home)
  | .cell s t n => decide (s < home) && loadB P t n
theorem RV.okB_ok {P : Program} {r : RV} (h : r.okB P = true) : r.ok P := by
  cases r with
  | tmp s => simpa [RV.okB, RV.ok] using h
  | cell s t n =>
    simp only [RV.okB, Bool.and_eq_true, decide_eq_true_eq] at h
    exact ⟨h.1, loadB_ok h.2⟩
/-- All that is asked of a function's form but the form itself. -/
def fnB (P : Program) (ents : List FuncId) (exts : List (FuncId × ExtK)) (G : Nat → List PV) (c : Code) (af : AFunc) : Bool := decide (af.nt ≤ home) && af.res.all (RV.okB P) && IR.okB P ents exts G af.nt af.body && plansB c af.body
theorem FnOK.of {P : Program} {ents : List FuncId} {exts : List (FuncId × ExtK)} {G : Nat → List PV} (he : ∀ f ∈ ents, Enters P f) (hx : ∀ p ∈ exts, Extn P p.1 p.2) {f : FuncId} {af : AFunc} {fn : Func} {c : Code} (h1 : P.funcs[f]? = some fn) (h2 : fn.body = some c) (h3 : fn.ntmps = af.nt)
    (h4 : fn.results.toList.map stripR = af.res.map eraseR) (h5 : strip c = erase af.body) (h6 : fnB P ents exts G c af = true) : FnOK P G f af := by
  simp only [fnB, Bool.and_eq_true, decide_eq_true_eq] at h6
  obtain ⟨⟨⟨a, b⟩, c'⟩, d⟩ := h6
  exact ⟨fn, c, h1, h2, h3, a, h4, fun r hr => RV.okB_ok (List.all_eq_true.1 b r hr), h5, .inl (IR.okB_ok he hx c'), d⟩
theorem Enters.of {P : Program} {f : FuncId} {fn : Func} (h1 : P.funcs[f]? = some fn) (h2 : (fn.name == "runtime.NumGoroutine") = false) (h3 : fn.body.isSome = true) : Enters P f := ⟨fn, fn.body.get h3, h1, h2, (Option.some_get h3).symm⟩
theorem FnOK.made {P : Program} {ents : List FuncId} {exts : List (FuncId × ExtK)} {G : Nat → List PV} (he : ∀ f ∈ ents, Enters P f) (hx : ∀ p ∈ exts, Extn P p.1 p.2) {f : FuncId} {af : AFunc} {fn : Func} (h1 : P.funcs[f]? = some fn) (h2 : fn.body.isSome = true) (h3 : fn.ntmps = af.nt)
    (h4 : fn.results.toList.map stripR = af.res.map eraseR) (h5 : strip (fn.body.get h2) = erase af.body) (h6 : fnB P ents exts G (fn.body.get h2) af = true) : FnOK P G f af := FnOK.of he hx h1 (Option.some_get h2).symm h3 h4 h5 h6
def fnGB (P : Program) (ents : List FuncId) (exts : List (FuncId × ExtK)) (G : Nat → List PV) (c : Code) (af : AFunc) : Bool := decide (af.nt ≤ home) && af.res.all (RV.okB P) && IR.okGB P ents exts G af.nt af.body && plansB c af.body
theorem FnOK.guard {P : Program} {ents : List FuncId} {exts : List (FuncId × ExtK)} {G : Nat → List PV} (he : ∀ f ∈ ents, Enters P f) (hx : ∀ p ∈ exts, Extn P p.1 p.2) {f : FuncId} {af : AFunc} {fn : Func} (h1 : P.funcs[f]? = some fn) (h2 : fn.body.isSome = true) (h3 : fn.ntmps = af.nt)
    (h4 : fn.results.toList.map stripR = af.res.map eraseR) (h5 : strip (fn.body.get h2) = erase af.body) (h6 : fnGB P ents exts G (fn.body.get h2) af = true) (h7 : af.body.hnds P) : FnOK P G f af := by
  simp only [fnGB, Bool.and_eq_true, decide_eq_true_eq] at h6
  obtain ⟨⟨⟨a, b⟩, c'⟩, d⟩ := h6
  exact ⟨fn, _, h1, (Option.some_get h2).symm, h3, a, h4, fun r hr => RV.okB_ok (List.all_eq_true.1 b r hr), h5, .inr (IR.okGB_ok he hx c' h7), d⟩
theorem mem_of_lookup {α : Type} {l : List (Nat × α)} {k : Nat} {v : α} (h : l.lookup k = some v) : (k, v) ∈ l := by
  induction l with
  | nil => cases h
  | cons x r ih =>
    obtain ⟨a, b⟩ := x
    simp only [List.lookup] at h
    split at h
    · rename_i he
      have : k = a := by simpa using he
      subst this
      cases h
      simp
    · exact List.mem_cons_of_mem _ (ih h)
end Go.AM
