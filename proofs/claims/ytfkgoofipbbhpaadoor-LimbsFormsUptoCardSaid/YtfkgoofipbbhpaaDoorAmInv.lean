/- The invariant that ties the abstract machine's variables to the real machine's, and how it lasts where variables are written and taken. No conditions. -/
import Derived.Test.YtfkgoofipbbhpaaDoorAmRel
namespace Go.AM
open Go

def stepV (w : World) : Value → Nat → Option Value
  | .agg vs, o => vs[o]?
  | .tuple vs, o => vs[o]?
  | .pointer (some A), o => w.cell? (A.add o)
  | _, _ => none
def walk (w : World) : Value → List Nat → Option Value
  | V, [] => some V
  | V, o :: p => (stepV w V o).bind fun v => walk w v p
def place (val : Nat → Value) (w : World) (s : Nat) (p : List Nat) : Option Value := walk w (val s) p
def refOK (e : Env) (val : Nat → Value) (w : World) : PV → Value → Prop
  | .ref s p, V => V.oneCell' = true ∧ ((e.at_ s p).isObj = true → place val w s p = some V)
  | .win s p sz lo hi, V => V.oneCell' = true ∧ ((e.at_ s p).isObj = true → ∃ a n cap a' cap', place val w s p = some (.slice a n cap) ∧ V = .slice a' (hi - lo) cap' ∧ lo ≤ hi ∧ hi ≤ n ∧ lo + cap' ≤ cap ∧ hi - lo ≤ cap' ∧ (lo = 0 → a' = a) ∧ (lo < hi → a' = a.map (·.add (lo * sz))))
  | .addr s o, V => V.oneCell' = true ∧ ((e.get s).isObj = true → ∃ g, val s = .pointer (some ⟨g, 0, none⟩) ∧ V = .pointer (some ⟨g, o, none⟩))
  | .eaddr s p sz i k, V => V.oneCell' = true ∧ ((e.at_ s p).isObj = true → ∃ g n cap, place val w s p = some (.slice (some ⟨g, 0, none⟩) n cap) ∧ V = .pointer (some ⟨g, i * sz + k, none⟩))
  | _, _ => False
theorem refOK.oneCell {e : Env} {val : Nat → Value} {w : World} : ∀ x V, refOK e val w x V → V.oneCell' = true := by
  intro x V h
  cases x <;> simp only [refOK] at h <;> first | exact h.elim | exact h.1

/-- What the call found. -/
structure Base where
  w : World
  I : Nat → Prop
  S : Nat → Prop
  glob : Nat → List PV

structure Inv (B : Base) (e : Env) (q : PV → Value → Prop) (val : Nat → Value) (w : World) (I : Nat → Prop) (blk : Nat → List Nat) (fl : List Nat) : Prop where
  rel : ∀ s, R w I q (e.get s) (val s) (blk s)
  nd : ∀ s, (blk s).Nodup
  ndf : fl.Nodup
  dj : ∀ s t, s ≠ t → ∀ b, b ∈ blk s → b ∉ blk t
  djf : ∀ s b, b ∈ blk s → b ∉ fl
  notI : ∀ s b, b ∈ blk s → ¬ I b
  notIf : ∀ b, b ∈ fl → ¬ I b
  ltI : ∀ b, I b → b < w.heap.size
  ltf : ∀ b, b ∈ fl → b < w.heap.size
  keepI : ∀ b, B.I b → I b
  newI : ∀ b, I b → B.I b ∨ B.S b ∨ B.w.heap.size ≤ b
  own : ∀ s b, b ∈ blk s → B.S b ∨ B.w.heap.size ≤ b
  ownf : ∀ b, b ∈ fl → B.S b ∨ B.w.heap.size ≤ b
  os : w.os = B.w.os
  tape : w.tape = B.w.tape
  output : w.output = B.w.output
  size : B.w.heap.size ≤ w.heap.size
  same : ∀ b, b < B.w.heap.size → ¬ B.S b → w.heap[b]? = B.w.heap[b]?
  glob : ∀ n, B.glob n ≠ [] → R w I nope (.raddr (B.glob n)) (.pointer (some ⟨n, 0, none⟩)) []

/-! ### Environments -/
theorem Env.get_set (e : Env) (s t : Nat) (y : PV) : (e.set s y).get t = if s = t then y else e.get t := by
  induction e with
  | nil => simp only [Env.set, Env.get]
  | cons kx r ih =>
    obtain ⟨k, x⟩ := kx
    by_cases h : k = s
    · subst h
      by_cases h2 : k = t <;> simp [Env.set, Env.get, h2]
    · by_cases h2 : k = t
      · subst h2
        simp [Env.set, Env.get, h, Ne.symm h]
      · simp only [Env.set, if_neg h, Env.get, if_neg h2, ih]
theorem Env.get_kill (e : Env) (s : Nat) (t : List Nat → Bool) (u : Nat) : (e.kill s t).get u = if (e.get u).ment s t then .dead else e.get u := by
  induction e with
  | nil => simp [Env.kill, Env.get, PV.ment]
  | cons kx r ih =>
    obtain ⟨k, x⟩ := kx
    by_cases h : k = u <;> simp [Env.kill, Env.get, h, ih]
theorem Env.get_keep (e : Env) (ks : List Nat) (u : Nat) : (e.keep ks).get u = if u ∈ ks then e.get u else .dead := by
  unfold Env.keep
  induction ks with
  | nil => simp [Env.get]
  | cons k r ih =>
    simp only [List.map_cons, Env.get, ih, List.mem_cons]
    by_cases h : k = u
    · simp [h]
    · simp [h, Ne.symm h]
theorem PV.sub_dead (p : List Nat) : PV.dead.sub p = .dead := by
  induction p with
  | nil => rfl
  | cons o p ih => simp [PV.sub, PV.kids, ih]
theorem PV.sub_append (x : PV) (p : List Nat) (o : Nat) : x.sub (p ++ [o]) = ((x.sub p).kids)[o]?.getD .dead := by
  induction p generalizing x with
  | nil => simp [PV.sub]
  | cons a p ih => simp [PV.sub, ih]
theorem walk_append (w : World) (V : Value) (p : List Nat) (o : Nat) : walk w V (p ++ [o]) = (walk w V p).bind fun v => stepV w v o := by
  induction p generalizing V with
  | nil => simp [walk]
  | cons a p ih =>
    simp only [List.cons_append, walk]
    cases stepV w V a with
    | none => rfl
    | some v => simp [ih]
/-- What is owned no more isn't owned at any path. -/
theorem hasObjL_get {l : List PV} (h : PV.hasObjL l = false) {i : Nat} {x : PV} (hx : l[i]? = some x) : x.hasObj = false := by
  induction l generalizing i with
  | nil => simp at hx
  | cons y r ih =>
    simp only [PV.hasObjL, Bool.or_eq_false_iff] at h
    cases i with
    | zero => simp at hx; exact hx ▸ h.1
    | succ i => simp at hx; exact ih h.2 hx
theorem sub_noObj : ∀ (p : List Nat) (x : PV), x.hasObj = false → (x.sub p).isObj = false
  | [], x, h => by cases x <;> simp_all [PV.sub, PV.hasObj, PV.isObj]
  | o :: p, x, h => by
    simp only [PV.sub]
    cases hk : x.kids[o]? with
    | none => simp [PV.sub_dead, PV.isObj]
    | some y =>
      simp only [Option.getD_some]
      refine sub_noObj p y ?_
      cases x <;> simp [PV.kids] at hk <;> simp only [PV.hasObj] at h
      · exact hasObjL_get h hk
      · exact hasObjL_get h hk
      · cases h

/-! ### The view of a variable -/
section
variable {w : World} {I : Nat → Prop} {e : Env} {val : Nat → Value}
mutual
theorem view_ok {q : PV → Value → Prop} (hq : ∀ y U, q y U → refOK e val w y U ∨ y = .selfp) (s : Nat) : ∀ (x : PV) (p : List Nat) (V : Value) (bs : List Nat), e.at_ s p = x → place val w s p = some V → R w I q x V bs → R w I (refOK e val w) (x.view s p) V []
  | .v x, p, V, bs, _, _, h => ⟨h.1, h.2.1, rfl⟩
  | .agg cs, p, V, bs, ha, hp, h => by
    obtain ⟨vs, rfl, h⟩ := h
    refine ⟨vs, rfl, viewL_ok hq s cs p 0 vs bs (fun j x hx => ?_) (fun j v hv => ?_) h⟩
    · show (e.get s).sub (p ++ [0 + j]) = x
      rw [PV.sub_append]
      have : (e.get s).sub p = .agg cs := ha
      simp [this, PV.kids, hx]
    · show walk w (val s) (p ++ [0 + j]) = some v
      rw [walk_append, show walk w (val s) p = some (.agg vs.toArray) from hp]
      simpa [stepV] using hv
  | .tup cs, p, V, bs, ha, hp, h => by
    obtain ⟨vs, rfl, h⟩ := h
    refine ⟨vs, rfl, viewL_ok hq s cs p 0 vs bs (fun j x hx => ?_) (fun j v hv => ?_) h⟩
    · show (e.get s).sub (p ++ [0 + j]) = x
      rw [PV.sub_append]
      have : (e.get s).sub p = .tup cs := ha
      simp [this, PV.kids, hx]
    · show walk w (val s) (p ++ [0 + j]) = some v
      rw [walk_append, show walk w (val s) p = some (.tuple vs.toArray) from hp]
      simpa [stepV] using hv
  | .ro sz l, p, V, bs, _, _, h => ⟨rfl, h.2⟩
  | .own sz l, p, V, bs, ha, hp, h => by
    refine ⟨rfl, ?_, fun _ => hp⟩
    rcases h.2 with ⟨rfl, _⟩ | ⟨g, vs, _, _, cap, cur, t, fr, rfl, _⟩ <;> rfl
  | .box cs, p, V, bs, ha, hp, h => by
    refine ⟨rfl, ?_, fun _ => hp⟩
    obtain ⟨g, us, bs', _, _, cur, t, fr, rfl, _⟩ := h
    rfl
  | .ref s' p', p, V, bs, _, _, h => ⟨rfl, (hq _ _ h.2).elim id (fun e => nomatch e)⟩
  | .win s' p' sz lo hi, p, V, bs, _, _, h => ⟨rfl, (hq _ _ h.2).elim id (fun e => nomatch e)⟩
  | .addr s' o, p, V, bs, _, _, h => ⟨rfl, (hq _ _ h.2).elim id (fun e => nomatch e)⟩
  | .eaddr s' p' sz i k, p, V, bs, _, _, h => ⟨rfl, (hq _ _ h.2).elim id (fun e => nomatch e)⟩
  | .raddr cs, p, V, bs, _, _, h => ⟨rfl, h.2⟩
  | .nil _, p, V, bs, _, _, h => ⟨h.1, rfl⟩
  | .dead, p, V, bs, _, _, _ => rfl
  | .iter str pos, p, V, bs, ha, hp, h => by
    refine ⟨rfl, ?_, fun _ => hp⟩
    obtain ⟨g, _, rfl, _⟩ := h
    rfl
  | .selfp, p, V, bs, _, _, _ => rfl
  | .bld _ _ _, p, V, bs, ha, hp, h => ⟨rfl, BldAt.one h, fun _ => hp⟩
theorem viewL_ok {q : PV → Value → Prop} (hq : ∀ y U, q y U → refOK e val w y U ∨ y = .selfp) (s : Nat) : ∀ (l : List PV) (p : List Nat) (i : Nat) (vs : List Value) (bs : List Nat), (∀ j x, l[j]? = some x → e.at_ s (p ++ [i + j]) = x) → (∀ j v, vs[j]? = some v → place val w s (p ++ [i + j]) = some v) →
    Rs w I q l vs bs → Rs w I (refOK e val w) (PV.viewL s p i l) vs []
  | [], p, i, vs, bs, _, _, h => ⟨h.1, rfl⟩
  | x :: r, p, i, vs, bs, ha, hp, h => by
    obtain ⟨v, vs', b1, b2, rfl, rfl, h1, h2⟩ := h
    refine ⟨v, vs', [], [], rfl, rfl, view_ok hq s x (p ++ [i]) v b1 (by simpa using ha 0 x rfl) (by simpa using hp 0 v rfl) h1, viewL_ok hq s r p (i + 1) vs' b2 (fun j y hy => ?_) (fun j u hu => ?_) h2⟩
    · have := ha (j + 1) y (by simpa using hy)
      rwa [show i + (j + 1) = i + 1 + j by omega] at this
    · have := hp (j + 1) u (by simpa using hu)
      rwa [show i + (j + 1) = i + 1 + j by omega] at this
end
end
theorem Inv.view {B : Base} {e : Env} {val : Nat → Value} {w : World} {I : Nat → Prop} {blk : Nat → List Nat} {fl : List Nat} (h : Inv B e (refOK e val w) val w I blk fl) (s : Nat) :
    R w I (refOK e val w) ((e.get s).view s []) (val s) [] := view_ok (fun _ _ h => .inl h) s (e.get s) [] (val s) (blk s) rfl rfl (h.rel s)

/-! ### Writing a variable -/
def upd (val : Nat → Value) (d : Nat) (V : Value) : Nat → Value := fun s => if s = d then V else val s
def updB (blk : Nat → List Nat) (d : Nat) (bs : List Nat) : Nat → List Nat := fun s => if s = d then bs else blk s

mutual
theorem R.congr {w : World} {I : Nat → Prop} {q q' : PV → Value → Prop} {s : Nat} {t : List Nat → Bool} (hq : ∀ x V, x.ment s t = false → q x V → q' x V) :
    ∀ (x : PV) (V : Value) (bs : List Nat), x.ment s t = false → R w I q x V bs → R w I q' x V bs
  | .v x, V, bs, _, h => h
  | .agg cs, V, bs, m, h => by
    obtain ⟨vs, e, h⟩ := h
    exact ⟨vs, e, Rs.congr hq cs vs bs m h⟩
  | .tup cs, V, bs, m, h => by
    obtain ⟨vs, e, h⟩ := h
    exact ⟨vs, e, Rs.congr hq cs vs bs m h⟩
  | .ro sz l, V, bs, _, h => h
  | .own sz l, V, bs, _, h => h
  | .box cs, V, bs, _, h => h
  | .ref s p, V, bs, m, h => ⟨h.1, hq _ _ m h.2⟩
  | .win s p sz lo hi, V, bs, m, h => ⟨h.1, hq _ _ m h.2⟩
  | .addr s o, V, bs, m, h => ⟨h.1, hq _ _ m h.2⟩
  | .eaddr s p sz i k, V, bs, m, h => ⟨h.1, hq _ _ m h.2⟩
  | .raddr cs, V, bs, _, h => h
  | .nil _, V, bs, _, h => h
  | .dead, V, bs, _, h => h
  | .iter _ _, V, bs, _, h => h
  | .selfp, V, bs, m, h => ⟨h.1, hq _ _ m h.2⟩
  | .bld _ _ _, V, bs, _, h => h
theorem Rs.congr {w : World} {I : Nat → Prop} {q q' : PV → Value → Prop} {s : Nat} {t : List Nat → Bool} (hq : ∀ x V, x.ment s t = false → q x V → q' x V) :
    ∀ (l : List PV) (vs : List Value) (bs : List Nat), PV.mentL s t l = false → Rs w I q l vs bs → Rs w I q' l vs bs
  | [], vs, bs, _, h => h
  | x :: r, vs, bs, m, h => by
    simp only [PV.mentL, Bool.or_eq_false_iff] at m
    obtain ⟨v, vs', b1, b2, e1, e2, h1, h2⟩ := h
    exact ⟨v, vs', b1, b2, e1, e2, R.congr hq x v b1 m.1 h1, Rs.congr hq r vs' b2 m.2 h2⟩
end
end Go.AM
