/- What the abstract machine's values mean in the real machine's memory, and how that lasts. No conditions. -/
import Derived.Test.YtfkgoofipbbhpaaDoorAmRun
namespace Go.AM
open Go

def unfrozen (fr : Nat × Nat) (n : Nat) : Prop := fr.1 = fr.2 ∨ n ≤ fr.1
theorem unfrozen.le {fr : Nat × Nat} {n : Nat} (h : unfrozen fr n) : fr.2 ≤ fr.1 ∨ n ≤ fr.1 := h.imp (fun h => Nat.le_of_eq h.symm) id
def CellsAt (w : World) (A : Addr) (us : List Value) : Prop := ∀ j u, us[j]? = some u → w.cell? (A.add j) = some u
def flatV (vs : List Value) : List Value := vs.flatMap fun v => v.cells.toList
def SzOk (sz : Nat) (l : List PV) : Prop := ∀ x ∈ l, x.cells.length = sz ∧ x.imm = true
/-- A row that is owned: one block, its first cells told. -/
def RowAt (w : World) (sz n : Nat) (V : Value) (g : Nat) (us : List Value) : Prop :=
  ∃ cap cur t fr, V = .slice (some ⟨g, 0, none⟩) n cap ∧ w.heap[g]? = some (.cells cur t fr) ∧ n ≤ cap ∧ cap ≤ maxLen ∧ cap * sz ≤ cur.size ∧ unfrozen fr (cap * sz) ∧ cur.toList.take (n * sz) = us
def BoxAt (w : World) (V : Value) (g : Nat) (us : List Value) : Prop :=
  ∃ cur t fr, V = .pointer (some ⟨g, 0, none⟩) ∧ w.heap[g]? = some (.cells cur t fr) ∧ unfrozen fr cur.size ∧ cur.toList = us

def nope : PV → Value → Prop := fun _ _ => False
/-- A cell that bears nothing or its own block's address. -/
def selfq (g : Nat) : PV → Value → Prop := fun x V => x = .selfp ∧ (V = .pointer none ∨ V = .pointer (some ⟨g, 0, none⟩))
/-- A builder of texts: its cell, and the row that it owns. -/
def BldAt (w : World) (T e : TypeId) (l : List UInt8) (V : Value) (bs : List Nat) : Prop :=
  ∃ (b : Nat) (p v : Value), V = .pointer (some ⟨b, 0, none⟩) ∧ bs = b :: v.ownBlock.toList ∧ (p = .pointer none ∨ p = .pointer (some ⟨b, 0, none⟩)) ∧ w.heap[b]? = some (.cells #[p, v] T (0, 0)) ∧
    w.ownsRow 0 e 1 v l.length (l.map fun x => .int .u8 x.toNat) ∧ v.ownBlock ≠ some b
theorem BldAt.mono {w w' : World} {T e : TypeId} {l : List UInt8} {V : Value} {bs : List Nat} (h : BldAt w T e l V bs) (hb : ∀ b ∈ bs, w'.heap[b]? = w.heap[b]?) : BldAt w' T e l V bs := by
  obtain ⟨b, p, v, h1, rfl, h3, h4, h5, h6⟩ := h
  refine ⟨b, p, v, h1, rfl, h3, (hb b (by simp)).trans h4, ⟨h5.1, ?_⟩, h6⟩
  rcases h5.2 with k | ⟨g, cap, cur, rfl, k1, k2, k3⟩
  · exact .inl k
  · exact .inr ⟨g, cap, cur, rfl, k1, (hb g (by simp [Value.ownBlock])).trans k2, k3⟩
theorem BldAt.one {w : World} {T e : TypeId} {l : List UInt8} {V : Value} {bs : List Nat} (h : BldAt w T e l V bs) : V.oneCell' = true := by
  obtain ⟨b, p, v, rfl, _⟩ := h
  rfl
theorem BldAt.lt {w : World} {T e : TypeId} {l : List UInt8} {V : Value} {bs : List Nat} (h : BldAt w T e l V bs) : ∀ b ∈ bs, b < w.heap.size := by
  obtain ⟨b, p, v, rfl, rfl, h3, h4, h5, h6⟩ := h
  intro k hk
  rcases List.mem_cons.1 hk with rfl | hk
  · exact (Array.getElem?_eq_some_iff.1 h4).1
  · exact (h5.lt k (by simpa using hk)).2
mutual
def R (w : World) (I : Nat → Prop) : (PV → Value → Prop) → PV → Value → List Nat → Prop
  | _, .v x, V, bs => V = x ∧ x.oneCell' = true ∧ bs = []
  | q, .agg cs, V, bs => ∃ vs : List Value, V = .agg vs.toArray ∧ Rs w I q cs vs bs
  | q, .tup cs, V, bs => ∃ vs : List Value, V = .tuple vs.toArray ∧ Rs w I q cs vs bs
  | _, .ro sz l, V, bs => bs = [] ∧ SzOk sz l ∧ ∃ a cap, V = .slice a l.length cap ∧ l.length ≤ cap ∧
      (l = [] ∨ ∃ (A : Addr) (vs : List Value), a = some A ∧ A.spot = none ∧ I A.block ∧ Rs w I nope l vs [] ∧ CellsAt w A (flatV vs))
  | _, .own sz l, V, bs => SzOk sz l ∧ ((V = .slice none 0 0 ∧ l = [] ∧ bs = []) ∨
      ∃ g vs, bs = [g] ∧ Rs w I nope l vs [] ∧ RowAt w sz l.length V g (flatV vs))
  | _, .box cs, V, bs => ∃ g us bs', bs = g :: bs' ∧ Rs w I (selfq g) cs us bs' ∧ BoxAt w V g us
  | q, .ref s p, V, bs => bs = [] ∧ q (.ref s p) V
  | q, .win s p sz lo hi, V, bs => bs = [] ∧ q (.win s p sz lo hi) V
  | q, .addr s o, V, bs => bs = [] ∧ q (.addr s o) V
  | q, .eaddr s p sz i k, V, bs => bs = [] ∧ q (.eaddr s p sz i k) V
  | _, .raddr cs, V, bs => bs = [] ∧ ∃ (A : Addr) (us : List Value), V = .pointer (some A) ∧ A.spot = none ∧ I A.block ∧ Rs w I nope cs us [] ∧ CellsAt w A us
  | _, .nil _, V, bs => V = .slice none 0 0 ∧ bs = []
  | _, .dead, _, bs => bs = []
  | _, .iter s pos, V, bs => ∃ g, bs = [g] ∧ V = .pointer (some ⟨g, 0, none⟩) ∧ w.heap[g]? = some (.stringIter s pos)
  | q, .selfp, V, bs => bs = [] ∧ q .selfp V
  | _, .bld T e l, V, bs => BldAt w T e l V bs
def Rs (w : World) (I : Nat → Prop) : (PV → Value → Prop) → List PV → List Value → List Nat → Prop
  | _, [], vs, bs => vs = [] ∧ bs = []
  | q, x :: r, vs, bs => ∃ v vs' b1 b2, vs = v :: vs' ∧ bs = b1 ++ b2 ∧ R w I q x v b1 ∧ Rs w I q r vs' b2
end

section
variable {w w' : World} {I I' : Nat → Prop} {q q' : PV → Value → Prop}

mutual
theorem R.mono (hI : ∀ b, I b → I' b) (hw : ∀ b, I b → w'.heap[b]? = w.heap[b]?) :
    ∀ (x : PV) (q q' : PV → Value → Prop) (_ : ∀ x V, q x V → q' x V) (V : Value) (bs : List Nat), (∀ b ∈ bs, w'.heap[b]? = w.heap[b]?) → R w I q x V bs → R w' I' q' x V bs
  | .v x, q, q', hq, V, bs, _, h => h
  | .agg cs, q, q', hq, V, bs, hb, h => by
    obtain ⟨vs, e, h⟩ := h
    exact ⟨vs, e, Rs.mono hI hw cs q q' hq vs bs hb h⟩
  | .tup cs, q, q', hq, V, bs, hb, h => by
    obtain ⟨vs, e, h⟩ := h
    exact ⟨vs, e, Rs.mono hI hw cs q q' hq vs bs hb h⟩
  | .ro sz l, q, q', hq, V, bs, hb, h => by
    obtain ⟨e0, hs, a, cap, e, hc, h⟩ := h
    refine ⟨e0, hs, a, cap, e, hc, ?_⟩
    rcases h with h | ⟨A, vs, h1, h2, h3, h4, h5⟩
    · exact .inl h
    · refine .inr ⟨A, vs, h1, h2, hI _ h3, Rs.mono hI hw l nope nope (fun _ _ h => h) vs [] (by simp) h4, fun j u hu => ?_⟩
      have := h5 j u hu
      have hblk : (A.add j).block = A.block := by unfold Addr.add; split <;> rfl
      rw [World.cell?_of_block (w := w)]
      · exact this
      · rw [hblk]; exact hw _ h3
  | .own sz l, q, q', hq, V, bs, hb, h => by
    obtain ⟨hs, h⟩ := h
    refine ⟨hs, ?_⟩
    rcases h with h | ⟨g, vs, rfl, h1, cap, cur, t, fr, h2, h3, h4⟩
    · exact .inl h
    · exact .inr ⟨g, vs, rfl, Rs.mono hI hw l nope nope (fun _ _ h => h) vs [] (by simp) h1, cap, cur, t, fr, h2, (hb g (by simp)).trans h3, h4⟩
  | .box cs, q, q', hq, V, bs, hb, h => by
    obtain ⟨g, us, bs', rfl, h1, cur, t, fr, h2, h3, h4⟩ := h
    exact ⟨g, us, bs', rfl, Rs.mono hI hw cs (selfq g) (selfq g) (fun _ _ h => h) us bs' (fun b hb' => hb b (by simp [hb'])) h1, cur, t, fr, h2, (hb g (by simp)).trans h3, h4⟩
  | .ref s p, q, q', hq, V, bs, _, h => ⟨h.1, hq _ _ h.2⟩
  | .win s p sz lo hi, q, q', hq, V, bs, _, h => ⟨h.1, hq _ _ h.2⟩
  | .addr s o, q, q', hq, V, bs, _, h => ⟨h.1, hq _ _ h.2⟩
  | .eaddr s p sz i k, q, q', hq, V, bs, _, h => ⟨h.1, hq _ _ h.2⟩
  | .raddr cs, q, q', hq, V, bs, hb, h => by
    obtain ⟨e0, A, us, e, h1, h2, h3, h4⟩ := h
    refine ⟨e0, A, us, e, h1, hI _ h2, Rs.mono hI hw cs nope nope (fun _ _ h => h) us [] (by simp) h3, fun j u hu => ?_⟩
    have := h4 j u hu
    have hblk : (A.add j).block = A.block := by unfold Addr.add; split <;> rfl
    rw [World.cell?_of_block (w := w)]
    · exact this
    · rw [hblk]; exact hw _ h2
  | .nil _, q, q', hq, V, bs, _, h => h
  | .dead, q, q', hq, V, bs, _, h => h
  | .iter s pos, q, q', hq, V, bs, hb, h => by
    obtain ⟨g, rfl, e, h1⟩ := h
    exact ⟨g, rfl, e, (hb g (by simp)).trans h1⟩
  | .selfp, q, q', hq, V, bs, _, h => ⟨h.1, hq _ _ h.2⟩
  | .bld _ _ _, q, q', hq, V, bs, hb, h => BldAt.mono h hb
theorem Rs.mono (hI : ∀ b, I b → I' b) (hw : ∀ b, I b → w'.heap[b]? = w.heap[b]?) :
    ∀ (l : List PV) (q q' : PV → Value → Prop) (_ : ∀ x V, q x V → q' x V) (vs : List Value) (bs : List Nat), (∀ b ∈ bs, w'.heap[b]? = w.heap[b]?) → Rs w I q l vs bs → Rs w' I' q' l vs bs
  | [], q, q', hq, vs, bs, _, h => h
  | x :: r, q, q', hq, vs, bs, hb, h => by
    obtain ⟨v, vs', b1, b2, e1, e2, h1, h2⟩ := h
    subst e2
    exact ⟨v, vs', b1, b2, e1, rfl, R.mono hI hw x q q' hq v b1 (fun b hb' => hb b (by simp [hb'])) h1, Rs.mono hI hw r q q' hq vs' b2 (fun b hb' => hb b (by simp [hb'])) h2⟩
end
theorem R.ofNope {x : PV} {V : Value} {bs : List Nat} (h : R w I nope x V bs) : R w I q x V bs :=
  R.mono (fun _ h => h) (fun _ _ => rfl) x nope q (fun _ _ h => h.elim) V bs (fun _ _ => rfl) h
theorem Rs.ofNope {x : List PV} {V : List Value} {bs : List Nat} (h : Rs w I nope x V bs) : Rs w I q x V bs :=
  Rs.mono (fun _ h => h) (fun _ _ => rfl) x nope q (fun _ _ h => h.elim) V bs (fun _ _ => rfl) h

theorem Rs.length : ∀ {l : List PV} {vs : List Value} {bs : List Nat}, Rs w I q l vs bs → vs.length = l.length
  | [], _, _, h => by rw [h.1]; rfl
  | _ :: _, _, _, h => by
    obtain ⟨v, vs', b1, b2, e1, e2, _, h2⟩ := h
    rw [e1]
    simp [Rs.length h2]
theorem Rs.append {l l' : List PV} {vs vs' : List Value} {bs bs' : List Nat} : Rs w I q l vs bs → Rs w I q l' vs' bs' → Rs w I q (l ++ l') (vs ++ vs') (bs ++ bs') := by
  induction l generalizing vs bs with
  | nil => intro h k; obtain ⟨rfl, rfl⟩ := h; exact k
  | cons x r ih =>
    intro h k
    obtain ⟨v, us, b1, b2, rfl, rfl, h1, h2⟩ := h
    exact ⟨v, us ++ vs', b1, b2 ++ bs', rfl, by simp, h1, ih h2 k⟩
theorem Rs.get {l : List PV} {vs : List Value} {bs : List Nat} (h : Rs w I q l vs bs) {i : Nat} {x : PV} (hx : l[i]? = some x) : ∃ v b, vs[i]? = some v ∧ R w I q x v b ∧ ∀ c ∈ b, c ∈ bs := by
  induction l generalizing vs bs i with
  | nil => simp at hx
  | cons y r ih =>
    obtain ⟨v, us, b1, b2, rfl, rfl, h1, h2⟩ := h
    cases i with
    | zero =>
      simp at hx
      subst hx
      exact ⟨v, b1, rfl, h1, fun c hc => by simp [hc]⟩
    | succ i =>
      simp at hx
      obtain ⟨v', b, e, h3, h4⟩ := ih h2 hx
      exact ⟨v', b, by simpa using e, h3, fun c hc => by simp [h4 c hc]⟩
theorem Rs.get0 {l : List PV} {vs : List Value} (h : Rs w I q l vs []) {i : Nat} {x : PV} (hx : l[i]? = some x) : ∃ v, vs[i]? = some v ∧ R w I q x v [] := by
  obtain ⟨v, b, e, h1, h2⟩ := h.get hx
  have : b = [] := by
    cases b with
    | nil => rfl
    | cons c _ => have := h2 c (by simp); simp at this
  subst this
  exact ⟨v, e, h1⟩
theorem Rs.take0 {l : List PV} {vs : List Value} (h : Rs w I q l vs []) (n : Nat) : Rs w I q (l.take n) (vs.take n) [] := by
  induction l generalizing vs n with
  | nil => obtain ⟨rfl, _⟩ := h; simp [Rs]
  | cons y r ih =>
    obtain ⟨v, us, b1, b2, rfl, e, h1, h2⟩ := h
    obtain ⟨rfl, rfl⟩ : b1 = [] ∧ b2 = [] := by simpa using e.symm
    cases n with
    | zero => simp [Rs]
    | succ n => exact ⟨v, _, [], [], rfl, rfl, h1, ih h2 n⟩
theorem Rs.drop0 {l : List PV} {vs : List Value} (h : Rs w I q l vs []) (n : Nat) : Rs w I q (l.drop n) (vs.drop n) [] := by
  induction l generalizing vs n with
  | nil => obtain ⟨rfl, _⟩ := h; simp [Rs]
  | cons y r ih =>
    obtain ⟨v, us, b1, b2, rfl, e, h1, h2⟩ := h
    obtain ⟨rfl, rfl⟩ : b1 = [] ∧ b2 = [] := by simpa using e.symm
    cases n with
    | zero => exact ⟨v, us, [], [], rfl, rfl, h1, h2⟩
    | succ n => exact ih h2 n
theorem Rs.set0 {l : List PV} {vs : List Value} (h : Rs w I q l vs []) (i : Nat) {y : PV} {u : Value} (hy : R w I q y u []) : Rs w I q (l.set i y) (vs.set i u) [] := by
  induction l generalizing vs i with
  | nil => obtain ⟨rfl, _⟩ := h; simp [Rs]
  | cons x r ih =>
    obtain ⟨v, us, b1, b2, rfl, e, h1, h2⟩ := h
    obtain ⟨rfl, rfl⟩ : b1 = [] ∧ b2 = [] := by simpa using e.symm
    cases i with
    | zero => exact ⟨u, us, [], [], rfl, rfl, hy, h2⟩
    | succ i => exact ⟨v, _, [], [], rfl, rfl, h1, ih h2 i⟩

/-- How many cells a value takes. -/
theorem R.cells_length : ∀ {x : PV} {V : Value} {bs : List Nat}, x ≠ .dead → (∀ y U, q y U → U.oneCell' = true) → R w I q x V bs → V.cells.size = x.cells.length := by
  intro x V bs hd hq h
  cases x with
  | v x => obtain ⟨rfl, h, _⟩ := h; cases V <;> simp_all [Value.cells, PV.cells, Value.oneCell']
  | agg cs => obtain ⟨vs, rfl, h⟩ := h; simp [Value.cells, PV.cells, h.length]
  | tup cs => obtain ⟨vs, rfl, h⟩ := h; simp [Value.cells, PV.cells]
  | ro sz l => obtain ⟨_, _, a, cap, rfl, _⟩ := h; simp [Value.cells, PV.cells]
  | own sz l => rcases h.2 with ⟨rfl, _⟩ | ⟨g, vs, _, _, cap, cur, t, fr, rfl, _⟩ <;> simp [Value.cells, PV.cells]
  | box cs => obtain ⟨g, us, bs', _, _, cur, t, fr, rfl, _⟩ := h; simp [Value.cells, PV.cells]
  | ref s p => have := hq _ _ h.2; cases V <;> simp_all [Value.cells, PV.cells, Value.oneCell']
  | win s p sz lo hi => have := hq _ _ h.2; cases V <;> simp_all [Value.cells, PV.cells, Value.oneCell']
  | addr s o => have := hq _ _ h.2; cases V <;> simp_all [Value.cells, PV.cells, Value.oneCell']
  | eaddr s p sz i k => have := hq _ _ h.2; cases V <;> simp_all [Value.cells, PV.cells, Value.oneCell']
  | raddr cs => obtain ⟨_, A, us, rfl, _⟩ := h; simp [Value.cells, PV.cells]
  | nil sz => rw [h.1]; rfl
  | dead => exact absurd rfl hd
  | iter s pos => obtain ⟨g, _, rfl, _⟩ := h; simp [Value.cells, PV.cells]
  | selfp => have := hq _ _ h.2; cases V <;> simp_all [Value.cells, PV.cells, Value.oneCell']
  | bld T e l => have := BldAt.one h; cases V <;> simp_all [Value.cells, PV.cells, Value.oneCell']
end
end Go.AM
