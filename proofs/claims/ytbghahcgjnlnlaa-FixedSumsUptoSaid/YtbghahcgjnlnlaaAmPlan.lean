/- Statements whose order is free. No conditions. -/
import Derived.Test.YtbghahcgjnlnlaaAmOrd
import Derived.Orders
namespace Go.AM
open Go

section
variable {P : Program} {B : Base} {T : Tab} {C : Oracle} {a : Act} {H : Nat → Value} {e e' : Env} {w w' : World} {I : Nat → Prop} {blk : Nat → List Nat} {Q : Exit → Act → World → Prop} {n : Nat} {q : PV → Value → Prop} {val : Nat → Value}

/-! ### The world behind one operation -/
/-- What the call has found, seen from here. -/
def here (w : World) (I : Nat → Prop) (blk : Nat → List Nat) (G : Nat → List PV) : Base := ⟨w, I, fun b => ∃ s, b ∈ blk s, G⟩
theorem Inv.rebase (h : Inv B e q val w I blk []) : Inv (here w I blk B.glob) e q val w I blk [] :=
  { h with keepI := fun _ h => h, newI := fun _ h => .inl h, own := fun s _ hb => .inl ⟨s, hb⟩, ownf := fun _ hb => by simp at hb, os := rfl, tape := rfl, output := rfl, size := Nat.le_refl _, same := fun _ _ _ => rfl }
theorem Inv.unbase {e2 : Env} {q2 : PV → Value → Prop} {val2 : Nat → Value} {w2 : World} {I2 : Nat → Prop} {blk2 : Nat → List Nat} {fl2 : List Nat} (h : Inv B e q val w I blk []) (k : Inv (here w I blk B.glob) e2 q2 val2 w2 I2 blk2 fl2) : Inv B e2 q2 val2 w2 I2 blk2 fl2 := by
  have hS : ∀ b, (∃ s, b ∈ blk s) → B.S b ∨ B.w.heap.size ≤ b := fun b ⟨s, hb⟩ => h.own s b hb
  refine { k with keepI := fun b hb => k.keepI b (h.keepI b hb), newI := ?_, own := ?_, ownf := ?_, os := k.os.trans h.os, tape := k.tape.trans h.tape, output := k.output.trans h.output, size := Nat.le_trans h.size k.size, same := ?_ }
  · intro b hb
    rcases k.newI b hb with h1 | h1 | h1
    · exact h.newI b h1
    · exact .inr (hS b h1)
    · exact .inr (.inr (Nat.le_trans h.size h1))
  · intro s b hb
    rcases k.own s b hb with h1 | h1
    · exact hS b h1
    · exact .inr (Nat.le_trans h.size h1)
  · intro b hb
    rcases k.ownf b hb with h1 | h1
    · exact hS b h1
    · exact .inr (Nat.le_trans h.size h1)
  · intro b hb hB
    rw [k.same b (Nat.lt_of_lt_of_le hb h.size) fun hs => ?_]
    · exact h.same b hb hB
    · rcases hS b hs with h1 | h1
      · exact hB h1
      · omega
theorem Inv.drop1 (h : Inv B e (refOK e val w) val w I blk []) (s : Nat) : Inv B (e.set s .dead) (refOK (e.set s .dead) val w) val w I (updB blk s []) [] := by
  have wk : Weak (e.set s .dead) e := by
    intro t p o
    unfold Env.at_ at o ⊢
    rw [Env.get_set] at o
    split at o
    · simp [PV.sub_dead, PV.isObj] at o
    · exact o
  have sub : ∀ t b, b ∈ updB blk s [] t → b ∈ blk t := by
    intro t b hb
    simp only [updB] at hb
    split at hb
    · simp at hb
    · exact hb
  refine { h with rel := ?_, nd := ?_, dj := ?_, djf := ?_, notI := ?_, own := ?_ }
  · intro t
    rw [Env.get_set]
    simp only [updB]
    by_cases ht : s = t
    · subst ht
      simp [AM.R]
    · rw [if_neg ht, if_neg (Ne.symm ht)]
      exact wk.R (h.rel t)
  · intro t
    simp only [updB]
    split
    · simp
    · exact h.nd t
  · exact fun t u htu b hb hb' => h.dj t u htu b (sub t b hb) (sub u b hb')
  · exact fun t b hb => h.djf t b (sub t b hb)
  · exact fun t b hb => h.notI t b (sub t b hb)
  · exact fun t b hb => h.own t b (sub t b hb)
theorem Yields.same {blk0 : Nat → List Nat} {y : PV} {V : Value} (hy : Yields (here w I blk0 B.glob) val e' y V w') : ∀ b, b < w.heap.size → (∀ s, b ∉ blk0 s) → w'.heap[b]? = w.heap[b]? := by
  obtain ⟨I', blk', bs, k, _⟩ := hy
  exact fun b hb hs => k.same b hb fun ⟨s, h⟩ => hs s h
theorem RunsTo.det {o : Oper} {V V' : Value} {w1 w2 : World} (h : RunsTo P o a w V w1) (k : RunsTo P o a w V' w2) : w1 = w2 := by
  rcases h with h | ⟨h, _⟩ <;> rcases k with k | ⟨k, _⟩ <;> rw [h] at k <;> cases k <;> rfl
/-- An operation, with what it leaves as it was. -/
theorem op_full (hC : CallOK P B.glob C) (h : Inv B e (refOK e (valOf a H) w) (valOf a H) w I blk []) {o : Oper} {op : IOp} (hok : op.ok P B.glob) (ho : o.op = op.toOp) {y : PV} (hev : ev T C e op = some (y, e')) :
    o.wp P a w (fun a' w' => ∃ V, a' = a.put o.dst V ∧ Yields (here w I blk B.glob) (valOf a H) e' y V w' ∧ ∀ s, leaves T C e s op = true → ∀ b, b ∈ blk s → w'.heap[b]? = w.heap[b]?) Q := by
  by_cases hc : op.isCall = true
  · cases op <;> simp only [IOp.isCall] at hc <;> first | (cases hc; done) | skip
    rename_i f args ts
    simp only [ev] at hev
    have hx := evL_ok h hok.1
    have hcall := call_ok (T := T) (B := here w I blk B.glob) hC h.rebase hx hev
    unfold Oper.wp
    rw [call_enters ho hok.2]
    refine hcall.mono fun en w' ⟨V, he, hy, hfr⟩ => ?_
    subst he
    refine ⟨V, rfl, hy, fun s hl b hb => ?_⟩
    simp only [leaves] at hl
    split at hl
    · rename_i r e1 hm
      exact hfr (by rw [hm]; simpa using hl) b (h.lt s b hb)
    · simp at hl
  · have hc' : op.isCall = false := by simpa using hc
    obtain ⟨V, w', h1, h2⟩ := op_runs (T := T) (C := C) (B := here w I blk B.glob) h.rebase hok ho hc' hev
    refine h1.wp ⟨V, rfl, h2, fun s hl b hb => ?_⟩
    have hl' : (ev T C (e.set s .dead) op).isSome = true := by cases op <;> simp only [leaves] at hl <;> first | exact hl | simp [IOp.isCall] at hc
    obtain ⟨⟨y2, e2⟩, hev2⟩ := Option.isSome_iff_exists.1 hl'
    have hd := h.drop1 s
    obtain ⟨V2, w2, h3, h4⟩ := op_runs (T := T) (C := C) (B := here w I (updB blk s []) B.glob) hd.rebase hok ho hc' hev2
    obtain rfl := h1.det h3
    refine Yields.same (B := B) h4 b (h.lt s b hb) fun t ht => ?_
    simp only [updB] at ht
    split at ht
    · simp at ht
    · rename_i hts
      exact h.dj t s hts b ht hb

/-! ### Orders -/
section
variable {ops : Array Oper}
inductive Waits (ops : Array Oper) : Nat → Nat → Prop
  | one {j i : Nat} {o : Oper} {e : Edge} : ops[j]? = some o → e ∈ o.after → Region.binds .any e = true → e.on = i → Waits ops j i
  | more {j i : Nat} {o : Oper} {e : Edge} : ops[j]? = some o → e ∈ o.after → Region.binds .any e = true → Waits ops e.on i → Waits ops j i
def waitsB (ops : Array Oper) : Nat → Nat → Nat → Bool
  | 0, _, _ => false
  | n + 1, j, i => match ops[j]? with
    | none => false
    | some o => o.after.any fun e => Region.binds .any e && (e.on == i || waitsB ops n e.on i)
theorem waitsB_ok : ∀ {n j i : Nat}, waitsB ops n j i = true → Waits ops j i
  | 0, _, _, h => by simp [waitsB] at h
  | n + 1, j, i, h => by
    simp only [waitsB] at h
    split at h
    · simp at h
    · rename_i o ho
      obtain ⟨e, he, hb⟩ := Array.any_eq_true'.1 h
      simp only [Bool.and_eq_true, Bool.or_eq_true, beq_iff_eq] at hb
      rcases hb.2 with h1 | h1
      · exact .one ho he hb.1 h1
      · exact .more ho he hb.1 (waitsB_ok h1)
def Closed (ops : Array Oper) (listed : Array Bool) : Prop := ∀ k, listed.getD k false = true → ∀ o, ops[k]? = some o → ∀ e ∈ o.after, Region.binds .any e = true → listed.getD e.on false = true
theorem Closed.waits {listed : Array Bool} (h : Closed ops listed) {j i : Nat} (k : Waits ops j i) : listed.getD j false = true → listed.getD i false = true := by
  induction k with
  | one ho he hb hi => intro hj; rw [← hi]; exact h _ hj _ ho _ he hb
  | more ho he hb _ ih => intro hj; exact ih (h _ hj _ ho _ he hb)
theorem Closed.ready {listed : Array Bool} (h : Closed ops listed) {j i : Nat} (hj : j ∈ Region.ready .any ops listed) (k : Waits ops j i) : listed.getD i false = true := by
  obtain ⟨_, o, ho, hall⟩ := mem_ready.1 hj
  cases k with
  | one ho' he hb hi =>
    rw [ho] at ho'
    cases ho'
    rw [← hi]
    exact hall _ he hb
  | more ho' he hb k =>
    rw [ho] at ho'
    cases ho'
    exact h.waits k (hall _ he hb)
theorem Closed.set {listed : Array Bool} (h : Closed ops listed) {j : Nat} (hj : j ∈ Region.ready .any ops listed) : Closed ops (listed.setIfInBounds j true) := by
  intro k hk o ho e he hb
  by_cases hjk : j = k
  · subst hjk
    obtain ⟨_, o', ho', hall⟩ := mem_ready.1 hj
    rw [ho] at ho'
    cases ho'
    exact getD_set_true (hall e he hb)
  · rw [getD_set_ne false hjk] at hk
    exact getD_set_true (h k hk o ho e he hb)

def Keeps (ops : Array Oper) (rd : List (Nat × Nat)) (j : Nat) (w w' : World) : Prop := ∀ p ∈ rd, ¬ Waits ops j p.1 → w'.heap[p.2]? = w.heap[p.2]?
/-- Any order, and what was read stays until the reading is done. -/
def wpAnyG (P : Program) (ops : Array Oper) (Q : Exit → Act → World → Prop) (rd : List (Nat × Nat)) : Nat → Array Bool → Act → World → Prop
  | 0, listed, a, w => Region.ready .any ops listed = [] ∧ Q .normal a w
  | fuel + 1, listed, a, w =>
    (Region.ready .any ops listed = [] → Q .normal a w) ∧
    ∀ j ∈ Region.ready .any ops listed, wpOp P ops Q j (fun a' w' => Keeps ops rd j w w' ∧ wpAnyG P ops Q rd fuel (listed.setIfInBounds j true) a' w') a w
theorem wpAnyG_mono {rd rd' : List (Nat × Nat)} (hs : ∀ p ∈ rd', p ∈ rd) : ∀ (fuel : Nat) (listed : Array Bool) (a : Act) (w : World), wpAnyG P ops Q rd fuel listed a w → wpAnyG P ops Q rd' fuel listed a w
  | 0, _, _, _, h => h
  | fuel + 1, _, _, _, h => ⟨h.1, fun j hj => wpOp_mono (fun a' w' ⟨k1, k2⟩ => ⟨fun p hp => k1 p (hs p hp), wpAnyG_mono hs fuel _ a' w' k2⟩) (h.2 j hj)⟩
theorem wpAny_of_G {rd : List (Nat × Nat)} : ∀ (fuel : Nat) (listed : Array Bool) (a : Act) (w : World), wpAnyG P ops Q rd fuel listed a w → wpAny P .any ops Q fuel listed a w
  | 0, _, _, _, h => h
  | fuel + 1, _, _, _, h => ⟨h.1, fun j hj => wpOp_mono (fun a' w' ⟨_, k2⟩ => wpAny_of_G fuel _ a' w' k2) (h.2 j hj)⟩

/-- What the world must be for a reading: nothing, or one block. -/
def Needs (X : Option (Nat × Option Obj)) (w : World) : Prop := ∀ g x, X = some (g, x) → w.heap[g]? = x
def YieldsG (P : Program) (ops : Array Oper) (o : Oper) (v : Value) (a : Act) (X : Option (Nat × Option Obj)) : Prop :=
  (Region.wanted o (yielded ops a.tmps) = true ∧ ∀ w, Needs X w → (execOp a.eval o).run P w = .ok (.value v) w) ∨
  (Region.wanted o (yielded ops a.tmps) = false ∧ v = undef)
theorem YieldsG.wpOp {i : Nat} {o : Oper} {v : Value} {a : Act} {X : Option (Nat × Option Obj)} (hi : ops[i]? = some o) (hy : YieldsG P ops o v a X) {K : Act → World → Prop} {w : World} (hn : Needs X w) (h : K (a.put o.dst v) w) : wpOp P ops Q i K a w := by
  unfold Go.wpOp
  simp only [hi]
  rcases hy with ⟨hw, hv⟩ | ⟨hw, rfl⟩
  · simp only [hw, if_true, Oper.wp, hv w hn, Oper.upon]
    exact .inl h
  · simp only [hw, Bool.false_eq_true, if_false]
    exact h
/-- A written variable that an operation does not look at may as well be written behind it. -/
theorem wpOp_later {j : Nat} {oj : Oper} {dst : Option Tmp} {v : Value} {S : Act → Prop} (hj : ops[j]? = some oj) (h1 : ∀ d, dst = some d → d ∉ oj.looksAt ops) (h2 : ∀ d, dst = some d → oj.dst ≠ some d)
    (hS : ∀ a u, S a → S (a.put oj.dst u)) (hSd : ∀ (a : Act) d, S a → S { a with defers := d :: a.defers }) (hsj : ∀ cs b, oj.op ≠ .select cs b) (hQ : ∀ c a w, ¬ Q (.panic c) a w) (hL : ¬ LetsOut Q)
    {K : Act → World → Prop} {a : Act} {w : World} (hs : S a) (h : wpOp P ops Q j K (a.put dst v) w) : wpOp P ops Q j (fun a' w' => S a' ∧ K (a'.put dst v) w') a w := by
  unfold wpOp at *
  simp only [hj] at *
  rw [wanted_put oj a dst v h1] at h
  split
  · rename_i hw
    simp only [hw, if_true] at h
    rcases h with h | ⟨_, hlets⟩
    case inr => exact (hL hlets).elim
    refine .inl ?_
    unfold Oper.wp at *
    rw [execOp_put oj hsj a dst v h1] at h
    generalize (execOp a.eval oj).run P w = r at *
    cases r with
    | ok n w' =>
      cases n <;> simp only [Oper.upon] at h ⊢
      case value u => exact ⟨hS a u hs, by rw [← Act.put_comm a v u h2]; exact h⟩
      case skip => exact ⟨hS a _ hs, by rw [← Act.put_comm a v undef h2]; exact h⟩
      case defer d =>
        refine ⟨hS _ _ (hSd _ d hs), ?_⟩
        rw [← Act.put_comm _ v undef h2, ← Act.put_defers]
        exact h
      case enter f args =>
        refine Calls.mono h fun e w'' he => ?_
        cases e with
        | returned u => exact ⟨hS a u hs, by rw [← Act.put_comm a v u h2]; exact he⟩
        | panicked c => exact (hQ _ _ _ he).elim
        | outgrown => exact he
      case row row args => exact Rows.mono h fun u w'' he => ⟨hS a u hs, by rw [← Act.put_comm a v u h2]; exact he⟩
    | halt x w' =>
      cases x <;> simp only [Oper.upon] at h ⊢
      case panic u => exact (hQ _ _ _ h).elim
  · rename_i hw
    simp only [hw] at h
    exact ⟨hS a _ hs, by rw [← Act.put_comm a v undef h2]; exact h⟩

/-- A reading that is ready and free may be done first. -/
theorem wpAnyG_first {rd : List (Nat × Nat)} {i : Nat} {oi : Oper} {v : Value} {X : Option (Nat × Option Obj)} {rd' : List (Nat × Nat)} (hrd : ∀ p ∈ rd, p ∈ rd') (hX : ∀ g x, X = some (g, x) → (i, g) ∈ rd') (hi : ops[i]? = some oi)
    (hsel : ∀ (j : Nat) (o : Oper) cs b, ops[j]? = some o → o.op ≠ .select cs b) (hQ : ∀ c a w, ¬ Q (.panic c) a w) (hL : ¬ LetsOut Q) :
    ∀ (fuel : Nat) (listed : Array Bool) (a : Act) (w : World), Closed ops listed →
      (∀ j oj, ops[j]? = some oj → j ≠ i → listed.getD j true = false → (∀ e ∈ oj.after, Region.binds .any e = true → e.on ≠ i) → oi.apart ops oj = true) →
      i ∈ Region.ready .any ops listed → YieldsG P ops oi v a X → Needs X w →
      wpAnyG P ops Q rd' fuel (listed.setIfInBounds i true) (a.put oi.dst v) w → wpAnyG P ops Q rd (fuel + 1) listed a w := by
  intro fuel
  induction fuel with
  | zero =>
    intro listed a w _ _ hr hy hn H
    refine ⟨fun h => (by rw [h] at hr; cases hr), fun j hj => ?_⟩
    by_cases hji : j = i
    · subst hji
      exact hy.wpOp hi hn ⟨fun _ _ _ => rfl, wpAnyG_mono hrd _ _ _ _ H⟩
    · have := ready_mono hj hji
      rw [H.1] at this
      cases this
  | succ fuel ih =>
    intro listed a w hcl hfree hr hy hn H
    refine ⟨fun h => (by rw [h] at hr; cases hr), fun j hj => ?_⟩
    by_cases hji : j = i
    · subst hji
      exact hy.wpOp hi hn ⟨fun _ _ _ => rfl, wpAnyG_mono hrd _ _ _ _ H⟩
    · have h1 := H.2 j (ready_mono hj hji)
      obtain ⟨hjun, oj, hoj, hall⟩ := mem_ready.1 hj
      have hil : listed.getD i false ≠ true := by
        intro heq
        have h0 := (mem_ready.1 hr).1
        rcases Nat.lt_or_ge i listed.size with h' | h'
        · simp [h'] at h0 heq; rw [h0] at heq; cases heq
        · simp [Array.getElem?_eq_none h'] at heq
      have hnot : ∀ e ∈ oj.after, Region.binds .any e = true → e.on ≠ i := fun e he hb heq => hil (by rw [← heq]; exact hall e he hb)
      have hnw : ¬ Waits ops j i := fun k => hil (hcl.ready hj k)
      obtain ⟨p1, p2, p3⟩ := Oper.apart_spec (hfree j oj hoj hji hjun hnot)
      have keep : ∀ a u, YieldsG P ops oi v a X → YieldsG P ops oi v (a.put oj.dst u) X := fun a u hy => by
        unfold YieldsG at *
        rw [execOp_put oi (fun cs b => hsel i oi cs b hi) a oj.dst u p3, wanted_put oi a oj.dst u p3]
        exact hy
      have h2 := wpOp_later (S := fun a => YieldsG P ops oi v a X) hoj p1 p2 keep (fun a d h => h) (fun cs b => hsel j oj cs b hoj) hQ hL hy h1
      have hfree' : ∀ k ok, ops[k]? = some ok → k ≠ i → (listed.setIfInBounds j true).getD k true = false → (∀ e ∈ ok.after, Region.binds .any e = true → e.on ≠ i) → oi.apart ops ok = true := fun k ok hk hki hun hno => by
        refine hfree k ok hk hki ?_ hno
        by_cases hjk : j = k
        · subst hjk; exact hjun
        · rw [getD_set_ne true hjk] at hun; exact hun
      refine wpOp_mono (fun a' w' ⟨h3, h4, h5⟩ => ?_) h2
      refine ⟨fun p hp => h4 p (hrd p hp), ih (listed.setIfInBounds j true) a' w' (hcl.set hj) hfree' (ready_mono hr (Ne.symm hji)) h3 ?_ ?_⟩
      · intro g x hx
        rw [h4 (i, g) (hX g x hx) hnw]
        exact hn g x hx
      · rw [Array.setIfInBounds_comm _ _ hji]
        exact h5
theorem wpAnyG_sole {rd : List (Nat × Nat)} {i : Nat} {fuel : Nat} {listed : Array Bool} (hr : Region.ready .any ops listed = [i])
    (h : wpOp P ops Q i (fun a' w' => Keeps ops rd i w w' ∧ wpAnyG P ops Q rd fuel (listed.setIfInBounds i true) a' w') a w) : wpAnyG P ops Q rd (fuel + 1) listed a w :=
  ⟨fun h0 => (by rw [h0] at hr; cases hr), fun j hj => (by rw [hr] at hj; simp at hj; subst hj; exact h)⟩
theorem wpAnyG_done {rd : List (Nat × Nat)} {listed : Array Bool} (hr : Region.ready .any ops listed = []) (h : Q .normal a w) : ∀ fuel, wpAnyG P ops Q rd fuel listed a w
  | 0 => ⟨hr, h⟩
  | _ + 1 => ⟨fun _ => h, by rw [hr]; simp⟩
end

/-! ### Plans -/
def planGo (ops : Array Oper) (gs : List GOp) : List PStep → Array Bool → List Nat → Bool
  | [], listed, _ => (Region.ready .any ops listed).isEmpty
  | st :: r, listed, reads => match gs[st.i]? with
    | none => false
    | some g =>
      if g.op.isF || g.op.isR then Region.free .any ops listed st.i && (Region.ready .any ops listed).contains st.i && planGo ops gs r (listed.setIfInBounds st.i true) (if g.op.isR then st.i :: reads else reads)
      else (Region.ready .any ops listed == [st.i]) && (reads.all fun x => st.un.contains x || waitsB ops ops.size st.i x) && planGo ops gs r (listed.setIfInBounds st.i true) reads
def planB (ops : Array Oper) (gs : List GOp) (p : List PStep) : Bool := decide (p.length ≤ ops.size) && planGo ops gs p (Array.replicate ops.size false) []

/-- What was read, and where the abstract machine has it. -/
def Link (I : Nat → Prop) (val : Nat → Value) (rds : List (Nat × Option Nat)) (rd : List (Nat × Nat)) : Prop := ∀ p ∈ rd, I p.2 ∨ (∃ s, (p.1, some s) ∈ rds ∧ headV (val s) = some p.2) ∨ (p.1, none) ∈ rds
theorem head_blk (h : Inv B e q val w I blk []) {s g : Nat} (ho : (e.get s).isObj = true) (hg : headV (val s) = some g) : g ∈ blk s := by
  have hR := h.rel s
  cases he : e.get s <;> rw [he] at ho hR <;> simp [PV.isObj] at ho
  · rcases hR.2 with ⟨hv, _, _⟩ | ⟨g', vs, hb, _, cap, cur, t, fr, hv, _⟩
    · rw [hv] at hg; simp [headV] at hg
    · rw [hv] at hg
      simp only [headV, Option.some.injEq] at hg
      rw [hb, ← hg]
      simp
  · obtain ⟨g', us, bs', hb, _, cur, t, fr, hv, _⟩ := hR
    rw [hv] at hg
    simp only [headV, Option.some.injEq] at hg
    rw [hb, ← hg]
    simp
theorem Link.put {rds : List (Nat × Option Nat)} {rd : List (Nat × Nat)} (hl : Link I (valOf a H) rds rd) {dst : Option Nat} (hd : ∀ d, dst = some d → d < a.tmps.size ∧ d < home) (hk : dstOK rds dst = true) {I' : Nat → Prop} (hI : ∀ b, I b → I' b) (V : Value) : Link I' (valOf (a.put dst V) H) rds rd := by
  intro p hp
  rcases hl p hp with h | ⟨s, h1, h2⟩ | h
  · exact .inl (hI _ h)
  · refine .inr (.inl ⟨s, h1, ?_⟩)
    cases dst with
    | none => exact h2
    | some d =>
      obtain ⟨d1, d2⟩ := hd d rfl
      rw [valOf_put d1 d2]
      have := List.all_eq_true.1 hk _ h1
      simp only [Option.isNone_some, Bool.false_or, bne_iff_ne, ne_eq, Option.some.injEq] at this
      simp only [upd, if_neg this]
      exact h2
  · exact .inr (.inr h)
theorem Inv.put' {y : PV} {V : Value} (h : Inv B e (refOK e (valOf a H) w) (valOf a H) w I blk []) (hy : Yields (here w I blk B.glob) (valOf a H) e' y V w') {dst : Option Nat} (hd : ∀ d, dst = some d → d < a.tmps.size ∧ d < home) :
    ∃ I' blk', (∀ b, I b → I' b) ∧ Inv B (putDst e' dst y) (refOK (putDst e' dst y) (valOf (a.put dst V) H) w') (valOf (a.put dst V) H) w' I' blk' [] := by
  obtain ⟨I', blk', k⟩ := hy.put hd
  exact ⟨I', blk', k.keepI, h.unbase k⟩
theorem toOp_noSelect {G : Nat → List PV} (op : IOp) (h : op.ok P G) (cs : Array SelectCase) (b : Bool) : op.toOp ≠ .select cs b := by
  cases op <;> first | exact h cs b | simp [IOp.toOp]

theorem planRun_sound (hC : CallOK P B.glob C) {ops : Array Oper} {all : List GOp} (hm : ops.toList.map stripO = all.map eraseO) (hall : ∀ g ∈ all, g.ok P B.glob n) {Q : Exit → Act → World → Prop} (hQp : ∀ c a w, ¬ Q (.panic c) a w) (hL : ¬ LetsOut Q) :
    ∀ {p : List PStep} {fuel : Nat} {listed : Array Bool} {reads : List Nat} {rds : List (Nat × Option Nat)} {rd : List (Nat × Nat)} {e e' : Env} {a : Act} {w : World} {I : Nat → Prop} {blk : Nat → List Nat},
      planGo ops all p listed reads = true → p.length ≤ fuel → Closed ops listed → (∀ r ∈ rd, r.1 ∈ reads) → a.tmps.size = n → a.defers = [] → Inv B e (refOK e (valOf a H) w) (valOf a H) w I blk [] → Link I (valOf a H) rds rd → planRun T C all rds p e = some e' →
      (∀ a' w', St B H n e' a' w' → Q .normal a' w') → wpAnyG P ops Q rd fuel listed a w
  | [], fuel, listed, reads, rds, rd, e, e', a, w, I, blk, hp, hlen, hcl, hrr, hsz, hdf, h, hl, hr, hQ => by
    simp only [planGo, List.isEmpty_iff] at hp
    simp only [planRun, Option.some.injEq] at hr
    subst hr
    exact wpAnyG_done hp (hQ a w ⟨hsz, hdf, I, blk, h⟩) fuel
  | st :: p, 0, listed, reads, rds, rd, e, e', a, w, I, blk, hp, hlen, hcl, hrr, hsz, hdf, h, hl, hr, hQ => by simp at hlen
  | st :: p, fuel + 1, listed, reads, rds, rd, e, e', a, w, I, blk, hp, hlen, hcl, hrr, hsz, hdf, h, hl, hr, hQ => by
    simp only [List.length_cons] at hlen
    simp only [planGo] at hp
    simp only [planRun] at hr
    have hsel : ∀ (j : Nat) (o : Oper) cs b, ops[j]? = some o → o.op ≠ .select cs b := by
      intro j o cs b hj
      have hget : (all.map eraseO)[j]? = some (stripO o) := by rw [← hm]; simp [hj]
      simp only [List.getElem?_map, Option.map_eq_some_iff] at hget
      obtain ⟨g, hgm, hg⟩ := hget
      have : g.op.toOp = o.op := congrArg (·.2.1) hg
      rw [← this]
      exact toOp_noSelect g.op (hall g (List.mem_of_getElem? hgm)).1 cs b
    split at hp
    · simp at hp
    rename_i g hg
    rw [hg] at hr
    simp only at hr
    obtain ⟨oi, hoi, hos⟩ : ∃ o, ops[st.i]? = some o ∧ stripO o = eraseO g := by
      have hget : (ops.toList.map stripO)[st.i]? = some (eraseO g) := by rw [hm]; simp [hg]
      simp only [List.getElem?_map, Option.map_eq_some_iff] at hget
      obtain ⟨o, h1, h2⟩ := hget
      exact ⟨o, by simpa using h1, h2⟩
    have hdst : oi.dst = g.dst := congrArg (·.1) hos
    have hop : oi.op = g.op.toOp := congrArg (·.2.1) hos
    have hgd : oi.guard = g.g := congrArg (·.2.2) hos
    obtain ⟨hgok, hgd2⟩ := hall g (List.mem_of_getElem? hg)
    have hd2 : ∀ d, g.dst = some d → d < a.tmps.size ∧ d < home := by rw [hsz]; exact hgd2
    have hst : St B H n e a w := ⟨hsz, hdf, I, blk, h⟩
    have psz : ∀ V, (a.put g.dst V).tmps.size = n := by intro V; cases g.dst <;> simp [Act.put, hsz]
    have pdf : ∀ V, (a.put g.dst V).defers = [] := by intro V; cases g.dst <;> simp [Act.put, hdf]
    split at hp
    · -- a reading
      rename_i hFR
      simp only [Bool.and_eq_true] at hp
      obtain ⟨⟨hfree, hready⟩, hp⟩ := hp
      have hready' : st.i ∈ Region.ready .any ops listed := by simpa using hready
      split at hr
      · rename_i hw
        have hwt := wanted_ok hm hall hst hgd hw
        simp only [Option.bind_eq_bind, Option.bind_eq_some_iff, Prod.exists] at hr
        obtain ⟨y, e1, hev, hr⟩ := hr
        split at hr
        case isFalse => simp at hr
        rename_i hun
        simp only [Bool.and_eq_true] at hun
        by_cases hF : g.op.isF = true
        · have hnr : g.op.isR = false := by cases hgo : g.op <;> rw [hgo] at hF <;> simp_all [IOp.isF, IOp.isR]
          have hro : readsOf e st.i g.op = [] := by cases hgo : g.op <;> rw [hgo] at hnr <;> simp_all [readsOf, IOp.isR]
          rw [hro, List.nil_append] at hr hun
          obtain ⟨V, hV, hy⟩ := op_F (T := T) (C := C) (B := here w I blk B.glob) h.rebase hgok hop hF hev
          obtain ⟨I', blk', hI', k⟩ := h.put' hy hd2
          rw [hnr] at hp
          refine wpAnyG_first (rd' := rd) (X := none) (fun _ h => h) (fun _ _ hx => by cases hx) hoi hsel hQp hL fuel listed a w hcl (Region.free_spec hoi hfree) hready' (.inl ⟨hwt, fun w2 _ => hV w2⟩) (fun _ _ hx => by cases hx) ?_
          rw [hdst]
          exact planRun_sound hC hm hall hQp hL hp (by omega) (hcl.set hready') (by simpa using hrr) (psz V) (pdf V) k (hl.put hd2 hun.2 hI' V) hr hQ
        · have hR : g.op.isR = true := by simpa [hF] using hFR
          rw [hR] at hp
          cases hgo : g.op <;> rw [hgo] at hR <;> simp [IOp.isR] at hR
          rename_i t ln ad
          rw [hgo] at hev hgok hop hr hun
          simp only [ev, Option.map_eq_some_iff, Prod.mk.injEq] at hev
          obtain ⟨z, hz, rfl, rfl⟩ := hev
          obtain ⟨V, gb, hV, hloc, hy⟩ := run_loadR (B := here w I blk B.glob) h.rebase hgok.1 hop hgok.2 hz
          obtain ⟨I', blk', hI', k⟩ := h.put' hy hd2
          refine wpAnyG_first (rd' := (st.i, gb) :: rd) (X := some (gb, w.heap[gb]?)) (fun p hp => by simp [hp]) (fun g' x hx => by cases hx; simp) hoi hsel hQp hL fuel listed a w hcl (Region.free_spec hoi hfree) hready' (.inl ⟨hwt, fun w2 hn => hV w2 (hn gb _ rfl)⟩) (fun g' x hx => by cases hx; rfl) ?_
          rw [hdst]
          refine planRun_sound hC hm hall hQp hL hp (by omega) (hcl.set hready') (fun r hr' => ?_) (psz V) (pdf V) k (Link.put (rds := readsOf e st.i (.load t ln ad) ++ rds) ?_ hd2 hun.2 hI' V) hr hQ
          · rcases List.mem_cons.1 hr' with rfl | hr'
            · simp
            · simp [hrr r hr']
          · intro p hp'
            rcases List.mem_cons.1 hp' with rfl | hp'
            · simp only [readsOf]
              revert hloc
              cases hae : ad.ev e with
              | ref s p => cases p with
                | nil => intro hloc; exact .inr (.inl ⟨s, by simp, hloc⟩)
                | cons _ _ => intro _; exact .inr (.inr (by simp))
              | addr s o => intro hloc; exact .inr (.inl ⟨s, by simp, hloc⟩)
              | eaddr s p sz i k => cases p with
                | nil => intro hloc; exact .inr (.inl ⟨s, by simp, hloc⟩)
                | cons _ _ => intro _; exact .inr (.inr (by simp))
              | raddr cs => intro hloc; exact .inl hloc
              | _ => intro _; exact .inr (.inr (by simp))
            · rcases hl p hp' with h1 | ⟨s, h1, h2⟩ | h1
              · exact .inl h1
              · exact .inr (.inl ⟨s, by simp [h1], h2⟩)
              · exact .inr (.inr (by simp [h1]))
      · rename_i hw
        have hwt := wanted_ok hm hall hst hgd hw
        split at hr
        case isFalse => simp at hr
        rename_i hdk
        obtain ⟨I', blk', hI', k⟩ := h.put' (undef_yields h.rebase) hd2
        refine wpAnyG_first (rd' := rd) (X := none) (fun _ h => h) (fun _ _ hx => by cases hx) hoi hsel hQp hL fuel listed a w hcl (Region.free_spec hoi hfree) hready' (.inr ⟨hwt, rfl⟩) (fun _ _ hx => by cases hx) ?_
        rw [hdst]
        refine planRun_sound hC hm hall hQp hL hp (by omega) (hcl.set hready') (fun r hr' => ?_) (psz _) (pdf _) k (hl.put hd2 hdk hI' _) hr hQ
        split
        · simp [hrr r hr']
        · exact hrr r hr'
      · simp at hr
    · -- alone
      rename_i hnF
      simp only [Bool.and_eq_true, beq_iff_eq] at hp
      obtain ⟨⟨hsole, hreads⟩, hp⟩ := hp
      have hready' : st.i ∈ Region.ready .any ops listed := by rw [hsole]; simp
      refine wpAnyG_sole hsole ?_
      unfold wpOp
      simp only [hoi]
      split at hr
      · rename_i hw
        have hwt := wanted_ok hm hall hst hgd hw
        rw [if_pos hwt]
        simp only [Option.bind_eq_bind, Option.bind_eq_some_iff, Prod.exists] at hr
        obtain ⟨y, e1, hev, hr⟩ := hr
        split at hr
        case isFalse => simp at hr
        rename_i hun
        simp only [Bool.and_eq_true] at hun
        have hro : readsOf e st.i g.op = [] := by
          cases hgo : g.op <;> rw [hgo] at hnF <;> simp_all [readsOf, IOp.isR]
        rw [hro, List.nil_append] at hr hun
        refine .inl (Oper.wp_mono ?_ (op_full (T := T) hC h hgok hop hev))
        rintro a' w' ⟨V, rfl, hy, hfr⟩
        obtain ⟨I', blk', hI', k⟩ := h.put' hy hd2
        rw [hdst]
        refine ⟨fun r hr' hnw => ?_, planRun_sound hC hm hall hQp hL hp (by omega) (hcl.set hready') hrr (psz V) (pdf V) k (hl.put hd2 hun.2 hI' V) hr hQ⟩
        have h1 := List.all_eq_true.1 hreads r.1 (hrr r hr')
        simp only [Bool.or_eq_true] at h1
        rcases h1 with h1 | h1
        · rcases hl r hr' with h2 | ⟨s, h2, h3⟩ | h2
          · exact Yields.same (B := B) hy r.2 (h.ltI _ h2) fun s hs => h.notI s _ hs h2
          · have h4 := List.all_eq_true.1 hun.1 _ h2
            simp only [h1, Bool.not_true, Bool.false_or, Bool.and_eq_true] at h4
            exact hfr s h4.2 r.2 (head_blk h h4.1 h3)
          · have h4 := List.all_eq_true.1 hun.1 _ h2
            simp only [h1, Bool.not_true, Bool.false_or] at h4
            cases h4
        · exact (hnw (waitsB_ok h1)).elim
      · rename_i hw
        have hwt := wanted_ok hm hall hst hgd hw
        rw [if_neg (by rw [hwt]; simp)]
        split at hr
        case isFalse => simp at hr
        rename_i hdk
        obtain ⟨I', blk', hI', k⟩ := h.put' (undef_yields h.rebase) hd2
        rw [hdst]
        exact ⟨fun _ _ _ => rfl, planRun_sound hC hm hall hQp hL hp (by omega) (hcl.set hready') hrr (psz _) (pdf _) k (hl.put hd2 hdk hI' _) hr hQ⟩
      · simp at hr

theorem walk_heap (hh : w'.heap = w.heap) : ∀ (p : List Nat) (V : Value), walk w' V p = walk w V p
  | [], _ => rfl
  | o :: p, V => by
    have h1 : stepV w' V o = stepV w V o := by
      unfold stepV
      split
      · rfl
      · rfl
      · exact World.cell?_of_block (by rw [hh])
      · rfl
    simp only [walk, h1]
    congr 1
    funext v
    exact walk_heap hh p v
theorem Inv.sameHeap (h : Inv B e (refOK e val w) val w I blk []) (hh : w'.heap = w.heap) (hos : w'.os = w.os) (htape : w'.tape = w.tape) (hout : w'.output = w.output) : Inv B e (refOK e val w') val w' I blk [] := by
  have hq : ∀ x V, refOK e val w x V → refOK e val w' x V := by
    intro x V k
    have hp : ∀ s p, place val w' s p = place val w s p := fun s p => walk_heap hh p _
    cases x <;> simp only [refOK, hp] at k ⊢ <;> exact k
  refine { h with rel := fun s => ?_, ltI := ?_, ltf := ?_, os := hos.trans h.os, tape := htape.trans h.tape, output := hout.trans h.output, size := ?_, same := ?_, glob := ?_ }
  · exact R.mono (fun _ h => h) (fun _ _ => by rw [hh]) _ _ _ hq _ _ (fun _ _ => by rw [hh]) (h.rel s)
  · rw [hh]; exact h.ltI
  · rw [hh]; exact h.ltf
  · rw [hh]; exact h.size
  · rw [hh]; exact h.same
  · exact fun n hn => R.mono (fun _ h => h) (fun _ _ => by rw [hh]) _ _ _ (fun _ _ h => h) _ _ (fun _ _ => by rw [hh]) (h.glob n hn)
theorem plan_sound (hC : CallOK P B.glob C) {ops : Array Oper} {all : List GOp} (hm : ops.toList.map stripO = all.map eraseO) (hall : ∀ g ∈ all, g.ok P B.glob n) {p : List PStep} (hp : planB ops all p = true) (hmix : P.follows .mixedOrders = true) {id : Nat}
    (h : St B H n e a w) (hr : planRun T C all [] p e = some e') (hQ : ∀ a' w', St B H n e' a' w' → Q .normal a' w') : (Code.region id ops true).wp P Q a w := by
  obtain ⟨hsz, hdf, I, blk, hI⟩ := h
  simp only [planB, Bool.and_eq_true, decide_eq_true_eq] at hp
  have hdrawn : Inv B e (refOK e (valOf a H) { w with drawn := w.drawn + 1 }) (valOf a H) { w with drawn := w.drawn + 1 } I blk [] := hI.sameHeap rfl rfl rfl rfl
  have hcl : Closed ops (Array.replicate ops.size false) := by
    intro k hk
    by_cases hlt : k < ops.size <;> simp [hlt] at hk
  have key := planRun_sound (Q := fun x a w => x = .normal ∧ Q .normal a w) hC hm hall (fun _ _ _ h => by cases h.1) (fun ⟨_, _, h⟩ => by cases h.1) hp.2 hp.1 hcl (fun _ h => by simp at h) hsz hdf hdrawn (rds := []) (rd := []) (fun _ h => by simp at h) hr (fun a' w' h' => ⟨rfl, hQ a' w' h'⟩)
  refine wp_mono (wp_region_any hmix (wpAny_of_G _ _ _ _ key)) fun x a' w' hx => ?_
  obtain ⟨rfl, hx⟩ := hx
  exact hx
end
end Go.AM
