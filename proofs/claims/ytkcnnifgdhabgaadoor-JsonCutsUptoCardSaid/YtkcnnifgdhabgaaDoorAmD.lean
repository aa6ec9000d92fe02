/- Statements in order or by a plan; code; functions. No conditions. -/
import Derived.Test.YtkcnnifgdhabgaaDoorAmC
import Derived.Scope
import Derived.LoopN
import Derived.Orders
/- Statements in order: what the code does is what the abstract machine says. No conditions. -/
namespace Go.AM
open Go

section
variable {P : Program} {B : Base} {T : Tab} {C : Oracle} {a : Act} {H : Nat → Value} {e e' : Env} {w w' : World} {I : Nat → Prop} {blk : Nat → List Nat} {Q : Exit → Act → World → Prop} {n : Nat}

/-- The state of a call under way. -/
def St (B : Base) (H : Nat → Value) (n : Nat) (e : Env) (a : Act) (w : World) : Prop :=
  a.tmps.size = n ∧ a.defers = B.ds ∧ ∃ I blk, Inv B e (refOK e (valOf a H) w) (valOf a H) w I blk []
theorem valOf_put {d : Nat} (hd : d < a.tmps.size) (hh : d < home) (V : Value) : valOf (a.put (some d) V) H = upd (valOf a H) d V := by
  funext s
  unfold valOf upd Act.put
  by_cases hs : s = d
  · subst hs
    simp [hh, hd]
  · by_cases hl : s < home
    · simp [hl, hs, Array.getElem?_setIfInBounds_ne (Ne.symm hs)]
    · simp [hl, hs]
theorem Yields.put {y : PV} {V : Value} (h : Yields B (valOf a H) e' y V w') {dst : Option Nat} (hd : ∀ d, dst = some d → d < a.tmps.size ∧ d < home) :
    ∃ I' blk', Inv B (putDst e' dst y) (refOK (putDst e' dst y) (valOf (a.put dst V) H) w') (valOf (a.put dst V) H) w' I' blk' [] := by
  obtain ⟨I', blk', bs, h1, h2⟩ := h
  cases dst with
  | none => exact ⟨I', blk', h1.fl_drop (List.nil_sublist _)⟩
  | some d =>
    obtain ⟨d1, d2⟩ := hd d rfl
    rw [valOf_put d1 d2]
    rcases h2 with h2 | ⟨rfl, hno, h2⟩
    · obtain ⟨blk'', h3⟩ := Inv.putClosed (fl := []) (by simpa using h1) h2
      exact ⟨I', blk'', h3⟩
    · exact ⟨I', _, Inv.putView h1 hno h2⟩
theorem St.put {y : PV} {V : Value} (hs : a.tmps.size = n) (hdf : a.defers = B.ds) (h : Yields B (valOf a H) e' y V w') {dst : Option Nat} (hd : ∀ d, dst = some d → d < n ∧ d < home) : St B H n (putDst e' dst y) (a.put dst V) w' := by
  refine ⟨?_, ?_, h.put (by rw [hs]; exact hd)⟩
  · cases dst <;> simp [Act.put, hs]
  · cases dst <;> simp [Act.put, hdf]

theorem Env.get_del (e : Env) (s t : Nat) : (e.del s).get t = if s = t then .dead else e.get t := by
  induction e with
  | nil => simp [Env.del, Env.get]
  | cons kx r ih =>
    obtain ⟨k, x⟩ := kx
    by_cases h : k = s
    · subst h
      simp only [Env.del, if_true, ih, Env.get]
      by_cases h2 : k = t <;> simp [h2]
    · simp only [Env.del, if_neg h, Env.get]
      by_cases h2 : k = t
      · subst h2
        simp [Ne.symm h]
      · rw [if_neg h2, if_neg h2, ih]
theorem Inv.del1 {val : Nat → Value} (h : Inv B e (refOK e val w) val w I blk []) (s : Nat) : Inv B (e.del s) (refOK (e.del s) val w) val w I (updB blk s []) [] := by
  have wk : Weak (e.del s) e := by
    intro t p o
    unfold Env.at_ at o ⊢
    rw [Env.get_del] at o
    split at o
    · simp [PV.sub_dead, PV.isObj] at o
    · exact o
  have sub : ∀ t b, b ∈ updB blk s [] t → b ∈ blk t := by
    intro t b hb
    simp only [updB] at hb
    split at hb
    · simp at hb
    · exact hb
  refine { h with rel := ?_, nd := ?_, dj := ?_, djf := ?_, notI := ?_, own := ?_ }
  · intro t
    rw [Env.get_del]
    simp only [updB]
    by_cases ht : s = t
    · subst ht
      simp [AM.R]
    · rw [if_neg ht, if_neg (Ne.symm ht)]
      exact wk.R (h.rel t)
  · intro t
    simp only [updB]
    split
    · simp
    · exact h.nd t
  · exact fun t u htu b hb hb' => h.dj t u htu b (sub t b hb) (sub u b hb')
  · exact fun t b hb => h.djf t b (sub t b hb)
  · exact fun t b hb => h.notI t b (sub t b hb)
  · exact fun t b hb => h.own t b (sub t b hb)
theorem Inv.forget {val : Nat → Value} : ∀ {ks : List Nat} {e : Env} {blk : Nat → List Nat}, Inv B e (refOK e val w) val w I blk [] → ∃ blk', Inv B (e.forget ks) (refOK (e.forget ks) val w) val w I blk' []
  | [], _, blk, h => ⟨blk, h⟩
  | k :: ks, _, _, h => Inv.forget (ks := ks) (h.del1 k)
theorem St.forget (h : St B H n e a w) (ks : List Nat) : St B H n (e.forget ks) a w := by
  obtain ⟨h1, h2, I, blk, h3⟩ := h
  obtain ⟨blk', h4⟩ := h3.forget (ks := ks)
  exact ⟨h1, h2, I, blk', h4⟩

/-! ### Code and its form for the abstract machine -/
abbrev SOp := Option Tmp × Op × Option (Nat × Bool)
def stripO (o : Oper) : SOp := (o.dst, o.op, o.guard)
def eraseO (g : GOp) : SOp := (g.dst, g.op.toOp, g.g)
def GOp.ok (P : Program) (G : Nat → List PV) (n : Nat) (g : GOp) : Prop := g.op.ok P G ∧ ∀ d, g.dst = some d → d < n ∧ d < home

theorem wanted_ok {ops : Array Oper} {all : List GOp} (hm : ops.toList.map stripO = all.map eraseO) (hall : ∀ g ∈ all, g.ok P B.glob n) (h : St B H n e a w) {o : Oper} {g : GOp} (ho : o.guard = g.g) {b : Bool} (hw : wantedA all e g.g = some b) :
    Region.wanted o (yielded ops a.tmps) = b := by
  unfold wantedA at hw
  unfold Region.wanted
  rw [ho]
  split at hw
  · rename_i hg
    rw [hg]
    exact Option.some.inj hw
  · rename_i j want hg
    rw [hg]
    simp only
    split at hw
    · rename_i g' hg'
      split at hw
      · rename_i d hd
        have hget : (ops.toList.map stripO)[j]? = some (eraseO g') := by rw [hm]; simp [hg']
        have ⟨o', ho', hs'⟩ : ∃ o', ops[j]? = some o' ∧ stripO o' = eraseO g' := by
          simp only [List.getElem?_map, Option.map_eq_some_iff] at hget
          obtain ⟨o', h1, h2⟩ := hget
          exact ⟨o', by simpa using h1, h2⟩
        have hdst : o'.dst = some d := by
          have := congrArg (·.1) hs'
          simpa [stripO, eraseO, hd] using this
        obtain ⟨hsz, _, I, blk, hI⟩ := h
        have hdn := (hall g' (List.mem_of_getElem? hg')).2 d hd
        have hR := hI.rel d
        have hval : valOf a H d = a.tmps.getD d undef := by simp [valOf, hdn.2]
        have hlt : d < a.tmps.size := by rw [hsz]; exact hdn.1
        have htm : a.tmps[d]? = some (a.tmps.getD d undef) := by simp [hlt]
        have hy : yielded ops a.tmps j = match a.tmps.getD d undef with | .bool b => some b | _ => none := by
          unfold yielded
          simp only [ho', Option.bind_some, hdst]
          rw [htm]
          cases a.tmps.getD d undef <;> rfl
        split at hw
        · rename_i b0 hb0
          rw [hb0] at hR
          have : a.tmps.getD d undef = .bool b0 := by rw [← hval]; exact hR.1
          rw [hy, this]
          simp only [Option.some.injEq] at hw
          rw [← hw]
          simp
        · rename_i hb0
          rw [hb0] at hR
          obtain ⟨vs, e1, hvs⟩ := hR
          obtain ⟨rfl, _⟩ := hvs
          have : a.tmps.getD d undef = .tuple #[] := by rw [← hval]; exact e1
          rw [hy, this]
          simp only [Option.some.injEq] at hw
          rw [← hw]
          simp
        · simp at hw
      · simp at hw
    · simp at hw
theorem undef_yields (h : Inv B e (refOK e (valOf a H) w) (valOf a H) w I blk []) : Yields B (valOf a H) e (.tup []) undef w := ⟨I, blk, [], h, .inl ⟨[], rfl, rfl, rfl⟩⟩

def Out.exit' : Out → Exit
  | .normal => .normal
  | .ret => .ret
  | .exit id => .exit id
  | .pan x => .panic [{ v := x, recovered := false }]
theorem pan_none {op : IOp} {r : PV × Env} (h : ev T C e op = some r) : panOf T C e op = none := by
  have key : ∀ {q : Option (FuncId × List PV)}, (q.bind fun q => call T C e q.1 q.2) = some r → (q.bind fun q => (callR T C e q.1 q.2).bind fun r => match r.1 with | .pan x => some (x, r.2) | _ => none) = none := by
    intro q hq
    simp only [Option.bind_eq_some_iff, Prod.exists] at hq
    obtain ⟨f, xs, rfl, h1⟩ := hq
    obtain ⟨h2, h3⟩ := call_some h1
    simp only [Option.bind_some, h2]
    obtain ⟨y, e1⟩ := r
    cases y <;> first | rfl | cases h3
  by_cases hc : op.isCall = true
  · rw [ev_calls hc] at h
    have := key h
    cases op <;> simp only [IOp.isCall] at hc <;> first | (cases hc; done) | exact this
  · cases op <;> first | exact absurd rfl hc | rfl | (simp [ev] at h; done)
theorem panOf_FR {op : IOp} (h : (op.isF || op.isR) = true) : panOf T C e op = none := by
  cases op <;> first | rfl | (simp [IOp.isF, IOp.isR] at h; done)
theorem opsRun_P {all : List GOp} : ∀ {l : List GOp} {e e' : Env}, opsRun T C all l e = some e' → opsRunP T C all l e = some (.normal, e')
  | [], e, e', h => by simp only [opsRun, Option.some.injEq] at h; rw [h]; rfl
  | o :: r, e, e', h => by
    simp only [opsRun] at h
    simp only [opsRunP]
    split at h
    · rename_i hw
      simp only [Option.bind_eq_bind, Option.bind_eq_some_iff, Prod.exists] at h
      obtain ⟨y, e1, hev, h⟩ := h
      simp only [pan_none hev, hev, Option.bind_eq_bind, Option.bind_some]
      exact opsRun_P h
    · rename_i hw
      exact opsRun_P h
    · cases h
theorem planRun_P {all : List GOp} : ∀ {p : Plan} {rds : List (Nat × Option Nat)} {e e' : Env}, planRun T C all rds p e = some e' → planRunP T C all rds p e = some (.normal, e')
  | .nil, rds, e, e', h => by simp only [planRun, Option.some.injEq] at h; rw [h]; rfl
  | .fork ks l r, rds, e, e', h => by
    simp only [planRun] at h
    obtain ⟨x, y, hx, hy, _⟩ := forkEnv_some h
    simp only [planRunP, planRun_P hx, planRun_P hy, forkOut]
    rw [hx, hy] at h
    rw [h]
    rfl
  | .cons st r, rds, e, e', h => by
    simp only [planRun] at h
    simp only [planRunP]
    split at h
    · cases h
    · split at h
      · simp only [Option.bind_eq_bind, Option.bind_eq_some_iff, Prod.exists] at h
        obtain ⟨y, e1, hev, h⟩ := h
        simp only [pan_none hev, hev, Option.bind_eq_bind, Option.bind_some]
        split at h
        · rename_i hc
          rw [if_pos hc]
          exact planRun_P h
        · cases h
      · split at h
        · rename_i hc
          rw [if_pos hc]
          exact planRun_P h
        · cases h
      · cases h
theorem opsRun_sound (hC : CallOK P B.glob C) {ops : Array Oper} {all : List GOp} (hm : ops.toList.map stripO = all.map eraseO) (hall : ∀ g ∈ all, g.ok P B.glob n) :
    ∀ {l : List Oper} {r : List GOp} {e e' : Env} {out : Out} {a : Act} {w : World}, l.map stripO = r.map eraseO → (∀ g ∈ r, g.ok P B.glob n) → St B H n e a w → opsRunP T C all r e = some (out, e') → (∀ a' w', St B H n e' a' w' → Q out.exit' a' w') → wpList P ops Q l a w
  | [], r, e, e', out, a, w, hl, _, h, hr, hQ => by
    have : r = [] := by cases r <;> simp_all
    subst this
    simp only [opsRunP, Option.some.injEq, Prod.mk.injEq] at hr
    obtain ⟨rfl, rfl⟩ := hr
    exact hQ a w h
  | o :: l, r, e, e', out, a, w, hl, hok, h, hr, hQ => by
    cases r with
    | nil => simp at hl
    | cons g r =>
      simp only [List.map_cons, List.cons.injEq] at hl
      obtain ⟨ho, hl⟩ := hl
      have hdst : o.dst = g.dst := congrArg (·.1) ho
      have hop : o.op = g.op.toOp := congrArg (·.2.1) ho
      have hgd : o.guard = g.g := congrArg (·.2.2) ho
      obtain ⟨hgok, hgd2⟩ := hok g (by simp)
      simp only [opsRunP] at hr
      split at hr
      · rename_i hw
        have hwt := wanted_ok hm hall h hgd hw
        obtain ⟨hsz, hdf, I, blk, hI⟩ := h
        split at hr
        · rename_i x hp
          simp only [Option.some.injEq, Prod.mk.injEq] at hr
          obtain ⟨rfl, rfl⟩ := hr
          unfold wpList
          rw [if_pos hwt]
          exact .inl (pan_sound hC hI hgok hop hp fun w' I' blk' hv => hQ a w' ⟨hsz, hdf, I', blk', hv⟩)
        simp only [Option.bind_eq_bind, Option.bind_eq_some_iff, Prod.exists] at hr
        obtain ⟨y, e1, hev, hr⟩ := hr
        unfold wpList
        rw [if_pos hwt]
        refine .inl (Oper.wp_mono ?_ (op_sound hC hI hgok hop hev))
        rintro a' w' ⟨V, rfl, hy⟩
        rw [hdst]
        exact opsRun_sound hC hm hall hl (fun g hg => hok g (by simp [hg])) ((St.put hsz hdf hy hgd2).forget _) hr hQ
      · rename_i hw
        have hwt := wanted_ok hm hall h hgd hw
        unfold wpList
        rw [if_neg (by rw [hwt]; simp)]
        obtain ⟨hsz, hdf, I, blk, hI⟩ := h
        rw [hdst]
        exact opsRun_sound hC hm hall hl (fun g hg => hok g (by simp [hg])) ((St.put hsz hdf (undef_yields hI) hgd2).forget _) hr hQ
      · simp at hr
theorem St.keep (h : St B H n e a w) (ks : List Nat) : St B H n (e.keep ks) a w := by
  obtain ⟨hsz, hdf, I, blk, hI⟩ := h
  have wk : Weak (e.keep ks) e := by
    intro s p o
    unfold Env.at_ at o ⊢
    rw [Env.get_keep] at o
    split at o
    · exact o
    · simp [PV.sub_dead, PV.isObj] at o
  let blk' : Nat → List Nat := fun s => if s ∈ ks then blk s else []
  have sub : ∀ s b, b ∈ blk' s → b ∈ blk s := by
    intro s b hb
    simp only [blk'] at hb
    split at hb
    · exact hb
    · simp at hb
  refine ⟨hsz, hdf, I, blk', { hI with rel := ?_, nd := ?_, dj := ?_, djf := ?_, notI := ?_, own := ?_ }⟩
  · intro s
    rw [Env.get_keep]
    simp only [blk']
    by_cases hs : s ∈ ks
    · simp only [hs, if_true]
      exact wk.R (hI.rel s)
    · simp [hs, AM.R]
  · intro s
    simp only [blk']
    split
    · exact hI.nd s
    · simp
  · exact fun s t hst b hb hb' => hI.dj s t hst b (sub s b hb) (sub t b hb')
  · exact fun s b hb => hI.djf s b (sub s b hb)
  · exact fun s b hb => hI.notI s b (sub s b hb)
  · exact fun s b hb => hI.own s b (sub s b hb)
theorem St.freeze (h : St B H n e a w) {ls : List (Nat × List Nat)} (hf : frzOK e ls = true) : St B H n (freezeAll e ls) a w := by
  obtain ⟨hsz, hdf, I, blk, hI⟩ := h
  obtain ⟨blk', I2, k1, k2, _, _⟩ := freezeAll_ok hI (fun s p hm => by
    have := List.all_eq_true.1 hf (s, p) hm
    simp only [Bool.and_eq_true] at this
    refine ⟨this.1, ?_⟩
    have h2 := this.2
    revert h2
    cases e.at_ s p <;> simp [rowAt, isRow])
  exact ⟨hsz, hdf, I2, blk', { k1 with rel := fun s => k2.R (k1.rel s) }⟩
end
end Go.AM

/- Statements whose order is free. No conditions. -/
namespace Go.AM
open Go

section
variable {P : Program} {B : Base} {T : Tab} {C : Oracle} {a : Act} {H : Nat → Value} {e e' : Env} {w w' : World} {I : Nat → Prop} {blk : Nat → List Nat} {Q : Exit → Act → World → Prop} {n : Nat} {q : PV → Value → Prop} {val : Nat → Value}

/-! ### The world behind one operation -/
/-- What the call has found, seen from here. -/
def here (w : World) (I : Nat → Prop) (blk : Nat → List Nat) (G : Nat → List PV) : Base := { w := w, I := I, S := fun b => ∃ s, b ∈ blk s, glob := G }
theorem Inv.rebase (h : Inv B e q val w I blk []) : Inv (here w I blk B.glob) e q val w I blk [] :=
  { h with keepI := fun _ h => h, newI := fun _ h => .inl h, own := fun s _ hb => .inl ⟨s, hb⟩, ownf := fun _ hb => by simp at hb, os := rfl, tape := rfl, output := rfl, size := Nat.le_refl _, same := fun _ _ _ => rfl }
theorem Inv.unbase {e2 : Env} {q2 : PV → Value → Prop} {val2 : Nat → Value} {w2 : World} {I2 : Nat → Prop} {blk2 : Nat → List Nat} {fl2 : List Nat} (h : Inv B e q val w I blk []) (k : Inv (here w I blk B.glob) e2 q2 val2 w2 I2 blk2 fl2) : Inv B e2 q2 val2 w2 I2 blk2 fl2 := by
  have hS : ∀ b, (∃ s, b ∈ blk s) → B.S b ∨ B.w.heap.size ≤ b := fun b ⟨s, hb⟩ => h.own s b hb
  refine { k with keepI := fun b hb => k.keepI b (h.keepI b hb), newI := ?_, own := ?_, ownf := ?_, os := k.os.trans h.os, tape := k.tape.trans h.tape, output := k.output.trans h.output, size := Nat.le_trans h.size k.size, same := ?_ }
  · intro b hb
    rcases k.newI b hb with h1 | h1 | h1
    · exact h.newI b h1
    · exact .inr (hS b h1)
    · exact .inr (.inr (Nat.le_trans h.size h1))
  · intro s b hb
    rcases k.own s b hb with h1 | h1
    · exact hS b h1
    · exact .inr (Nat.le_trans h.size h1)
  · intro b hb
    rcases k.ownf b hb with h1 | h1
    · exact hS b h1
    · exact .inr (Nat.le_trans h.size h1)
  · intro b hb hB
    rw [k.same b (Nat.lt_of_lt_of_le hb h.size) fun hs => ?_]
    · exact h.same b hb hB
    · rcases hS b hs with h1 | h1
      · exact hB h1
      · omega
theorem Inv.drop1 (h : Inv B e (refOK e val w) val w I blk []) (s : Nat) : Inv B (e.set s .dead) (refOK (e.set s .dead) val w) val w I (updB blk s []) [] := by
  have wk : Weak (e.set s .dead) e := by
    intro t p o
    unfold Env.at_ at o ⊢
    rw [Env.get_set] at o
    split at o
    · simp [PV.sub_dead, PV.isObj] at o
    · exact o
  have sub : ∀ t b, b ∈ updB blk s [] t → b ∈ blk t := by
    intro t b hb
    simp only [updB] at hb
    split at hb
    · simp at hb
    · exact hb
  refine { h with rel := ?_, nd := ?_, dj := ?_, djf := ?_, notI := ?_, own := ?_ }
  · intro t
    rw [Env.get_set]
    simp only [updB]
    by_cases ht : s = t
    · subst ht
      simp [AM.R]
    · rw [if_neg ht, if_neg (Ne.symm ht)]
      exact wk.R (h.rel t)
  · intro t
    simp only [updB]
    split
    · simp
    · exact h.nd t
  · exact fun t u htu b hb hb' => h.dj t u htu b (sub t b hb) (sub u b hb')
  · exact fun t b hb => h.djf t b (sub t b hb)
  · exact fun t b hb => h.notI t b (sub t b hb)
  · exact fun t b hb => h.own t b (sub t b hb)
theorem Yields.same {blk0 : Nat → List Nat} {y : PV} {V : Value} (hy : Yields (here w I blk0 B.glob) val e' y V w') : ∀ b, b < w.heap.size → (∀ s, b ∉ blk0 s) → w'.heap[b]? = w.heap[b]? := by
  obtain ⟨I', blk', bs, k, _⟩ := hy
  exact fun b hb hs => k.same b hb fun ⟨s, h⟩ => hs s h
theorem RunsTo.det {o : Oper} {V V' : Value} {w1 w2 : World} (h : RunsTo P o a w V w1) (k : RunsTo P o a w V' w2) : w1 = w2 := by
  rcases h with h | ⟨h, _⟩ <;> rcases k with k | ⟨k, _⟩ <;> rw [h] at k <;> cases k <;> rfl
/-- An operation, with what it leaves as it was. -/
theorem op_full (hC : CallOK P B.glob C) (h : Inv B e (refOK e (valOf a H) w) (valOf a H) w I blk []) {o : Oper} {op : IOp} (hok : op.ok P B.glob) (ho : o.op = op.toOp) {y : PV} (hev : ev T C e op = some (y, e')) :
    o.wp P a w (fun a' w' => ∃ V, a' = a.put o.dst V ∧ Yields (here w I blk B.glob) (valOf a H) e' y V w' ∧ ∀ s, leaves T C e s op = true → ∀ b, b ∈ blk s → w'.heap[b]? = w.heap[b]?) Q := by
  by_cases hc : op.isCall = true
  · rw [ev_calls hc] at hev
    simp only [Option.bind_eq_some_iff, Prod.exists] at hev
    obtain ⟨f, xs, hq, hev⟩ := hev
    obtain ⟨vs, hrun, hx⟩ := calls_enters h hok ho hc hq
    have hcall := call_ok (T := T) (B := here w I blk B.glob) hC h.rebase hx hev
    unfold Oper.wp
    rw [hrun]
    refine hcall.mono fun en w' ⟨V, he, hy, hfr⟩ => ?_
    subst he
    refine ⟨V, rfl, hy, fun s hl b hb => ?_⟩
    have hm : ((moves e [] (T.modes f) xs).map fun r => keepsS s r.1) = some true := by
      cases op <;> simp only [IOp.isCall] at hc <;> first | (cases hc; done) | skip
      · simp only [IOp.calls, Option.some.injEq, Prod.mk.injEq] at hq
        obtain ⟨rfl, rfl⟩ := hq
        simp only [leaves] at hl
        split at hl
        · rename_i r e1 hm
          rw [hm]
          simpa using hl
        · cases hl
      · simp only [IOp.calls] at hq
        simp only [leaves] at hl
        simp only [Option.map_eq_some_iff, Prod.mk.injEq] at hq
        obtain ⟨q, hcal, rfl, rfl⟩ := hq
        rw [hcal] at hl
        simp only at hl
        split at hl
        · rename_i r e1 hm
          rw [hm]
          simpa using hl
        · cases hl
    exact hfr s hm b hb
  · have hc' : op.isCall = false := by simpa using hc
    obtain ⟨V, w', h1, h2⟩ := op_runs (T := T) (C := C) (B := here w I blk B.glob) h.rebase hok ho hc' hev
    refine h1.wp ⟨V, rfl, h2, fun s hl b hb => ?_⟩
    have hl' : (ev T C (e.set s .dead) op).isSome = true := by cases op <;> simp only [leaves] at hl <;> first | exact hl | simp [IOp.isCall] at hc
    obtain ⟨⟨y2, e2⟩, hev2⟩ := Option.isSome_iff_exists.1 hl'
    have hd := h.drop1 s
    obtain ⟨V2, w2, h3, h4⟩ := op_runs (T := T) (C := C) (B := here w I (updB blk s []) B.glob) hd.rebase hok ho hc' hev2
    obtain rfl := h1.det h3
    refine Yields.same (B := B) h4 b (h.lt s b hb) fun t ht => ?_
    simp only [updB] at ht
    split at ht
    · simp at ht
    · rename_i hts
      exact h.dj t s hts b ht hb

/-! ### Orders -/
section
variable {ops : Array Oper}
inductive Waits (ops : Array Oper) : Nat → Nat → Prop
  | one {j i : Nat} {o : Oper} {e : Edge} : ops[j]? = some o → e ∈ o.after → Region.binds .any e = true → e.on = i → Waits ops j i
  | more {j i : Nat} {o : Oper} {e : Edge} : ops[j]? = some o → e ∈ o.after → Region.binds .any e = true → Waits ops e.on i → Waits ops j i
def Closed (ops : Array Oper) (listed : Array Bool) : Prop := ∀ k, listed.getD k false = true → ∀ o, ops[k]? = some o → ∀ e ∈ o.after, Region.binds .any e = true → listed.getD e.on false = true
theorem Closed.waits {listed : Array Bool} (h : Closed ops listed) {j i : Nat} (k : Waits ops j i) : listed.getD j false = true → listed.getD i false = true := by
  induction k with
  | one ho he hb hi => intro hj; rw [← hi]; exact h _ hj _ ho _ he hb
  | more ho he hb _ ih => intro hj; exact ih (h _ hj _ ho _ he hb)
theorem Closed.ready {listed : Array Bool} (h : Closed ops listed) {j i : Nat} (hj : j ∈ Region.ready .any ops listed) (k : Waits ops j i) : listed.getD i false = true := by
  obtain ⟨_, o, ho, hall⟩ := mem_ready.1 hj
  cases k with
  | one ho' he hb hi =>
    rw [ho] at ho'
    cases ho'
    rw [← hi]
    exact hall _ he hb
  | more ho' he hb k =>
    rw [ho] at ho'
    cases ho'
    exact h.waits k (hall _ he hb)
theorem Closed.set {listed : Array Bool} (h : Closed ops listed) {j : Nat} (hj : j ∈ Region.ready .any ops listed) : Closed ops (listed.setIfInBounds j true) := by
  intro k hk o ho e he hb
  by_cases hjk : j = k
  · subst hjk
    obtain ⟨_, o', ho', hall⟩ := mem_ready.1 hj
    rw [ho] at ho'
    cases ho'
    exact getD_set_true (hall e he hb)
  · rw [getD_set_ne false hjk] at hk
    exact getD_set_true (h k hk o ho e he hb)

def Keeps (ops : Array Oper) (rd : List (Nat × Nat)) (j : Nat) (w w' : World) : Prop := ∀ p ∈ rd, ¬ Waits ops j p.1 → w'.heap[p.2]? = w.heap[p.2]?
/-- Any order, and what was read stays until the reading is done. -/
def wpAnyG (P : Program) (ops : Array Oper) (Q : Exit → Act → World → Prop) (rd : List (Nat × Nat)) : Nat → Array Bool → Act → World → Prop
  | 0, listed, a, w => Region.ready .any ops listed = [] ∧ Q .normal a w
  | fuel + 1, listed, a, w =>
    (Region.ready .any ops listed = [] → Q .normal a w) ∧
    ∀ j ∈ Region.ready .any ops listed, wpOp P ops Q j (fun a' w' => Keeps ops rd j w w' ∧ wpAnyG P ops Q rd fuel (listed.setIfInBounds j true) a' w') a w
theorem wpAnyG_mono {rd rd' : List (Nat × Nat)} (hs : ∀ p ∈ rd', p ∈ rd) : ∀ (fuel : Nat) (listed : Array Bool) (a : Act) (w : World), wpAnyG P ops Q rd fuel listed a w → wpAnyG P ops Q rd' fuel listed a w
  | 0, _, _, _, h => h
  | fuel + 1, _, _, _, h => ⟨h.1, fun j hj => wpOp_mono (fun a' w' ⟨k1, k2⟩ => ⟨fun p hp => k1 p (hs p hp), wpAnyG_mono hs fuel _ a' w' k2⟩) (h.2 j hj)⟩
theorem wpAny_of_G {rd : List (Nat × Nat)} : ∀ (fuel : Nat) (listed : Array Bool) (a : Act) (w : World), wpAnyG P ops Q rd fuel listed a w → wpAny P .any ops Q fuel listed a w
  | 0, _, _, _, h => h
  | fuel + 1, _, _, _, h => ⟨h.1, fun j hj => wpOp_mono (fun a' w' ⟨_, k2⟩ => wpAny_of_G fuel _ a' w' k2) (h.2 j hj)⟩

/-- What the world must be for a reading: nothing, or one block. -/
def Needs (X : Option (Nat × Option Obj)) (w : World) : Prop := ∀ g x, X = some (g, x) → w.heap[g]? = x
def YieldsG (P : Program) (ops : Array Oper) (o : Oper) (v : Value) (a : Act) (X : Option (Nat × Option Obj)) : Prop :=
  (Region.wanted o (yielded ops a.tmps) = true ∧ ∀ w, Needs X w → (execOp a.eval o).run P w = .ok (.value v) w) ∨
  (Region.wanted o (yielded ops a.tmps) = false ∧ v = undef)
theorem YieldsG.wpOp {i : Nat} {o : Oper} {v : Value} {a : Act} {X : Option (Nat × Option Obj)} (hi : ops[i]? = some o) (hy : YieldsG P ops o v a X) {K : Act → World → Prop} {w : World} (hn : Needs X w) (h : K (a.put o.dst v) w) : wpOp P ops Q i K a w := by
  unfold Go.wpOp
  simp only [hi]
  rcases hy with ⟨hw, hv⟩ | ⟨hw, rfl⟩
  · simp only [hw, if_true, Oper.wp, hv w hn, Oper.upon]
    exact .inl h
  · simp only [hw, Bool.false_eq_true, if_false]
    exact h
/-- A written variable that an operation does not look at may as well be written behind it. -/
theorem wpOp_later {j : Nat} {oj : Oper} {dst : Option Tmp} {v : Value} {S : Act → Prop} (hj : ops[j]? = some oj) (h1 : ∀ d, dst = some d → d ∉ oj.looksAt ops) (h2 : ∀ d, dst = some d → oj.dst ≠ some d)
    (hS : ∀ a u, S a → S (a.put oj.dst u)) (hSd : ∀ (a : Act) d, S a → S { a with defers := d :: a.defers }) (hsj : ∀ cs b, oj.op ≠ .select cs b) (hQ : ∀ c a d v w, Q (.panic c) (Act.put a d v) w → Q (.panic c) a w) (hL : ¬ LetsOut Q)
    {K : Act → World → Prop} {a : Act} {w : World} (hs : S a) (h : wpOp P ops Q j K (a.put dst v) w) : wpOp P ops Q j (fun a' w' => S a' ∧ K (a'.put dst v) w') a w := by
  unfold wpOp at *
  simp only [hj] at *
  rw [wanted_put oj a dst v h1] at h
  split
  · rename_i hw
    simp only [hw, if_true] at h
    rcases h with h | ⟨_, hlets⟩
    case inr => exact (hL hlets).elim
    refine .inl ?_
    unfold Oper.wp at *
    rw [execOp_put oj hsj a dst v h1] at h
    generalize (execOp a.eval oj).run P w = r at *
    cases r with
    | ok n w' =>
      cases n <;> simp only [Oper.upon] at h ⊢
      case value u => exact ⟨hS a u hs, by rw [← Act.put_comm a v u h2]; exact h⟩
      case skip => exact ⟨hS a _ hs, by rw [← Act.put_comm a v undef h2]; exact h⟩
      case defer d =>
        refine ⟨hS _ _ (hSd _ d hs), ?_⟩
        rw [← Act.put_comm _ v undef h2, ← Act.put_defers]
        exact h
      case enter f args =>
        refine Calls.mono h fun e w'' he => ?_
        cases e with
        | returned u => exact ⟨hS a u hs, by rw [← Act.put_comm a v u h2]; exact he⟩
        | panicked c => exact hQ _ _ _ _ _ he
        | outgrown => exact he
      case row row args => exact Rows.mono h fun u w'' he => ⟨hS a u hs, by rw [← Act.put_comm a v u h2]; exact he⟩
    | halt x w' =>
      cases x <;> simp only [Oper.upon] at h ⊢
      case panic u => exact hQ _ _ _ _ _ h
  · rename_i hw
    simp only [hw] at h
    exact ⟨hS a _ hs, by rw [← Act.put_comm a v undef h2]; exact h⟩

/-- A reading that is ready and free may be done first. -/
theorem wpAnyG_first {rd : List (Nat × Nat)} {i : Nat} {oi : Oper} {v : Value} {X : Option (Nat × Option Obj)} {rd' : List (Nat × Nat)} (hrd : ∀ p ∈ rd, p ∈ rd') (hX : ∀ g x, X = some (g, x) → (i, g) ∈ rd') (hi : ops[i]? = some oi)
    (hsel : ∀ (j : Nat) (o : Oper) cs b, ops[j]? = some o → o.op ≠ .select cs b) (hQ : ∀ c a d v w, Q (.panic c) (Act.put a d v) w → Q (.panic c) a w) (hL : ¬ LetsOut Q) :
    ∀ (fuel : Nat) (listed : Array Bool) (a : Act) (w : World), Closed ops listed →
      (∀ j oj, ops[j]? = some oj → j ≠ i → listed.getD j true = false → (∀ e ∈ oj.after, Region.binds .any e = true → e.on ≠ i) → oi.apart ops oj = true) →
      i ∈ Region.ready .any ops listed → YieldsG P ops oi v a X → Needs X w →
      wpAnyG P ops Q rd' fuel (listed.setIfInBounds i true) (a.put oi.dst v) w → wpAnyG P ops Q rd (fuel + 1) listed a w := by
  intro fuel
  induction fuel with
  | zero =>
    intro listed a w _ _ hr hy hn H
    refine ⟨fun h => (by rw [h] at hr; cases hr), fun j hj => ?_⟩
    by_cases hji : j = i
    · subst hji
      exact hy.wpOp hi hn ⟨fun _ _ _ => rfl, wpAnyG_mono hrd _ _ _ _ H⟩
    · have := ready_mono hj hji
      rw [H.1] at this
      cases this
  | succ fuel ih =>
    intro listed a w hcl hfree hr hy hn H
    refine ⟨fun h => (by rw [h] at hr; cases hr), fun j hj => ?_⟩
    by_cases hji : j = i
    · subst hji
      exact hy.wpOp hi hn ⟨fun _ _ _ => rfl, wpAnyG_mono hrd _ _ _ _ H⟩
    · have h1 := H.2 j (ready_mono hj hji)
      obtain ⟨hjun, oj, hoj, hall⟩ := mem_ready.1 hj
      have hil : listed.getD i false ≠ true := by
        intro heq
        have h0 := (mem_ready.1 hr).1
        rcases Nat.lt_or_ge i listed.size with h' | h'
        · simp [h'] at h0 heq; rw [h0] at heq; cases heq
        · simp [Array.getElem?_eq_none h'] at heq
      have hnot : ∀ e ∈ oj.after, Region.binds .any e = true → e.on ≠ i := fun e he hb heq => hil (by rw [← heq]; exact hall e he hb)
      have hnw : ¬ Waits ops j i := fun k => hil (hcl.ready hj k)
      obtain ⟨p1, p2, p3⟩ := Oper.apart_spec (hfree j oj hoj hji hjun hnot)
      have keep : ∀ a u, YieldsG P ops oi v a X → YieldsG P ops oi v (a.put oj.dst u) X := fun a u hy => by
        unfold YieldsG at *
        rw [execOp_put oi (fun cs b => hsel i oi cs b hi) a oj.dst u p3, wanted_put oi a oj.dst u p3]
        exact hy
      have h2 := wpOp_later (S := fun a => YieldsG P ops oi v a X) hoj p1 p2 keep (fun a d h => h) (fun cs b => hsel j oj cs b hoj) hQ hL hy h1
      have hfree' : ∀ k ok, ops[k]? = some ok → k ≠ i → (listed.setIfInBounds j true).getD k true = false → (∀ e ∈ ok.after, Region.binds .any e = true → e.on ≠ i) → oi.apart ops ok = true := fun k ok hk hki hun hno => by
        refine hfree k ok hk hki ?_ hno
        by_cases hjk : j = k
        · subst hjk; exact hjun
        · rw [getD_set_ne true hjk] at hun; exact hun
      refine wpOp_mono (fun a' w' ⟨h3, h4, h5⟩ => ?_) h2
      refine ⟨fun p hp => h4 p (hrd p hp), ih (listed.setIfInBounds j true) a' w' (hcl.set hj) hfree' (ready_mono hr (Ne.symm hji)) h3 ?_ ?_⟩
      · intro g x hx
        rw [h4 (i, g) (hX g x hx) hnw]
        exact hn g x hx
      · rw [Array.setIfInBounds_comm _ _ hji]
        exact h5
theorem wpAnyG_sole {rd : List (Nat × Nat)} {i : Nat} {fuel : Nat} {listed : Array Bool} (hi : i ∈ Region.ready .any ops listed) (hr : ∀ j, j ∈ Region.ready .any ops listed → j = i)
    (h : wpOp P ops Q i (fun a' w' => Keeps ops rd i w w' ∧ wpAnyG P ops Q rd fuel (listed.setIfInBounds i true) a' w') a w) : wpAnyG P ops Q rd (fuel + 1) listed a w :=
  ⟨fun h0 => (by rw [h0] at hi; cases hi), fun j hj => (by obtain rfl := hr j hj; exact h)⟩
theorem wpAnyG_done {rd : List (Nat × Nat)} {listed : Array Bool} (hr : Region.ready .any ops listed = []) (h : Q .normal a w) : ∀ fuel, wpAnyG P ops Q rd fuel listed a w
  | 0 => ⟨hr, h⟩
  | _ + 1 => ⟨fun _ => h, by rw [hr]; simp⟩

/-! ### Sets as numbers -/
def maskE (l : List Edge) : Nat := l.foldr (fun e m => if Region.binds .any e then 2 ^ e.on ||| m else m) 0
theorem maskE_iff {l : List Edge} {k : Nat} : (maskE l).testBit k = true ↔ ∃ e ∈ l, Region.binds .any e = true ∧ e.on = k := by
  induction l with
  | nil => simp [maskE]
  | cons e r ih =>
    have : maskE (e :: r) = if Region.binds .any e then 2 ^ e.on ||| maskE r else maskE r := rfl
    rw [this]
    by_cases h : Region.binds .any e = true
    · rw [if_pos h, Nat.testBit_or, Bool.or_eq_true, ih, Nat.testBit_two_pow]
      simp only [List.mem_cons, exists_eq_or_imp, decide_eq_true_eq, h, true_and]
    · rw [if_neg h, ih]
      simp [h]
def maskT (l : List Nat) : Nat := l.foldr (fun t m => 2 ^ t ||| m) 0
theorem maskT_iff {l : List Nat} {k : Nat} : (maskT l).testBit k = true ↔ k ∈ l := by
  induction l with
  | nil => simp [maskT]
  | cons e r ih =>
    have : maskT (e :: r) = 2 ^ e ||| maskT r := rfl
    rw [this, Nat.testBit_or, Bool.or_eq_true, ih, Nat.testBit_two_pow, decide_eq_true_eq, List.mem_cons]
    exact or_congr_left eq_comm
def maskO (d : Option Nat) : Nat := match d with
  | some d => 2 ^ d
  | none => 0
theorem and_eq_iff {a b : Nat} : a &&& b = a ↔ ∀ k, a.testBit k = true → b.testBit k = true := by
  constructor
  · intro h k hk
    rw [← h, Nat.testBit_and, Bool.and_eq_true] at hk
    exact hk.2
  · intro h
    refine Nat.eq_of_testBit_eq fun k => ?_
    rw [Nat.testBit_and]
    cases hk : a.testBit k with
    | false => rfl
    | true => rw [h k hk]; rfl
/-- What is known of an operation: whom it waits for; what it reads; what it writes. -/
structure Known where
  am : Nat
  lm : Nat
  dm : Nat
def known (ops : Array Oper) (o : Oper) : Known := ⟨maskE o.after.toList, maskT (o.looksAt ops), maskO o.dst⟩
def Known.apart (x y : Known) : Bool := (x.dm &&& (y.lm ||| y.dm)) == 0 && (y.dm &&& x.lm) == 0
theorem Known.apart_ok {x y : Oper} (h : (known ops x).apart (known ops y) = true) : x.apart ops y = true := by
  simp only [Known.apart, known, Bool.and_eq_true, beq_iff_eq] at h
  obtain ⟨h1, h2⟩ := h
  have z : ∀ {a b k : Nat}, a &&& b = 0 → a.testBit k = true → b.testBit k = false := by
    intro a b k h0 ha
    have := Nat.testBit_and a b k
    rw [h0, ha] at this
    simpa using this.symm
  have hd : ∀ {o : Option Nat} {d : Nat}, o = some d → (maskO o).testBit d = true := by
    intro o d ho
    subst ho
    simp [maskO]
  unfold Oper.apart
  cases hx : x.dst with
  | none =>
    cases hy : y.dst with
    | none => rfl
    | some e =>
      have k := z h2 (hd hy)
      have : e ∉ x.looksAt ops := fun hm => by rw [maskT_iff.2 hm] at k; cases k
      simp [this]
  | some d =>
    have k := z h1 (hd hx)
    rw [Nat.testBit_or, Bool.or_eq_false_iff] at k
    have a1 : d ∉ y.looksAt ops := fun hm => by rw [maskT_iff.2 hm] at k; cases k.1
    cases hy : y.dst with
    | none => simp [a1]
    | some e =>
      have k2 := z h2 (hd hy)
      have a2 : e ∉ x.looksAt ops := fun hm => by rw [maskT_iff.2 hm] at k2; cases k2
      have a3 : e ≠ d := by
        rintro rfl
        rw [hd hy] at k
        cases k.2
      simp [a1, a2, a3]
/-- Whom each waits for in the end. -/
def waitL : List Known → Nat → List Nat → List Nat
  | [], _, acc => acc
  | k :: r, n, acc => waitL r (n + 1) (acc ++ [(List.range n).foldr (fun j m => if k.am.testBit j then 2 ^ j ||| acc.getD j 0 ||| m else m) 0])
def WaitsOK (ops : Array Oper) (acc : List Nat) : Prop := ∀ i j, (acc.getD i 0).testBit j = true → Waits ops i j
theorem waitL_ok : ∀ {l : List Oper} {n : Nat} {acc : List Nat}, (∀ i o, l[i]? = some o → ops[n + i]? = some o) → acc.length = n → WaitsOK ops acc → WaitsOK ops (waitL (l.map (known ops)) n acc)
  | [], _, _, _, _, h => h
  | o :: l, n, acc, hl, hn, h => by
    simp only [List.map_cons, waitL]
    refine waitL_ok (l := l) (fun i o' ho => by have := hl (i + 1) o' (by simpa using ho); rwa [show n + 1 + i = n + (i + 1) by omega]) (by simp [hn]) ?_
    intro i j hj
    rw [List.getD_eq_getElem?_getD, List.getElem?_append] at hj
    split at hj
    · rw [← List.getD_eq_getElem?_getD] at hj
      exact h i j hj
    · by_cases hi2 : i = acc.length
      · subst hi2
        have ho := hl 0 o rfl
        rw [Nat.add_zero, ← hn] at ho
        rw [Nat.sub_self, List.getElem?_cons_zero, Option.getD_some] at hj
        generalize hr : List.range n = rr at hj
        clear hr
        induction rr with
        | nil => simp at hj
        | cons k r ih =>
          simp only [List.foldr_cons] at hj
          split at hj
          · rename_i hk
            rw [Nat.testBit_or, Nat.testBit_or, Nat.testBit_two_pow, Bool.or_eq_true, Bool.or_eq_true, decide_eq_true_eq] at hj
            obtain ⟨e, he, hb, hon⟩ := maskE_iff.1 (show (maskE o.after.toList).testBit k = true from hk)
            rcases hj with (hj | hj) | hj
            · exact .one ho (by simpa using he) hb (hon.trans hj)
            · exact .more ho (by simpa using he) hb (by rw [hon]; exact h k j hj)
            · exact ih hj
          · exact ih hj
      · cases hm : i - acc.length with
        | zero => omega
        | succ m =>
          rw [hm] at hj
          simp at hj
theorem waits_ok {i j : Nat} (h : ((waitL (ops.toList.map (known ops)) 0 []).getD i 0).testBit j = true) : Waits ops i j :=
  waitL_ok (l := ops.toList) (n := 0) (acc := []) (fun i o ho => by simpa using ho) rfl (fun i j hj => by simp at hj) _ _ h
end

/-! ### Plans -/
/-- Ready: not done, and all that it waits for is. -/
def rdy (L i : Nat) (k : Known) : Bool := !L.testBit i && (k.am &&& L) == k.am
/-- No other is ready. -/
def lone (L : Nat) (is : List Nat) : List Known → Nat → Bool
  | [], _ => true
  | k :: r, j => (is.contains j || !rdy L j k) && lone L is r (j + 1)
def freeB (L i : Nat) (x : Known) : List Known → Nat → Bool
  | [], _ => true
  | k :: r, j => (j == i || L.testBit j || k.am.testBit i || x.apart k) && freeB L i x r (j + 1)
def planGo (ks : List Known) (ws : List Nat) (gs : List GOp) : List Nat → Plan → Nat → List Nat → Bool
  | _, .nil, L, _ => lone L [] ks 0
  | alts, .cons st r, L, reads => match gs[st.i]?, ks[st.i]? with
    | some g, some k =>
      if g.op.isF || g.op.isR then rdy L st.i k && freeB L st.i k ks 0 && planGo ks ws gs [] r (2 ^ st.i ||| L) (if g.op.isR then st.i :: reads else reads)
      else rdy L st.i k && lone L (st.i :: alts) ks 0 && (reads.all fun x => st.un.contains x || (ws.getD st.i 0).testBit x) && planGo ks ws gs [] r (2 ^ st.i ||| L) reads
    | _, _ => false
  | alts, .fork _ l r, L, reads => planGo ks ws gs (r.heads ++ alts) l L reads && planGo ks ws gs (l.heads ++ alts) r L reads
def planB (ops : Array Oper) (gs : List GOp) (p : Plan) : Bool := decide (p.length ≤ ops.size) && planGo (ops.toList.map (known ops)) (waitL (ops.toList.map (known ops)) 0 []) gs [] p 0 []
/-- The set of those that are done. -/
def Marks (ops : Array Oper) (listed : Array Bool) (L : Nat) : Prop := listed.size = ops.size ∧ ∀ k, listed.getD k false = L.testBit k
theorem getD_true {listed : Array Bool} {k : Nat} (h : k < listed.size) : listed.getD k true = listed.getD k false := by simp [h]
theorem Marks.set {ops : Array Oper} {listed : Array Bool} {L : Nat} (h : Marks ops listed L) {i : Nat} (hi : i < ops.size) : Marks ops (listed.setIfInBounds i true) (2 ^ i ||| L) := by
  refine ⟨by simp [h.1], fun k => ?_⟩
  rw [Nat.testBit_or, Nat.testBit_two_pow]
  by_cases hk : i = k
  · subst hk
    have : i < listed.size := by rw [h.1]; exact hi
    simp [this]
  · rw [getD_set_ne false hk, h.2 k]
    simp [hk]
theorem Marks.rdy {ops : Array Oper} {listed : Array Bool} {L : Nat} (h : Marks ops listed L) {i : Nat} {o : Oper} (ho : ops[i]? = some o) : i ∈ Region.ready .any ops listed ↔ AM.rdy L i (known ops o) = true := by
  have hi : i < listed.size := by rw [h.1]; exact (Array.getElem?_eq_some_iff.1 ho).1
  rw [mem_ready, getD_true hi, h.2 i]
  simp only [AM.rdy, Bool.and_eq_true, Bool.not_eq_true', beq_iff_eq, known]
  constructor
  · rintro ⟨h1, o', ho', h2⟩
    rw [ho] at ho'
    cases ho'
    refine ⟨h1, and_eq_iff.2 fun k hk => ?_⟩
    obtain ⟨e, he, hb, rfl⟩ := maskE_iff.1 hk
    rw [← h.2]
    exact h2 e (by simpa using he) hb
  · rintro ⟨h1, h2⟩
    refine ⟨h1, o, ho, fun e he hb => ?_⟩
    rw [h.2]
    exact and_eq_iff.1 h2 e.on (maskE_iff.2 ⟨e, by simpa using he, hb, rfl⟩)
theorem lone_ok {L : Nat} {is : List Nat} : ∀ {l : List Known} {j : Nat}, lone L is l j = true → ∀ m k, l[m]? = some k → j + m ∈ is ∨ rdy L (j + m) k = false
  | [], _, _, m, k, h => by simp at h
  | x :: l, j, h, m, k, hk => by
    simp only [lone, Bool.and_eq_true, Bool.or_eq_true, List.contains_iff_mem, Bool.not_eq_true'] at h
    cases m with
    | zero => simp at hk; subst hk; exact h.1
    | succ m =>
      have := lone_ok h.2 m k (by simpa using hk)
      rwa [show j + (m + 1) = j + 1 + m by omega]
theorem free_ok {L i : Nat} {x : Known} : ∀ {l : List Known} {j : Nat}, freeB L i x l j = true → ∀ m k, l[m]? = some k → j + m = i ∨ L.testBit (j + m) = true ∨ k.am.testBit i = true ∨ x.apart k = true
  | [], _, _, m, k, h => by simp at h
  | y :: l, j, h, m, k, hk => by
    simp only [freeB, Bool.and_eq_true, Bool.or_eq_true, beq_iff_eq] at h
    cases m with
    | zero =>
      simp at hk
      subst hk
      rcases h.1 with ((h1 | h1) | h1) | h1
      · exact .inl h1
      · exact .inr (.inl h1)
      · exact .inr (.inr (.inl h1))
      · exact .inr (.inr (.inr h1))
    | succ m =>
      have := free_ok h.2 m k (by simpa using hk)
      rwa [show j + (m + 1) = j + 1 + m by omega]

/-- What was read, and where the abstract machine has it. -/
def Link (I : Nat → Prop) (val : Nat → Value) (rds : List (Nat × Option Nat)) (rd : List (Nat × Nat)) : Prop := ∀ p ∈ rd, I p.2 ∨ (∃ s, (p.1, some s) ∈ rds ∧ headV (val s) = some p.2) ∨ (p.1, none) ∈ rds
theorem Link.put {rds : List (Nat × Option Nat)} {rd : List (Nat × Nat)} (hl : Link I (valOf a H) rds rd) {dst : Option Nat} (hd : ∀ d, dst = some d → d < a.tmps.size ∧ d < home) (hk : dstOK rds dst = true) {I' : Nat → Prop} (hI : ∀ b, I b → I' b) (V : Value) : Link I' (valOf (a.put dst V) H) rds rd := by
  intro p hp
  rcases hl p hp with h | ⟨s, h1, h2⟩ | h
  · exact .inl (hI _ h)
  · refine .inr (.inl ⟨s, h1, ?_⟩)
    cases dst with
    | none => exact h2
    | some d =>
      obtain ⟨d1, d2⟩ := hd d rfl
      rw [valOf_put d1 d2]
      have := List.all_eq_true.1 hk _ h1
      simp only [Option.isNone_some, Bool.false_or, bne_iff_ne, ne_eq, Option.some.injEq] at this
      simp only [upd, if_neg this]
      exact h2
  · exact .inr (.inr h)
theorem Inv.put' {y : PV} {V : Value} (h : Inv B e (refOK e (valOf a H) w) (valOf a H) w I blk []) (hy : Yields (here w I blk B.glob) (valOf a H) e' y V w') {dst : Option Nat} (hd : ∀ d, dst = some d → d < a.tmps.size ∧ d < home) :
    ∀ ks : List Nat, ∃ I' blk', (∀ b, I b → I' b) ∧ Inv B ((putDst e' dst y).forget ks) (refOK ((putDst e' dst y).forget ks) (valOf (a.put dst V) H) w') (valOf (a.put dst V) H) w' I' blk' [] := by
  intro ks
  obtain ⟨I', blk', k⟩ := hy.put hd
  obtain ⟨blk2, k2⟩ := (h.unbase k).forget (ks := ks)
  exact ⟨I', blk2, k.keepI, k2⟩
theorem toOp_noSelect {G : Nat → List PV} (op : IOp) (h : op.ok P G) (cs : Array SelectCase) (b : Bool) : op.toOp ≠ .select cs b := by
  cases op <;> first | exact h cs b | (simp [IOp.toOp]; done) | (simp only [IOp.toOp]; split <;> simp)

/-- What a branch shows where others are ready as well: what follows its own beginnings. -/
def Branch (P : Program) (ops : Array Oper) (Q : Exit → Act → World → Prop) (rd : List (Nat × Nat)) (fuel : Nat) (listed : Array Bool) (a : Act) (w : World) (hs alts : List Nat) : Prop :=
  wpAnyG P ops Q rd fuel listed a w ∨
    ∃ f, fuel = f + 1 ∧ Region.ready .any ops listed ≠ [] ∧ (∀ j ∈ Region.ready .any ops listed, j ∈ hs ∨ j ∈ alts) ∧
      ∀ j ∈ Region.ready .any ops listed, j ∈ hs → wpOp P ops Q j (fun a' w' => Keeps ops rd j w w' ∧ wpAnyG P ops Q rd f (listed.setIfInBounds j true) a' w') a w
theorem Branch.whole {P : Program} {ops : Array Oper} {Q : Exit → Act → World → Prop} {rd : List (Nat × Nat)} {fuel : Nat} {listed : Array Bool} {a : Act} {w : World} {hs : List Nat} (h : Branch P ops Q rd fuel listed a w hs []) : wpAnyG P ops Q rd fuel listed a w := by
  rcases h with h | ⟨f, rfl, h0, h1, h2⟩
  · exact h
  · exact ⟨fun h => (h0 h).elim, fun j hj => h2 j hj ((h1 j hj).elim id fun h => by cases h)⟩
theorem Branch.fork {P : Program} {ops : Array Oper} {Q : Exit → Act → World → Prop} {rd : List (Nat × Nat)} {fuel : Nat} {listed : Array Bool} {a : Act} {w : World} {hl hr alts : List Nat} (h : Branch P ops Q rd fuel listed a w hl (hr ++ alts)) (k : Branch P ops Q rd fuel listed a w hr (hl ++ alts)) : Branch P ops Q rd fuel listed a w (hl ++ hr) alts := by
  rcases h with h | ⟨f, rfl, h0, h1, h2⟩
  · exact .inl h
  · rcases k with k | ⟨f', hf, k0, k1, k2⟩
    · exact .inl k
    · cases hf
      refine .inr ⟨f, rfl, h0, fun j hj => ?_, fun j hj hm => ?_⟩
      · rcases h1 j hj with h | h
        · exact .inl (List.mem_append_left _ h)
        · rcases List.mem_append.1 h with h | h
          · exact .inl (List.mem_append_right _ h)
          · exact .inr h
      · rcases List.mem_append.1 hm with h | h
        · exact h2 j hj h
        · exact k2 j hj h
theorem forkOut_some {ks : List Nat} {x y : Option (Out × Env)} {out : Out} {e : Env} (h : forkOut ks x y = some (out, e)) : ∃ a b, x = some (.normal, a) ∧ y = some (.normal, b) ∧ out = .normal ∧ e = a.keep ks ∧ e = b.keep ks := by
  unfold forkOut at h
  split at h
  · simp only [Option.map_eq_some_iff, Prod.mk.injEq] at h
    obtain ⟨e1, h1, rfl, rfl⟩ := h
    obtain ⟨a, b, h2, h3, h4, h5⟩ := forkEnv_some h1
    cases h2
    cases h3
    exact ⟨_, _, rfl, rfl, rfl, h4, h5⟩
  · cases h
set_option maxHeartbeats 800000 in
theorem planRunP_sound (hC : CallOK P B.glob C) {ops : Array Oper} {all : List GOp} (hm : ops.toList.map stripO = all.map eraseO) (hall : ∀ g ∈ all, g.ok P B.glob n) {Q : Exit → Act → World → Prop} (hQp : ∀ c a d v w, Q (.panic c) (Act.put a d v) w → Q (.panic c) a w) (hL : ¬ LetsOut Q) {ks : List Known} (hks : ks = ops.toList.map (known ops)) {ws : List Nat} (hws : WaitsOK ops ws) :
    ∀ {p : Plan} {alts : List Nat} {fuel : Nat} {listed : Array Bool} {L : Nat} {reads : List Nat} {rds : List (Nat × Option Nat)} {rd : List (Nat × Nat)} {e e' : Env} {out : Out} {a : Act} {w : World} {I : Nat → Prop} {blk : Nat → List Nat},
      planGo ks ws all alts p L reads = true → Marks ops listed L → p.length ≤ fuel → Closed ops listed → (∀ r ∈ rd, r.1 ∈ reads) → a.tmps.size = n → a.defers = B.ds → Inv B e (refOK e (valOf a H) w) (valOf a H) w I blk [] → Link I (valOf a H) rds rd → planRunP T C all rds p e = some (out, e') →
      (∀ a' w', St B H n e' a' w' → Q out.exit' a' w') → Branch P ops Q rd fuel listed a w p.heads alts
  | .nil, alts, fuel, listed, L, reads, rds, rd, e, e', out, a, w, I, blk, hp, hmk, hlen, hcl, hrr, hsz, hdf, h, hl, hr, hQ => by
    simp only [planGo] at hp
    simp only [planRunP, Option.some.injEq, Prod.mk.injEq] at hr
    obtain ⟨rfl, rfl⟩ := hr
    refine .inl ?_
    refine wpAnyG_done (List.eq_nil_iff_forall_not_mem.2 fun j hj => ?_) (hQ a w ⟨hsz, hdf, I, blk, h⟩) fuel
    obtain ⟨_, o, ho, _⟩ := mem_ready.1 hj
    have h1 := (hmk.rdy ho).1 hj
    have hjl : j < ops.size := (Array.getElem?_eq_some_iff.1 ho).1
    rcases lone_ok hp j (known ops o) (by simp [hks, ho]) with h2 | h2
    · cases h2
    · rw [Nat.zero_add, h1] at h2
      cases h2
  | .cons st p, alts, 0, listed, L, reads, rds, rd, e, e', out, a, w, I, blk, hp, hmk, hlen, hcl, hrr, hsz, hdf, h, hl, hr, hQ => by simp [Plan.length] at hlen
  | .fork fks l r, alts, fuel, listed, L, reads, rds, rd, e, e', out, a, w, I, blk, hp, hmk, hlen, hcl, hrr, hsz, hdf, h, hl, hr, hQ => by
    simp only [planGo, Bool.and_eq_true] at hp
    simp only [planRunP] at hr
    simp only [Plan.length] at hlen
    obtain ⟨x, y, hx, hy, rfl, h1, h2⟩ := forkOut_some hr
    refine Branch.fork (planRunP_sound hC hm hall hQp hL hks hws hp.1 hmk (by omega) hcl hrr hsz hdf h hl hx fun a' w' h' => hQ a' w' ?_) (planRunP_sound hC hm hall hQp hL hks hws hp.2 hmk (by omega) hcl hrr hsz hdf h hl hy fun a' w' h' => hQ a' w' ?_)
    · rw [h1]; exact h'.keep fks
    · rw [h2]; exact h'.keep fks
  | .cons st p, alts, fuel + 1, listed, L, reads, rds, rd, e, e', out, a, w, I, blk, hp, hmk, hlen, hcl, hrr, hsz, hdf, h, hl, hr, hQ => by
    simp only [Plan.length] at hlen
    simp only [planGo] at hp
    simp only [planRunP] at hr
    have hsel : ∀ (j : Nat) (o : Oper) cs b, ops[j]? = some o → o.op ≠ .select cs b := by
      intro j o cs b hj
      have hget : (all.map eraseO)[j]? = some (stripO o) := by rw [← hm]; simp [hj]
      simp only [List.getElem?_map, Option.map_eq_some_iff] at hget
      obtain ⟨g, hgm, hg⟩ := hget
      have : g.op.toOp = o.op := congrArg (·.2.1) hg
      rw [← this]
      exact toOp_noSelect g.op (hall g (List.mem_of_getElem? hgm)).1 cs b
    split at hp
    case h_2 => cases hp
    rename_i g kn hg hkn
    rw [hg] at hr
    simp only at hr
    obtain ⟨oi, hoi, hos⟩ : ∃ o, ops[st.i]? = some o ∧ stripO o = eraseO g := by
      have hget : (ops.toList.map stripO)[st.i]? = some (eraseO g) := by rw [hm]; simp [hg]
      simp only [List.getElem?_map, Option.map_eq_some_iff] at hget
      obtain ⟨o, h1, h2⟩ := hget
      exact ⟨o, by simpa using h1, h2⟩
    have hile : st.i < ops.size := (Array.getElem?_eq_some_iff.1 hoi).1
    obtain rfl : known ops oi = kn := by rw [hks] at hkn; simpa [hoi] using hkn
    have hmk' := hmk.set hile
    have hdst : oi.dst = g.dst := congrArg (·.1) hos
    have hop : oi.op = g.op.toOp := congrArg (·.2.1) hos
    have hgd : oi.guard = g.g := congrArg (·.2.2) hos
    obtain ⟨hgok, hgd2⟩ := hall g (List.mem_of_getElem? hg)
    have hd2 : ∀ d, g.dst = some d → d < a.tmps.size ∧ d < home := by rw [hsz]; exact hgd2
    have hst : St B H n e a w := ⟨hsz, hdf, I, blk, h⟩
    have psz : ∀ V, (a.put g.dst V).tmps.size = n := by intro V; cases g.dst <;> simp [Act.put, hsz]
    have pdf : ∀ V, (a.put g.dst V).defers = B.ds := by intro V; cases g.dst <;> simp [Act.put, hdf]
    split at hp
    · -- a reading
      rename_i hFR
      simp only [Bool.and_eq_true] at hp
      obtain ⟨⟨hready, hfree⟩, hp⟩ := hp
      have hready' : st.i ∈ Region.ready .any ops listed := (hmk.rdy hoi).2 hready
      have hfree' : ∀ j oj, ops[j]? = some oj → j ≠ st.i → listed.getD j true = false → (∀ e ∈ oj.after, Region.binds .any e = true → e.on ≠ st.i) → oi.apart ops oj = true := by
        intro j oj hj hne hun hno
        have hjl : j < listed.size := by rw [hmk.1]; exact (Array.getElem?_eq_some_iff.1 hj).1
        rcases free_ok hfree j (known ops oj) (by simp [hks, hj]) with h1 | h1 | h1 | h1
        · simp at h1; exact (hne h1).elim
        · rw [Nat.zero_add, ← hmk.2, ← getD_true hjl, hun] at h1; cases h1
        · obtain ⟨e, he, hb, hon⟩ := maskE_iff.1 h1
          exact (hno e (by simpa using he) hb hon).elim
        · exact Known.apart_ok h1
      split at hr
      · rename_i hw
        have hwt := wanted_ok hm hall hst hgd hw
        rw [panOf_FR hFR] at hr
        simp only [Option.bind_eq_bind, Option.bind_eq_some_iff, Prod.exists] at hr
        obtain ⟨y, e1, hev, hr⟩ := hr
        split at hr
        case isFalse => simp at hr
        rename_i hun
        simp only [Bool.and_eq_true] at hun
        by_cases hF : g.op.isF = true
        · have hnr : g.op.isR = false := by cases hgo : g.op <;> rw [hgo] at hF <;> simp_all [IOp.isF, IOp.isR]
          have hro : readsOf e st.i g.op = [] := by cases hgo : g.op <;> rw [hgo] at hnr <;> simp_all [readsOf, IOp.isR]
          rw [hro, List.nil_append] at hr hun
          obtain ⟨V, hV, hy⟩ := op_F (T := T) (C := C) (B := here w I blk B.glob) h.rebase hgok hop hF hev
          obtain ⟨I', blk', hI', k⟩ := h.put' hy hd2 g.kl
          rw [hnr] at hp
          refine .inl (wpAnyG_first (rd' := rd) (X := none) (fun _ h => h) (fun _ _ hx => by cases hx) hoi hsel hQp hL fuel listed a w hcl hfree' hready' (.inl ⟨hwt, fun w2 _ => hV w2⟩) (fun _ _ hx => by cases hx) ?_)
          rw [hdst]
          exact Branch.whole (planRunP_sound hC hm hall hQp hL hks hws hp hmk' (by omega) (hcl.set hready') (by simpa using hrr) (psz V) (pdf V) k (hl.put hd2 hun.2 hI' V) hr hQ)
        · have hR : g.op.isR = true := by simpa [hF] using hFR
          rw [hR] at hp
          cases hgo : g.op <;> rw [hgo] at hR <;> simp [IOp.isR] at hR
          rename_i t ln ad
          rw [hgo] at hev hgok hop hr hun
          simp only [ev, Option.map_eq_some_iff, Prod.mk.injEq] at hev
          obtain ⟨z, hz, rfl, rfl⟩ := hev
          obtain ⟨V, gb, hV, hloc, hy⟩ := run_loadR (B := here w I blk B.glob) h.rebase hgok.1 hop hgok.2 hz
          obtain ⟨I', blk', hI', k⟩ := h.put' hy hd2 g.kl
          refine .inl (wpAnyG_first (rd' := (st.i, gb) :: rd) (X := some (gb, w.heap[gb]?)) (fun p hp => by simp [hp]) (fun g' x hx => by cases hx; simp) hoi hsel hQp hL fuel listed a w hcl hfree' hready' (.inl ⟨hwt, fun w2 hn => hV w2 (hn gb _ rfl)⟩) (fun g' x hx => by cases hx; rfl) ?_)
          rw [hdst]
          refine Branch.whole (planRunP_sound hC hm hall hQp hL hks hws hp hmk' (by omega) (hcl.set hready') (fun r hr' => ?_) (psz V) (pdf V) k (Link.put (rds := readsOf e st.i (.load t ln ad) ++ rds) ?_ hd2 hun.2 hI' V) hr hQ)
          · rcases List.mem_cons.1 hr' with rfl | hr'
            · simp
            · simp [hrr r hr']
          · intro p hp'
            rcases List.mem_cons.1 hp' with rfl | hp'
            · simp only [readsOf]
              revert hloc
              cases hae : ad.ev e with
              | ref s p => cases p with
                | nil => intro hloc; exact .inr (.inl ⟨s, by simp, hloc⟩)
                | cons _ _ => intro _; exact .inr (.inr (by simp))
              | addr s o => intro hloc; exact .inr (.inl ⟨s, by simp, hloc⟩)
              | eaddr s p sz i k => cases p with
                | nil => intro hloc; exact .inr (.inl ⟨s, by simp, hloc⟩)
                | cons _ _ => intro _; exact .inr (.inr (by simp))
              | raddr cs => intro hloc; exact .inl hloc
              | _ => intro _; exact .inr (.inr (by simp))
            · rcases hl p hp' with h1 | ⟨s, h1, h2⟩ | h1
              · exact .inl h1
              · exact .inr (.inl ⟨s, by simp [h1], h2⟩)
              · exact .inr (.inr (by simp [h1]))
      · rename_i hw
        have hwt := wanted_ok hm hall hst hgd hw
        split at hr
        case isFalse => simp at hr
        rename_i hdk
        obtain ⟨I', blk', hI', k⟩ := h.put' (undef_yields h.rebase) hd2 g.kl
        refine .inl (wpAnyG_first (rd' := rd) (X := none) (fun _ h => h) (fun _ _ hx => by cases hx) hoi hsel hQp hL fuel listed a w hcl hfree' hready' (.inr ⟨hwt, rfl⟩) (fun _ _ hx => by cases hx) ?_)
        rw [hdst]
        refine Branch.whole (planRunP_sound hC hm hall hQp hL hks hws hp hmk' (by omega) (hcl.set hready') (fun r hr' => ?_) (psz _) (pdf _) k (hl.put hd2 hdk hI' _) hr hQ)
        split
        · simp [hrr r hr']
        · exact hrr r hr'
      · simp at hr
    · -- alone
      rename_i hnF
      simp only [Bool.and_eq_true] at hp
      obtain ⟨⟨⟨hready, hsole⟩, hreads⟩, hp⟩ := hp
      have hready' : st.i ∈ Region.ready .any ops listed := (hmk.rdy hoi).2 hready
      refine .inr ⟨fuel, rfl, fun h0 => (by rw [h0] at hready'; cases hready'), fun j hj => ?_, fun j hj hji => ?_⟩
      · obtain ⟨_, o, ho, _⟩ := mem_ready.1 hj
        have h1 := (hmk.rdy ho).1 hj
        rcases lone_ok hsole j (known ops o) (by simp [hks, ho]) with h2 | h2
        · simpa [Plan.heads] using h2
        · rw [Nat.zero_add, h1] at h2
          cases h2
      obtain rfl : j = st.i := by simpa [Plan.heads] using hji
      unfold wpOp
      simp only [hoi]
      split at hr
      · rename_i hw
        have hwt := wanted_ok hm hall hst hgd hw
        rw [if_pos hwt]
        split at hr
        · rename_i x hpan
          simp only [Option.some.injEq, Prod.mk.injEq] at hr
          obtain ⟨rfl, rfl⟩ := hr
          exact .inl (pan_sound hC h hgok hop hpan fun w' I' blk' hv => hQ a w' ⟨hsz, hdf, I', _, hv.void⟩)
        simp only [Option.bind_eq_bind, Option.bind_eq_some_iff, Prod.exists] at hr
        obtain ⟨y, e1, hev, hr⟩ := hr
        split at hr
        case isFalse => simp at hr
        rename_i hun
        simp only [Bool.and_eq_true] at hun
        have hro : readsOf e st.i g.op = [] := by
          cases hgo : g.op <;> rw [hgo] at hnF <;> simp_all [readsOf, IOp.isR]
        rw [hro, List.nil_append] at hr hun
        refine .inl (Oper.wp_mono ?_ (op_full (T := T) hC h hgok hop hev))
        rintro a' w' ⟨V, rfl, hy, hfr⟩
        obtain ⟨I', blk', hI', k⟩ := h.put' hy hd2 g.kl
        rw [hdst]
        refine ⟨fun r hr' hnw => ?_, Branch.whole (planRunP_sound hC hm hall hQp hL hks hws hp hmk' (by omega) (hcl.set hready') hrr (psz V) (pdf V) k (hl.put hd2 hun.2 hI' V) hr hQ)⟩
        have h1 := List.all_eq_true.1 hreads r.1 (hrr r hr')
        simp only [Bool.or_eq_true] at h1
        rcases h1 with h1 | h1
        · rcases hl r hr' with h2 | ⟨s, h2, h3⟩ | h2
          · exact Yields.same (B := B) hy r.2 (h.ltI _ h2) fun s hs => h.notI s _ hs h2
          · have h4 := List.all_eq_true.1 hun.1 _ h2
            simp only [h1, Bool.not_true, Bool.false_or, Bool.and_eq_true] at h4
            exact hfr s h4.2 r.2 (head_blk h h4.1 h3)
          · have h4 := List.all_eq_true.1 hun.1 _ h2
            simp only [h1, Bool.not_true, Bool.false_or] at h4
            cases h4
        · exact (hnw (hws _ _ h1)).elim
      · rename_i hw
        have hwt := wanted_ok hm hall hst hgd hw
        rw [if_neg (by rw [hwt]; simp)]
        split at hr
        case isFalse => simp at hr
        rename_i hdk
        obtain ⟨I', blk', hI', k⟩ := h.put' (undef_yields h.rebase) hd2 g.kl
        rw [hdst]
        exact ⟨fun _ _ _ => rfl, Branch.whole (planRunP_sound hC hm hall hQp hL hks hws hp hmk' (by omega) (hcl.set hready') hrr (psz _) (pdf _) k (hl.put hd2 hdk hI' _) hr hQ)⟩
      · simp at hr

theorem walk_heap (hh : w'.heap = w.heap) : ∀ (p : List Nat) (V : Value), walk w' V p = walk w V p
  | [], _ => rfl
  | o :: p, V => by
    have h1 : stepV w' V o = stepV w V o := by
      unfold stepV
      split
      · rfl
      · rfl
      · exact World.cell?_of_block (by rw [hh])
      · rfl
    simp only [walk, h1]
    congr 1
    funext v
    exact walk_heap hh p v
theorem Inv.sameHeap (h : Inv B e (refOK e val w) val w I blk []) (hh : w'.heap = w.heap) (hos : w'.os = w.os) (htape : w'.tape = w.tape) (hout : w'.output = w.output) : Inv B e (refOK e val w') val w' I blk [] := by
  have hq : ∀ x V, refOK e val w x V → refOK e val w' x V := by
    intro x V k
    have hp : ∀ s p, place val w' s p = place val w s p := fun s p => walk_heap hh p _
    cases x <;> simp only [refOK, hp] at k ⊢ <;> exact k
  refine { h with rel := fun s => ?_, ltI := ?_, ltf := ?_, os := hos.trans h.os, tape := htape.trans h.tape, output := hout.trans h.output, size := ?_, same := ?_, glob := ?_ }
  · exact R.mono (fun _ h => h) (fun _ _ => by rw [hh]) _ _ _ hq _ _ (fun _ _ => by rw [hh]) (h.rel s)
  · rw [hh]; exact h.ltI
  · rw [hh]; exact h.ltf
  · rw [hh]; exact h.size
  · rw [hh]; exact h.same
  · exact fun n hn => R.mono (fun _ h => h) (fun _ _ => by rw [hh]) _ _ _ (fun _ _ h => h) _ _ (fun _ _ => by rw [hh]) (h.glob n hn)
theorem plan_sound (hC : CallOK P B.glob C) {ops : Array Oper} {all : List GOp} (hm : ops.toList.map stripO = all.map eraseO) (hall : ∀ g ∈ all, g.ok P B.glob n) {p : Plan} (hp : planB ops all p = true) (hmix : P.follows .mixedOrders = true) {id : Nat}
    {out : Out} (hpan : ∀ x, out = .pan x → e' = [])
    (h : St B H n e a w) (hr : planRunP T C all [] p e = some (out, e')) (hQ : ∀ a' w', St B H n e' a' w' → Q out.exit' a' w') : (Code.region id ops true).wp P Q a w := by
  obtain ⟨hsz, hdf, I, blk, hI⟩ := h
  simp only [planB, Bool.and_eq_true, decide_eq_true_eq] at hp
  have hdrawn : Inv B e (refOK e (valOf a H) { w with drawn := w.drawn + 1 }) (valOf a H) { w with drawn := w.drawn + 1 } I blk [] := hI.sameHeap rfl rfl rfl rfl
  have hcl : Closed ops (Array.replicate ops.size false) := by
    intro k hk
    by_cases hlt : k < ops.size <;> simp [hlt] at hk
  have hQp : ∀ (c : List PanicEntry) (a : Act) (d : Option Tmp) (v : Value) (w : World), (Exit.panic c = out.exit' ∧ St B H n e' (a.put d v) w) → (Exit.panic c = out.exit' ∧ St B H n e' a w) := fun c a d v w h => by
    refine ⟨h.1, ?_⟩
    cases out with
    | pan x =>
      obtain rfl := hpan x rfl
      obtain ⟨_, k1, k2, I, blk, k3⟩ := h
      refine ⟨?_, ?_, I, _, k3.void⟩
      · cases d <;> simpa [Act.put] using k1
      · cases d <;> simpa [Act.put] using k2
    | _ => cases h.1
  have key := planRunP_sound (Q := fun x a w => x = out.exit' ∧ St B H n e' a w) hC hm hall hQp (fun ⟨_, _, h⟩ => by cases out <;> cases h.1) rfl (fun i j h => waits_ok h) hp.2 ⟨by simp, fun k => by by_cases hlt : k < ops.size <;> simp [hlt]⟩ hp.1 hcl (fun _ h => by simp at h) hsz hdf hdrawn (rds := []) (rd := []) (fun _ h => by simp at h) hr (fun a' w' h' => ⟨rfl, h'⟩)
  refine wp_mono (wp_region_any hmix (wpAny_of_G _ _ _ _ key.whole)) fun x a' w' hx => ?_
  obtain ⟨rfl, hx⟩ := hx
  exact hQ a' w' hx
end
end Go.AM

/- The code of a function, and its calls. No conditions. -/
namespace Go.AM
open Go

inductive SCode where
  | skip | ret | label (l : Nat) | exit (id : Nat)
  | reg (id : Nat) (ops : List SOp) (draw : Bool)
  | seq (a b : SCode)
  | cond (c : Operand) (a b : SCode)
  | block (id : Nat) (b : SCode)
  | scope (b : SCode)
  | loop (b : SCode)
  | other
def strip : Code → SCode
  | .skip => .skip
  | .ret => .ret
  | .label l => .label l
  | .exit id => .exit id
  | .region id ops draw => .reg id (ops.toList.map stripO) draw
  | .seq a b => .seq (strip a) (strip b)
  | .cond c a b => .cond c (strip a) (strip b)
  | .block id b => .block id (strip b)
  | .scope b => .scope (strip b)
  | .loop b => .loop (strip b)
  | _ => .other
def erase : IR → SCode
  | .skip => .skip
  | .ret => .ret
  | .label l => .label l
  | .exit id => .exit id
  | .reg id ops plan _ => .reg id (ops.map eraseO) plan.isSome
  | .regp id ops plan _ => .reg id (ops.map eraseO) plan.isSome
  | .seq a b => .seq (erase a) (erase b)
  | .cond _ c a b => .cond c.op (erase a) (erase b)
  | .block id b => .block id (erase b)
  | .scope b => .scope (erase b)
  | .loop _ b => .loop (erase b)
  | .tail _ b => erase b
  | .frz _ b => erase b
  | .gd id d cf caps _ b => .seq (.reg id [(some d, .makeFunc (.func cf) #[] (caps.map Operand.tmp).toArray, none), (none, .defer { callee := .value (.tmp d), args := #[], argTypes := #[] }, none)] false) (erase b)
  | .other => .other
/-- What the types must say for all of it. -/
def IR.ok (P : Program) (G : Nat → List PV) (n : Nat) : IR → Prop
  | .reg _ ops _ _ => ∀ g ∈ ops, g.ok P G n
  | .regp _ ops _ _ => ∀ g ∈ ops, g.ok P G n
  | .seq a b => a.ok P G n ∧ b.ok P G n
  | .cond _ c a b => c.ok G ∧ a.ok P G n ∧ b.ok P G n
  | .block _ b => b.ok P G n
  | .scope b => b.ok P G n
  | .loop _ b => b.ok P G n
  | .tail _ b => b.ok P G n
  | .frz _ b => b.ok P G n
  | .gd _ _ _ _ _ _ => False
  | _ => True
/-- Where an order is free, the order that is told serves every other. -/
def plansB : Code → IR → Bool
  | c, .tail _ b => plansB c b
  | c, .frz _ b => plansB c b
  | .region _ ops true, .reg _ gs (some p) _ => planB ops gs p
  | .region _ ops true, .regp _ gs (some p) _ => planB ops gs p
  | .seq a b, .seq x y => plansB a x && plansB b y
  | .seq _ b, .gd _ _ _ _ _ x => plansB b x
  | .cond _ a b, .cond _ _ x y => plansB a x && plansB b y
  | .block _ b, .block _ x => plansB b x
  | .scope b, .scope x => plansB b x
  | .loop b, .loop _ x => plansB b x
  | _, _ => true

section
variable {P : Program} {B : Base} {T : Tab} {C : Oracle} {a : Act} {H : Nat → Value} {e e' : Env} {w w' : World} {I : Nat → Prop} {blk : Nat → List Nat} {Q : Exit → Act → World → Prop} {n : Nat}

/-- What the run of a piece of code leaves. -/
def Meets (B : Base) (H : Nat → Value) (n : Nat) (out : Out) (e : Env) : Exit → Act → World → Prop := fun x a w => x = out.exit' ∧ St B H n e a w

theorem settle1_noPan {e e' : Env} {x y : PV} (h : settle1 e x = some (y, e')) : y.isPan = false := by
  unfold settle1 at h
  split at h
  · split at h
    · cases h; rfl
    · split at h
      · cases h; rfl
      · cases h
    · split at h
      · cases h; rfl
      · cases h
    · cases h
  · split at h
    · split at h
      · cases h; rfl
      · cases h
    · cases h
  · cases h; rfl
  · cases h; rfl
  · cases h; rfl
  · cases h; rfl
  · cases h; rfl
  · cases h
theorem settle_noPan {e e' : Env} {x y : PV} (h : settle e x = some (y, e')) : y.isPan = false := by
  unfold settle at h
  split at h
  · simp only [Option.bind_eq_bind, Option.bind_eq_some_iff, Option.pure_def, Option.some.injEq, Prod.mk.injEq, Prod.exists] at h
    obtain ⟨_, _, _, rfl, _⟩ := h
    rfl
  · simp only [Option.bind_eq_bind, Option.bind_eq_some_iff, Option.pure_def, Option.some.injEq, Prod.mk.injEq, Prod.exists] at h
    obtain ⟨_, _, _, rfl, _⟩ := h
    rfl
  · exact settle1_noPan h
theorem results_noPan : ∀ {rs : List RV} {e e' : Env} {ys : List PV}, results e rs = some (ys, e') → ∀ y ∈ ys, y.isPan = false
  | [], e, e', ys, h => by
    simp only [results, Option.some.injEq, Prod.mk.injEq] at h
    rw [← h.1]
    intro y hy
    simp at hy
  | .tmp s :: r, e, e', ys, h => by
    simp only [results, Option.bind_eq_bind, Option.bind_eq_some_iff, Option.pure_def, Option.some.injEq, Prod.mk.injEq, Prod.exists] at h
    obtain ⟨y, e1, h1, ys', e2, h2, rfl, rfl⟩ := h
    intro z hz
    rcases List.mem_cons.1 hz with rfl | hz
    · exact settle_noPan h1
    · exact results_noPan h2 z hz
  | .cell s t n :: r, e, e', ys, h => by
    simp only [results] at h
    split at h
    · split at h
      · split at h
        · simp only [Option.bind_eq_bind, Option.bind_eq_some_iff, Option.pure_def, Option.some.injEq, Prod.mk.injEq, Prod.exists] at h
          obtain ⟨x, _, y, e1, h1, ys', e2, h2, rfl, rfl⟩ := h
          intro z hz
          rcases List.mem_cons.1 hz with rfl | hz
          · exact settle_noPan h1
          · exact results_noPan h2 z hz
        · cases h
      · cases h
    · cases h
theorem single_noPan {ys : List PV} (h : ∀ y ∈ ys, y.isPan = false) : (single ys).isPan = false := by
  match ys, h with
  | [], _ => rfl
  | [y], h => exact h y (by simp)
  | _ :: _ :: _, _ => rfl
theorem planRunP_pan {all : List GOp} : ∀ {p : Plan} {rds : List (Nat × Option Nat)} {e e' : Env} {out : Out} {x : Value}, planRunP T C all rds p e = some (out, e') → out = .pan x → e' = []
  | .nil, rds, e, e', out, x, h, hx => by
    simp only [planRunP, Option.some.injEq, Prod.mk.injEq] at h
    rw [← h.1] at hx
    cases hx
  | .fork ks l r, rds, e, e', out, x, h, hx => by
    simp only [planRunP] at h
    obtain ⟨_, _, _, _, rfl, _⟩ := forkOut_some h
    cases hx
  | .cons st r, rds, e, e', out, x, h, hx => by
    simp only [planRunP] at h
    split at h
    · cases h
    · split at h
      · split at h
        · simp only [Option.some.injEq, Prod.mk.injEq] at h
          exact h.2.symm
        · simp only [Option.bind_eq_bind, Option.bind_eq_some_iff, Prod.exists] at h
          obtain ⟨y, e1, _, h⟩ := h
          split at h
          · exact planRunP_pan h hx
          · cases h
      · split at h
        · exact planRunP_pan h hx
        · cases h
      · cases h
theorem exec_sound (hC : CallOK P B.glob C) (hmix : P.follows .mixedOrders = true) (fuel : Nat) : ∀ (ir : IR) (c : Code), strip c = erase ir → ir.ok P B.glob n → plansB c ir = true →
    ∀ (e : Env) (out : Out) (e' : Env), exec T C fuel ir e = some (out, e') → ∀ (a : Act) (w : World), St B H n e a w → c.wp P (Meets B H n out e') a w
  | .skip, c, hs, hok, hp, e, out, e', hx, a, w, h => by
    cases c <;> simp only [strip, erase] at hs <;> first | cases hs | skip
    simp only [exec, Option.some.injEq, Prod.mk.injEq] at hx
    obtain ⟨rfl, rfl⟩ := hx
    exact wp_skip ⟨rfl, h⟩
  | .ret, c, hs, hok, hp, e, out, e', hx, a, w, h => by
    cases c <;> simp only [strip, erase] at hs <;> first | cases hs | skip
    simp only [exec, Option.some.injEq, Prod.mk.injEq] at hx
    obtain ⟨rfl, rfl⟩ := hx
    exact wp_ret ⟨rfl, h⟩
  | .label l, c, hs, hok, hp, e, out, e', hx, a, w, h => by
    cases c <;> simp only [strip, erase] at hs <;> first | (cases hs; done) | skip
    simp only [exec, Option.some.injEq, Prod.mk.injEq] at hx
    obtain ⟨rfl, rfl⟩ := hx
    exact wp_label ⟨rfl, h⟩
  | .exit id, c, hs, hok, hp, e, out, e', hx, a, w, h => by
    cases c <;> simp only [strip, erase] at hs <;> first | (cases hs; done) | skip
    cases hs
    simp only [exec, Option.some.injEq, Prod.mk.injEq] at hx
    obtain ⟨rfl, rfl⟩ := hx
    exact wp_exit ⟨rfl, h⟩
  | .reg id gs plan ks, c, hs, hok, hp, e, out, e', hx, a, w, h => by
    cases c <;> simp only [strip, erase] at hs <;> first | (cases hs; done) | skip
    rename_i id' ops draw
    simp only [SCode.reg.injEq] at hs
    obtain ⟨rfl, hm, hd⟩ := hs
    simp only [exec] at hx
    cases plan with
    | none =>
      simp only [Option.isSome_none] at hd
      subst hd
      simp only [Option.map_eq_some_iff, Prod.mk.injEq] at hx
      obtain ⟨e1, hr, rfl, rfl⟩ := hx
      exact wp_region_list (opsRun_sound hC hm hok hm hok h (opsRun_P hr) fun a' w' h' => ⟨rfl, h'.keep ks⟩)
    | some p =>
      simp only [Option.isSome_some] at hd
      subst hd
      simp only [Option.map_eq_some_iff, Prod.mk.injEq] at hx
      obtain ⟨e1, hr, rfl, rfl⟩ := hx
      exact plan_sound hC hm hok hp hmix (fun x hx => by cases hx) h (planRun_P hr) fun a' w' h' => ⟨rfl, h'.keep ks⟩
  | .regp id gs plan ks, c, hs, hok, hp, e, out, e', hx, a, w, h => by
    cases c <;> simp only [strip, erase] at hs <;> first | (cases hs; done) | skip
    rename_i id' ops draw
    simp only [SCode.reg.injEq] at hs
    obtain ⟨rfl, hm, hd⟩ := hs
    simp only [exec] at hx
    cases plan with
    | none =>
      simp only [Option.isSome_none] at hd
      subst hd
      simp only [Option.map_eq_some_iff, Prod.mk.injEq] at hx
      obtain ⟨⟨o1, e1⟩, hr, rfl, rfl⟩ := hx
      exact wp_region_list (opsRun_sound hC hm hok hm hok h hr fun a' w' h' => ⟨rfl, h'.keep ks⟩)
    | some p =>
      simp only [Option.isSome_some] at hd
      subst hd
      simp only [Option.map_eq_some_iff, Prod.mk.injEq] at hx
      obtain ⟨⟨o1, e1⟩, hr, rfl, rfl⟩ := hx
      exact plan_sound hC hm hok hp hmix (fun x hx => planRunP_pan hr hx) h hr fun a' w' h' => ⟨rfl, h'.keep ks⟩
  | .seq x y, c, hs, hok, hp, e, out, e', hx, a, w, h => by
    cases c <;> simp only [strip, erase] at hs <;> first | (cases hs; done) | skip
    rename_i cx cy
    simp only [SCode.seq.injEq] at hs
    simp only [plansB, Bool.and_eq_true] at hp
    simp only [exec] at hx
    apply wp_seq
    split at hx
    · rename_i e1 hx1
      refine wp_mono (exec_sound hC hmix fuel x cx hs.1 hok.1 hp.1 e _ _ hx1 a w h) fun ex a' w' hm => ?_
      obtain ⟨rfl, h'⟩ := hm
      exact exec_sound hC hmix fuel y cy hs.2 hok.2 hp.2 e1 out e' hx a' w' h'
    · rename_i hne
      refine wp_mono (exec_sound hC hmix fuel x cx hs.1 hok.1 hp.1 e out e' hx a w h) fun ex a' w' hm => ?_
      obtain ⟨rfl, h'⟩ := hm
      cases out with
      | normal => exact (hne e' hx).elim
      | ret => exact ⟨rfl, h'⟩
      | exit id => exact ⟨rfl, h'⟩
      | pan x => exact ⟨rfl, h'⟩
  | .cond ks k x y, c, hs, hok, hp, e, out, e', hx, a, w, h => by
    cases c <;> simp only [strip, erase] at hs <;> first | (cases hs; done) | skip
    rename_i ck cx cy
    simp only [SCode.cond.injEq] at hs
    obtain ⟨rfl, hs1, hs2⟩ := hs
    simp only [plansB, Bool.and_eq_true] at hp
    simp only [exec] at hx
    obtain ⟨hk, hok1, hok2⟩ := hok
    have hev : R w _ (refOK e (valOf a H) w) (k.ev e) (a.eval k.op) [] := ev_ok h.2.2.choose_spec.choose_spec hk
    split at hx
    · rename_i hb
      rw [hb] at hev
      exact wp_cond_true hev.1 (exec_sound hC hmix fuel x cx hs1 hok1 hp.1 _ out e' hx a w (h.keep ks))
    · rename_i hb
      rw [hb] at hev
      exact wp_cond_false hev.1 (exec_sound hC hmix fuel y cy hs2 hok2 hp.2 _ out e' hx a w (h.keep ks))
    · simp at hx
  | .block id x, c, hs, hok, hp, e, out, e', hx, a, w, h => by
    cases c <;> simp only [strip, erase] at hs <;> first | (cases hs; done) | skip
    rename_i id' cx
    simp only [SCode.block.injEq] at hs
    obtain ⟨rfl, hs⟩ := hs
    simp only [plansB] at hp
    simp only [exec] at hx
    apply wp_block
    split at hx
    · rename_i i e1 hx1
      refine wp_mono (exec_sound hC hmix fuel x cx hs hok hp e _ _ hx1 a w h) fun ex a' w' hm => ?_
      obtain ⟨rfl, h'⟩ := hm
      simp only [Out.exit', Exit.inBlock]
      split at hx
      · rename_i hi
        simp only [Option.some.injEq, Prod.mk.injEq] at hx
        obtain ⟨rfl, rfl⟩ := hx
        rw [if_pos hi]
        exact ⟨rfl, h'⟩
      · rename_i hi
        simp only [Option.some.injEq, Prod.mk.injEq] at hx
        obtain ⟨rfl, rfl⟩ := hx
        rw [if_neg hi]
        exact ⟨rfl, h'⟩
    · rename_i hne
      refine wp_mono (exec_sound hC hmix fuel x cx hs hok hp e out e' hx a w h) fun ex a' w' hm => ?_
      obtain ⟨rfl, h'⟩ := hm
      cases out with
      | normal => exact ⟨rfl, h'⟩
      | ret => exact ⟨rfl, h'⟩
      | exit id => exact (hne id e' hx).elim
      | pan x => exact ⟨rfl, h'⟩
  | .other, c, hs, hok, hp, e, out, e', hx, a, w, h => by simp [exec] at hx
  | .gd _ _ _ _ _ _, c, hs, hok, hp, e, out, e', hx, a, w, h => hok.elim
  | .tail ks x, c, hs, hok, hp, e, out, e', hx, a, w, h => exec_sound hC hmix fuel x c hs hok (by cases c <;> exact hp) (e.keep ks) out e' hx a w (h.keep ks)
  | .frz ls x, c, hs, hok, hp, e, out, e', hx, a, w, h => by
    simp only [exec] at hx
    split at hx
    · rename_i hf
      exact exec_sound hC hmix fuel x c hs hok (by cases c <;> exact hp) (freezeAll e ls) out e' hx a w (h.freeze hf)
    · cases hx
  | .scope x, c, hs, hok, hp, e, out, e', hx, a, w, h => by
    cases c <;> simp only [strip, erase] at hs <;> first | (cases hs; done) | skip
    rename_i cx
    simp only [SCode.scope.injEq] at hs
    simp only [plansB] at hp
    simp only [exec] at hx
    refine wp_scope_straight (wp_mono (exec_sound hC hmix fuel x cx hs hok hp e out e' hx a w h) fun ex a' w' hm => ?_)
    obtain ⟨rfl, h'⟩ := hm
    cases out <;> exact ⟨rfl, h'⟩
  | .loop ks x, c, hs, hok, hp, e, out, e', hx, a, w, h => by
    cases c <;> simp only [strip, erase] at hs <;> first | (cases hs; done) | skip
    rename_i cx
    simp only [SCode.loop.injEq] at hs
    simp only [plansB] at hp
    simp only [exec] at hx
    have key : ∀ (m : Nat) (e : Env) (a : Act) (w : World), loopN (exec T C fuel x) ks m e = some (out, e') → St B H n e a w → Code.rounds P cx (Meets B H n out e') m a w := by
      intro m
      induction m with
      | zero => intro e a w hx h; simp [loopN] at hx
      | succ m ih =>
        intro e a w hx h
        simp only [loopN] at hx
        rw [rounds_succ]
        split at hx
        · rename_i e1 hx1
          refine wp_mono (exec_sound hC hmix fuel x cx hs hok hp _ _ _ hx1 a w (h.keep ks)) fun ex a' w' hm => ?_
          obtain ⟨rfl, h'⟩ := hm
          exact ih e1 a' w' hx h'
        · rename_i hne
          refine wp_mono (exec_sound hC hmix fuel x cx hs hok hp _ out e' hx a w (h.keep ks)) fun ex a' w' hm => ?_
          obtain ⟨rfl, h'⟩ := hm
          cases out with
          | normal => exact (hne e' hx).elim
          | ret => exact ⟨rfl, h'⟩
          | exit id => exact ⟨rfl, h'⟩
          | pan x => exact ⟨rfl, h'⟩
    exact wp_loop_rounds fuel (key fuel e a w hx h)
end
end Go.AM

/- Functions: entered, left, called. No conditions. -/
namespace Go.AM
open Go

def stripR : ResultVar → Nat × Option TypeId
  | .tmp t => (t, none)
  | .cell a t => (a, some t)
def eraseR : RV → Nat × Option TypeId
  | .tmp s => (s, none)
  | .cell s t _ => (s, some t)
def RV.ok (P : Program) : RV → Prop
  | .tmp s => s < home
  | .cell s t n => s < home ∧ LoadOK P t n
/-- A function's result variable, read. -/
def readR (tmps : Array Value) : ResultVar → Sem Value
  | .tmp t => pure (tmps.getD t undef)
  | .cell a t => do loadVar t (← asAddr (tmps.getD a undef))

section
variable {P : Program} {B : Base} {T : Tab} {C : Oracle} {a : Act} {H : Nat → Value} {e e' : Env} {w w' : World} {I : Nat → Prop} {blk : Nat → List Nat} {fl : List Nat} {Q : Exit → Act → World → Prop} {n : Nat}

theorem results_ok : ∀ {rvs : List RV} {rs : List ResultVar} {e e' : Env} {blk : Nat → List Nat} {fl : List Nat} {ys : List PV}, rs.map stripR = rvs.map eraseR → (∀ r ∈ rvs, r.ok P) → Inv B e (refOK e (valOf a H) w) (valOf a H) w I blk fl → results e rvs = some (ys, e') →
    ∃ vs blk' bs, (rs.mapM (readR a.tmps)).run P w = .ok vs w ∧ Inv B e' (refOK e' (valOf a H) w) (valOf a H) w I blk' (bs ++ fl) ∧ Rs w I nope ys vs bs ∧ Weak e' e
  | [], rs, e, e', blk, fl, ys, hm, hok, h, hr => by
    have : rs = [] := by cases rs <;> simp_all
    subst this
    simp only [results, Option.some.injEq, Prod.mk.injEq] at hr
    obtain ⟨rfl, rfl⟩ := hr
    exact ⟨[], blk, [], by simp, h, ⟨rfl, rfl⟩, Weak.refl _⟩
  | rv :: rvs, rs, e, e', blk, fl, ys, hm, hok, h, hr => by
    cases rs with
    | nil => simp at hm
    | cons r rs =>
      simp only [List.map_cons, List.cons.injEq] at hm
      obtain ⟨hr0, hm⟩ := hm
      have hrv := hok rv (by simp)
      have step : ∀ (y : PV) (V : Value) (e1 : Env) (x : PV) (ys' : List PV), (readR a.tmps r).run P w = .ok V w → R w I (refOK e (valOf a H) w) x V [] → settle e x = some (y, e1) → results e1 rvs = some (ys', e') → ys = y :: ys' →
          ∃ vs blk' bs, ((r :: rs).mapM (readR a.tmps)).run P w = .ok vs w ∧ Inv B e' (refOK e' (valOf a H) w) (valOf a H) w I blk' (bs ++ fl) ∧ Rs w I nope ys vs bs ∧ Weak e' e := by
        intro y V e1 x ys' h1 hx h2 h3 h4
        obtain ⟨blk1, bs1, k1, k2, k3⟩ := settle_ok h hx h2
        obtain ⟨vs, blk2, bs2, k4, k5, k6, k7⟩ := results_ok hm (fun r hr => hok r (by simp [hr])) (k1.weaken k3) h3
        refine ⟨V :: vs, blk2, bs1 ++ bs2, ?_, k5.fl_perm ?_, ?_, k7.trans k3⟩
        · simp [List.mapM_cons, h1, k4]
        · rw [show bs2 ++ (bs1 ++ fl) = (bs2 ++ bs1) ++ fl by simp]
          exact List.Perm.append_right _ List.perm_append_comm
        · subst h4
          exact ⟨V, vs, bs1, bs2, rfl, rfl, k2, k6⟩
      cases rv with
      | tmp s =>
        cases r with
        | cell a' t => simp [stripR, eraseR] at hr0
        | tmp t =>
          simp only [stripR, eraseR, Prod.mk.injEq, and_true] at hr0
          subst hr0
          simp only [results, Option.bind_eq_bind, Option.bind_eq_some_iff, Option.pure_def, Option.some.injEq, Prod.mk.injEq, Prod.exists] at hr
          obtain ⟨y, e1, hs, ys', e2, hr', rfl, rfl⟩ := hr
          have hv : valOf a H t = a.tmps.getD t undef := by
            have : t < home := hrv
            simp [valOf, this]
          exact step y (a.tmps.getD t undef) e1 _ ys' (by simp [readR]) (hv ▸ h.view t) hs hr' rfl
      | cell s t n =>
        cases r with
        | tmp t' => simp [stripR, eraseR] at hr0
        | cell a' t' =>
          simp only [stripR, eraseR, Prod.mk.injEq, Option.some.injEq] at hr0
          obtain ⟨rfl, rfl⟩ := hr0
          obtain ⟨hs, hld⟩ := hrv
          have hv : valOf a H a' = a.tmps.getD a' undef := by simp [valOf, hs]
          have hvw := h.view a'
          simp only [results] at hr
          split at hr
          · rename_i s' hsv
            rw [hsv] at hvw
            split at hr
            · rename_i cs hg
              split at hr
              case isFalse => simp at hr
              rename_i hlen
              simp only [Option.bind_eq_bind, Option.bind_eq_some_iff, Option.pure_def, Option.some.injEq, Prod.mk.injEq, Prod.exists] at hr
              obtain ⟨x, hx, y, e1, hst, ys', e2, hr', rfl, rfl⟩ := hr
              have hvw2 := hvw.2
              simp only [refOK] at hvw2
              have hp := hvw2.2 (by simp [Env.at_, PV.sub, hg, PV.isObj])
              simp only [place, walk, Option.some.injEq] at hp
              obtain ⟨g, us, hgv, hul, hcv⟩ := cellViews_ok h hg
              obtain ⟨c1, c2⟩ := hcv 0 (n.getD 1) (by omega)
              have hA : a.tmps.getD a' undef = .pointer (some ⟨g, 0, none⟩) := by rw [← hv, ← hp, hgv]
              obtain ⟨l1, l2⟩ := run_loadVar hld c1
              rcases part_R c2 hx with ⟨hn, u, hu, hR⟩ | ⟨k, hn, hk, hR⟩
              · exact step y u e1 x ys' (by simp only [readR, hA]; simp [asAddr, l1 hn u hu]) hR hst hr' rfl
              · exact step y _ e1 x ys' (by simp only [readR, hA]; simp [asAddr, l2 k hn hk]) hR hst hr' rfl
            · simp at hr
          · simp at hr

/-! ### Entering -/
theorem get_enter : ∀ (xs : List PV) (i s : Nat), i + xs.length ≤ home →
    (enter i xs).get s = if s < home then (if i ≤ s then (match xs[s - i]? with | some x => if x.isObj then .ref (home + s) [] else x | none => .dead) else .dead)
      else (if home + i ≤ s then (match xs[s - home - i]? with | some x => if x.isObj then x else .dead | none => .dead) else .dead)
  | [], i, s, _ => by simp [enter, Env.get]
  | x :: r, i, s, h => by
    simp only [List.length_cons] at h
    have ih := get_enter r (i + 1) s (by omega)
    have hshift : ∀ k, i + 1 ≤ k → (x :: r)[k - i]? = r[k - (i + 1)]? := by
      intro k hk
      rw [show k - i = (k - (i + 1)) + 1 by omega]
      simp
    by_cases hx : x.isObj = true
    · simp only [enter, hx, if_true, Env.get]
      by_cases h1 : i = s
      · subst h1
        rw [if_pos rfl, if_pos (by omega), if_pos (Nat.le_refl _)]
        simp [hx]
      · rw [if_neg h1]
        by_cases h2 : home + i = s
        · subst h2
          rw [if_pos rfl, if_neg (by omega), if_pos (Nat.le_refl _)]
          simp [hx]
        · rw [if_neg h2, ih]
          by_cases h3 : s < home
          · simp only [h3, if_true]
            by_cases h4 : i ≤ s
            · rw [if_pos h4, if_pos (by omega), hshift s (by omega)]
            · rw [if_neg h4, if_neg (by omega)]
          · simp only [h3, if_false]
            by_cases h4 : home + i ≤ s
            · rw [if_pos h4, if_pos (by omega)]
              have := hshift (s - home) (by omega)
              rw [this]
            · rw [if_neg h4, if_neg (by omega)]
    · have hx' : x.isObj = false := by simpa using hx
      simp only [enter, hx', Bool.false_eq_true, if_false, Env.get]
      by_cases h1 : i = s
      · subst h1
        rw [if_pos rfl, if_pos (by omega), if_pos (Nat.le_refl _)]
        simp [hx']
      · rw [if_neg h1, ih]
        by_cases h3 : s < home
        · simp only [h3, if_true]
          by_cases h4 : i ≤ s
          · rw [if_pos h4, if_pos (by omega), hshift s (by omega)]
          · rw [if_neg h4, if_neg (by omega)]
        · simp only [h3, if_false]
          by_cases h4 : home + i ≤ s
          · by_cases h5 : home + i = s
            · subst h5
              rw [if_pos h4, if_neg (by omega)]
              simp [hx']
            · rw [if_pos h4, if_pos (by omega)]
              have := hshift (s - home) (by omega)
              rw [this]
          · rw [if_neg h4, if_neg (by omega)]
/-- The arguments, one by one. -/
theorem Rs.each {q : PV → Value → Prop} : ∀ {xs : List PV} {vs : List Value} {bss : List Nat}, Rs w I q xs vs bss → bss.Nodup →
    ∃ Bs : Nat → List Nat, (∀ (k : Nat) (x : PV), xs[k]? = some x → ∃ v, vs[k]? = some v ∧ R w I q x v (Bs k)) ∧ (∀ k, xs.length ≤ k → Bs k = []) ∧ (∀ k, (Bs k).Nodup) ∧ (∀ j k b, j ≠ k → b ∈ Bs j → b ∉ Bs k) ∧ ∀ k b, b ∈ Bs k → b ∈ bss
  | [], vs, bss, h, _ => ⟨fun _ => [], fun k x hx => by simp at hx, fun _ _ => rfl, fun _ => List.nodup_nil, fun _ _ _ _ hb => by simp at hb, fun _ _ hb => by simp at hb⟩
  | x :: r, vs, bss, h, hnd => by
    obtain ⟨v, us, b1, b2, rfl, rfl, h1, h2⟩ := h
    have hn := List.nodup_append.1 hnd
    obtain ⟨Bs, k1, k2, k3, k4, k5⟩ := Rs.each h2 hn.2.1
    refine ⟨fun k => match k with | 0 => b1 | k + 1 => Bs k, ?_, ?_, ?_, ?_, ?_⟩
    · intro k y hy
      cases k with
      | zero => simp at hy; subst hy; exact ⟨v, rfl, h1⟩
      | succ k => exact k1 k y (by simpa using hy)
    · intro k hk
      cases k with
      | zero => simp at hk
      | succ k => exact k2 k (by simpa using hk)
    · intro k
      cases k with
      | zero => exact hn.1
      | succ k => exact k3 k
    · intro j k b hjk hb hb'
      cases j with
      | zero =>
        cases k with
        | zero => exact hjk rfl
        | succ k => exact hn.2.2 b hb b (k5 k b hb') rfl
      | succ j =>
        cases k with
        | zero => exact hn.2.2 b hb' b (k5 j b hb) rfl
        | succ k => exact k4 j k b (by omega) hb hb'
    · intro k b hb
      cases k with
      | zero => simp [show b ∈ b1 from hb]
      | succ k => simp [k5 k b hb]
theorem R.isObj_one {q : PV → Value → Prop} {x : PV} {V : Value} {bs : List Nat} (h : R w I q x V bs) (ho : x.isObj = true) : V.oneCell' = true := by
  cases x <;> simp [PV.isObj] at ho
  · rcases h.2 with ⟨rfl, _⟩ | ⟨g, vs, _, _, cap, cur, t, fr, rfl, _⟩ <;> rfl
  · obtain ⟨g, us, bs', _, _, cur, t, fr, rfl, _⟩ := h
    rfl
  · obtain ⟨g, _, rfl, _⟩ := h
    rfl
  · exact BldAt.one h
  · obtain ⟨g, _, rfl, _⟩ := h
    rfl
/-- The state at a function's entry. -/
theorem enter_inv {G : Nat → List PV} {xs : List PV} {vs : List Value} {bss : List Nat} {n : Nat} (hI : ∀ b, I b → b < w.heap.size) (hnd : bss.Nodup) (hni : ∀ b, b ∈ bss → ¬ I b) (hG : ∀ n, G n ≠ [] → R w I nope (.raddr (G n)) (.pointer (some ⟨n, 0, none⟩)) []) (hx : Rs w I nope xs vs bss)
    (hlen : xs.length ≤ n) (hn : n ≤ home) :
    St { w := w, I := I, S := (· ∈ bss), glob := G } (fun s => vs.getD (s - home) undef) n (enter 0 xs) { tmps := vs.toArray ++ Array.replicate (n - vs.toArray.size) undef, defers := [] } w := by
  obtain ⟨Bs, k1, k2, k3, k4, k5⟩ := hx.each hnd
  have hl := hx.length
  have hltb := Rs.lt _ _ _ _ hx
  let blk : Nat → List Nat := fun s => if s < home then (match xs[s]? with | some x => if x.isObj then [] else Bs s | none => []) else (match xs[s - home]? with | some x => if x.isObj then Bs (s - home) else [] | none => [])
  -- whose blocks a slot has
  have own : ∀ s b, b ∈ blk s → ∃ k, b ∈ Bs k ∧ (∃ x, xs[k]? = some x ∧ ((x.isObj = true ∧ s = home + k) ∨ (x.isObj = false ∧ s = k))) := by
    intro s b hb
    simp only [blk] at hb
    split at hb
    · rename_i hs
      split at hb
      · rename_i x hx'
        split at hb
        · simp at hb
        · rename_i ho
          exact ⟨s, hb, x, hx', .inr ⟨by simpa using ho, rfl⟩⟩
      · simp at hb
    · rename_i hs
      split at hb
      · rename_i x hx'
        split at hb
        · rename_i ho
          exact ⟨s - home, hb, x, hx', .inl ⟨ho, by omega⟩⟩
        · simp at hb
      · simp at hb
  refine ⟨by simp; omega, rfl, I, blk, ?_⟩
  have hval : ∀ (k : Nat) (v : Value), vs[k]? = some v → valOf { tmps := vs.toArray ++ Array.replicate (n - vs.toArray.size) undef, defers := [] } (fun s => vs.getD (s - home) undef) k = v := by
    intro k v hv
    have hk : k < vs.length := (List.getElem?_eq_some_iff.1 hv).1
    have : k < home := by omega
    simp [valOf, this, Array.getElem?_append, hk]
    have := (List.getElem?_eq_some_iff.1 hv).2
    exact this
  have hvalH : ∀ (k : Nat) (v : Value), vs[k]? = some v → valOf { tmps := vs.toArray ++ Array.replicate (n - vs.toArray.size) undef, defers := [] } (fun s => vs.getD (s - home) undef) (home + k) = v := by
    intro k v hv
    have : ¬ home + k < home := by omega
    simp [valOf, hv, this]
  refine { rel := ?_, nd := ?_, ndf := List.nodup_nil, dj := ?_, djf := fun _ _ _ hf => by simp at hf, notI := ?_, notIf := fun _ hb => by simp at hb, ltI := hI, ltf := fun _ hb => by simp at hb, keepI := fun _ h => h, newI := fun _ h => .inl h, own := ?_, ownf := fun _ hb => by simp at hb, os := rfl, tape := rfl, output := rfl, size := Nat.le_refl _, same := fun _ _ _ => rfl, glob := hG }
  · intro s
    have hge := get_enter xs 0 s (by omega)
    simp only [Nat.zero_le, if_true, Nat.sub_zero, Nat.add_zero] at hge
    rw [hge]
    by_cases hs : s < home
    · simp only [hs, if_true, blk]
      cases hxs : xs[s]? with
      | none => simp [AM.R]
      | some x =>
        obtain ⟨v, hv, hR⟩ := k1 s x hxs
        simp only
        by_cases ho : x.isObj = true
        · simp only [ho, if_true]
          rw [hval s v hv]
          refine ⟨rfl, hR.isObj_one ho, fun _ => ?_⟩
          simp only [place, walk]
          rw [hvalH s v hv]
        · simp only [ho]
          rw [hval s v hv]
          exact hR.ofNope
    · simp only [hs, if_false, blk]
      by_cases hs2 : home ≤ s
      · simp only [hs2, if_true]
        cases hxs : xs[s - home]? with
        | none => simp [AM.R]
        | some x =>
          obtain ⟨v, hv, hR⟩ := k1 (s - home) x hxs
          simp only
          by_cases ho : x.isObj = true
          · simp only [ho, if_true]
            have := hvalH (s - home) v hv
            rw [show home + (s - home) = s by omega] at this
            rw [this]
            exact hR.ofNope
          · simp [ho, AM.R]
      · omega
  · intro s
    simp only [blk]
    split
    · split
      · split
        · exact List.nodup_nil
        · exact k3 _
      · exact List.nodup_nil
    · split
      · split
        · exact k3 _
        · exact List.nodup_nil
      · exact List.nodup_nil
  · intro s t hst b hb hb'
    obtain ⟨j, hj, x, hxj, hc⟩ := own s b hb
    obtain ⟨k, hk, y, hyk, hc'⟩ := own t b hb'
    by_cases hjk : j = k
    · subst hjk
      rw [hxj] at hyk
      obtain rfl := Option.some.inj hyk
      rcases hc with ⟨c1, c2⟩ | ⟨c1, c2⟩ <;> rcases hc' with ⟨d1, d2⟩ | ⟨d1, d2⟩
      · omega
      · rw [c1] at d1; cases d1
      · rw [c1] at d1; cases d1
      · omega
    · exact k4 j k b hjk hj hk
  · intro s b hb
    obtain ⟨j, hj, _⟩ := own s b hb
    exact hni b (k5 j b hj)
  · intro s b hb
    obtain ⟨j, hj, _⟩ := own s b hb
    exact .inl (k5 j b hj)

/-! ### Leaving -/
theorem left1_ok {q : PV → Value → Prop} {x : PV} {V : Value} {bs : List Nat} (h : R w I q x V bs) : ∃ c, R w I nope (left1 x) V c ∧ (c = bs ∨ c = []) := by
  cases x <;> simp only [left1] <;> first | exact ⟨bs, h, .inl rfl⟩ | exact ⟨[], rfl, .inr rfl⟩
theorem left_ok {q : PV → Value → Prop} {val : Nat → Value} (h : Inv B e q val w I blk fl) : ∀ {xs : List PV} {vs : List Value} {i : Nat}, (∀ k v, vs[k]? = some v → val (home + i + k) = v) → vs.length = xs.length →
    ∃ bs, Rs w I nope (left e i xs) vs bs ∧ bs.Nodup ∧ ∀ b, b ∈ bs → ∃ s, home + i ≤ s ∧ b ∈ blk s
  | [], vs, i, _, hl => by
    have : vs = [] := by cases vs <;> simp_all
    subst this
    exact ⟨[], ⟨rfl, rfl⟩, List.nodup_nil, fun _ hb => by simp at hb⟩
  | x :: xs, vs, i, hv, hl => by
    cases vs with
    | nil => simp at hl
    | cons v vs =>
      obtain ⟨bs, k1, k2, k3⟩ := left_ok h (xs := xs) (vs := vs) (i := i + 1) (fun k u hu => by
        have := hv (k + 1) u (by simpa using hu)
        rw [← this]; congr 1; omega) (by simpa using hl)
      have h0 := h.rel (home + i)
      have e0 : val (home + i) = v := hv 0 v rfl
      rw [e0] at h0
      have ⟨c, c1, c2⟩ : ∃ c, R w I nope (if x.isObj then left1 (e.get (home + i)) else .dead) v c ∧ (c = blk (home + i) ∨ c = []) := by
        split
        · exact left1_ok h0
        · exact ⟨[], rfl, .inr rfl⟩
      refine ⟨c ++ bs, ⟨v, vs, c, bs, rfl, rfl, c1, k1⟩, ?_, ?_⟩
      · rcases c2 with rfl | rfl
        · refine List.nodup_append.2 ⟨h.nd _, k2, fun b hb b' hb' hbb => ?_⟩
          subst hbb
          obtain ⟨s, hs1, hs2⟩ := k3 b hb'
          exact h.dj (home + i) s (by omega) b hb hs2
        · simpa using k2
      · intro b hb
        rcases List.mem_append.1 hb with hb | hb
        · rcases c2 with rfl | rfl
          · exact ⟨home + i, Nat.le_refl _, hb⟩
          · simp at hb
        · obtain ⟨s, hs1, hs2⟩ := k3 b hb
          exact ⟨s, by omega, hs2⟩
theorem single_ok {ys : List PV} {vs : List Value} {bs : List Nat} (h : Rs w I nope ys vs bs) : R w I nope (single ys) (if h : vs.toArray.size = 1 then vs.toArray[0] else .tuple vs.toArray) bs := by
  have hl := h.length
  match ys, vs, hl, h with
  | [], [], _, h => exact ⟨[], rfl, h⟩
  | [y], [v], _, h =>
    obtain ⟨v', us, b1, b2, e1, e2, h1, h2, h3⟩ := h
    subst h2
    simp only [List.cons.injEq, and_true] at e1
    subst e1
    subst h3
    simpa [single, e2] using h1
  | y :: y2 :: ys, v :: v2 :: vs, _, h => 
    have : ¬ (v :: v2 :: vs).toArray.size = 1 := by simp
    rw [dif_neg this]
    exact ⟨_, rfl, h⟩

end
end Go.AM
