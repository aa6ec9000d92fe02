/- Statements in order: what the code does is what the abstract machine says. No conditions. -/
import Derived.Test.YtfkgoofipbbhpaaDoorAmOp
import Derived.Scope
import Derived.LoopN
namespace Go.AM
open Go

section
variable {P : Program} {B : Base} {T : Tab} {C : Oracle} {a : Act} {H : Nat → Value} {e e' : Env} {w w' : World} {I : Nat → Prop} {blk : Nat → List Nat} {Q : Exit → Act → World → Prop} {n : Nat}

/-- The state of a call under way. -/
def St (B : Base) (H : Nat → Value) (n : Nat) (e : Env) (a : Act) (w : World) : Prop :=
  a.tmps.size = n ∧ a.defers = [] ∧ ∃ I blk, Inv B e (refOK e (valOf a H) w) (valOf a H) w I blk []
theorem valOf_put {d : Nat} (hd : d < a.tmps.size) (hh : d < home) (V : Value) : valOf (a.put (some d) V) H = upd (valOf a H) d V := by
  funext s
  unfold valOf upd Act.put
  by_cases hs : s = d
  · subst hs
    simp [hh, hd]
  · by_cases hl : s < home
    · simp [hl, hs, Array.getElem?_setIfInBounds_ne (Ne.symm hs)]
    · simp [hl, hs]
theorem Yields.put {y : PV} {V : Value} (h : Yields B (valOf a H) e' y V w') {dst : Option Nat} (hd : ∀ d, dst = some d → d < a.tmps.size ∧ d < home) :
    ∃ I' blk', Inv B (putDst e' dst y) (refOK (putDst e' dst y) (valOf (a.put dst V) H) w') (valOf (a.put dst V) H) w' I' blk' [] := by
  obtain ⟨I', blk', bs, h1, h2⟩ := h
  cases dst with
  | none => exact ⟨I', blk', h1.fl_drop (List.nil_sublist _)⟩
  | some d =>
    obtain ⟨d1, d2⟩ := hd d rfl
    rw [valOf_put d1 d2]
    rcases h2 with h2 | ⟨rfl, hno, h2⟩
    · obtain ⟨blk'', h3⟩ := Inv.putClosed (fl := []) (by simpa using h1) h2
      exact ⟨I', blk'', h3⟩
    · exact ⟨I', _, Inv.putView h1 hno h2⟩
theorem St.put {y : PV} {V : Value} (hs : a.tmps.size = n) (hdf : a.defers = []) (h : Yields B (valOf a H) e' y V w') {dst : Option Nat} (hd : ∀ d, dst = some d → d < n ∧ d < home) : St B H n (putDst e' dst y) (a.put dst V) w' := by
  refine ⟨?_, ?_, h.put (by rw [hs]; exact hd)⟩
  · cases dst <;> simp [Act.put, hs]
  · cases dst <;> simp [Act.put, hdf]

theorem Env.get_del (e : Env) (s t : Nat) : (e.del s).get t = if s = t then .dead else e.get t := by
  induction e with
  | nil => simp [Env.del, Env.get]
  | cons kx r ih =>
    obtain ⟨k, x⟩ := kx
    by_cases h : k = s
    · subst h
      simp only [Env.del, if_true, ih, Env.get]
      by_cases h2 : k = t <;> simp [h2]
    · simp only [Env.del, if_neg h, Env.get]
      by_cases h2 : k = t
      · subst h2
        simp [Ne.symm h]
      · rw [if_neg h2, if_neg h2, ih]
theorem Inv.del1 {val : Nat → Value} (h : Inv B e (refOK e val w) val w I blk []) (s : Nat) : Inv B (e.del s) (refOK (e.del s) val w) val w I (updB blk s []) [] := by
  have wk : Weak (e.del s) e := by
    intro t p o
    unfold Env.at_ at o ⊢
    rw [Env.get_del] at o
    split at o
    · simp [PV.sub_dead, PV.isObj] at o
    · exact o
  have sub : ∀ t b, b ∈ updB blk s [] t → b ∈ blk t := by
    intro t b hb
    simp only [updB] at hb
    split at hb
    · simp at hb
    · exact hb
  refine { h with rel := ?_, nd := ?_, dj := ?_, djf := ?_, notI := ?_, own := ?_ }
  · intro t
    rw [Env.get_del]
    simp only [updB]
    by_cases ht : s = t
    · subst ht
      simp [AM.R]
    · rw [if_neg ht, if_neg (Ne.symm ht)]
      exact wk.R (h.rel t)
  · intro t
    simp only [updB]
    split
    · simp
    · exact h.nd t
  · exact fun t u htu b hb hb' => h.dj t u htu b (sub t b hb) (sub u b hb')
  · exact fun t b hb => h.djf t b (sub t b hb)
  · exact fun t b hb => h.notI t b (sub t b hb)
  · exact fun t b hb => h.own t b (sub t b hb)
theorem Inv.forget {val : Nat → Value} : ∀ {ks : List Nat} {e : Env} {blk : Nat → List Nat}, Inv B e (refOK e val w) val w I blk [] → ∃ blk', Inv B (e.forget ks) (refOK (e.forget ks) val w) val w I blk' []
  | [], _, blk, h => ⟨blk, h⟩
  | k :: ks, _, _, h => Inv.forget (ks := ks) (h.del1 k)
theorem St.forget (h : St B H n e a w) (ks : List Nat) : St B H n (e.forget ks) a w := by
  obtain ⟨h1, h2, I, blk, h3⟩ := h
  obtain ⟨blk', h4⟩ := h3.forget (ks := ks)
  exact ⟨h1, h2, I, blk', h4⟩

/-! ### Code and its form for the abstract machine -/
abbrev SOp := Option Tmp × Op × Option (Nat × Bool)
def stripO (o : Oper) : SOp := (o.dst, o.op, o.guard)
def eraseO (g : GOp) : SOp := (g.dst, g.op.toOp, g.g)
def GOp.ok (P : Program) (G : Nat → List PV) (n : Nat) (g : GOp) : Prop := g.op.ok P G ∧ ∀ d, g.dst = some d → d < n ∧ d < home

theorem wanted_ok {ops : Array Oper} {all : List GOp} (hm : ops.toList.map stripO = all.map eraseO) (hall : ∀ g ∈ all, g.ok P B.glob n) (h : St B H n e a w) {o : Oper} {g : GOp} (ho : o.guard = g.g) {b : Bool} (hw : wantedA all e g.g = some b) :
    Region.wanted o (yielded ops a.tmps) = b := by
  unfold wantedA at hw
  unfold Region.wanted
  rw [ho]
  split at hw
  · rename_i hg
    rw [hg]
    exact Option.some.inj hw
  · rename_i j want hg
    rw [hg]
    simp only
    split at hw
    · rename_i g' hg'
      split at hw
      · rename_i d hd
        have hget : (ops.toList.map stripO)[j]? = some (eraseO g') := by rw [hm]; simp [hg']
        have ⟨o', ho', hs'⟩ : ∃ o', ops[j]? = some o' ∧ stripO o' = eraseO g' := by
          simp only [List.getElem?_map, Option.map_eq_some_iff] at hget
          obtain ⟨o', h1, h2⟩ := hget
          exact ⟨o', by simpa using h1, h2⟩
        have hdst : o'.dst = some d := by
          have := congrArg (·.1) hs'
          simpa [stripO, eraseO, hd] using this
        obtain ⟨hsz, _, I, blk, hI⟩ := h
        have hdn := (hall g' (List.mem_of_getElem? hg')).2 d hd
        have hR := hI.rel d
        have hval : valOf a H d = a.tmps.getD d undef := by simp [valOf, hdn.2]
        have hlt : d < a.tmps.size := by rw [hsz]; exact hdn.1
        have htm : a.tmps[d]? = some (a.tmps.getD d undef) := by simp [hlt]
        have hy : yielded ops a.tmps j = match a.tmps.getD d undef with | .bool b => some b | _ => none := by
          unfold yielded
          simp only [ho', Option.bind_some, hdst]
          rw [htm]
          cases a.tmps.getD d undef <;> rfl
        split at hw
        · rename_i b0 hb0
          rw [hb0] at hR
          have : a.tmps.getD d undef = .bool b0 := by rw [← hval]; exact hR.1
          rw [hy, this]
          simp only [Option.some.injEq] at hw
          rw [← hw]
          simp
        · rename_i hb0
          rw [hb0] at hR
          obtain ⟨vs, e1, hvs⟩ := hR
          obtain ⟨rfl, _⟩ := hvs
          have : a.tmps.getD d undef = .tuple #[] := by rw [← hval]; exact e1
          rw [hy, this]
          simp only [Option.some.injEq] at hw
          rw [← hw]
          simp
        · simp at hw
      · simp at hw
    · simp at hw
theorem undef_yields (h : Inv B e (refOK e (valOf a H) w) (valOf a H) w I blk []) : Yields B (valOf a H) e (.tup []) undef w := ⟨I, blk, [], h, .inl ⟨[], rfl, rfl, rfl⟩⟩

theorem opsRun_sound (hC : CallOK P B.glob C) {ops : Array Oper} {all : List GOp} (hm : ops.toList.map stripO = all.map eraseO) (hall : ∀ g ∈ all, g.ok P B.glob n) :
    ∀ {l : List Oper} {r : List GOp} {e e' : Env} {a : Act} {w : World}, l.map stripO = r.map eraseO → (∀ g ∈ r, g.ok P B.glob n) → St B H n e a w → opsRun T C all r e = some e' → (∀ a' w', St B H n e' a' w' → Q .normal a' w') → wpList P ops Q l a w
  | [], r, e, e', a, w, hl, _, h, hr, hQ => by
    have : r = [] := by cases r <;> simp_all
    subst this
    simp only [opsRun, Option.some.injEq] at hr
    subst hr
    exact hQ a w h
  | o :: l, r, e, e', a, w, hl, hok, h, hr, hQ => by
    cases r with
    | nil => simp at hl
    | cons g r =>
      simp only [List.map_cons, List.cons.injEq] at hl
      obtain ⟨ho, hl⟩ := hl
      have hdst : o.dst = g.dst := congrArg (·.1) ho
      have hop : o.op = g.op.toOp := congrArg (·.2.1) ho
      have hgd : o.guard = g.g := congrArg (·.2.2) ho
      obtain ⟨hgok, hgd2⟩ := hok g (by simp)
      simp only [opsRun] at hr
      split at hr
      · rename_i hw
        have hwt := wanted_ok hm hall h hgd hw
        simp only [Option.bind_eq_bind, Option.bind_eq_some_iff, Prod.exists] at hr
        obtain ⟨y, e1, hev, hr⟩ := hr
        obtain ⟨hsz, hdf, I, blk, hI⟩ := h
        unfold wpList
        rw [if_pos hwt]
        refine .inl (Oper.wp_mono ?_ (op_sound hC hI hgok hop hev))
        rintro a' w' ⟨V, rfl, hy⟩
        rw [hdst]
        exact opsRun_sound hC hm hall hl (fun g hg => hok g (by simp [hg])) ((St.put hsz hdf hy hgd2).forget _) hr hQ
      · rename_i hw
        have hwt := wanted_ok hm hall h hgd hw
        unfold wpList
        rw [if_neg (by rw [hwt]; simp)]
        obtain ⟨hsz, hdf, I, blk, hI⟩ := h
        rw [hdst]
        exact opsRun_sound hC hm hall hl (fun g hg => hok g (by simp [hg])) ((St.put hsz hdf (undef_yields hI) hgd2).forget _) hr hQ
      · simp at hr
theorem St.keep (h : St B H n e a w) (ks : List Nat) : St B H n (e.keep ks) a w := by
  obtain ⟨hsz, hdf, I, blk, hI⟩ := h
  have wk : Weak (e.keep ks) e := by
    intro s p o
    unfold Env.at_ at o ⊢
    rw [Env.get_keep] at o
    split at o
    · exact o
    · simp [PV.sub_dead, PV.isObj] at o
  let blk' : Nat → List Nat := fun s => if s ∈ ks then blk s else []
  have sub : ∀ s b, b ∈ blk' s → b ∈ blk s := by
    intro s b hb
    simp only [blk'] at hb
    split at hb
    · exact hb
    · simp at hb
  refine ⟨hsz, hdf, I, blk', { hI with rel := ?_, nd := ?_, dj := ?_, djf := ?_, notI := ?_, own := ?_ }⟩
  · intro s
    rw [Env.get_keep]
    simp only [blk']
    by_cases hs : s ∈ ks
    · simp only [hs, if_true]
      exact wk.R (hI.rel s)
    · simp [hs, AM.R]
  · intro s
    simp only [blk']
    split
    · exact hI.nd s
    · simp
  · exact fun s t hst b hb hb' => hI.dj s t hst b (sub s b hb) (sub t b hb')
  · exact fun s b hb => hI.djf s b (sub s b hb)
  · exact fun s b hb => hI.notI s b (sub s b hb)
  · exact fun s b hb => hI.own s b (sub s b hb)
end
end Go.AM
