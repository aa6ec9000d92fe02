/- Functions: entered, left, called; guards (a deferred function that recovers). No conditions. -/
import Derived.Test.YtkcnnifgdhabgaaDoorAmD
import Derived.Defers
namespace Go.AM
open Go

section
variable {P : Program} {B : Base} {T : Tab} {C : Oracle} {a : Act} {H : Nat → Value} {e e' : Env} {w w' : World} {I : Nat → Prop} {blk : Nat → List Nat} {fl : List Nat} {Q : Exit → Act → World → Prop} {n : Nat}

/-- Variables given values, one behind the other. -/
def upds (val : Nat → Value) (k : Nat) : List Value → Nat → Value
  | [] => val
  | v :: r => upds (upd val k v) (k + 1) r
theorem upds_lt : ∀ {ps : List Value} {val : Nat → Value} {k s : Nat}, s < k → upds val k ps s = val s
  | [], _, _, _, _ => rfl
  | v :: r, val, k, s, h => by
    simp only [upds]
    rw [upds_lt (by omega)]
    simp [upd, Nat.ne_of_lt h]
def vals (val : Nat → Value) (k : Nat) : Nat → List Value
  | 0 => []
  | n + 1 => val k :: vals val (k + 1) n
theorem vals_upds : ∀ {ps : List Value} {val : Nat → Value} {k : Nat}, vals (upds val k ps) k ps.length = ps
  | [], _, _ => rfl
  | v :: r, val, k => by
    simp only [upds, List.length_cons, vals]
    rw [vals_upds, upds_lt (by omega)]
    simp [upd]
theorem vals_congr {v1 v2 : Nat → Value} : ∀ {n k : Nat}, (∀ s, k ≤ s → v1 s = v2 s) → vals v1 k n = vals v2 k n
  | 0, _, _ => rfl
  | n + 1, k, h => by
    rw [vals, vals, h k (Nat.le_refl _), vals_congr (v1 := v1) (v2 := v2) (n := n) (k := k + 1) fun s hs => h s (by omega)]
theorem vals_length : ∀ {n k : Nat} {val : Nat → Value}, (vals val k n).length = n
  | 0, _, _ => rfl
  | n + 1, k, val => by simp [vals, vals_length]
theorem mem_vals {val : Nat → Value} {v : Value} : ∀ {n k : Nat}, v ∈ vals val k n → ∃ s, k ≤ s ∧ v = val s
  | 0, _, h => by simp [vals] at h
  | n + 1, k, h => by
    rcases List.mem_cons.1 h with h | h
    · exact ⟨k, Nat.le_refl _, h⟩
    · obtain ⟨s, h1, h2⟩ := mem_vals h
      exact ⟨s, by omega, h2⟩
theorem box_ptr {val : Nat → Value} {q : PV → Value → Prop} {fl : List Nat} (h : Inv B e q val w I blk fl) {s : Nat} {cs : List PV} (hs : e.get s = .box cs) :
    ∃ g cur t fr, val s = .pointer (some ⟨g, 0, none⟩) ∧ w.heap[g]? = some (.cells cur t fr) ∧ unfrozen fr cur.size ∧ cur.size = cs.length ∧ g ∈ blk s := by
  have hR := h.rel s
  rw [hs] at hR
  obtain ⟨g, us, bs', e0, hr, cur, t, fr, hv, hcur, hunf, rfl⟩ := hR
  exact ⟨g, cur, t, fr, hv, hcur, hunf, by simpa using hr.length, by rw [e0]; simp⟩
theorem rehome_inv {val0 : Nat → Value} : ∀ {caps : List Nat} {e e1 : Env} {k : Nat} {val : Nat → Value} {blk : Nat → List Nat}, home ≤ k → (∀ s ∈ caps, s < home) → (∀ s ∈ caps, val s = val0 s) → Inv B e (refOK e val w) val w I blk [] → rehome e k caps = some e1 →
    ∃ blk', Inv B e1 (refOK e1 (upds val k (caps.map val0)) w) (upds val k (caps.map val0)) w I blk' [] ∧ ∀ s ∈ caps, ∃ g, val0 s = .pointer (some ⟨g, 0, none⟩)
  | [], e, e1, k, val, blk, _, _, _, h, hr => by
    simp only [rehome, Option.some.injEq] at hr
    subst hr
    exact ⟨blk, h, fun s hs => by simp at hs⟩
  | s :: r, e, e1, k, val, blk, hk, hl, hv, h, hr => by
    simp only [rehome] at hr
    split at hr
    case h_2 => cases hr
    rename_i cs hs
    split at hr
    case isFalse => cases hr
    rename_i hc
    obtain ⟨hdead, hsh⟩ := hc
    have hat : e.at_ s [] = .box cs := hs
    have hob : (e.at_ s []).isObj = true := by rw [hat]; rfl
    obtain ⟨U, bs, blk1, h1, h2, h3⟩ := h.take hob
    obtain rfl : val s = U := by simpa [place, walk] using h1
    rw [hat] at h2
    have h4 : Inv B (e.setAt s [] .dead) (refOK (e.setAt s [] .dead) val w) val w I blk1 (bs ++ []) := h3.finish (Weak.setAt rfl (by simp [PV.isObj])) fun _ _ _ => rfl
    obtain ⟨blk2, h5⟩ := Inv.putClosed (d := k) h4 h2
    have hsk : s ≠ k := by omega
    have hv1 : upd val k (val s) s = val s := by simp [upd, hsk]
    have hview : R w I (refOK ((e.setAt s [] .dead).put k (.box cs)) (upd val k (val s)) w) (.ref k []) (val s) [] := by
      refine ⟨rfl, h2.isObj_one rfl, fun _ => ?_⟩
      simp [place, walk, upd]
    have h6 := Inv.putView (d := s) h5 rfl hview
    have hval : upd (upd val k (val s)) s (val s) = upd val k (val s) := by
      funext t
      by_cases ht : t = s
      · subst ht; simp [upd, hsk]
      · simp [upd, ht]
    rw [hval] at h6
    obtain ⟨blk3, h7, h8⟩ := rehome_inv (val0 := val0) (by omega) (fun t ht => hl t (by simp [ht])) (fun t ht => by
      have := hl t (by simp [ht])
      have htk : t ≠ k := by omega
      simp [upd, htk, hv t (by simp [ht])]) h6 hr
    refine ⟨blk3, ?_, ?_⟩
    · simp only [List.map_cons, upds]
      rw [← hv s (by simp)]
      exact h7
    · intro t ht
      rcases List.mem_cons.1 ht with rfl | ht
      · obtain ⟨g, cur, tt, fr, hv', _⟩ := box_ptr h hs
        exact ⟨g, by rw [← hv t (by simp)]; exact hv'⟩
      · exact h8 t ht

/-- Rows of values that memory is made of. -/
def zvLL : List (List PV) → Option (List (List Value))
  | [] => some []
  | ys :: r => (zvL ys).bind fun vs => (zvLL r).map (vs :: ·)
theorem zvL_length : ∀ {l : List PV} {vs : List Value}, zvL l = some vs → vs.length = l.length
  | [], vs, h => by simp only [zvL, Option.some.injEq] at h; rw [← h]; rfl
  | x :: r, vs, h => by
    simp only [zvL, Option.bind_eq_bind, Option.bind_eq_some_iff, Option.pure_def, Option.some.injEq] at h
    obtain ⟨v, _, vs', h2, rfl⟩ := h
    simp [zvL_length h2]
theorem zvL_one : ∀ {l : List PV} {vs : List Value}, zvL l = some vs → ∀ v ∈ vs, v.oneCell' = true
  | [], vs, h, v, hv => by simp only [zvL, Option.some.injEq] at h; rw [← h] at hv; simp at hv
  | x :: r, vs, h, v, hv => by
    simp only [zvL, Option.bind_eq_bind, Option.bind_eq_some_iff, Option.pure_def, Option.some.injEq] at h
    obtain ⟨v', h1, vs', h2, rfl⟩ := h
    rcases List.mem_cons.1 hv with rfl | hv
    · cases x <;> simp only [PV.zv] at h1 <;> first | (cases h1; done) | skip
      · split at h1
        · rename_i ho
          rw [← Option.some.inj h1]
          exact ho
        · cases h1
      · rw [← Option.some.inj h1]
        rfl
    · exact zvL_one h2 v hv
/-- Cells at pointers are ready to be written. -/
def Ready : List Value → List (List Value) → World → Prop
  | [], [], _ => True
  | p :: ps, vs :: r, w => (∃ g cur t fr, p = .pointer (some ⟨g, 0, none⟩) ∧ w.heap[g]? = some (.cells cur t fr) ∧ cur.size = vs.length ∧ unfrozen fr cur.size) ∧ p ∉ ps ∧ Ready ps r w
  | _, _, _ => False
/-- Cells at pointers were written; beside that memory grew. -/
def Wrote : List Value → List (List Value) → World → World → Prop
  | p :: ps, vs :: r, w, w' => ∃ g cur t fr t' fr', p = .pointer (some ⟨g, 0, none⟩) ∧ w.heap[g]? = some (.cells cur t fr) ∧ unfrozen fr' vs.length ∧ Wrote ps r { w with heap := w.heap.setIfInBounds g (.cells vs.toArray t' fr') } w'
  | _, _, w, w' => w'.os = w.os ∧ w'.tape = w.tape ∧ w'.output = w.output ∧ w.heap.size ≤ w'.heap.size ∧ ∀ b, b < w.heap.size → w'.heap[b]? = w.heap[b]?
theorem get_box {s k : Nat} {t : List Nat → Bool} {y : PV} {cs : List PV} (h : ((e.kill k t).set k y).get s = .box cs) (hs : s ≠ k) : e.get s = .box cs := by
  rw [Env.get_set, if_neg (Ne.symm hs), Env.get_kill] at h
  split at h
  · cases h
  · exact h
theorem ready_of {val : Nat → Value} {q : PV → Value → Prop} {fl : List Nat} (h : Inv B e q val w I blk fl) : ∀ {news : List (List PV)} {vss : List (List Value)} {e2 e' : Env} {k : Nat}, (∀ s cs, k ≤ s → e2.get s = .box cs → e.get s = .box cs) → setBoxes e2 k news = some e' → zvLL news = some vss → Ready (vals val k news.length) vss w
  | [], vss, e2, e', k, _, _, hz => by
    simp only [zvLL, Option.some.injEq] at hz
    subst hz
    trivial
  | ys :: r, vss, e2, e', k, hk, hs, hz => by
    simp only [zvLL, Option.bind_eq_some_iff, Option.map_eq_some_iff] at hz
    obtain ⟨vs, hvs, vss', hvss, rfl⟩ := hz
    simp only [setBoxes] at hs
    split at hs
    case h_2 => cases hs
    rename_i cs hcs
    split at hs
    case isFalse => cases hs
    rename_i hlen
    obtain ⟨g, cur, t, fr, h1, h2, h3, h4, h5⟩ := box_ptr h (hk k cs (Nat.le_refl _) hcs)
    have hk2 : ∀ s cs', k + 1 ≤ s → ((e2.kill k fun p => !p.isEmpty).set k (.box (ys.map PV.fresh))).get s = .box cs' → e.get s = .box cs' := fun s cs' hs' hg => hk s cs' (by omega) (get_box hg (by omega))
    have ih := ready_of h hk2 hs hvss
    refine ⟨⟨g, cur, t, fr, h1, h2, by rw [h4, zvL_length hvs, hlen], h3⟩, fun hm => ?_, ih⟩
    have key : ∀ {news : List (List PV)} {e2 e' : Env} {k2 : Nat}, k < k2 → (∀ s cs, k2 ≤ s → e2.get s = .box cs → e.get s = .box cs) → setBoxes e2 k2 news = some e' → val k ∈ vals val k2 news.length → False := by
      intro news
      induction news with
      | nil => intro e2 e' k2 _ _ _ hm; simp [vals] at hm
      | cons ys r ih =>
        intro e2 e' k2 hlt hk hs hm
        simp only [setBoxes] at hs
        split at hs
        case h_2 => cases hs
        rename_i cs2 hcs2
        split at hs
        case isFalse => cases hs
        rcases List.mem_cons.1 hm with hm | hm
        · obtain ⟨g2, cur2, t2, fr2, k1, _, _, _, k5⟩ := box_ptr h (hk k2 cs2 (Nat.le_refl _) hcs2)
          rw [h1, k1] at hm
          cases hm
          exact h.dj k k2 (by omega) _ h5 k5
        · exact ih (by omega) (fun s cs' hs' hg => hk s cs' (by omega) (get_box hg (by omega))) hs hm
    exact key (by omega) hk2 hs hm
theorem setManyV_all : ∀ {vs us pre : List Value}, us.length = vs.length → setManyV (pre ++ us) pre.length vs = pre ++ vs
  | [], us, pre, h => by
    have : us = [] := List.eq_nil_of_length_eq_zero h
    subst this
    rfl
  | v :: r, us, pre, h => by
    cases us with
    | nil => simp at h
    | cons u us =>
      simp only [setManyV]
      have h1 : (pre ++ u :: us).set pre.length v = (pre ++ [v]) ++ us := by simp
      have h2 : pre.length + 1 = (pre ++ [v]).length := by simp
      rw [h1, h2, setManyV_all (by simpa using h)]
      simp
theorem setMany_whole : ∀ {ys cs pre : List PV}, cs.length = ys.length → AM.setMany (pre ++ cs) pre.length ys = pre ++ ys
  | [], cs, pre, h => by
    have : cs = [] := List.eq_nil_of_length_eq_zero h
    subst this
    rfl
  | v :: r, cs, pre, h => by
    cases cs with
    | nil => simp at h
    | cons u us =>
      simp only [AM.setMany]
      have h1 : (pre ++ u :: us).set pre.length v = (pre ++ [v]) ++ us := by simp
      have h2 : pre.length + 1 = (pre ++ [v]).length := by simp
      rw [h1, h2, setMany_whole (by simpa using h)]
      simp
/-- What a deferred function wrote. -/
theorem setBoxes_inv {val : Nat → Value} {w' : World} : ∀ {news : List (List PV)} {vss : List (List Value)} {e e' : Env} {k : Nat} {w : World} {I : Nat → Prop} {blk : Nat → List Nat}, Inv B e (refOK e val w) val w I blk [] → setBoxes e k news = some e' → zvLL news = some vss → Wrote (vals val k news.length) vss w w' →
    ∃ I' blk', Inv B e' (refOK e' val w') val w' I' blk' []
  | [], vss, e, e', k, w, I, blk, h, hs, hz, hw => by
    simp only [setBoxes, Option.some.injEq] at hs
    subst hs
    obtain ⟨h1, h2, h3, h4, h5⟩ := hw
    have k1 := h.world h1 h2 h3 h4 (fun b hb _ => h5 b hb) [] (by simp) (by simp)
    simp only [List.append_nil] at k1
    exact ⟨I, blk, k1.finish (Weak.refl _) fun s p ho => place_same h (fun b hb _ => h5 b hb) (PV.path_of_obj p _ ho)⟩
  | ys :: r, vss, e, e', k, w, I, blk, h, hs, hz, hw => by
    simp only [zvLL, Option.bind_eq_some_iff, Option.map_eq_some_iff] at hz
    obtain ⟨vs, hvs, vss', hvss, rfl⟩ := hz
    simp only [setBoxes] at hs
    split at hs
    case h_2 => cases hs
    rename_i cs hcs
    split at hs
    case isFalse => cases hs
    rename_i hlen
    simp only [List.length_cons, vals, Wrote] at hw
    obtain ⟨g, cur, t, fr, t2, fr2, hg, hcur, hunf2, hw⟩ := hw
    have hys : Rs w I nope (ys.map PV.fresh) vs [] := (zvL_Rs hvs).freshened
    obtain ⟨g', cur', t', fr', hv, hcur', hunf, hcs', hrest⟩ := storeBox_inv (bs := []) h (Weak.refl _) hcs hys (o := 0) (by simp [hlen])
    rw [hv] at hg
    cases hg
    rw [hcur] at hcur'
    cases hcur'
    have hgl : g < w.heap.size := (Array.getElem?_eq_some_iff.1 hcur).1
    have e1 : setManyV cur.toList 0 vs = vs := by
      have := setManyV_all (vs := vs) (us := cur.toList) (pre := []) (by rw [zvL_length hvs, hlen, ← hcs']; simp)
      simpa using this
    have e2 : AM.setMany cs 0 (ys.map PV.fresh) = ys.map PV.fresh := by
      have := setMany_whole (ys := ys.map PV.fresh) (cs := cs) (pre := []) (by simp [hlen])
      simpa using this
    rw [e1, e2] at hrest
    obtain ⟨I2, blk2, h2⟩ := hrest { w with heap := w.heap.setIfInBounds g (.cells vs.toArray t2 fr2) } t2 fr2 (by simp [hgl]) (by rw [hcs', ← hlen, ← zvL_length hvs]; exact hunf2) (by simp) (fun b hb => by simp [Ne.symm hb]) rfl rfl rfl
    exact setBoxes_inv h2 hs hvss hw

/-- A deferred function that recovers: what it does where nothing panics, and where something does. -/
def HndOK (P : Program) (cf : FuncId) (n : Nat) (hnd : Value → Option (List (List PV))) : Prop :=
  Enters P cf ∧
  (∀ ps : List Value, ps.length = n → (∀ p ∈ ps, ∃ g, p = .pointer (some ⟨g, 0, none⟩)) → ∀ w, CallsD P cf ps.toArray .returning w fun e u' w' => (∃ v, e = .returned v) ∧ u' = .returning ∧ w' = w) ∧
  ∀ x news, hnd x = some news → news.length = n → ∃ vss, zvLL news = some vss ∧ ∀ ps w, ps.length = n → Ready ps vss w → CallsD P cf ps.toArray (.panicking [{ v := x, recovered := false }]) w fun e u' w' => (∃ v, e = .returned v) ∧ u' = .panicking [{ v := x, recovered := true }] ∧ Wrote ps vss w w'
/-- The same for a function with a guard. -/
def IR.okG (P : Program) (G : Nat → List PV) (n : Nat) : IR → Prop
  | .seq a b => a.ok P G n ∧ b.okG P G n
  | .tail _ b => b.okG P G n
  | .gd _ d cf caps hnd b => d < n ∧ d < home ∧ (∀ s ∈ caps, s < home ∧ s ≠ d) ∧ HndOK P cf caps.length hnd ∧ b.ok P G n
  | _ => False
def Fin (P : Program) (fn : Func) (R : Ending → World → Prop) : Out → Act → World → Prop
  | .normal, a, w => ∃ v, (Go.results fn a.tmps).run P w = .ok v w ∧ R (.returned v) w
  | .ret, a, w => ∃ v, (Go.results fn a.tmps).run P w = .ok v w ∧ R (.returned v) w
  | .pan x, _, w => R (.panicked [{ v := x, recovered := false }]) w
  | .exit _, _, _ => False
theorem Inv.reds {q : PV → Value → Prop} {val : Nat → Value} {fl : List Nat} (h : Inv B e q val w I blk fl) (ds : List Deferred) : Inv { B with ds := ds } e q val w I blk fl :=
  ⟨h.rel, h.nd, h.ndf, h.dj, h.djf, h.notI, h.notIf, h.ltI, h.ltf, h.keepI, h.newI, h.own, h.ownf, h.os, h.tape, h.output, h.size, h.same, h.glob⟩
theorem Inv.ofds {q : PV → Value → Prop} {val : Nat → Value} {fl : List Nat} {ds : List Deferred} (h : Inv { B with ds := ds } e q val w I blk fl) : Inv B e q val w I blk fl :=
  ⟨h.rel, h.nd, h.ndf, h.dj, h.djf, h.notI, h.notIf, h.ltI, h.ltf, h.keepI, h.newI, h.own, h.ownf, h.os, h.tape, h.output, h.size, h.same, h.glob⟩
theorem valOf_upds : ∀ {ps : List Value} {H : Nat → Value} {k : Nat}, home ≤ k → valOf a (upds H k ps) = upds (valOf a H) k ps
  | [], _, _, _ => rfl
  | v :: r, H, k, hk => by
    simp only [upds]
    rw [valOf_upds (by omega)]
    congr 1
    funext s
    by_cases hs : s = k
    · subst hs
      have : ¬ s < home := by omega
      simp [valOf, upd, this]
    · simp [valOf, upd, hs]

theorem execG_sound (hC : CallOK P B.glob C) (hmix : P.follows .mixedOrders = true) (hds : B.ds = []) (fuel : Nat) {fn : Func} {R : Ending → World → Prop} : ∀ (ir : IR) (c : Code), strip c = erase ir → ir.okG P B.glob n → plansB c ir = true →
    ∀ (e : Env) (out : Out) (e' : Env), exec T C fuel ir e = some (out, e') → ∀ (H : Nat → Value) (a : Act) (w : World), St B H n e a w →
    (∀ (H' : Nat → Value) (a' : Act) (w' : World) (I' : Nat → Prop) (blk' : Nat → List Nat), (∀ s, s < 200000 → H' s = H s) → a'.tmps.size = n → Inv B e' (refOK e' (valOf a' H') w') (valOf a' H') w' I' blk' [] → Fin P fn R out a' w') →
    c.wp P (bodyPostD P fn R) a w
  | .tail ks x, c, hs, hok, hp, e, out, e', hx, H, a, w, h, hfin => execG_sound hC hmix hds fuel x c hs hok (by cases c <;> exact hp) (e.keep ks) out e' hx H a w (h.keep ks) hfin
  | .seq x y, c, hs, hok, hp, e, out, e', hx, H, a, w, h, hfin => by
    cases c <;> simp only [strip, erase] at hs <;> first | (cases hs; done) | skip
    rename_i cx cy
    simp only [SCode.seq.injEq] at hs
    simp only [plansB, Bool.and_eq_true] at hp
    simp only [exec] at hx
    apply wp_seq
    split at hx
    · rename_i e1 hx1
      refine wp_mono (exec_sound hC hmix fuel x cx hs.1 hok.1 hp.1 e _ _ hx1 a w h) fun ex a' w' hm => ?_
      obtain ⟨rfl, h'⟩ := hm
      exact execG_sound hC hmix hds fuel y cy hs.2 hok.2 hp.2 e1 out e' hx H a' w' h' hfin
    · rename_i hne
      refine wp_mono (exec_sound hC hmix fuel x cx hs.1 hok.1 hp.1 e out e' hx a w h) fun ex a' w' hm => ?_
      obtain ⟨rfl, hsz, hdf, I', blk', hI⟩ := hm
      have hf := hfin H a' w' I' blk' (fun _ _ => rfl) hsz hI
      rw [hds] at hdf
      cases out with
      | normal => exact (hne e' hx).elim
      | ret =>
        show Leaves P fn a'.tmps R a'.defers .returning w'
        rw [hdf]
        exact hf
      | exit id => exact hf.elim
      | pan x =>
        show Leaves P fn a'.tmps R a'.defers (.panicking _) w'
        rw [hdf]
        exact hf
  | .gd id d cf caps hnd x, c, hs, hok, hp, e, out, e', hx, H, a, w, h, hfin => by
    cases c <;> simp only [strip, erase] at hs <;> first | (cases hs; done) | skip
    rename_i cg cx
    simp only [SCode.seq.injEq] at hs
    obtain ⟨hs1, hs2⟩ := hs
    cases cg <;> simp only [strip] at hs1 <;> first | (cases hs1; done) | skip
    rename_i id' ops draw
    simp only [SCode.reg.injEq] at hs1
    obtain ⟨rfl, hm, rfl⟩ := hs1
    simp only [plansB] at hp
    obtain ⟨hdn, hdh, hcaps, ⟨hen, hidle, hpan⟩, hokx⟩ := hok
    simp only [exec, Option.bind_eq_some_iff] at hx
    obtain ⟨e1, hre, hx⟩ := hx
    obtain ⟨o1, o2, hops, ho1, ho2⟩ : ∃ o1 o2, ops.toList = [o1, o2] ∧ stripO o1 = (some d, .makeFunc (.func cf) #[] (caps.map Operand.tmp).toArray, none) ∧ stripO o2 = (none, .defer { callee := .value (.tmp d), args := #[], argTypes := #[] }, none) := by
      generalize ops.toList = l at hm
      rcases l with _ | ⟨o1, _ | ⟨o2, _ | ⟨o3, r⟩⟩⟩
      · simp at hm
      · simp at hm
      · simp only [List.map_cons, List.map_nil, List.cons.injEq, and_true] at hm
        exact ⟨o1, o2, rfl, hm.1, hm.2⟩
      · simp at hm
    have d1 : o1.dst = some d := congrArg (·.1) ho1
    have p1 : o1.op = .makeFunc (.func cf) #[] (caps.map Operand.tmp).toArray := congrArg (·.2.1) ho1
    have g1 : o1.guard = none := congrArg (·.2.2) ho1
    have d2 : o2.dst = none := congrArg (·.1) ho2
    have p2 : o2.op = .defer { callee := .value (.tmp d), args := #[], argTypes := #[] } := congrArg (·.2.1) ho2
    have g2 : o2.guard = none := congrArg (·.2.2) ho2
    obtain ⟨hsz, hdf, I, blk, hI⟩ := h
    rw [hds] at hdf
    let ps : List Value := caps.map fun s => a.eval (.tmp s)
    let fv : Value := .func (.func cf) #[] ps.toArray
    let dfr : Deferred := { target := .fn (.func cf) ps.toArray, args := #[] }
    have hrun1 : (execOp a.eval o1).run P w = .ok (.value fv) w := by
      simp only [execOp, p1]
      simp [Instr.makeFunc, fv, ps]
    have hdt : (a.put (some d) fv).eval (.tmp d) = fv := by
      have : d < a.tmps.size := by omega
      simp [Act.put, Act.eval, this]
    have hrun2 : (execOp (a.put (some d) fv).eval o2).run P w = .ok (.defer dfr) w := by
      simp only [execOp, p2]
      simp [resolve, hdt, fv, dfr, Deferred.ofValue]
    have hst1 := St.put (n := n) (B := B) (H := H) (a := a) (e' := e) (w' := w) (y := .dead) (V := fv) hsz (by rw [hds]; exact hdf) ⟨I, blk, [], hI, .inl rfl⟩ (dst := some d) (fun d' hd' => by cases hd'; exact ⟨hdn, hdh⟩)
    obtain ⟨hsz1, hdf1, I1, blk1, hI1⟩ := hst1
    let a1 := a.put (some d) fv
    let a2 : Act := { a1 with defers := dfr :: a1.defers }
    have hps : ∀ s ∈ caps, valOf a1 H s = a.eval (.tmp s) := by
      intro s hs'
      obtain ⟨k1, k2⟩ := hcaps s hs'
      simp [valOf, k1, a1, Act.put, Act.eval, Array.getElem?_setIfInBounds_ne (Ne.symm k2)]
    have hpse : caps.map (valOf a1 H) = ps := List.map_congr_left hps
    obtain ⟨blk2, hI2, hptr⟩ := rehome_inv (val0 := valOf a1 H) (by decide : home ≤ 200000) (fun s hs' => (hcaps s hs').1) (fun _ _ => rfl) hI1 hre
    rw [hpse] at hI2
    let H1 := upds H 200000 ps
    have hval : valOf a2 H1 = upds (valOf a1 H) 200000 ps := valOf_upds (a := a2) (by decide)
    have hdf1' : a1.defers = [] := by rw [hdf1, hds]
    have hSt : St { B with ds := [dfr] } H1 n e1 a2 w := by
      refine ⟨hsz1, by show dfr :: a1.defers = [dfr]; rw [hdf1'], I1, blk2, ?_⟩
      rw [hval]
      exact hI2.reds _
    have hpl : ps.length = caps.length := by simp [ps]
    have hpp : ∀ p ∈ ps, ∃ g, p = .pointer (some ⟨g, 0, none⟩) := by
      intro p hp'
      rw [← hpse] at hp'
      obtain ⟨s, h1, rfl⟩ := List.mem_map.1 hp'
      exact hptr s h1
    have hinv : ∀ w, (invoke (.fn (.func cf) ps.toArray) #[]).run P w = .ok (.enter cf ps.toArray) w := by
      intro w
      have := hen.run ps.toArray w
      simpa [invoke] using this
    apply wp_seq
    refine wp_region_list ?_
    rw [hops]
    unfold wpList
    have hw1 : Region.wanted o1 (yielded ops a.tmps) = true := by simp [Region.wanted, g1]
    rw [if_pos hw1]
    refine .inl ?_
    unfold Oper.wp
    rw [hrun1]
    simp only [Oper.upon, d1]
    unfold wpList
    have hw2 : Region.wanted o2 (yielded ops (a.put (some d) fv).tmps) = true := by simp [Region.wanted, g2]
    rw [if_pos hw2]
    refine .inl ?_
    unfold Oper.wp
    rw [hrun2]
    simp only [Oper.upon, d2]
    unfold wpList
    show cx.wp P (bodyPostD P fn R) a2 w
    rcases hxe : exec T C fuel x e1 with _ | ⟨o3, e3⟩
    · rw [hxe] at hx; cases hx
    rw [hxe] at hx
    refine wp_mono (exec_sound (B := { B with ds := [dfr] }) hC hmix fuel x cx hs2 hokx hp e1 o3 e3 hxe a2 w hSt) fun ex a' w' hmm => ?_
    obtain ⟨rfl, hsz3, hdf3, I3, blk3, hI3⟩ := hmm
    have hI3' : Inv B e3 (refOK e3 (valOf a' H1) w') (valOf a' H1) w' I3 blk3 [] := hI3.ofds
    have hHs : ∀ s, s < 200000 → H1 s = H s := fun s hs' => upds_lt hs'
    have idle : ∀ out', Fin P fn R out' a' w' → (out' = .normal ∨ out' = .ret) → Leaves P fn a'.tmps R a'.defers .returning w' := by
      intro out' hf ho
      rw [hdf3]
      refine leaves_cons (by simp) (hinv w') ((hidle ps hpl hpp w').mono ?_)
      rintro e u' w2 ⟨⟨v, rfl⟩, rfl, rfl⟩
      rcases ho with rfl | rfl <;> exact hf
    cases o3 with
    | normal =>
      simp only [gdEnd, Option.some.injEq, Prod.mk.injEq] at hx
      obtain ⟨rfl, rfl⟩ := hx
      exact idle .normal (hfin H1 a' w' I3 blk3 hHs hsz3 hI3') (.inl rfl)
    | ret =>
      simp only [gdEnd, Option.some.injEq, Prod.mk.injEq] at hx
      obtain ⟨rfl, rfl⟩ := hx
      exact idle .ret (hfin H1 a' w' I3 blk3 hHs hsz3 hI3') (.inr rfl)
    | exit i =>
      simp only [gdEnd, Option.some.injEq, Prod.mk.injEq] at hx
      obtain ⟨rfl, rfl⟩ := hx
      exact (hfin H1 a' w' I3 blk3 hHs hsz3 hI3').elim
    | pan x =>
      simp only [gdEnd, Option.bind_eq_some_iff] at hx
      obtain ⟨news, hnews, hx⟩ := hx
      split at hx
      case isFalse => cases hx
      rename_i hnl
      simp only [Option.map_eq_some_iff, Prod.mk.injEq] at hx
      obtain ⟨e4, hset, rfl, rfl⟩ := hx
      obtain ⟨vss, hvss, hcl⟩ := hpan x news hnews hnl
      have hvals : vals (valOf a' H1) 200000 news.length = ps := by
        have h1 : vals (valOf a' H1) 200000 ps.length = vals H1 200000 ps.length := vals_congr fun s hs' => by
          have : ¬ s < home := by simp only [home]; omega
          simp [valOf, this]
        rw [hnl, ← hpl, h1]
        exact vals_upds
      have hready := ready_of hI3' (fun _ _ _ h => h) hset hvss
      rw [hvals] at hready
      simp only [Out.exit', bodyPostD]
      rw [hdf3]
      refine leaves_cons (by simp) (hinv w') ((hcl ps w' hpl hready).mono ?_)
      rintro e u' w2 ⟨⟨v, rfl⟩, rfl, hwr⟩
      rw [← hvals] at hwr
      obtain ⟨I4, blk4, hI4⟩ := setBoxes_inv hI3' hset hvss hwr
      exact hfin H1 a' w2 I4 blk4 hHs hsz3 hI4

/-- A function of the program is the one that the abstract machine has. -/
def FnOK (P : Program) (G : Nat → List PV) (f : FuncId) (af : AFunc) : Prop :=
  ∃ fn c, P.funcs[f]? = some fn ∧ fn.body = some c ∧ fn.ntmps = af.nt ∧ af.nt ≤ home ∧ fn.results.toList.map stripR = af.res.map eraseR ∧ (∀ r ∈ af.res, r.ok P) ∧ strip c = erase af.body ∧ (af.body.ok P G af.nt ∨ af.body.okG P G af.nt) ∧ plansB c af.body = true

theorem runFn_ok {G : Nat → List PV} (hC : CallOK P G C) (hmix : P.follows .mixedOrders = true) {f : FuncId} {af : AFunc} (hf : FnOK P G f af) {fuel : Nat} {xs : List PV} {y : PV} {backs : List PV} (hr : runFn T C fuel af xs = some (y, backs))
    {vs : List Value} {bss : List Nat} (hI : ∀ b, I b → b < w.heap.size) (hnd : bss.Nodup) (hni : ∀ b, b ∈ bss → ¬ I b) (hG : ∀ n, G n ≠ [] → R w I nope (.raddr (G n)) (.pointer (some ⟨n, 0, none⟩)) []) (hx : Rs w I nope xs vs bss) :
    Calls P f vs.toArray w fun en w' => ∃ V, en = ends y V ∧ Left w I bss vs w' y V backs := by
  obtain ⟨fn, c, h1, h2, h3, h4, h5, h6, h7, h8, h9⟩ := hf
  unfold runFn at hr
  split at hr
  case isFalse => simp at hr
  rename_i hlen
  have hst := enter_inv hI hnd hni hG hx hlen h4
  let Bs : Base := { w := w, I := I, S := (· ∈ bss), glob := G }
  let H : Nat → Value := fun s => vs.getD (s - home) undef
  let RR : Ending → World → Prop := fun en w' => ∃ V, en = ends y V ∧ Left w I bss vs w' y V backs
  have hl := hx.length
  have good : ∀ (out : Out) (e : Env), (out = .normal ∨ out = .ret) → (do let (ys, e') ← results e af.res; pure (single ys, left e' 0 xs)) = some (y, backs) → ∀ (H' : Nat → Value) (a' : Act) (w' : World) (I' : Nat → Prop) (blk' : Nat → List Nat), (∀ s, s < 200000 → H' s = H s) →
      Inv Bs e (refOK e (valOf a' H') w') (valOf a' H') w' I' blk' [] → Fin P fn RR out a' w' := by
    intro out e hout hres H' a' w' I' blk' hH hInv
    simp only [Option.bind_eq_bind, Option.bind_eq_some_iff, Option.pure_def, Option.some.injEq, Prod.mk.injEq, Prod.exists] at hres
    obtain ⟨ys, e', hrs, rfl, rfl⟩ := hres
    have main : ∃ v, (Go.results fn a'.tmps).run P w' = .ok v w' ∧ ∃ V, Ending.returned v = ends (single ys) V ∧ Left w I bss vs w' (single ys) V (left e' 0 xs) := by
      obtain ⟨us, blk2, bs, r1, r2, r3, r4⟩ := results_ok (rs := fn.results.toList) h5 h6 hInv hrs
      obtain ⟨b2, l1, l2, l3⟩ := left_ok r2 (xs := xs) (vs := vs) (i := 0) (fun k u hu => by
        have : ¬ home + k < home := by omega
        have hk : k < vs.length := (List.getElem?_eq_some_iff.1 hu).1
        have h4' : af.nt ≤ 100000 := h4
        have hh : H' (home + k) = H (home + k) := hH _ (by simp only [home]; omega)
        simp [valOf, this, hh, H, hu]) hl
      refine ⟨_, ?_, _, (ends_ret (single_noPan (results_noPan hrs)) _).symm, I', bs, b2, r2.keepI, r2.newI, r2.ltI, r2.os, r2.tape, r2.output, r2.size, r2.same, single_ok r3, l1, ?_, ?_⟩
      · unfold Go.results
        have : (fn.results.mapM (readR a'.tmps)).run P w' = .ok us.toArray w' := by
          rw [Array.mapM_eq_mapM_toList]
          simp [r1]
        show ((do let vs ← fn.results.mapM (readR a'.tmps); pure (if h : vs.size = 1 then vs[0] else .tuple vs)) : Sem Value).run P w' = _
        simp [this]
      · refine List.nodup_append.2 ⟨by simpa using r2.ndf, l2, fun b hb b' hb' hbb => ?_⟩
        subst hbb
        obtain ⟨s, _, hs⟩ := l3 b hb'
        exact r2.djf s b hs (by simpa using hb)
      · intro b hb
        rcases List.mem_append.1 hb with hb | hb
        · exact ⟨r2.notIf b (by simpa using hb), r2.ownf b (by simpa using hb)⟩
        · obtain ⟨s, _, hs⟩ := l3 b hb
          exact ⟨r2.notI s b hs, r2.own s b hs⟩
    rcases hout with rfl | rfl <;> exact main
  have bad : ∀ (x : Value) (e : Env), y = .pan x → backs = xs.map (fun _ => PV.dead) → ∀ (H' : Nat → Value) (a' : Act) (w' : World) (I' : Nat → Prop) (blk' : Nat → List Nat),
      Inv Bs e (refOK e (valOf a' H') w') (valOf a' H') w' I' blk' [] → Fin P fn RR (.pan x) a' w' := by
    rintro x e rfl rfl H' a' w' I' blk' hInv
    refine ⟨.nilIface, rfl, I', [], [], hInv.keepI, hInv.newI, hInv.ltI, hInv.os, hInv.tape, hInv.output, hInv.size, hInv.same, ⟨rfl, rfl⟩, ?_, List.nodup_nil, fun b hb => by simp at hb⟩
    have hd : ∀ (xs : List PV) (vs : List Value), vs.length = xs.length → Rs w' I' nope (xs.map fun _ => PV.dead) vs [] := by
      intro xs
      induction xs with
      | nil => intro vs hv; exact ⟨List.eq_nil_of_length_eq_zero hv, rfl⟩
      | cons x r ih =>
        intro vs hv
        cases vs with
        | nil => simp at hv
        | cons v vs => exact ⟨v, vs, [], [], rfl, rfl, rfl, ih vs (by simpa using hv)⟩
    exact hd xs vs hl
  obtain ⟨out, e, hx1, key⟩ : ∃ out e, exec T C fuel af.body (enter 0 xs) = some (out, e) ∧ ∀ (H' : Nat → Value) (a' : Act) (w' : World) (I' : Nat → Prop) (blk' : Nat → List Nat), (∀ s, s < 200000 → H' s = H s) →
      a'.tmps.size = af.nt → Inv Bs e (refOK e (valOf a' H') w') (valOf a' H') w' I' blk' [] → Fin P fn RR out a' w' := by
    split at hr
    · rename_i e hx1
      exact ⟨_, e, hx1, fun H' a' w' I' blk' hH _ hInv => good .normal e (.inl rfl) hr H' a' w' I' blk' hH hInv⟩
    · rename_i e hx1
      exact ⟨_, e, hx1, fun H' a' w' I' blk' hH _ hInv => good .ret e (.inr rfl) hr H' a' w' I' blk' hH hInv⟩
    · rename_i x e hx1
      simp only [Option.some.injEq, Prod.mk.injEq] at hr
      exact ⟨_, e, hx1, fun H' a' w' I' blk' _ _ hInv => bad x e hr.1.symm hr.2.symm H' a' w' I' blk' hInv⟩
    · simp at hr
  rcases h8 with h8 | h8
  · refine calls_of_wp h1 h2 ?_
    rw [h3]
    refine wp_mono (exec_sound (B := Bs) hC hmix fuel af.body c h7 h8 h9 _ _ _ hx1 _ w hst) fun ex a' w' hm => ?_
    obtain ⟨rfl, hsz, hdf, I', blk', hInv⟩ := hm
    have hf := key H a' w' I' blk' (fun _ _ => rfl) hsz hInv
    cases out with
    | normal => exact ⟨hdf, hf⟩
    | ret => exact ⟨hdf, hf⟩
    | pan x => exact ⟨hdf, hf⟩
    | exit i => exact hf
  · refine calls_of_wp_defers h1 h2 ?_
    rw [h3]
    exact execG_sound (B := Bs) hC hmix rfl fuel af.body c h7 h8 h9 _ _ _ hx1 H _ w hst key
/-- Calls of the program's functions are answered as the abstract machine says. -/
theorem callN_ok {G : Nat → List PV} (hmix : P.follows .mixedOrders = true) (hext : CallOK P G T.ext) (hfns : ∀ f af, T.fns f = some af → FnOK P G f af) : ∀ n, CallOK P G (callN T n)
  | 0 => fun f xs y backs h => by simp [callN] at h
  | n + 1 => fun f xs y backs h w I vs bss hI hnd hni hG hx => by
    simp only [callN] at h
    split at h
    · rename_i r hr
      simp only [Option.some.injEq] at h
      subst h
      exact hext f xs _ _ hr w I vs bss hI hnd hni hG hx
    · split at h
      · rename_i af haf
        exact runFn_ok (callN_ok hmix hext hfns n) hmix (hfns f af haf) h hI hnd hni hG hx
      · simp at h
end
end Go.AM
