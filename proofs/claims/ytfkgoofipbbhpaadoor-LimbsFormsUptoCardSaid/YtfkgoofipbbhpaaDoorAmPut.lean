/- Variables written, taken, given back: how the invariant lasts. No conditions. -/
import Derived.Test.YtfkgoofipbbhpaaDoorAmInv
namespace Go.AM
open Go

section
variable {w : World} {I : Nat → Prop} {e e' : Env} {val : Nat → Value} {B : Base} {blk : Nat → List Nat} {fl : List Nat} {q : PV → Value → Prop}

def Weak (e' e : Env) : Prop := ∀ s p, (e'.at_ s p).isObj = true → (e.at_ s p).isObj = true
theorem Weak.refl (e : Env) : Weak e e := fun _ _ h => h
theorem Weak.trans {a b c : Env} (h : Weak a b) (k : Weak b c) : Weak a c := fun s p x => k s p (h s p x)
theorem Weak.refOK (h : Weak e' e) : ∀ x V, refOK e val w x V → refOK e' val w x V := by
  intro x V k
  cases x <;> simp only [AM.refOK] at k ⊢
  · exact ⟨k.1, fun o => k.2 (h _ _ o)⟩
  · exact ⟨k.1, fun o => k.2 (h _ _ o)⟩
  · exact ⟨k.1, fun o => k.2 (h _ [] o)⟩
  · exact ⟨k.1, fun o => k.2 (h _ _ o)⟩
theorem Weak.R (h : Weak e' e) {x : PV} {V : Value} {bs : List Nat} (k : R w I (AM.refOK e val w) x V bs) : R w I (AM.refOK e' val w) x V bs :=
  R.mono (fun _ h => h) (fun _ _ => rfl) x _ _ h.refOK V bs (fun _ _ => rfl) k
theorem Weak.Rs (h : Weak e' e) {x : List PV} {V : List Value} {bs : List Nat} (k : Rs w I (AM.refOK e val w) x V bs) : Rs w I (AM.refOK e' val w) x V bs :=
  Rs.mono (fun _ h => h) (fun _ _ => rfl) x _ _ h.refOK V bs (fun _ _ => rfl) k

theorem refOK_set {d : Nat} {y : PV} (hy : y.hasObj = false) (V' : Value) : ∀ x V, refOK e val w x V → refOK (e.set d y) (upd val d V') w x V := by
  have key : ∀ s p, ((e.set d y).at_ s p).isObj = true → s ≠ d ∧ (e.at_ s p).isObj = true := by
    intro s p h
    unfold Env.at_ at h
    rw [Env.get_set] at h
    by_cases hs : d = s
    · simp [hs, sub_noObj p y hy] at h
    · exact ⟨Ne.symm hs, by simpa [hs, Env.at_] using h⟩
  intro x V k
  cases x <;> simp only [refOK] at k ⊢
  · refine ⟨k.1, fun o => ?_⟩
    obtain ⟨h1, h2⟩ := key _ _ o
    simpa [place, upd, h1] using k.2 h2
  · refine ⟨k.1, fun o => ?_⟩
    obtain ⟨h1, h2⟩ := key _ _ o
    simpa [place, upd, h1] using k.2 h2
  · refine ⟨k.1, fun o => ?_⟩
    obtain ⟨h1, h2⟩ := key _ [] o
    simpa [place, upd, h1] using k.2 h2
  · refine ⟨k.1, fun o => ?_⟩
    obtain ⟨h1, h2⟩ := key _ _ o
    simpa [place, upd, h1] using k.2 h2

mutual
theorem R.noObj_nil : ∀ (x : PV) (V : Value) (bs : List Nat), x.hasObj = false → R w I q x V bs → bs = []
  | .v x, V, bs, _, h => h.2.2
  | .agg cs, V, bs, o, h => by obtain ⟨vs, _, h⟩ := h; exact Rs.noObj_nil cs vs bs o h
  | .tup cs, V, bs, o, h => by obtain ⟨vs, _, h⟩ := h; exact Rs.noObj_nil cs vs bs o h
  | .ro sz l, V, bs, _, h => h.1
  | .own sz l, V, bs, o, _ => by simp [PV.hasObj] at o
  | .box cs, V, bs, o, _ => by simp [PV.hasObj] at o
  | .ref s p, V, bs, _, h => h.1
  | .win s p sz lo hi, V, bs, _, h => h.1
  | .addr s o, V, bs, _, h => h.1
  | .eaddr s p sz i k, V, bs, _, h => h.1
  | .raddr cs, V, bs, _, h => h.1
  | .nil _, V, bs, _, h => h.2
  | .dead, V, bs, _, h => h
  | .iter _ _, V, bs, o, _ => by simp [PV.hasObj] at o
  | .selfp, V, bs, _, h => h.1
  | .bld _ _ _, V, bs, o, _ => by simp [PV.hasObj] at o
theorem Rs.noObj_nil : ∀ (l : List PV) (vs : List Value) (bs : List Nat), PV.hasObjL l = false → Rs w I q l vs bs → bs = []
  | [], vs, bs, _, h => h.2
  | x :: r, vs, bs, o, h => by
    simp only [PV.hasObjL, Bool.or_eq_false_iff] at o
    obtain ⟨v, vs', b1, b2, _, rfl, h1, h2⟩ := h
    rw [R.noObj_nil x v b1 o.1 h1, Rs.noObj_nil r vs' b2 o.2 h2]
    rfl
end

/-- A variable is given a value in which nothing is owned. -/
theorem Inv.putView (h : Inv B e (refOK e val w) val w I blk fl) {d : Nat} {y : PV} {V : Value} (hy : y.hasObj = false) (hR : R w I (refOK e val w) y V []) :
    Inv B (e.put d y) (refOK (e.put d y) (upd val d V) w) (upd val d V) w I (updB blk d []) fl := by
  have hput : e.put d y = e.set d y := by simp [Env.put, hy]
  rw [hput]
  have hq := refOK_set (e := e) (val := val) (w := w) (d := d) hy V
  have sub : ∀ s b, b ∈ updB blk d [] s → b ∈ blk s := by
    intro s b hb
    unfold updB at hb
    split at hb
    · simp at hb
    · exact hb
  refine { h with rel := ?_, nd := ?_, dj := ?_, djf := ?_, notI := ?_, own := ?_ }
  · intro s
    rw [Env.get_set]
    by_cases hs : d = s
    · subst hs
      simpa [upd, updB] using R.mono (fun _ h => h) (fun _ _ => rfl) y _ _ hq V [] (fun _ _ => rfl) hR
    · simpa [upd, updB, hs, Ne.symm hs] using R.mono (fun _ h => h) (fun _ _ => rfl) _ _ _ hq _ _ (fun _ _ => rfl) (h.rel s)
  · intro s
    unfold updB
    split
    · simp
    · exact h.nd s
  · exact fun s t hst b hb hb' => h.dj s t hst b (sub s b hb) (sub t b hb')
  · exact fun s b hb => h.djf s b (sub s b hb)
  · exact fun s b hb => h.notI s b (sub s b hb)
  · exact fun s b hb => h.own s b (sub s b hb)
/-- What speaks of places is forgotten. -/
theorem Inv.kill (h : Inv B e q val w I blk fl) (s0 : Nat) (t : List Nat → Bool) : ∃ blk', Inv B (e.kill s0 t) q val w I blk' fl ∧ Weak (e.kill s0 t) e ∧ ∀ s b, b ∈ blk' s → b ∈ blk s := by
  have wk : Weak (e.kill s0 t) e := by
    intro s p o
    unfold Env.at_ at o ⊢
    rw [Env.get_kill] at o
    split at o
    · simp [PV.sub_dead, PV.isObj] at o
    · exact o
  let blk' : Nat → List Nat := fun s => if (e.get s).ment s0 t then [] else blk s
  have sub : ∀ s b, b ∈ blk' s → b ∈ blk s := by
    intro s b hb
    simp only [blk'] at hb
    split at hb
    · simp at hb
    · exact hb
  refine ⟨blk', { h with rel := ?_, nd := ?_, dj := ?_, djf := ?_, notI := ?_, own := ?_ }, wk, sub⟩
  · intro s
    rw [Env.get_kill]
    simp only [blk']
    by_cases hm : (e.get s).ment s0 t = true
    · simp [hm, AM.R]
    · simp only [hm]
      exact h.rel s
  · intro s
    simp only [blk']
    split
    · simp
    · exact h.nd s
  · exact fun s t hst b hb hb' => h.dj s t hst b (sub s b hb) (sub t b hb')
  · exact fun s b hb => h.djf s b (sub s b hb)
  · exact fun s b hb => h.notI s b (sub s b hb)
  · exact fun s b hb => h.own s b (sub s b hb)
theorem Inv.fl_perm (h : Inv B e q val w I blk fl) {fl' : List Nat} (p : fl.Perm fl') : Inv B e q val w I blk fl' :=
  { h with ndf := p.nodup_iff.mp h.ndf, djf := fun s b hb hf => h.djf s b hb (p.mem_iff.mpr hf), notIf := fun b hb => h.notIf b (p.mem_iff.mpr hb), ltf := fun b hb => h.ltf b (p.mem_iff.mpr hb), ownf := fun b hb => h.ownf b (p.mem_iff.mpr hb) }
theorem Inv.fl_drop (h : Inv B e q val w I blk fl) {fl' : List Nat} (p : fl'.Sublist fl) : Inv B e q val w I blk fl' :=
  { h with ndf := h.ndf.sublist p, djf := fun s b hb hf => h.djf s b hb (p.mem hf), notIf := fun b hb => h.notIf b (p.mem hb), ltf := fun b hb => h.ltf b (p.mem hb), ownf := fun b hb => h.ownf b (p.mem hb) }
/-- A variable is given what it owns. -/
theorem Inv.weaken (h : Inv B e (refOK e' val w) val w I blk fl) (k : Weak e e') : Inv B e (refOK e val w) val w I blk fl :=
  { h with rel := fun s => k.R (h.rel s) }
theorem Inv.putClosed {bs : List Nat} (h : Inv B e (refOK e val w) val w I blk (bs ++ fl)) {d : Nat} {y : PV} {V : Value} (hR : R w I nope y V bs) :
    ∃ blk', Inv B (e.put d y) (refOK (e.put d y) (upd val d V) w) (upd val d V) w I blk' fl := by
  by_cases hy : y.hasObj = false
  · obtain rfl := R.noObj_nil y V bs hy hR
    exact ⟨_, Inv.putView (by simpa using h) hy hR.ofNope⟩
  · have hput : e.put d y = (e.kill d fun _ => true).set d y := by simp [Env.put, hy]
    rw [hput]
    obtain ⟨blk', hk0, wk, sub⟩ := h.kill d fun _ => true
    have hk := hk0.weaken wk
    have hnd := List.nodup_append.mp hk.ndf
    refine ⟨updB blk' d bs, { hk with rel := ?_, nd := ?_, ndf := hnd.2.1, dj := ?_, djf := ?_, notI := ?_, notIf := ?_, ltf := ?_, own := ?_, ownf := ?_ }⟩
    · intro s
      rw [Env.get_set]
      by_cases hs : d = s
      · subst hs
        simpa [upd, updB] using hR.ofNope
      · simp only [hs, if_false, upd, updB, Ne.symm hs]
        refine R.congr (s := d) (t := fun _ => true) ?_ _ _ _ ?_ (hk.rel s)
        · intro x V' hm k
          cases x <;> simp only [refOK, PV.ment, Bool.and_true, beq_eq_false_iff_ne] at k hm ⊢
          all_goals
            refine ⟨k.1, fun o => ?_⟩
            have h2 := k.2
            simp only [Env.at_, Env.get_set, Ne.symm hm, if_false] at o
            simpa [place, upd, hm] using h2 o
        · rw [Env.get_kill]
          by_cases hm : PV.ment d (fun _ => true) (e.get s) = true
          · simp [hm, PV.ment]
          · simp [hm]
    · intro s
      unfold updB
      split
      · exact hnd.1
      · exact hk.nd s
    · intro s t hst b hb hb'
      unfold updB at hb hb'
      split at hb <;> split at hb'
      · omega
      · exact hk.djf t b hb' (by simp [hb])
      · exact hk.djf s b hb (by simp [hb'])
      · exact hk.dj s t hst b hb hb'
    · intro s b hb hf
      unfold updB at hb
      split at hb
      · exact hnd.2.2 b hb b hf rfl
      · exact hk.djf s b hb (by simp [hf])
    · intro s b hb
      unfold updB at hb
      split at hb
      · exact hk.notIf b (by simp [hb])
      · exact hk.notI s b hb
    · exact fun b hb => hk.notIf b (by simp [hb])
    · exact fun b hb => hk.ltf b (by simp [hb])
    · intro s b hb
      unfold updB at hb
      split at hb
      · exact hk.ownf b (by simp [hb])
      · exact hk.own s b hb
    · exact fun b hb => hk.ownf b (by simp [hb])

/-! ### What stands at a path -/
theorem Rs.split {l : List PV} {vs : List Value} {bs : List Nat} (h : Rs w I q l vs bs) {o : Nat} {c : PV} (hc : l[o]? = some c) :
    ∃ u b B1 B2, vs[o]? = some u ∧ bs = B1 ++ b ++ B2 ∧ R w I q c u b ∧ ∀ c' u' b', R w I q c' u' b' → Rs w I q (l.set o c') (vs.set o u') (B1 ++ b' ++ B2) := by
  induction l generalizing vs bs o with
  | nil => simp at hc
  | cons x r ih =>
    obtain ⟨v, vs', b1, b2, rfl, rfl, h1, h2⟩ := h
    cases o with
    | zero =>
      simp at hc
      subst hc
      exact ⟨v, b1, [], b2, rfl, by simp, h1, fun c' u' b' hc' => ⟨u', vs', b', b2, rfl, by simp, hc', h2⟩⟩
    | succ o =>
      simp at hc
      obtain ⟨u, b, B1, B2, e1, rfl, h3, h4⟩ := ih h2 hc
      exact ⟨u, b, b1 ++ B1, B2, by simpa using e1, by simp, h3, fun c' u' b' hc' => ⟨v, vs'.set o u', b1, B1 ++ b' ++ B2, rfl, by simp, h1, h4 c' u' b' hc'⟩⟩
theorem set_same {α : Type} {l : List α} {o : Nat} {u : α} (h : l[o]? = some u) : l.set o u = l := by
  apply List.ext_getElem?
  intro i
  by_cases hi : o = i
  · subst hi
    have hlt : o < l.length := (List.getElem?_eq_some_iff.1 h).1
    simp [hlt, (List.getElem?_eq_some_iff.1 h).2.symm]
  · simp [List.getElem?_set_ne hi]
theorem boxCell {V : Value} {g : Nat} {us : List Value} (h : BoxAt w V g us) {o : Nat} {u : Value} (hu : us[o]? = some u) : stepV w V o = some u := by
  obtain ⟨cur, t, fr, rfl, h2, _, rfl⟩ := h
  have hadd : (⟨g, 0, none⟩ : Addr).add o = ⟨g, o, none⟩ := by unfold Addr.add; split <;> simp_all
  simp only [stepV, hadd]
  rw [cell_of_row w g o cur t fr h2]
  simpa using hu
theorem R.isObj_nope {x : PV} {V : Value} {bs : List Nat} (o : x.isObj = true) (h : R w I q x V bs) : R w I nope x V bs := by
  cases x <;> simp_all [PV.isObj]
  · exact h
  · exact h
  · exact h
  · exact h
theorem take_sub : ∀ (p : List Nat) (q : PV → Value → Prop) (x : PV) (V : Value) (Bk : List Nat), R w I q x V Bk → (x.sub p).isObj = true →
    ∃ U bs B', walk w V p = some U ∧ R w I nope (x.sub p) U bs ∧ Bk.Perm (bs ++ B') ∧ ∀ y' b', R w I nope y' U b' → ∃ B'', R w I q (x.setSub p y') V B'' ∧ B''.Perm (b' ++ B')
  | [], q, x, V, Bk, h, o => ⟨V, Bk, [], rfl, R.isObj_nope o h, by simp, fun y' b' h' => ⟨b', by cases x <;> exact h'.ofNope, by simp⟩⟩
  | o :: p, q, x, V, Bk, h, ob => by
    simp only [PV.sub] at ob ⊢
    cases hk : x.kids[o]? with
    | none => simp [hk, PV.sub_dead, PV.isObj] at ob
    | some c =>
      simp only [hk, Option.getD_some] at ob ⊢
      have perm3 : ∀ (B1 b B2 bs b' : List Nat), b.Perm (bs ++ b') → (B1 ++ b ++ B2).Perm (bs ++ (B1 ++ b' ++ B2)) := by
        intro B1 b B2 bs b' hp
        refine (List.Perm.append_right B2 (List.Perm.append_left B1 hp)).trans ?_
        rw [show bs ++ (B1 ++ b' ++ B2) = (bs ++ B1) ++ (b' ++ B2) by simp, show B1 ++ (bs ++ b') ++ B2 = (B1 ++ bs) ++ (b' ++ B2) by simp]
        exact List.Perm.append_right _ List.perm_append_comm
      cases x with
      | agg cs =>
        simp only [PV.kids] at hk
        obtain ⟨vs, rfl, h⟩ := h
        obtain ⟨u, b, B1, B2, hu, rfl, h1, h2⟩ := Rs.split h hk
        obtain ⟨U, bs, b', hw, hr, hp, hre⟩ := take_sub p q c u b h1 ob
        refine ⟨U, bs, B1 ++ b' ++ B2, by simp [walk, stepV, hu, hw], hr, perm3 _ _ _ _ _ hp, fun y' c' hy' => ?_⟩
        obtain ⟨B'', h3, h4⟩ := hre y' c' hy'
        refine ⟨B1 ++ B'' ++ B2, ⟨vs, rfl, ?_⟩, perm3 _ _ _ _ _ h4⟩
        have := h2 _ u _ h3
        rw [set_same hu] at this
        simpa [PV.setSub, hk] using this
      | tup cs =>
        simp only [PV.kids] at hk
        obtain ⟨vs, rfl, h⟩ := h
        obtain ⟨u, b, B1, B2, hu, rfl, h1, h2⟩ := Rs.split h hk
        obtain ⟨U, bs, b', hw, hr, hp, hre⟩ := take_sub p q c u b h1 ob
        refine ⟨U, bs, B1 ++ b' ++ B2, by simp [walk, stepV, hu, hw], hr, perm3 _ _ _ _ _ hp, fun y' c' hy' => ?_⟩
        obtain ⟨B'', h3, h4⟩ := hre y' c' hy'
        refine ⟨B1 ++ B'' ++ B2, ⟨vs, rfl, ?_⟩, perm3 _ _ _ _ _ h4⟩
        have := h2 _ u _ h3
        rw [set_same hu] at this
        simpa [PV.setSub, hk] using this
      | box cs =>
        simp only [PV.kids] at hk
        obtain ⟨g, us, bs0, rfl, h, hb⟩ := h
        obtain ⟨u, b, B1, B2, hu, rfl, h1, h2⟩ := Rs.split h hk
        obtain ⟨U, bs, b', hw, hr, hp, hre⟩ := take_sub p _ c u b h1 ob
        refine ⟨U, bs, g :: (B1 ++ b' ++ B2), by simp [walk, boxCell hb hu, hw], hr, ?_, fun y' c' hy' => ?_⟩
        · exact ((perm3 _ _ _ _ _ hp).cons g).trans List.perm_middle.symm
        · obtain ⟨B'', h3, h4⟩ := hre y' c' hy'
          refine ⟨g :: (B1 ++ B'' ++ B2), ⟨g, us, _, rfl, ?_, hb⟩, ((perm3 _ _ _ _ _ h4).cons g).trans List.perm_middle.symm⟩
          have := h2 _ u _ h3
          rw [set_same hu] at this
          simpa [PV.setSub, hk] using this
      | _ => simp [PV.kids] at hk
end
end Go.AM
