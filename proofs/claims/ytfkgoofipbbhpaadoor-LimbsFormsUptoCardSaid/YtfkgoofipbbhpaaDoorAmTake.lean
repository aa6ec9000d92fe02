/- What is taken from a place and given back; the world changed where something is owned. No conditions. -/
import Derived.Test.YtfkgoofipbbhpaaDoorAmPut
namespace Go.AM
open Go

theorem PV.path_of_obj : ∀ (p : List Nat) (x : PV), (x.sub p).isObj = true → x.path p = true
  | [], _, _ => rfl
  | o :: p, x, h => by
    simp only [PV.sub] at h
    simp only [PV.path]
    cases hk : x.kids[o]? with
    | none => simp [hk, PV.sub_dead, PV.isObj] at h
    | some c => simp only [hk, Option.getD_some] at h; exact PV.path_of_obj p c h
def PV.withKid (x : PV) (o : Nat) (c : PV) : PV :=
  match x with
  | .agg cs => .agg (cs.set o c)
  | .tup cs => .tup (cs.set o c)
  | .box cs => .box (cs.set o c)
  | x => x
theorem PV.setSub_cons {x : PV} {o : Nat} {c : PV} (h : x.kids[o]? = some c) (p : List Nat) (y : PV) : x.setSub (o :: p) y = x.withKid o (c.setSub p y) := by
  cases x <;> simp only [PV.kids] at h <;> first | (simp at h; done) | simp [PV.setSub, PV.withKid, h]
theorem PV.kids_withKid {x : PV} {o : Nat} {c : PV} (h : x.kids[o]? = some c) (d : PV) : (x.withKid o d).kids = x.kids.set o d := by
  cases x <;> simp only [PV.kids] at h <;> first | (simp at h; done) | simp [PV.withKid, PV.kids]
theorem PV.isObj_withKid (x : PV) (o : Nat) (d : PV) : (x.withKid o d).isObj = x.isObj := by cases x <;> rfl
theorem PV.sub_setSub : ∀ (p : List Nat) (x y : PV), x.path p = true → (x.setSub p y).sub p = y
  | [], x, y, _ => by cases x <;> rfl
  | o :: p, x, y, h => by
    simp only [PV.path] at h
    cases hk : x.kids[o]? with
    | none => simp [hk] at h
    | some c =>
      simp only [hk] at h
      have hlt : o < x.kids.length := (List.getElem?_eq_some_iff.1 hk).1
      rw [PV.setSub_cons hk, PV.sub, PV.kids_withKid hk]
      simp [hlt, PV.sub_setSub p c y h]
theorem PV.path_setSub : ∀ (p : List Nat) (x y : PV), x.path p = true → (x.setSub p y).path p = true
  | [], x, y, _ => by cases x <;> rfl
  | o :: p, x, y, h => by
    simp only [PV.path] at h
    cases hk : x.kids[o]? with
    | none => simp [hk] at h
    | some c =>
      simp only [hk] at h
      have hlt : o < x.kids.length := (List.getElem?_eq_some_iff.1 hk).1
      rw [PV.setSub_cons hk, PV.path, PV.kids_withKid hk]
      simp [hlt, PV.path_setSub p c y h]
theorem PV.setSub_setSub : ∀ (p : List Nat) (x y z : PV), x.path p = true → (x.setSub p y).setSub p z = x.setSub p z
  | [], x, y, z, _ => by cases x <;> cases y <;> rfl
  | o :: p, x, y, z, h => by
    simp only [PV.path] at h
    cases hk : x.kids[o]? with
    | none => simp [hk] at h
    | some c =>
      simp only [hk] at h
      have hlt : o < x.kids.length := (List.getElem?_eq_some_iff.1 hk).1
      have hk2 : (x.withKid o (c.setSub p y)).kids[o]? = some (c.setSub p y) := by rw [PV.kids_withKid hk]; simp [hlt]
      rw [PV.setSub_cons hk, PV.setSub_cons hk2, PV.setSub_cons hk, PV.setSub_setSub p c y z h]
      cases x <;> simp [PV.withKid]
/-- Nothing new is owned but at the place itself. -/
theorem PV.setSub_weak : ∀ (p : List Nat) (x y : PV) (p' : List Nat), y.kids = [] → (y.isObj = true → (x.sub p).isObj = true) → ((x.setSub p y).sub p').isObj = true → (x.sub p').isObj = true
  | [], x, y, p', hk, ho, h => by
    have e : x.setSub [] y = y := by cases x <;> rfl
    rw [e] at h
    cases p' with
    | nil => exact ho h
    | cons a r => simp [PV.sub, hk, PV.sub_dead, PV.isObj] at h
  | o :: p, x, y, p', hk, ho, h => by
    cases hx : x.kids[o]? with
    | none =>
      cases x with
      | agg cs => simp only [PV.kids] at hx; simp only [PV.setSub] at h; rw [List.set_eq_of_length_le (List.getElem?_eq_none_iff.1 hx)] at h; exact h
      | tup cs => simp only [PV.kids] at hx; simp only [PV.setSub] at h; rw [List.set_eq_of_length_le (List.getElem?_eq_none_iff.1 hx)] at h; exact h
      | box cs => simp only [PV.kids] at hx; simp only [PV.setSub] at h; rw [List.set_eq_of_length_le (List.getElem?_eq_none_iff.1 hx)] at h; exact h
      | _ => exact h
    | some c =>
      rw [PV.setSub_cons hx] at h
      cases p' with
      | nil => simpa [PV.sub, PV.isObj_withKid] using h
      | cons a r =>
        simp only [PV.sub, PV.kids_withKid hx] at h ⊢
        by_cases ha : o = a
        · subst ha
          have hlt : o < x.kids.length := (List.getElem?_eq_some_iff.1 hx).1
          simp only [List.getElem?_set_self hlt, Option.getD_some] at h
          simp only [hx, Option.getD_some]
          refine PV.setSub_weak p c y r hk (fun o' => ?_) h
          have := ho o'
          simpa [PV.sub, hx] using this
        · rwa [List.getElem?_set_ne ha] at h

theorem Env.set_set (e : Env) (s : Nat) (y z : PV) : (e.set s y).set s z = e.set s z := by
  induction e with
  | nil => simp [Env.set]
  | cons kx r ih =>
    obtain ⟨k, x⟩ := kx
    by_cases h : k = s <;> simp [Env.set, h, ih]
theorem Env.setAt_setAt {e : Env} {s : Nat} {p : List Nat} (h : (e.get s).path p = true) (y z : PV) : (e.setAt s p y).setAt s p z = e.setAt s p z := by
  unfold Env.setAt
  rw [Env.get_set, if_pos rfl, Env.set_set, PV.setSub_setSub p _ y z h]
theorem Env.at_setAt {e : Env} {s : Nat} {p : List Nat} (h : (e.get s).path p = true) (y : PV) : (e.setAt s p y).at_ s p = y := by
  unfold Env.at_ Env.setAt
  rw [Env.get_set, if_pos rfl, PV.sub_setSub p _ y h]
theorem Env.path_setAt {e : Env} {s : Nat} {p : List Nat} (h : (e.get s).path p = true) (y : PV) : ((e.setAt s p y).get s).path p = true := by
  unfold Env.setAt
  rw [Env.get_set, if_pos rfl, PV.path_setSub p _ y h]
theorem Weak.setAt {e : Env} {s : Nat} {p : List Nat} {y : PV} (hk : y.kids = []) (ho : y.isObj = true → (e.at_ s p).isObj = true) : Weak (e.setAt s p y) e := by
  intro s' p' h
  unfold Env.at_ Env.setAt at h
  rw [Env.get_set] at h
  by_cases hs : s = s'
  · subst hs
    simp only [if_true] at h
    exact PV.setSub_weak p _ y p' hk ho h
  · simpa [hs, Env.at_] using h

section
variable {w w' : World} {I I' : Nat → Prop} {e e' : Env} {val : Nat → Value} {B : Base} {blk : Nat → List Nat} {fl : List Nat} {q : PV → Value → Prop}

mutual
theorem R.lt : ∀ (x : PV) (q : PV → Value → Prop) (V : Value) (bs : List Nat), R w I q x V bs → ∀ b ∈ bs, b < w.heap.size
  | .v x, q, V, bs, h => by rw [h.2.2]; simp
  | .agg cs, q, V, bs, h => by obtain ⟨vs, _, h⟩ := h; exact Rs.lt cs q vs bs h
  | .tup cs, q, V, bs, h => by obtain ⟨vs, _, h⟩ := h; exact Rs.lt cs q vs bs h
  | .ro sz l, q, V, bs, h => by rw [h.1]; simp
  | .own sz l, q, V, bs, h => by
    rcases h.2 with ⟨_, _, rfl⟩ | ⟨g, vs, rfl, _, cap, cur, t, fr, _, hg, _⟩
    · simp
    · simpa using (Array.getElem?_eq_some_iff.1 hg).1
  | .box cs, q, V, bs, h => by
    obtain ⟨g, us, bs', rfl, h, cur, t, fr, _, hg, _⟩ := h
    intro b hb
    rcases List.mem_cons.1 hb with rfl | hb
    · exact (Array.getElem?_eq_some_iff.1 hg).1
    · exact Rs.lt cs _ us bs' h b hb
  | .ref s p, q, V, bs, h => by rw [h.1]; simp
  | .win s p sz lo hi, q, V, bs, h => by rw [h.1]; simp
  | .addr s o, q, V, bs, h => by rw [h.1]; simp
  | .eaddr s p sz i k, q, V, bs, h => by rw [h.1]; simp
  | .raddr cs, q, V, bs, h => by rw [h.1]; simp
  | .nil _, q, V, bs, h => by rw [h.2]; simp
  | .dead, q, V, bs, h => by rw [show bs = [] from h]; simp
  | .iter _ _, q, V, bs, h => by
    obtain ⟨g, rfl, _, h1⟩ := h
    simpa using (Array.getElem?_eq_some_iff.1 h1).1
  | .selfp, q, V, bs, h => by rw [h.1]; simp
  | .bld T e l, q, V, bs, h => BldAt.lt h
theorem Rs.lt : ∀ (l : List PV) (q : PV → Value → Prop) (vs : List Value) (bs : List Nat), Rs w I q l vs bs → ∀ b ∈ bs, b < w.heap.size
  | [], q, vs, bs, h => by rw [h.2]; simp
  | x :: r, q, vs, bs, h => by
    obtain ⟨v, vs', b1, b2, _, rfl, h1, h2⟩ := h
    intro b hb
    rcases List.mem_append.1 hb with hb | hb
    · exact R.lt x q v b1 h1 b hb
    · exact Rs.lt r q vs' b2 h2 b hb
end
theorem Inv.lt (h : Inv B e q val w I blk fl) : ∀ s b, b ∈ blk s → b < w.heap.size := fun s b hb => R.lt _ _ _ _ (h.rel s) b hb

/-- What stands at a path that is there. -/
theorem at_path : ∀ (p : List Nat) (q : PV → Value → Prop) (x : PV) (V : Value) (Bk : List Nat), R w I q x V Bk → x.path p = true →
    ∃ U bs B', walk w V p = some U ∧ (∃ q', R w I q' (x.sub p) U bs) ∧ Bk.Perm (bs ++ B') ∧ ∀ y' b', R w I nope y' U b' → ∃ B'', R w I q (x.setSub p y') V B'' ∧ B''.Perm (b' ++ B')
  | [], q, x, V, Bk, h, _ => ⟨V, Bk, [], rfl, ⟨q, h⟩, by simp, fun y' b' h' => ⟨b', by cases x <;> exact h'.ofNope, by simp⟩⟩
  | o :: p, q, x, V, Bk, h, ob => by
    simp only [PV.path] at ob
    simp only [PV.sub]
    cases hk : x.kids[o]? with
    | none => simp [hk] at ob
    | some c =>
      simp only [hk] at ob
      simp only [Option.getD_some]
      have perm3 : ∀ (B1 b B2 bs b' : List Nat), b.Perm (bs ++ b') → (B1 ++ b ++ B2).Perm (bs ++ (B1 ++ b' ++ B2)) := by
        intro B1 b B2 bs b' hp
        refine (List.Perm.append_right B2 (List.Perm.append_left B1 hp)).trans ?_
        rw [show bs ++ (B1 ++ b' ++ B2) = (bs ++ B1) ++ (b' ++ B2) by simp, show B1 ++ (bs ++ b') ++ B2 = (B1 ++ bs) ++ (b' ++ B2) by simp]
        exact List.Perm.append_right _ List.perm_append_comm
      cases x with
      | agg cs =>
        have hk' := hk
        simp only [PV.kids] at hk
        obtain ⟨vs, rfl, h⟩ := h
        obtain ⟨u, b, B1, B2, hu, rfl, h1, h2⟩ := Rs.split h hk
        obtain ⟨U, bs, b', hw, hr, hp, hre⟩ := at_path p q c u b h1 ob
        refine ⟨U, bs, B1 ++ b' ++ B2, by simp [walk, stepV, hu, hw], hr, perm3 _ _ _ _ _ hp, fun y' c' hy' => ?_⟩
        obtain ⟨B'', h3, h4⟩ := hre y' c' hy'
        refine ⟨B1 ++ B'' ++ B2, ?_, perm3 _ _ _ _ _ h4⟩
        have := h2 _ u _ h3
        rw [set_same hu] at this
        rw [PV.setSub_cons hk']
        exact ⟨vs, rfl, this⟩
      | tup cs =>
        have hk' := hk
        simp only [PV.kids] at hk
        obtain ⟨vs, rfl, h⟩ := h
        obtain ⟨u, b, B1, B2, hu, rfl, h1, h2⟩ := Rs.split h hk
        obtain ⟨U, bs, b', hw, hr, hp, hre⟩ := at_path p q c u b h1 ob
        refine ⟨U, bs, B1 ++ b' ++ B2, by simp [walk, stepV, hu, hw], hr, perm3 _ _ _ _ _ hp, fun y' c' hy' => ?_⟩
        obtain ⟨B'', h3, h4⟩ := hre y' c' hy'
        refine ⟨B1 ++ B'' ++ B2, ?_, perm3 _ _ _ _ _ h4⟩
        have := h2 _ u _ h3
        rw [set_same hu] at this
        rw [PV.setSub_cons hk']
        exact ⟨vs, rfl, this⟩
      | box cs =>
        have hk' := hk
        simp only [PV.kids] at hk
        obtain ⟨g, us, bs0, rfl, h, hb⟩ := h
        obtain ⟨u, b, B1, B2, hu, rfl, h1, h2⟩ := Rs.split h hk
        obtain ⟨U, bs, b', hw, hr, hp, hre⟩ := at_path p _ c u b h1 ob
        refine ⟨U, bs, g :: (B1 ++ b' ++ B2), by simp [walk, boxCell hb hu, hw], hr, ?_, fun y' c' hy' => ?_⟩
        · exact ((perm3 _ _ _ _ _ hp).cons g).trans List.perm_middle.symm
        · obtain ⟨B'', h3, h4⟩ := hre y' c' hy'
          refine ⟨g :: (B1 ++ B'' ++ B2), ?_, ((perm3 _ _ _ _ _ h4).cons g).trans List.perm_middle.symm⟩
          have := h2 _ u _ h3
          rw [set_same hu] at this
          rw [PV.setSub_cons hk']
          exact ⟨g, us, _, rfl, this, hb⟩
      | _ => simp [PV.kids] at hk
/-- Where nothing changed that a variable leads to, its places hold what they held. -/
theorem walk_same : ∀ (p : List Nat) (q : PV → Value → Prop) (x : PV) (V : Value) (Bk : List Nat), R w I q x V Bk → x.path p = true → (∀ b ∈ Bk, w'.heap[b]? = w.heap[b]?) → walk w' V p = walk w V p
  | [], _, _, _, _, _, _, _ => rfl
  | o :: p, q, x, V, Bk, h, ob, hw => by
    simp only [PV.path] at ob
    cases hk : x.kids[o]? with
    | none => simp [hk] at ob
    | some c =>
      simp only [hk] at ob
      cases x with
      | agg cs =>
        simp only [PV.kids] at hk
        obtain ⟨vs, rfl, h⟩ := h
        obtain ⟨u, b, B1, B2, hu, rfl, h1, _⟩ := Rs.split h hk
        simp only [walk, stepV, List.getElem?_toArray, hu, Option.bind_some]
        exact walk_same p q c u b h1 ob fun b' hb' => hw b' (by simp [hb'])
      | tup cs =>
        simp only [PV.kids] at hk
        obtain ⟨vs, rfl, h⟩ := h
        obtain ⟨u, b, B1, B2, hu, rfl, h1, _⟩ := Rs.split h hk
        simp only [walk, stepV, List.getElem?_toArray, hu, Option.bind_some]
        exact walk_same p q c u b h1 ob fun b' hb' => hw b' (by simp [hb'])
      | box cs =>
        simp only [PV.kids] at hk
        obtain ⟨g, us, bs0, rfl, h, hb⟩ := h
        obtain ⟨u, b, B1, B2, hu, rfl, h1, _⟩ := Rs.split h hk
        have s1 : stepV w V o = some u := boxCell hb hu
        have s2 : stepV w' V o = some u := by
          obtain ⟨cur, t, fr, e, hg, h3⟩ := hb
          exact boxCell (w := w') ⟨cur, t, fr, e, (hw g (by simp)).trans hg, h3⟩ hu
        simp only [walk, s1, s2, Option.bind_some]
        exact walk_same p _ c u b h1 ob fun b' hb' => hw b' (by simp [hb'])
      | _ => simp [PV.kids] at hk

/-- A place is emptied: what stood there floats. -/
theorem Inv.take (h : Inv B e q val w I blk fl) {s : Nat} {p : List Nat} (ho : (e.at_ s p).isObj = true) :
    ∃ U bs blk', place val w s p = some U ∧ R w I nope (e.at_ s p) U bs ∧ Inv B (e.setAt s p .dead) q val w I blk' (bs ++ fl) := by
  obtain ⟨U, bs, B', hw, hr, hp, hre⟩ := take_sub p q (e.get s) (val s) (blk s) (h.rel s) ho
  obtain ⟨B'', h3, h4⟩ := hre .dead [] (by simp [AM.R])
  have hp2 : (blk s).Perm (bs ++ B'') := hp.trans (List.Perm.append_left bs h4.symm)
  have hn := List.nodup_append.1 (hp2.nodup_iff.1 (h.nd s))
  have sub : ∀ t b, b ∈ updB blk s B'' t → b ∈ blk t := by
    intro t b hb
    unfold updB at hb
    split at hb
    · rename_i e; subst e; exact hp2.mem_iff.2 (by simp [hb])
    · exact hb
  have subf : ∀ b, b ∈ bs → b ∈ blk s := fun b hb => hp2.mem_iff.2 (by simp [hb])
  refine ⟨U, bs, updB blk s B'', hw, hr, { h with rel := ?_, nd := ?_, ndf := ?_, dj := ?_, djf := ?_, notI := ?_, notIf := ?_, ltf := ?_, own := ?_, ownf := ?_ }⟩
  · intro t
    unfold Env.setAt
    rw [Env.get_set]
    by_cases ht : s = t
    · subst ht; simpa [updB] using h3
    · simpa [updB, ht, Ne.symm ht] using h.rel t
  · intro t
    unfold updB
    split
    · exact hn.2.1
    · exact h.nd t
  · refine List.nodup_append.2 ⟨hn.1, h.ndf, fun a ha b hb e => ?_⟩
    subst e
    exact h.djf s a (subf a ha) hb
  · exact fun s t hst b hb hb' => h.dj s t hst b (sub s b hb) (sub t b hb')
  · intro t b hb hf
    rcases List.mem_append.1 hf with hf | hf
    · by_cases ht : t = s
      · subst ht
        simp only [updB, if_true] at hb
        exact hn.2.2 b hf b hb rfl
      · exact h.dj t s ht b (sub t b hb) (subf b hf)
    · exact h.djf t b (sub t b hb) hf
  · exact fun t b hb => h.notI t b (sub t b hb)
  · intro b hb
    rcases List.mem_append.1 hb with hb | hb
    · exact h.notI s b (subf b hb)
    · exact h.notIf b hb
  · intro b hb
    rcases List.mem_append.1 hb with hb | hb
    · exact h.lt s b (subf b hb)
    · exact h.ltf b hb
  · exact fun t b hb => h.own t b (sub t b hb)
  · intro b hb
    rcases List.mem_append.1 hb with hb | hb
    · exact h.own s b (subf b hb)
    · exact h.ownf b hb
/-- What floats is laid into a place that holds that very value. -/
theorem Inv.lay {bs : List Nat} (h : Inv B e q val w I blk (bs ++ fl)) {s : Nat} {p : List Nat} (hpath : (e.get s).path p = true) {y : PV} {U : Value} (hU : place val w s p = some U) (hy : R w I nope y U bs) :
    ∃ blk', Inv B (e.setAt s p y) q val w I blk' fl := by
  obtain ⟨U', b0, B', hw, hr, hp, hre⟩ := at_path p q (e.get s) (val s) (blk s) (h.rel s) hpath
  obtain rfl : U' = U := by unfold place at hU; rw [hw] at hU; exact Option.some.inj hU
  obtain ⟨B'', h3, h4⟩ := hre y bs hy
  have hn := List.nodup_append.1 h.ndf
  have inB : ∀ b, b ∈ B'' → b ∈ bs ∨ b ∈ blk s := by
    intro b hb
    rcases List.mem_append.1 (h4.mem_iff.1 hb) with hb | hb
    · exact .inl hb
    · exact .inr (hp.mem_iff.2 (by simp [hb]))
  have hndB : B''.Nodup := by
    rw [h4.nodup_iff]
    refine List.nodup_append.2 ⟨hn.1, (List.nodup_append.1 (hp.nodup_iff.1 (h.nd s))).2.1, fun a ha b hb e => ?_⟩
    subst e
    exact h.djf s a (hp.mem_iff.2 (by simp [hb])) (by simp [ha])
  have cases' : ∀ t b, b ∈ updB blk s B'' t → (b ∈ bs ∧ t = s) ∨ b ∈ blk t := by
    intro t b hb
    unfold updB at hb
    split at hb
    · rename_i e; subst e
      rcases inB b hb with hb | hb
      · exact .inl ⟨hb, rfl⟩
      · exact .inr hb
    · exact .inr hb
  refine ⟨updB blk s B'', { h with rel := ?_, nd := ?_, ndf := hn.2.1, dj := ?_, djf := ?_, notI := ?_, notIf := ?_, ltf := ?_, own := ?_, ownf := ?_ }⟩
  · intro t
    unfold Env.setAt
    rw [Env.get_set]
    by_cases ht : s = t
    · subst ht; simpa [updB] using h3
    · simpa [updB, ht, Ne.symm ht] using h.rel t
  · intro t
    unfold updB
    split
    · exact hndB
    · exact h.nd t
  · intro t u htu b hb hb'
    rcases cases' t b hb with ⟨h1, rfl⟩ | h1 <;> rcases cases' u b hb' with ⟨h2, rfl⟩ | h2
    · exact htu rfl
    · exact h.djf u b h2 (by simp [h1])
    · exact h.djf t b h1 (by simp [h2])
    · exact h.dj t u htu b h1 h2
  · intro t b hb hf
    rcases cases' t b hb with ⟨h1, _⟩ | h1
    · exact hn.2.2 b h1 b hf rfl
    · exact h.djf t b h1 (by simp [hf])
  · intro t b hb
    rcases cases' t b hb with ⟨h1, _⟩ | h1
    · exact h.notIf b (by simp [h1])
    · exact h.notI t b h1
  · exact fun b hb => h.notIf b (by simp [hb])
  · exact fun b hb => h.ltf b (by simp [hb])
  · intro t b hb
    rcases cases' t b hb with ⟨h1, _⟩ | h1
    · exact h.ownf b (by simp [h1])
    · exact h.own t b h1
  · exact fun b hb => h.ownf b (by simp [hb])
/-- The world moves on: only what floats may have changed; new blocks float, too. -/
theorem Inv.world (h : Inv B e q val w I blk fl) (hos : w'.os = w.os) (htape : w'.tape = w.tape) (hout : w'.output = w.output) (hsize : w.heap.size ≤ w'.heap.size)
    (hsame : ∀ b, b < w.heap.size → b ∉ fl → w'.heap[b]? = w.heap[b]?) (new : List Nat) (hnew : ∀ b ∈ new, w.heap.size ≤ b ∧ b < w'.heap.size) (hnd : new.Nodup) :
    Inv B e q val w' I blk (new ++ fl) := by
  refine { h with rel := ?_, ndf := ?_, djf := ?_, notIf := ?_, ltI := ?_, ltf := ?_, ownf := ?_, os := hos.trans h.os, tape := htape.trans h.tape, output := hout.trans h.output, size := Nat.le_trans h.size hsize, same := ?_, glob := ?_ }
  · intro s
    refine R.mono (fun _ h => h) (fun b hb => hsame b (h.ltI b hb) fun hf => h.notIf b hf hb) _ q q (fun _ _ h => h) _ _ (fun b hb => hsame b (h.lt s b hb) (h.djf s b hb)) (h.rel s)
  · refine List.nodup_append.2 ⟨hnd, h.ndf, fun a ha b hb e => ?_⟩
    subst e
    have := (hnew a ha).1
    have := h.ltf a hb
    omega
  · intro s b hb hf
    rcases List.mem_append.1 hf with hf | hf
    · have := (hnew b hf).1
      have := h.lt s b hb
      omega
    · exact h.djf s b hb hf
  · intro b hb hI
    rcases List.mem_append.1 hb with hb | hb
    · have := (hnew b hb).1
      have := h.ltI b hI
      omega
    · exact h.notIf b hb hI
  · exact fun b hb => Nat.lt_of_lt_of_le (h.ltI b hb) hsize
  · intro b hb
    rcases List.mem_append.1 hb with hb | hb
    · exact (hnew b hb).2
    · exact Nat.lt_of_lt_of_le (h.ltf b hb) hsize
  · intro b hb
    rcases List.mem_append.1 hb with hb | hb
    · exact .inr (Nat.le_trans h.size (hnew b hb).1)
    · exact h.ownf b hb
  · intro b hb hS
    rw [hsame b (Nat.lt_of_lt_of_le hb h.size) fun hf => ?_]
    · exact h.same b hb hS
    · rcases h.ownf b hf with h1 | h1
      · exact hS h1
      · omega
  · exact fun n hn => R.mono (fun _ h => h) (fun b hb => hsame b (h.ltI b hb) fun hf => h.notIf b hf hb) _ nope nope (fun _ _ h => h) _ _ (by simp) (h.glob n hn)
/-- What floats is made unchangeable. -/
theorem Inv.frozen {bs : List Nat} (h : Inv B e q val w I blk (bs ++ fl)) : Inv B e q val w (fun b => I b ∨ b ∈ bs) blk fl := by
  have hn := List.nodup_append.1 h.ndf
  refine { h with rel := ?_, ndf := hn.2.1, djf := fun s b hb hf => h.djf s b hb (by simp [hf]), notI := ?_, notIf := ?_, ltI := ?_, ltf := fun b hb => h.ltf b (by simp [hb]), keepI := fun b hb => .inl (h.keepI b hb), newI := ?_, ownf := fun b hb => h.ownf b (by simp [hb]), glob := fun n hn => R.mono (fun b hb => .inl hb) (fun _ _ => rfl) _ nope nope (fun _ _ h => h) _ _ (fun _ _ => rfl) (h.glob n hn) }
  · exact fun s => R.mono (fun b hb => .inl hb) (fun _ _ => rfl) _ q q (fun _ _ h => h) _ _ (fun _ _ => rfl) (h.rel s)
  · rintro s b hb (hI | hf)
    · exact h.notI s b hb hI
    · exact h.djf s b hb (by simp [hf])
  · rintro b hb (hI | hf)
    · exact h.notIf b (by simp [hb]) hI
    · exact hn.2.2 b hf b hb rfl
  · rintro b (hI | hf)
    · exact h.ltI b hI
    · exact h.ltf b (by simp [hf])
  · rintro b (hI | hf)
    · exact h.newI b hI
    · exact .inr (h.ownf b (by simp [hf]))
/-- The references are told by what stands now. -/
theorem Inv.finish {e0 : Env} {w0 : World} (h : Inv B e (refOK e0 val w0) val w I blk fl) (hw : Weak e e0) (hp : ∀ s p, (e.at_ s p).isObj = true → place val w s p = place val w0 s p) : Inv B e (refOK e val w) val w I blk fl := by
  refine { h with rel := fun s => R.mono (fun _ h => h) (fun _ _ => rfl) _ _ _ ?_ _ _ (fun _ _ => rfl) (h.rel s) }
  intro x V k
  cases x <;> simp only [AM.refOK] at k ⊢
  · exact ⟨k.1, fun o => (hp _ _ o).trans (k.2 (hw _ _ o))⟩
  · refine ⟨k.1, fun o => ?_⟩
    rw [hp _ _ o]
    exact k.2 (hw _ _ o)
  · exact ⟨k.1, fun o => k.2 (hw _ [] o)⟩
  · refine ⟨k.1, fun o => ?_⟩
    rw [hp _ _ o]
    exact k.2 (hw _ _ o)
end
end Go.AM
