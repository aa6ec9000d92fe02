/- Calls: arguments handed over and lent, results taken. No conditions. -/
import Derived.Test.YtfkgoofipbbhpaaDoorAmOps9
namespace Go.AM
open Go

/-- What a call leaves. -/
def Left (w : World) (I : Nat → Prop) (bss : List Nat) (vs : List Value) (w' : World) (y : PV) (V : Value) (backs : List PV) : Prop :=
  ∃ (I' : Nat → Prop) (b1 b2 : List Nat), (∀ b, I b → I' b) ∧ (∀ b, I' b → I b ∨ b ∈ bss ∨ w.heap.size ≤ b) ∧ (∀ b, I' b → b < w'.heap.size) ∧
    w'.os = w.os ∧ w'.tape = w.tape ∧ w'.output = w.output ∧ w.heap.size ≤ w'.heap.size ∧ (∀ b, b < w.heap.size → b ∉ bss → w'.heap[b]? = w.heap[b]?) ∧
    R w' I' nope y V b1 ∧ Rs w' I' nope backs vs b2 ∧ (b1 ++ b2).Nodup ∧ ∀ b, b ∈ b1 ++ b2 → ¬ I' b ∧ (b ∈ bss ∨ w.heap.size ≤ b)
/-- Calls are answered as the oracle says. -/
def CallOK (P : Program) (G : Nat → List PV) (C : Oracle) : Prop :=
  ∀ f xs y backs, C f xs = some (y, backs) → ∀ (w : World) (I : Nat → Prop) (vs : List Value) (bss : List Nat),
    (∀ b, I b → b < w.heap.size) → bss.Nodup → (∀ b, b ∈ bss → ¬ I b) → (∀ n, G n ≠ [] → R w I nope (.raddr (G n)) (.pointer (some ⟨n, 0, none⟩)) []) → Rs w I nope xs vs bss →
    Calls P f vs.toArray w fun e w' => ∃ V, e = .returned V ∧ Left w I bss vs w' y V backs

section
variable {P : Program} {B : Base} {e e' E : Env} {w w' : World} {I : Nat → Prop} {blk : Nat → List Nat} {fl : List Nat} {val : Nat → Value} {q : PV → Value → Prop}

def MovedR (w : World) (I : Nat → Prop) (val : Nat → Value) (E : Env) : List (Option (PV × Option (Nat × List Nat))) → List Value → List Nat → Prop
  | [], _, bs => bs = []
  | none :: r, _ :: vs, bs => MovedR w I val E r vs bs
  | some (y, b) :: r, v :: vs, bs => ∃ b1 b2, bs = b1 ++ b2 ∧ R w I nope y v b1 ∧ (∀ s p, b = some (s, p) → place val w s p = some v ∧ (E.at_ s p).isObj = true) ∧ (∀ s y' s' p', b = some (s, []) → some (y', some (s', p')) ∈ r → s' ≠ s) ∧ MovedR w I val E r vs b2
  | _ :: _, [], _ => False
theorem path_dead {x : PV} {p p' : List Nat} (ho : (x.sub p).isObj = true) (hk : (x.sub p).kids = []) (hp : x.path p' = true) : (x.setSub p .dead).path p' = true := by
  have h1 := PV.path_setSub_leaf p x (x.sub p) .dead p' hk rfl
  rw [← h1]
  have h2 : x.setSub p (x.sub p) = x := by
    clear h1 hp hk
    have := PV.path_of_obj p x ho
    clear ho
    induction p generalizing x with
    | nil => cases x <;> rfl
    | cons o p ih =>
      simp only [PV.path] at this
      cases hkid : x.kids[o]? with
      | none => simp [hkid] at this
      | some c =>
        simp only [hkid] at this
        rw [PV.setSub_cons hkid]
        have hs : x.sub (o :: p) = c.sub p := by simp [PV.sub, hkid]
        rw [hs, ih this]
        cases x <;> simp only [PV.kids] at hkid <;> first | (simp at hkid; done) | simp [PV.withKid, set_same hkid]
  rw [h2]
  exact hp
/-- The slots that are given back later aren't touched by what is moved behind. -/
theorem moves_ok : ∀ {xs : List PV} {ms : List Bool} {us : List Nat} {e e' E : Env} {blk : Nat → List Nat} {fl : List Nat} {vs : List Value} {r : List (Option (PV × Option (Nat × List Nat)))},
    Inv B e q val w I blk fl → Weak e E → (∀ s p, (E.at_ s p).isObj = true → (e.get s).path p = true) → Rs w I (refOK e val w) xs vs [] → moves e us ms xs = some (r, e') →
    ∃ blk' bs E', Inv B e' q val w I blk' (bs ++ fl) ∧ Weak e' e ∧ Weak E' E ∧ Weak e' E' ∧ (∀ s p, (E'.at_ s p).isObj = true → (e'.get s).path p = true) ∧ (∀ s, s ∈ us → E'.get s = E.get s) ∧ MovedR w I val E' r vs bs ∧ r.length = xs.length ∧ ∀ y s p, some (y, some (s, p)) ∈ r → (e.at_ s p).isObj = true
  | [], ms, us, e, e', E, blk, fl, vs, r, h, hw, hp, hx, hm => by
    cases ms with
    | nil =>
      simp only [moves, List.map_nil, Option.some.injEq, Prod.mk.injEq] at hm
      obtain ⟨rfl, rfl⟩ := hm
      exact ⟨blk, [], E, h, Weak.refl _, Weak.refl _, hw, hp, fun _ _ => rfl, rfl, by simp, fun _ _ _ hm => by simp at hm⟩
    | cons m ms =>
      simp only [moves, Option.some.injEq, Prod.mk.injEq] at hm
      obtain ⟨rfl, rfl⟩ := hm
      exact ⟨blk, [], E, h, Weak.refl _, Weak.refl _, hw, hp, fun _ _ => rfl, rfl, by simp, fun _ _ _ hm => by simp at hm⟩
  | x :: xs, [], us, e, e', E, blk, fl, vs, r, h, hw, hp, hx, hm => by
    simp only [moves, Option.some.injEq, Prod.mk.injEq] at hm
    obtain ⟨rfl, rfl⟩ := hm
    refine ⟨blk, [], E, h, Weak.refl _, Weak.refl _, hw, hp, fun _ _ => rfl, ?_, by simp, fun _ _ _ hm => by simp at hm⟩
    have hl := hx.length
    clear hx h
    have : ∀ (l : List PV) (vs : List Value), vs.length = l.length → MovedR w I val E (l.map fun _ => none) vs [] := by
      intro l
      induction l with
      | nil => intro vs _; simp [MovedR]
      | cons y l ih =>
        intro vs hv
        cases vs with
        | nil => simp at hv
        | cons v vs => exact ih vs (by simpa using hv)
    exact this (x :: xs) vs hl
  | x :: xs, m :: ms, us, e, e', E, blk, fl, vs, r, h, hw, hp, hx, hm => by
    obtain ⟨v, vs, c1, c2, rfl, ec, hx1, hx2⟩ := hx
    obtain ⟨rfl, rfl⟩ : c1 = [] ∧ c2 = [] := by simpa using ec.symm
    -- not moved
    have skip : moves e us ms xs = some (r.tail, e') → r = none :: r.tail → ∃ blk' bs E', Inv B e' q val w I blk' (bs ++ fl) ∧ Weak e' e ∧ Weak E' E ∧ Weak e' E' ∧ (∀ s p, (E'.at_ s p).isObj = true → (e'.get s).path p = true) ∧ (∀ s, s ∈ us → E'.get s = E.get s) ∧ MovedR w I val E' r (v :: vs) bs ∧ r.length = (x :: xs).length ∧ ∀ y s p, some (y, some (s, p)) ∈ r → (e.at_ s p).isObj = true := by
      intro h1 h2
      obtain ⟨blk', bs, E', k1, k2, k3, k4, k5, k6, k7, k8, k9⟩ := moves_ok h hw hp hx2 h1
      rw [h2]
      exact ⟨blk', bs, E', k1, k2, k3, k4, k5, k6, k7, by simpa using k8, fun y s p hm => k9 y s p (by simpa using hm)⟩
    -- a slice that is moved
    have slice : ∀ s p sz l (y : PV) (bk : Option (Nat × List Nat)) r', e.at_ s p = .own sz l → (∀ U bs, place val w s p = some U → R w I nope (.own sz l) U bs → R w I nope y v bs) → (bk = none ∨ (bk = some (s, p) ∧ place val w s p = some v)) →
        moves (e.setAt s p .dead) (s :: us) ms xs = some (r', e') → r = some (y, bk) :: r' →
        ∃ blk' bs E', Inv B e' q val w I blk' (bs ++ fl) ∧ Weak e' e ∧ Weak E' E ∧ Weak e' E' ∧ (∀ s p, (E'.at_ s p).isObj = true → (e'.get s).path p = true) ∧ (∀ s, s ∈ us → E'.get s = E.get s) ∧ MovedR w I val E' r (v :: vs) bs ∧ r.length = (x :: xs).length ∧ ∀ y s p, some (y, some (s, p)) ∈ r → (e.at_ s p).isObj = true := by
      intro s p sz l y bk r' hat hy hbk hm' hr
      have ho : (e.at_ s p).isObj = true := by rw [hat]; rfl
      obtain ⟨U, bs, blk1, h1, h2, h3⟩ := h.take ho
      have wk : Weak (e.setAt s p .dead) e := Weak.setAt rfl (by simp [PV.isObj])
      rw [hat] at h2
      obtain ⟨blk', bs', E', k1, k2, k3, k4, k5, k6, k7, k8, k9⟩ := moves_ok h3 (wk.trans hw) (fun s' p' ho' => by
        unfold Env.setAt
        rw [Env.get_set]
        by_cases hs : s = s'
        · subst hs
          rw [if_pos rfl]
          exact path_dead (x := e.get s) ho (by have : (e.get s).sub p = .own sz l := hat; rw [this]; rfl) (hp s p' ho')
        · rw [if_neg hs]
          exact hp s' p' ho') (wk.Rs hx2) hm'
      subst hr
      refine ⟨blk', bs ++ bs', E', k1.fl_perm ?_, k2.trans wk, k3, k4, k5, fun t ht => k6 t (by simp [ht]), ⟨bs, bs', rfl, hy U bs h1 h2, fun s' p' hb => ?_, fun s2 y' s' p' hb hmem => ?_, k7⟩, by simpa using k8, fun y2 s2 p2 hm => ?_⟩
      · rw [show bs' ++ (bs ++ fl) = (bs' ++ bs) ++ fl by simp]
        exact List.Perm.append_right _ List.perm_append_comm
      · rcases hbk with rfl | ⟨rfl, hpl⟩
        · cases hb
        · cases hb
          refine ⟨hpl, ?_⟩
          have : E'.at_ s p = E.at_ s p := by unfold Env.at_; rw [k6 s (by simp)]
          rw [this]
          exact hw _ _ ho
      · rcases hbk with rfl | ⟨rfl, hpl⟩
        · cases hb
        · cases hb
          rintro rfl
          have := k9 y' s' p' hmem
          rw [Env.setAt_nil] at this
          unfold Env.at_ at this
          rw [Env.get_set] at this
          simp [PV.sub_dead, PV.isObj] at this
      · rcases List.mem_cons.1 hm with hm | hm
        · rcases hbk with rfl | ⟨rfl, hpl⟩
          · cases hm
          · cases hm
            exact ho
        · exact wk _ _ (k9 y2 s2 p2 hm)
    cases m with
    | false =>
      simp only [moves, Option.bind_eq_bind, Option.bind_eq_some_iff, Option.pure_def, Option.some.injEq, Prod.mk.injEq, Prod.exists] at hm
      obtain ⟨r', e2, hm', rfl, rfl⟩ := hm
      exact skip hm' rfl
    | true =>
      cases x with
      | ref s p =>
        have hx1' := hx1.2
        simp only [refOK] at hx1'
        simp only [moves] at hm
        split at hm
        · rename_i sz l hat
          simp only [Option.bind_eq_bind, Option.bind_eq_some_iff, Option.pure_def, Option.some.injEq, Prod.mk.injEq, Prod.exists] at hm
          obtain ⟨r', e2, hm', rfl, rfl⟩ := hm
          have ho : (e.at_ s p).isObj = true := by rw [hat]; rfl
          exact slice s p sz l _ _ r' hat (fun U bs hU hR => by rw [hx1'.2 ho] at hU; exact Option.some.inj hU ▸ hR) (.inr ⟨rfl, hx1'.2 ho⟩) hm' rfl
        · rename_i cs hat
          split at hm
          · rename_i hc
            obtain ⟨rfl, hus⟩ := hc
            simp only [Option.bind_eq_bind, Option.bind_eq_some_iff, Option.pure_def, Option.some.injEq, Prod.mk.injEq, Prod.exists] at hm
            obtain ⟨r', e2, hm', rfl, rfl⟩ := hm
            have ho : (e.at_ s []).isObj = true := by rw [hat]; rfl
            obtain ⟨U, bs, blk1, h1, h2, h3⟩ := h.take ho
            have wk : Weak (e.setAt s [] .dead) e := Weak.setAt rfl (by simp [PV.isObj])
            rw [hat] at h2
            have wE : Weak (E.set s (.box [])) E := by
              intro s' p' o
              unfold Env.at_ at o ⊢
              rw [Env.get_set] at o
              by_cases hs : s = s'
              · subst hs
                rw [if_pos rfl] at o
                cases p' with
                | nil => exact hw s [] ho
                | cons a p' => simp [PV.sub, PV.kids, PV.sub_dead, PV.isObj] at o
              · rwa [if_neg hs] at o
            obtain ⟨blk', bs', E', k1, k2, k3, k4, k5, k6, k7, k8, k9⟩ := moves_ok (E := E.set s (.box [])) h3 (by
              intro s' p' o
              rw [Env.setAt_nil] at o
              unfold Env.at_ at o ⊢
              rw [Env.get_set] at o ⊢
              by_cases hs : s = s'
              · simp [hs, PV.sub_dead, PV.isObj] at o
              · rw [if_neg hs] at o ⊢
                exact hw s' p' o) (fun s' p' ho' => by
              rw [Env.setAt_nil, Env.get_set]
              unfold Env.at_ at ho'
              rw [Env.get_set] at ho'
              by_cases hs : s = s'
              · rw [if_pos hs] at ho' ⊢
                cases p' with
                | nil => rfl
                | cons a p' => simp [PV.sub, PV.kids, PV.sub_dead, PV.isObj] at ho'
              · rw [if_neg hs] at ho' ⊢
                exact hp s' p' ho') (wk.Rs hx2) hm'
            refine ⟨blk', bs ++ bs', E', k1.fl_perm ?_, k2.trans wk, k3.trans wE, k4, k5, fun t ht => ?_, ⟨bs, bs', rfl, ?_, fun s' p' hb => ?_, fun s2 y' s' p' hb hmem => ?_, k7⟩, by simpa using k8, fun y2 s2 p2 hm => ?_⟩
            · rw [show bs' ++ (bs ++ fl) = (bs' ++ bs) ++ fl by simp]
              exact List.Perm.append_right _ List.perm_append_comm
            · rw [k6 t (by simp [ht]), Env.get_set]
              have : s ≠ t := by
                rintro rfl
                simp [ht] at hus
              simp [this]
            · rw [hx1'.2 ho] at h1
              obtain rfl := Option.some.inj h1
              exact h2
            · cases hb
              refine ⟨hx1'.2 ho, ?_⟩
              have : E'.at_ s [] = (E.set s (.box [])).at_ s [] := by unfold Env.at_; rw [k6 s (by simp)]
              rw [this]
              unfold Env.at_
              rw [Env.get_set]
              simp [PV.sub, PV.isObj]
            · cases hb
              rintro rfl
              have := k9 y' s' p' hmem
              rw [Env.setAt_nil] at this
              unfold Env.at_ at this
              rw [Env.get_set] at this
              simp [PV.sub_dead, PV.isObj] at this
            · rcases List.mem_cons.1 hm with hm | hm
              · cases hm
                exact ho
              · exact wk _ _ (k9 y2 s2 p2 hm)
          · simp at hm
        · rename_i b1 b2 b3 hat
          split at hm
          · rename_i hc
            obtain ⟨rfl, hus⟩ := hc
            simp only [Option.bind_eq_bind, Option.bind_eq_some_iff, Option.pure_def, Option.some.injEq, Prod.mk.injEq, Prod.exists] at hm
            obtain ⟨r', e2, hm', rfl, rfl⟩ := hm
            have ho : (e.at_ s []).isObj = true := by rw [hat]; rfl
            obtain ⟨U, bs, blk1, h1, h2, h3⟩ := h.take ho
            have wk : Weak (e.setAt s [] .dead) e := Weak.setAt rfl (by simp [PV.isObj])
            rw [hat] at h2
            have wE : Weak (E.set s (.box [])) E := by
              intro s' p' o
              unfold Env.at_ at o ⊢
              rw [Env.get_set] at o
              by_cases hs : s = s'
              · subst hs
                rw [if_pos rfl] at o
                cases p' with
                | nil => exact hw s [] ho
                | cons a p' => simp [PV.sub, PV.kids, PV.sub_dead, PV.isObj] at o
              · rwa [if_neg hs] at o
            obtain ⟨blk', bs', E', k1, k2, k3, k4, k5, k6, k7, k8, k9⟩ := moves_ok (E := E.set s (.box [])) h3 (by
              intro s' p' o
              rw [Env.setAt_nil] at o
              unfold Env.at_ at o ⊢
              rw [Env.get_set] at o ⊢
              by_cases hs : s = s'
              · simp [hs, PV.sub_dead, PV.isObj] at o
              · rw [if_neg hs] at o ⊢
                exact hw s' p' o) (fun s' p' ho' => by
              rw [Env.setAt_nil, Env.get_set]
              unfold Env.at_ at ho'
              rw [Env.get_set] at ho'
              by_cases hs : s = s'
              · rw [if_pos hs] at ho' ⊢
                cases p' with
                | nil => rfl
                | cons a p' => simp [PV.sub, PV.kids, PV.sub_dead, PV.isObj] at ho'
              · rw [if_neg hs] at ho' ⊢
                exact hp s' p' ho') (wk.Rs hx2) hm'
            refine ⟨blk', bs ++ bs', E', k1.fl_perm ?_, k2.trans wk, k3.trans wE, k4, k5, fun t ht => ?_, ⟨bs, bs', rfl, ?_, fun s' p' hb => ?_, fun s2 y' s' p' hb hmem => ?_, k7⟩, by simpa using k8, fun y2 s2 p2 hm => ?_⟩
            · rw [show bs' ++ (bs ++ fl) = (bs' ++ bs) ++ fl by simp]
              exact List.Perm.append_right _ List.perm_append_comm
            · rw [k6 t (by simp [ht]), Env.get_set]
              have : s ≠ t := by
                rintro rfl
                simp [ht] at hus
              simp [this]
            · rw [hx1'.2 ho] at h1
              obtain rfl := Option.some.inj h1
              exact h2
            · cases hb
              refine ⟨hx1'.2 ho, ?_⟩
              have : E'.at_ s [] = (E.set s (.box [])).at_ s [] := by unfold Env.at_; rw [k6 s (by simp)]
              rw [this]
              unfold Env.at_
              rw [Env.get_set]
              simp [PV.sub, PV.isObj]
            · cases hb
              rintro rfl
              have := k9 y' s' p' hmem
              rw [Env.setAt_nil] at this
              unfold Env.at_ at this
              rw [Env.get_set] at this
              simp [PV.sub_dead, PV.isObj] at this
            · rcases List.mem_cons.1 hm with hm | hm
              · cases hm
                exact ho
              · exact wk _ _ (k9 y2 s2 p2 hm)
          · simp at hm
        · simp at hm
      | win s p sw lo hi =>
        have hx1' := hx1.2
        simp only [refOK] at hx1'
        simp only [moves] at hm
        split at hm
        · rename_i sz l hat
          split at hm
          · rename_i hc
            obtain ⟨rfl, rfl⟩ := hc
            simp only [Option.bind_eq_bind, Option.bind_eq_some_iff, Option.pure_def, Option.some.injEq, Prod.mk.injEq, Prod.exists] at hm
            obtain ⟨r', e2, hm', rfl, rfl⟩ := hm
            have ho : (e.at_ s p).isObj = true := by rw [hat]; rfl
            exact slice s p sw l _ _ r' hat (fun U bs hU hR => own_take hR hU (hx1'.2 ho)) (.inl rfl) hm' rfl
          · simp at hm
        · simp at hm
      | nil sz =>
        simp only [moves, Option.bind_eq_bind, Option.bind_eq_some_iff, Option.pure_def, Option.some.injEq, Prod.mk.injEq, Prod.exists] at hm
        obtain ⟨r', e2, hm', rfl, rfl⟩ := hm
        obtain ⟨blk', bs, E', k1, k2, k3, k4, k5, k6, k7, k8, k9⟩ := moves_ok h hw hp hx2 hm'
        exact ⟨blk', bs, E', k1, k2, k3, k4, k5, k6, ⟨[], bs, rfl, ⟨hx1.1, rfl⟩, fun s p hb => (by cases hb), fun s y s' p hb => (by cases hb), k7⟩, by simpa using k8, fun y s p hm => k9 y s p (by simpa using hm)⟩
      | _ =>
        simp only [moves, Option.bind_eq_bind, Option.bind_eq_some_iff, Option.pure_def, Option.some.injEq, Prod.mk.injEq, Prod.exists] at hm
        obtain ⟨r', e2, hm', rfl, rfl⟩ := hm
        exact skip hm' rfl

/-! ### What is lent -/
theorem ro_cut {sz : Nat} {l : List PV} {a : Option Addr} {n cap : Nat} (h : R w I nope (.ro sz l) (.slice a n cap) []) {lo hi cap' : Nat} {a' : Option Addr} (h1 : lo ≤ hi) (h2 : hi ≤ l.length) (h4 : hi - lo ≤ cap')
    (h5 : lo < hi → a' = a.map (·.add (lo * sz))) : R w I nope (.ro sz ((l.take hi).drop lo)) (.slice a' (hi - lo) cap') [] := by
  obtain ⟨_, hs, a0, c0, e, _, hc⟩ := h
  cases e
  have hl : ((l.take hi).drop lo).length = hi - lo := by simp; omega
  refine ⟨rfl, (hs.take hi).drop lo, a', cap', by rw [hl], by omega, ?_⟩
  by_cases he : hi = lo
  · left
    apply List.eq_nil_of_length_eq_zero
    omega
  · right
    rcases hc with rfl | ⟨A, vs, rfl, hA, hb, hr, hcells⟩
    · simp at h2; omega
    · refine ⟨A.add (lo * sz), (vs.take hi).drop lo, h5 (by omega), spot_add _ _ hA, by rw [block_add]; exact hb, (hr.take0 hi).drop0 lo, ?_⟩
      have hsz := SzOk.sizes hs hr
      rw [← flatV_drop (fun v hv => hsz v (List.mem_of_mem_take hv)), ← flatV_take hsz]
      exact (hcells.take _).drop hA _
def isRow : PV → Prop
  | .own _ _ => True
  | .ro _ _ => True
  | _ => False
theorem freezeAll_ok : ∀ {ls : List (Nat × List Nat)} {e : Env} {blk : Nat → List Nat} {I : Nat → Prop}, Inv B e q val w I blk fl → (∀ s p, (s, p) ∈ ls → (e.get s).path p = true ∧ isRow (e.at_ s p)) →
    ∃ blk' I2, Inv B (freezeAll e ls) q val w I2 blk' fl ∧ Weak (freezeAll e ls) e ∧ (∀ b, I b → I2 b) ∧ ∀ s p sz l, (s, p) ∈ ls → e.at_ s p = .own sz l → ∃ U, place val w s p = some U ∧ R w I2 nope (.ro sz l) U []
  | [], e, blk, I, h, _ => ⟨blk, I, h, Weak.refl _, fun _ h => h, fun _ _ _ _ hm => by simp at hm⟩
  | (s, p) :: ls, e, blk, I, h, hp => by
    have hpath := (hp s p (by simp)).1
    -- the rest's paths
    have rest : ∀ y : PV, y.kids = [] → isRow y → ((e.at_ s p).kids = []) → e.at_ s p = e.at_ s p → ∀ s' p', (s', p') ∈ ls → ((e.setAt s p y).get s').path p' = true ∧ isRow ((e.setAt s p y).at_ s' p') := by
      intro y hyk hyr hk _ s' p' hm
      obtain ⟨h1, h2⟩ := hp s' p' (by simp [hm])
      unfold Env.setAt Env.at_
      rw [Env.get_set]
      by_cases hs : s = s'
      · subst hs
        rw [if_pos rfl]
        have key : ∀ (p p' : List Nat) (x : PV), x.path p = true → (x.sub p).kids = [] → x.path p' = true → isRow (x.sub p') → (x.setSub p y).path p' = true ∧ isRow ((x.setSub p y).sub p') := by
          intro p
          induction p with
          | nil =>
            intro p' x _ hk' hp' hr
            have hset : x.setSub [] y = y := by cases x <;> rfl
            rw [hset]
            cases p' with
            | nil => exact ⟨rfl, hyr⟩
            | cons o p' =>
              have hk2 : x.kids = [] := by simpa [PV.sub] using hk'
              simp [PV.path, hk2] at hp'
          | cons o p ih =>
            intro p' x hx hk' hp' hr
            simp only [PV.path] at hx
            cases hkid : x.kids[o]? with
            | none => simp [hkid] at hx
            | some c =>
              simp only [hkid] at hx
              rw [PV.setSub_cons hkid]
              cases p' with
              | nil => cases x <;> simp_all [PV.sub, isRow, PV.kids]
              | cons o' p' =>
                simp only [PV.path, PV.sub, PV.kids_withKid hkid]
                by_cases ho : o = o'
                · subst ho
                  have hlt : o < x.kids.length := (List.getElem?_eq_some_iff.1 hkid).1
                  simp only [List.getElem?_set_self hlt, Option.getD_some]
                  simp only [PV.path, hkid] at hp'
                  simp only [PV.sub, hkid, Option.getD_some] at hr hk'
                  exact ih p' c hx hk' hp' hr
                · simp only [List.getElem?_set_ne ho]
                  exact ⟨by simpa [PV.path] using hp', by simpa [PV.sub] using hr⟩
        exact key p p' (e.get s) hpath hk h1 h2
      · rw [if_neg hs]
        exact ⟨h1, h2⟩
    cases hat : e.at_ s p with
    | own sz l =>
      have ho : (e.at_ s p).isObj = true := by rw [hat]; rfl
      obtain ⟨U, bs, blk1, h1, h2, h3⟩ := h.take ho
      rw [hat] at h2
      have h4 := h3.frozen
      have hpath1 : ((e.setAt s p .dead).get s).path p = true := Env.path_setAt hpath _
      have hro : R w (fun b => I b ∨ b ∈ bs) nope (.ro sz l) U [] := R.frozen (fun b hb => .inl hb) (.own sz l) U bs rfl (fun b hb => .inr hb) h2
      obtain ⟨blk2, h5⟩ := Inv.lay (bs := []) (by simpa using h4) hpath1 h1 hro
      rw [Env.setAt_setAt hpath] at h5
      have hr := rest (.ro sz l) rfl trivial (by rw [hat]; rfl) rfl
      obtain ⟨blk3, I3, k1, k2, k3, k4⟩ := freezeAll_ok (ls := ls) h5 hr
      have wk : Weak (e.setAt s p (.ro sz l)) e := Weak.setAt rfl (by simp [PV.isObj])
      have hfz : freezeAll e ((s, p) :: ls) = freezeAll (e.setAt s p (.ro sz l)) ls := by simp [freezeAll, hat]
      rw [hfz]
      refine ⟨blk3, I3, k1, k2.trans wk, fun b hb => k3 b (.inl hb), fun s' p' sz' l' hm hat' => ?_⟩
      by_cases hsame : s' = s ∧ p' = p
      · obtain ⟨rfl, rfl⟩ := hsame
        rw [hat] at hat'
        cases hat'
        exact ⟨U, h1, R.mono k3 (fun _ _ => rfl) _ nope nope (fun _ _ h => h) _ _ (fun _ _ => rfl) hro⟩
      · have hm' : (s', p') ∈ ls := by
          rcases List.mem_cons.1 hm with hh | hh
          · exact absurd (by simpa using hh) hsame
          · exact hh
        refine k4 s' p' sz' l' hm' ?_
        unfold Env.setAt Env.at_
        rw [Env.get_set]
        by_cases hs : s = s'
        · subst hs
          rw [if_pos rfl]
          have key : ∀ (p p' : List Nat) (x : PV), p' ≠ p → x.path p = true → (x.sub p).kids = [] → x.sub p' = .own sz' l' → (x.setSub p (.ro sz l)).sub p' = .own sz' l' := by
            intro p
            induction p with
            | nil =>
              intro p' x hne _ hk' hx'
              cases p' with
              | nil => exact absurd rfl hne
              | cons o p' =>
                have hk2 : x.kids = [] := by simpa [PV.sub] using hk'
                simp [PV.sub, hk2, PV.sub_dead] at hx'
            | cons o p ih =>
              intro p' x hne hx hk' hx'
              simp only [PV.path] at hx
              cases hkid : x.kids[o]? with
              | none => simp [hkid] at hx
              | some c =>
                simp only [hkid] at hx
                rw [PV.setSub_cons hkid]
                cases p' with
                | nil =>
                  have hxx : x = .own sz' l' := hx'
                  rw [hxx] at hkid
                  simp [PV.kids] at hkid
                | cons o' p' =>
                  simp only [PV.sub, PV.kids_withKid hkid]
                  by_cases ho : o = o'
                  · subst ho
                    have hlt : o < x.kids.length := (List.getElem?_eq_some_iff.1 hkid).1
                    simp only [List.getElem?_set_self hlt, Option.getD_some]
                    simp only [PV.sub, hkid, Option.getD_some] at hx' hk'
                    exact ih p' c (fun hpp => hne (by rw [hpp])) hx hk' hx'
                  · simp only [List.getElem?_set_ne ho]
                    simpa [PV.sub] using hx'
          exact key p p' (e.get s) (fun hpp => hsame ⟨rfl, hpp⟩) hpath (by have : (e.get s).sub p = .own sz l := hat; rw [this]; rfl) hat'
        · rw [if_neg hs]
          exact hat'
    | ro sz l =>
      have hfz : freezeAll e ((s, p) :: ls) = freezeAll e ls := by
        simp only [freezeAll, hat]
      rw [hfz]
      obtain ⟨blk3, I3, k1, k2, k3, k4⟩ := freezeAll_ok (ls := ls) h (fun s' p' hm => hp s' p' (by simp [hm]))
      refine ⟨blk3, I3, k1, k2, k3, fun s' p' sz' l' hm hat' => ?_⟩
      rcases List.mem_cons.1 hm with hh | hh
      · cases hh
        rw [hat] at hat'
        cases hat'
      · exact k4 s' p' sz' l' hh hat'
    | _ =>
      have := (hp s p (by simp)).2
      rw [hat] at this
      exact this.elim

/-- A value that is lent. -/
theorem lend1_ok (_ : Inv B e q val w I blk fl) {x : PV} {V : Value} (hx : R w I (refOK e val w) x V []) {y : PV} {ls : List (Nat × List Nat)} (hl : lend1 e x = some (y, ls)) :
    (∀ s p, (s, p) ∈ ls → (e.get s).path p = true ∧ isRow (e.at_ s p)) ∧ ∀ I2 : Nat → Prop, (∀ b, I b → I2 b) → (∀ s p sz l, (s, p) ∈ ls → e.at_ s p = .own sz l → ∃ U, place val w s p = some U ∧ R w I2 nope (.ro sz l) U []) → R w I2 nope y V [] := by
  have up : ∀ (x : PV) (V : Value) (I2 : Nat → Prop), (∀ b, I b → I2 b) → R w I nope x V [] → R w I2 nope x V [] := fun x V I2 hI hR => R.mono hI (fun _ _ => rfl) _ nope nope (fun _ _ h => h) _ _ (fun _ _ => rfl) hR
  cases x with
  | v x =>
    simp only [lend1, Option.some.injEq, Prod.mk.injEq] at hl
    obtain ⟨rfl, rfl⟩ := hl
    exact ⟨fun _ _ hm => by simp at hm, fun I2 hI _ => up (.v x) V I2 hI hx⟩
  | ro sz l =>
    simp only [lend1, Option.some.injEq, Prod.mk.injEq] at hl
    obtain ⟨rfl, rfl⟩ := hl
    exact ⟨fun _ _ hm => by simp at hm, fun I2 hI _ => up (.ro sz l) V I2 hI hx⟩
  | nil sz =>
    simp only [lend1, Option.some.injEq, Prod.mk.injEq] at hl
    obtain ⟨rfl, rfl⟩ := hl
    exact ⟨fun _ _ hm => by simp at hm, fun I2 hI _ => ⟨rfl, fun x hx => (by cases hx), none, 0, hx.1, Nat.le_refl _, .inl rfl⟩⟩
  | raddr cs =>
    simp only [lend1, Option.some.injEq, Prod.mk.injEq] at hl
    obtain ⟨rfl, rfl⟩ := hl
    exact ⟨fun _ _ hm => by simp at hm, fun I2 hI _ => up (.raddr cs) V I2 hI hx⟩
  | ref s p =>
    have hx2 := hx.2
    simp only [refOK] at hx2
    simp only [lend1] at hl
    split at hl
    · rename_i sz l hat
      simp only [Option.some.injEq, Prod.mk.injEq] at hl
      obtain ⟨rfl, rfl⟩ := hl
      have ho : (e.at_ s p).isObj = true := by rw [hat]; rfl
      refine ⟨fun s' p' hm => ?_, fun I2 hI hk => ?_⟩
      · simp only [List.mem_singleton, Prod.mk.injEq] at hm
        obtain ⟨rfl, rfl⟩ := hm
        exact ⟨PV.path_of_obj p' _ ho, by rw [hat]; trivial⟩
      · obtain ⟨U, h1, h2⟩ := hk s p sz l (by simp) hat
        rw [hx2.2 ho] at h1
        obtain rfl := Option.some.inj h1
        exact h2
    · simp at hl
  | win s p sz lo hi =>
    have hx2 := hx.2
    simp only [refOK] at hx2
    simp only [lend1] at hl
    split at hl
    · rename_i sz' l hat
      split at hl
      · rename_i hc
        subst hc
        simp only [Option.some.injEq, Prod.mk.injEq] at hl
        obtain ⟨rfl, rfl⟩ := hl
        have ho : (e.at_ s p).isObj = true := by rw [hat]; rfl
        refine ⟨fun s' p' hm => ?_, fun I2 hI hk => ?_⟩
        · simp only [List.mem_singleton, Prod.mk.injEq] at hm
          obtain ⟨rfl, rfl⟩ := hm
          exact ⟨PV.path_of_obj p' _ ho, by rw [hat]; trivial⟩
        · obtain ⟨U, h1, h2⟩ := hk s p sz' l (by simp) hat
          obtain ⟨a, n, cap, a', cap', h3, rfl, h4, h5, h6, h7, h8⟩ := hx2.2 ho
          rw [h3] at h1
          obtain rfl := Option.some.inj h1
          have hn : n = l.length := by obtain ⟨_, _, a0, c0, e1, _⟩ := h2; cases e1; rfl
          exact ro_cut h2 h4 (by omega) h7 h8.2
      · simp at hl
    · simp at hl
  | _ => simp [lend1] at hl
theorem lendL_ok (h : Inv B e q val w I blk fl) : ∀ {xs : List PV} {vs : List Value} {ys : List PV} {ls : List (Nat × List Nat)}, Rs w I (refOK e val w) xs vs [] → lendL e xs = some (ys, ls) →
    (∀ s p, (s, p) ∈ ls → (e.get s).path p = true ∧ isRow (e.at_ s p)) ∧ ∀ I2 : Nat → Prop, (∀ b, I b → I2 b) → (∀ s p sz l, (s, p) ∈ ls → e.at_ s p = .own sz l → ∃ U, place val w s p = some U ∧ R w I2 nope (.ro sz l) U []) → Rs w I2 nope ys vs []
  | [], vs, ys, ls, hx, hl => by
    simp only [lendL, Option.some.injEq, Prod.mk.injEq] at hl
    obtain ⟨rfl, rfl⟩ := hl
    exact ⟨fun _ _ hm => by simp at hm, fun _ _ _ => ⟨hx.1, rfl⟩⟩
  | x :: xs, vs, ys, ls, hx, hl => by
    obtain ⟨v, us, b1, b2, rfl, e0, h1, h2⟩ := hx
    obtain ⟨rfl, rfl⟩ : b1 = [] ∧ b2 = [] := by simpa using e0.symm
    simp only [lendL, Option.bind_eq_bind, Option.bind_eq_some_iff, Option.pure_def, Option.some.injEq, Prod.mk.injEq, Prod.exists] at hl
    obtain ⟨y, a, hl1, ys', b, hl2, rfl, rfl⟩ := hl
    obtain ⟨k1, k2⟩ := lend1_ok h h1 hl1
    obtain ⟨k3, k4⟩ := lendL_ok h h2 hl2
    refine ⟨fun s p hm => (List.mem_append.1 hm).elim (k1 s p) (k3 s p), fun I2 hI hk => ⟨v, us, [], [], rfl, rfl, k2 I2 hI fun s p sz l hm => hk s p sz l (by simp [hm]), k4 I2 hI fun s p sz l hm => hk s p sz l (by simp [hm])⟩⟩
theorem lend_ok (h : Inv B e q val w I blk fl) {x : PV} {V : Value} (hx : R w I (refOK e val w) x V []) {y : PV} {ls : List (Nat × List Nat)} (hl : lend e x = some (y, ls)) :
    (∀ s p, (s, p) ∈ ls → (e.get s).path p = true ∧ isRow (e.at_ s p)) ∧ ∀ I2 : Nat → Prop, (∀ b, I b → I2 b) → (∀ s p sz l, (s, p) ∈ ls → e.at_ s p = .own sz l → ∃ U, place val w s p = some U ∧ R w I2 nope (.ro sz l) U []) → R w I2 nope y V [] := by
  unfold lend at hl
  split at hl
  · rename_i cs
    simp only [Option.bind_eq_bind, Option.bind_eq_some_iff, Option.pure_def, Option.some.injEq, Prod.mk.injEq, Prod.exists] at hl
    obtain ⟨ys, b, hl1, rfl, rfl⟩ := hl
    obtain ⟨vs, rfl, hx⟩ := hx
    obtain ⟨k1, k2⟩ := lendL_ok h hx hl1
    exact ⟨k1, fun I2 hI hk => ⟨vs, rfl, k2 I2 hI hk⟩⟩
  · exact lend1_ok h hx hl
/-- The arguments as they are handed in. -/
theorem pass_ok (h : Inv B e q val w I blk fl) : ∀ {ms : List (Option (PV × Option (Nat × List Nat)))} {xs : List PV} {vs : List Value} {bs : List Nat} {ys : List PV} {ls : List (Nat × List Nat)} {bk : List (Option (Nat × List Nat))}, ms.length = xs.length → Rs w I (refOK e val w) xs vs [] → MovedR w I val E ms vs bs → pass e ms xs = some (ys, ls, bk) →
    (∀ s p, (s, p) ∈ ls → (e.get s).path p = true ∧ isRow (e.at_ s p)) ∧ bk = ms.map (fun m => m.bind (·.2)) ∧
    ∀ I2 : Nat → Prop, (∀ b, I b → I2 b) → (∀ s p sz l, (s, p) ∈ ls → e.at_ s p = .own sz l → ∃ U, place val w s p = some U ∧ R w I2 nope (.ro sz l) U []) → Rs w I2 nope ys vs bs
  | [], [], vs, bs, ys, ls, bk, _, hx, hm, hp => by
    simp only [pass, Option.some.injEq, Prod.mk.injEq] at hp
    obtain ⟨rfl, rfl, rfl⟩ := hp
    exact ⟨fun _ _ hm => by simp at hm, rfl, fun _ _ _ => ⟨hx.1, hm⟩⟩
  | some (y, b) :: ms, x :: xs, vs, bs, ys, ls, bk, hlen, hx, hm, hp => by
    obtain ⟨v, us, c1, c2, rfl, e0, h1, h2⟩ := hx
    obtain ⟨rfl, rfl⟩ : c1 = [] ∧ c2 = [] := by simpa using e0.symm
    obtain ⟨b1, b2, rfl, hy, hpl, _, hm⟩ := hm
    simp only [pass, Option.bind_eq_bind, Option.bind_eq_some_iff, Option.pure_def, Option.some.injEq, Prod.mk.injEq, Prod.exists] at hp
    obtain ⟨ys', ls', bk', hp', rfl, rfl, rfl⟩ := hp
    obtain ⟨k1, k2, k3⟩ := pass_ok h (by simpa using hlen) h2 hm hp'
    refine ⟨k1, by simp [k2], fun I2 hI hk => ⟨v, us, b1, b2, rfl, rfl, ?_, k3 I2 hI hk⟩⟩
    exact R.mono hI (fun _ _ => rfl) _ nope nope (fun _ _ h => h) _ _ (fun _ _ => rfl) hy
  | none :: ms, x :: xs, vs, bs, ys, ls, bk, hlen, hx, hm, hp => by
    obtain ⟨v, us, c1, c2, rfl, e0, h1, h2⟩ := hx
    obtain ⟨rfl, rfl⟩ : c1 = [] ∧ c2 = [] := by simpa using e0.symm
    simp only [pass, Option.bind_eq_bind, Option.bind_eq_some_iff, Option.pure_def, Option.some.injEq, Prod.mk.injEq, Prod.exists] at hp
    obtain ⟨y, l1, hl1, ys', ls', bk', hp', rfl, rfl, rfl⟩ := hp
    obtain ⟨k1, k2, k3⟩ := pass_ok h (by simpa using hlen) h2 hm hp'
    obtain ⟨k4, k5⟩ := lend_ok h h1 hl1
    refine ⟨fun s p hm => (List.mem_append.1 hm).elim (k4 s p) (k1 s p), by simp [k2], fun I2 hI hk => ⟨v, us, [], bs, rfl, by simp, k5 I2 hI fun s p sz l hm => hk s p sz l (by simp [hm]), k3 I2 hI fun s p sz l hm => hk s p sz l (by simp [hm])⟩⟩
  | [], _ :: _, _, _, _, _, _, hlen, _, _, _ => by simp at hlen
  | _ :: _, [], _, _, _, _, _, hlen, _, _, _ => by simp at hlen

/-! ### What comes back -/
theorem sub_laid {y : PV} (hy : y.kids = []) : ∀ (p p' : List Nat) (x : PV), ((x.setSub p y).sub p').isObj = true → p' = p ∨ (x.sub p').isObj = true
  | [], p', x, h => by
    have hset : x.setSub [] y = y := by cases x <;> rfl
    rw [hset] at h
    cases p' with
    | nil => exact .inl rfl
    | cons o p' => simp [PV.sub, hy, PV.sub_dead, PV.isObj] at h
  | o :: p, p', x, h => by
    by_cases hkid : ∃ c, x.kids[o]? = some c
    · obtain ⟨c, hkid⟩ := hkid
      rw [PV.setSub_cons hkid] at h
      cases p' with
      | nil => right; simpa [PV.sub, PV.isObj_withKid] using h
      | cons o' p' =>
        simp only [PV.sub, PV.kids_withKid hkid] at h ⊢
        by_cases ho : o = o'
        · subst ho
          have hlt : o < x.kids.length := (List.getElem?_eq_some_iff.1 hkid).1
          simp only [List.getElem?_set_self hlt, Option.getD_some] at h
          rcases sub_laid hy p p' c h with h1 | h1
          · exact .inl (by rw [h1])
          · right; simpa [hkid] using h1
        · simp only [List.getElem?_set_ne ho] at h
          exact .inr h
    · have hn : x.kids[o]? = none := by
        cases hk : x.kids[o]? with
        | none => rfl
        | some c => exact absurd ⟨c, hk⟩ hkid
      right
      have hlen : x.kids.length ≤ o := List.getElem?_eq_none_iff.1 hn
      have : x.setSub (o :: p) y = x := by
        cases x <;> simp only [PV.kids] at hlen <;> simp [PV.setSub, List.set_eq_of_length_le, hlen]
      rwa [this] at h
mutual
theorem R.close : ∀ (x : PV) (V : Value) (c b : List Nat) (f : PV → Value → Prop), R w I nope x V c → R w I f x V b → R w I nope x V b
  | .v _, _, _, _, _, _, h => h
  | .agg cs, V, c, b, f, hc, h => by
    obtain ⟨vs, e, h⟩ := h
    obtain ⟨vs', e', hc⟩ := hc
    have : vs = vs' := by
      rw [e] at e'
      simpa using e'
    subst this
    exact ⟨vs, e, Rs.close cs vs c b f hc h⟩
  | .tup cs, V, c, b, f, hc, h => by
    obtain ⟨vs, e, h⟩ := h
    obtain ⟨vs', e', hc⟩ := hc
    have : vs = vs' := by
      rw [e] at e'
      simpa using e'
    subst this
    exact ⟨vs, e, Rs.close cs vs c b f hc h⟩
  | .ro _ _, _, _, _, _, _, h => h
  | .own _ _, _, _, _, _, _, h => h
  | .box _, _, _, _, _, _, h => h
  | .ref _ _, _, _, _, _, hc, _ => hc.2.elim
  | .win _ _ _ _ _, _, _, _, _, hc, _ => hc.2.elim
  | .addr _ _, _, _, _, _, hc, _ => hc.2.elim
  | .eaddr _ _ _ _ _, _, _, _, _, hc, _ => hc.2.elim
  | .raddr _, _, _, _, _, _, h => h
  | .nil _, _, _, _, _, _, h => h
  | .dead, _, _, _, _, _, h => h
  | .iter _ _, _, _, _, _, _, h => h
  | .bld _ _ _, _, _, _, _, _, h => h
  | .selfp, _, _, _, _, hc, _ => hc.2.elim
theorem Rs.close : ∀ (l : List PV) (vs : List Value) (c b : List Nat) (f : PV → Value → Prop), Rs w I nope l vs c → Rs w I f l vs b → Rs w I nope l vs b
  | [], _, _, _, _, _, h => h
  | x :: r, vs, c, b, f, hc, h => by
    obtain ⟨v, us, b1, b2, rfl, rfl, h1, h2⟩ := h
    obtain ⟨v', us', c1, c2, e, rfl, h3, h4⟩ := hc
    obtain ⟨rfl, rfl⟩ := List.cons.inj e
    exact ⟨v, us, b1, b2, rfl, rfl, R.close x v c1 b1 f h3 h1, Rs.close r us c2 b2 f h4 h2⟩
end
theorem giveBack1_ok {bs : List Nat} (h : Inv B e (refOK E val w) val w I blk (bs ++ fl)) (hw : Weak e E) {s : Nat} {p : List Nat} {v : Value} (hp : place val w s p = some v) (ho : (E.at_ s p).isObj = true) {y : PV} (hy : R w I nope y v bs) :
    ∃ blk' E', Inv B (giveBack1 e s p y) (refOK E' val w) val w I blk' fl ∧ Weak (giveBack1 e s p y) E' ∧ ∀ s' p', (p = [] → s' ≠ s) → (E.at_ s' p').isObj = true → (E'.at_ s' p').isObj = true := by
  cases p with
  | nil =>
    obtain ⟨blk1, h1, k1, _⟩ := h.kill s fun p => !p.isEmpty
    have hlay := Inv.lay (p := []) h1 rfl hp hy
    rw [Env.setAt_nil] at hlay
    obtain ⟨blk2, h2⟩ := hlay
    refine ⟨blk2, E.set s y, { h2 with rel := fun t => ?_ }, ?_, ?_⟩
    · have hr := h2.rel t
      simp only [giveBack1]
      rw [Env.get_set] at hr ⊢
      by_cases hs : s = t
      · subst hs
        rw [if_pos rfl] at hr ⊢
        have hv : val s = v := Option.some.inj hp
        have := h2.rel s
        rw [Env.get_set, if_pos rfl] at this
        -- what is laid speaks of no place
        have hcl : ∀ b, R w I (refOK E val w) y v b → R w I (refOK (E.set s y) val w) y v b := by
          intro b hb
          exact (R.close y v bs b _ hy hb).ofNope
        rw [hv] at hr ⊢
        exact hcl _ hr
      · rw [if_neg hs] at hr ⊢
        refine R.congr (s := s) (t := fun p => !p.isEmpty) ?_ _ _ _ ?_ hr
        · intro x V hm k
          cases x <;> simp only [refOK, PV.ment] at k hm ⊢
          · rename_i s' p'
            refine ⟨k.1, fun o => k.2 ?_⟩
            unfold Env.at_ at o ⊢
            rw [Env.get_set] at o
            by_cases hss : s = s'
            · subst hss
              have : p' = [] := by simpa using hm
              subst this
              exact ho
            · rwa [if_neg hss] at o
          · rename_i s' p' sz lo hi
            refine ⟨k.1, fun o => k.2 ?_⟩
            unfold Env.at_ at o ⊢
            rw [Env.get_set] at o
            by_cases hss : s = s'
            · subst hss
              have : p' = [] := by simpa using hm
              subst this
              exact ho
            · rwa [if_neg hss] at o
          · rename_i s' o'
            refine ⟨k.1, fun o => k.2 ?_⟩
            rw [Env.get_set] at o
            by_cases hss : s = s'
            · subst hss
              exact ho
            · rwa [if_neg hss] at o
          · rename_i s' p' sz i j
            refine ⟨k.1, fun o => k.2 ?_⟩
            unfold Env.at_ at o ⊢
            rw [Env.get_set] at o
            by_cases hss : s = s'
            · subst hss
              have : p' = [] := by simpa using hm
              subst this
              exact ho
            · rwa [if_neg hss] at o
        · rw [Env.get_kill]
          by_cases hm : PV.ment s (fun p => !p.isEmpty) (e.get t) = true
          · simp [hm, PV.ment]
          · simp [hm]
    · intro s' p' o
      simp only [giveBack1] at o
      unfold Env.at_ at o ⊢
      rw [Env.get_set] at o ⊢
      by_cases hs : s = s'
      · rwa [if_pos hs] at o ⊢
      · rw [if_neg hs] at o ⊢
        exact hw s' p' (k1 s' p' o)
    · intro s' p' hc o
      unfold Env.at_
      rw [Env.get_set, if_neg (Ne.symm (hc rfl))]
      exact o
  | cons o p =>
    simp only [giveBack1]
    split
    · rename_i hc
      simp only [Bool.and_eq_true, List.isEmpty_iff] at hc
      obtain ⟨blk2, h2⟩ := Inv.lay h hc.1 hp hy
      refine ⟨blk2, E, h2, ?_, fun s' p' _ o => o⟩
      intro s' p' ho'
      unfold Env.setAt Env.at_ at ho'
      rw [Env.get_set] at ho'
      by_cases hs : s = s'
      · subst hs
        rw [if_pos rfl] at ho'
        rcases sub_laid hc.2 _ _ _ ho' with h3 | h3
        · rw [h3]; exact ho
        · exact hw s p' h3
      · rw [if_neg hs] at ho'
        exact hw s' p' ho'
    · exact ⟨blk, E, h.fl_drop (List.sublist_append_right _ _), hw, fun s' p' _ o => o⟩

theorem giveBack_ok {w0 : World} {I0 : Nat → Prop} {E0 : Env} : ∀ {ms : List (Option (PV × Option (Nat × List Nat)))} {vs : List Value} {bs0 : List Nat} {ys : List PV} {bs : List Nat} {e E : Env} {blk : Nat → List Nat},
    Inv B e (refOK E val w) val w I blk (bs ++ fl) → Weak e E → MovedR w0 I0 val E0 ms vs bs0 → (∀ y s p, some (y, some (s, p)) ∈ ms → (E.at_ s p).isObj = true ∧ place val w s p = place val w0 s p) → Rs w I nope ys vs bs →
    ∃ blk' E', Inv B (giveBack e (ms.map fun m => m.bind (·.2)) ys) (refOK E' val w) val w I blk' fl ∧ Weak (giveBack e (ms.map fun m => m.bind (·.2)) ys) E'
  | [], vs, bs0, ys, bs, e, E, blk, h, hw, hm, hp, hy => ⟨blk, E, by simpa [giveBack] using h.fl_drop (List.sublist_append_right bs fl), by simpa [giveBack] using hw⟩
  | m :: ms, vs, bs0, [], bs, e, E, blk, h, hw, hm, hp, hy => by
    refine ⟨blk, E, ?_, ?_⟩
    · have : giveBack e ((m :: ms).map fun m => m.bind (·.2)) [] = e := by
        cases hmb : m.bind (·.2) with
        | none => simp [giveBack, hmb]
        | some sp => obtain ⟨s, p⟩ := sp; simp [giveBack, hmb]
      rw [this]
      exact h.fl_drop (List.sublist_append_right bs fl)
    · have : giveBack e ((m :: ms).map fun m => m.bind (·.2)) [] = e := by
        cases hmb : m.bind (·.2) with
        | none => simp [giveBack, hmb]
        | some sp => obtain ⟨s, p⟩ := sp; simp [giveBack, hmb]
      rw [this]
      exact hw
  | none :: ms, [], bs0, y :: ys, bs, e, E, blk, h, hw, hm, hp, hy => hm.elim
  | some _ :: ms, [], bs0, y :: ys, bs, e, E, blk, h, hw, hm, hp, hy => hm.elim
  | none :: ms, v :: vs, bs0, y :: ys, bs, e, E, blk, h, hw, hm, hp, hy => by
    obtain ⟨v', us, b1, b2, ev, rfl, h1, h2⟩ := hy
    obtain ⟨rfl, rfl⟩ := List.cons.inj ev
    have hb : Inv B e (refOK E val w) val w I blk (b2 ++ fl) := h.fl_drop (by rw [List.append_assoc]; exact List.sublist_append_right _ _)
    simp only [List.map_cons, Option.bind_none, giveBack]
    exact giveBack_ok hb hw hm (fun y s p hmem => hp y s p (by simp [hmem])) h2
  | some (z, bk) :: ms, v :: vs, bs0, y :: ys, bs, e, E, blk, h, hw, hm, hp, hy => by
    obtain ⟨v', us, b1, b2, ev, rfl, h1, h2⟩ := hy
    obtain ⟨rfl, rfl⟩ := List.cons.inj ev
    obtain ⟨c1, c2, _, _, hpl, hd, hm'⟩ := hm
    cases bk with
    | none =>
      have hb : Inv B e (refOK E val w) val w I blk (b2 ++ fl) := h.fl_drop (by rw [List.append_assoc]; exact List.sublist_append_right _ _)
      simp only [List.map_cons, Option.bind_some, giveBack]
      exact giveBack_ok hb hw hm' (fun y s p hmem => hp y s p (by simp [hmem])) h2
    | some sp =>
      obtain ⟨s, p⟩ := sp
      simp only [List.map_cons, Option.bind_some, giveBack]
      obtain ⟨o1, o2⟩ := hp z s p (by simp)
      obtain ⟨blk1, E1, k1, k2, k3⟩ := giveBack1_ok (fl := b2 ++ fl) (by simpa using h) hw (o2.trans (hpl s p rfl).1) o1 h1
      exact giveBack_ok k1 k2 hm' (fun y' s' p' hmem => by
        obtain ⟨o3, o4⟩ := hp y' s' p' (by simp [hmem])
        refine ⟨k3 s' p' (fun hp0 => ?_) o3, o4⟩
        subst hp0
        exact hd s y' s' p' rfl hmem) h2
end
end Go.AM
