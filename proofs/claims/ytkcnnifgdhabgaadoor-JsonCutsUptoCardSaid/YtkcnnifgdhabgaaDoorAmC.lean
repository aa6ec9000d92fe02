/- Calls; all operations. No conditions. -/
import Derived.Test.YtkcnnifgdhabgaaDoorAmB
/- Calls: arguments handed over and lent, results taken. No conditions. -/
namespace Go.AM
open Go

/-- What a call leaves. -/
def Left (w : World) (I : Nat → Prop) (bss : List Nat) (vs : List Value) (w' : World) (y : PV) (V : Value) (backs : List PV) : Prop :=
  ∃ (I' : Nat → Prop) (b1 b2 : List Nat), (∀ b, I b → I' b) ∧ (∀ b, I' b → I b ∨ b ∈ bss ∨ w.heap.size ≤ b) ∧ (∀ b, I' b → b < w'.heap.size) ∧
    w'.os = w.os ∧ w'.tape = w.tape ∧ w'.output = w.output ∧ w.heap.size ≤ w'.heap.size ∧ (∀ b, b < w.heap.size → b ∉ bss → w'.heap[b]? = w.heap[b]?) ∧
    R w' I' nope y V b1 ∧ Rs w' I' nope backs vs b2 ∧ (b1 ++ b2).Nodup ∧ ∀ b, b ∈ b1 ++ b2 → ¬ I' b ∧ (b ∈ bss ∨ w.heap.size ≤ b)
/-- How a call ends. -/
def ends : PV → Value → Ending
  | .pan x, _ => .panicked [{ v := x, recovered := false }]
  | _, V => .returned V
theorem ends_ret {y : PV} (h : y.isPan = false) (V : Value) : ends y V = .returned V := by
  cases y <;> first | rfl | cases h
/-- Calls are answered as the oracle says. -/
def CallOK (P : Program) (G : Nat → List PV) (C : Oracle) : Prop :=
  ∀ f xs y backs, C f xs = some (y, backs) → ∀ (w : World) (I : Nat → Prop) (vs : List Value) (bss : List Nat),
    (∀ b, I b → b < w.heap.size) → bss.Nodup → (∀ b, b ∈ bss → ¬ I b) → (∀ n, G n ≠ [] → R w I nope (.raddr (G n)) (.pointer (some ⟨n, 0, none⟩)) []) → Rs w I nope xs vs bss →
    Calls P f vs.toArray w fun e w' => ∃ V, e = ends y V ∧ Left w I bss vs w' y V backs

section
variable {P : Program} {B : Base} {e e' E : Env} {w w' : World} {I : Nat → Prop} {blk : Nat → List Nat} {fl : List Nat} {val : Nat → Value} {q : PV → Value → Prop}

def MovedR (w : World) (I : Nat → Prop) (val : Nat → Value) (E : Env) : List (Option (PV × Option (Nat × List Nat))) → List Value → List Nat → Prop
  | [], _, bs => bs = []
  | none :: r, _ :: vs, bs => MovedR w I val E r vs bs
  | some (y, b) :: r, v :: vs, bs => ∃ b1 b2, bs = b1 ++ b2 ∧ R w I nope y v b1 ∧ (∀ s p, b = some (s, p) → place val w s p = some v ∧ (E.at_ s p).isObj = true) ∧ (∀ s y' s' p', b = some (s, []) → some (y', some (s', p')) ∈ r → s' ≠ s) ∧ MovedR w I val E r vs b2
  | _ :: _, [], _ => False
theorem path_dead {x : PV} {p p' : List Nat} (ho : (x.sub p).isObj = true) (hk : (x.sub p).kids = []) (hp : x.path p' = true) : (x.setSub p .dead).path p' = true := by
  have h1 := PV.path_setSub_leaf p x (x.sub p) .dead p' hk rfl
  rw [← h1]
  have h2 : x.setSub p (x.sub p) = x := by
    clear h1 hp hk
    have := PV.path_of_obj p x ho
    clear ho
    induction p generalizing x with
    | nil => cases x <;> rfl
    | cons o p ih =>
      simp only [PV.path] at this
      cases hkid : x.kids[o]? with
      | none => simp [hkid] at this
      | some c =>
        simp only [hkid] at this
        rw [PV.setSub_cons hkid]
        have hs : x.sub (o :: p) = c.sub p := by simp [PV.sub, hkid]
        rw [hs, ih this]
        cases x <;> simp only [PV.kids] at hkid <;> first | (simp at hkid; done) | simp [PV.withKid, set_same hkid]
  rw [h2]
  exact hp
/-- The slots that are given back later aren't touched by what is moved behind. -/
theorem moves_ok : ∀ {xs : List PV} {ms : List Bool} {us : List Nat} {e e' E : Env} {blk : Nat → List Nat} {fl : List Nat} {vs : List Value} {r : List (Option (PV × Option (Nat × List Nat)))},
    Inv B e q val w I blk fl → Weak e E → (∀ s p, (E.at_ s p).isObj = true → (e.get s).path p = true) → Rs w I (refOK e val w) xs vs [] → moves e us ms xs = some (r, e') →
    ∃ blk' bs E', Inv B e' q val w I blk' (bs ++ fl) ∧ Weak e' e ∧ Weak E' E ∧ Weak e' E' ∧ (∀ s p, (E'.at_ s p).isObj = true → (e'.get s).path p = true) ∧ (∀ s, s ∈ us → E'.get s = E.get s) ∧ MovedR w I val E' r vs bs ∧ r.length = xs.length ∧ ∀ y s p, some (y, some (s, p)) ∈ r → (e.at_ s p).isObj = true
  | [], ms, us, e, e', E, blk, fl, vs, r, h, hw, hp, hx, hm => by
    cases ms with
    | nil =>
      simp only [moves, List.map_nil, Option.some.injEq, Prod.mk.injEq] at hm
      obtain ⟨rfl, rfl⟩ := hm
      exact ⟨blk, [], E, h, Weak.refl _, Weak.refl _, hw, hp, fun _ _ => rfl, rfl, by simp, fun _ _ _ hm => by simp at hm⟩
    | cons m ms =>
      simp only [moves, Option.some.injEq, Prod.mk.injEq] at hm
      obtain ⟨rfl, rfl⟩ := hm
      exact ⟨blk, [], E, h, Weak.refl _, Weak.refl _, hw, hp, fun _ _ => rfl, rfl, by simp, fun _ _ _ hm => by simp at hm⟩
  | x :: xs, [], us, e, e', E, blk, fl, vs, r, h, hw, hp, hx, hm => by
    simp only [moves, Option.some.injEq, Prod.mk.injEq] at hm
    obtain ⟨rfl, rfl⟩ := hm
    refine ⟨blk, [], E, h, Weak.refl _, Weak.refl _, hw, hp, fun _ _ => rfl, ?_, by simp, fun _ _ _ hm => by simp at hm⟩
    have hl := hx.length
    clear hx h
    have : ∀ (l : List PV) (vs : List Value), vs.length = l.length → MovedR w I val E (l.map fun _ => none) vs [] := by
      intro l
      induction l with
      | nil => intro vs _; simp [MovedR]
      | cons y l ih =>
        intro vs hv
        cases vs with
        | nil => simp at hv
        | cons v vs => exact ih vs (by simpa using hv)
    exact this (x :: xs) vs hl
  | x :: xs, m :: ms, us, e, e', E, blk, fl, vs, r, h, hw, hp, hx, hm => by
    obtain ⟨v, vs, c1, c2, rfl, ec, hx1, hx2⟩ := hx
    obtain ⟨rfl, rfl⟩ : c1 = [] ∧ c2 = [] := by simpa using ec.symm
    -- not moved
    have skip : moves e us ms xs = some (r.tail, e') → r = none :: r.tail → ∃ blk' bs E', Inv B e' q val w I blk' (bs ++ fl) ∧ Weak e' e ∧ Weak E' E ∧ Weak e' E' ∧ (∀ s p, (E'.at_ s p).isObj = true → (e'.get s).path p = true) ∧ (∀ s, s ∈ us → E'.get s = E.get s) ∧ MovedR w I val E' r (v :: vs) bs ∧ r.length = (x :: xs).length ∧ ∀ y s p, some (y, some (s, p)) ∈ r → (e.at_ s p).isObj = true := by
      intro h1 h2
      obtain ⟨blk', bs, E', k1, k2, k3, k4, k5, k6, k7, k8, k9⟩ := moves_ok h hw hp hx2 h1
      rw [h2]
      exact ⟨blk', bs, E', k1, k2, k3, k4, k5, k6, k7, by simpa using k8, fun y s p hm => k9 y s p (by simpa using hm)⟩
    -- a slice that is moved
    have slice : ∀ s p sz l (y : PV) (bk : Option (Nat × List Nat)) r', e.at_ s p = .own sz l → (∀ U bs, place val w s p = some U → R w I nope (.own sz l) U bs → R w I nope y v bs) → (bk = none ∨ (bk = some (s, p) ∧ place val w s p = some v)) →
        moves (e.setAt s p .dead) (s :: us) ms xs = some (r', e') → r = some (y, bk) :: r' →
        ∃ blk' bs E', Inv B e' q val w I blk' (bs ++ fl) ∧ Weak e' e ∧ Weak E' E ∧ Weak e' E' ∧ (∀ s p, (E'.at_ s p).isObj = true → (e'.get s).path p = true) ∧ (∀ s, s ∈ us → E'.get s = E.get s) ∧ MovedR w I val E' r (v :: vs) bs ∧ r.length = (x :: xs).length ∧ ∀ y s p, some (y, some (s, p)) ∈ r → (e.at_ s p).isObj = true := by
      intro s p sz l y bk r' hat hy hbk hm' hr
      have ho : (e.at_ s p).isObj = true := by rw [hat]; rfl
      obtain ⟨U, bs, blk1, h1, h2, h3⟩ := h.take ho
      have wk : Weak (e.setAt s p .dead) e := Weak.setAt rfl (by simp [PV.isObj])
      rw [hat] at h2
      obtain ⟨blk', bs', E', k1, k2, k3, k4, k5, k6, k7, k8, k9⟩ := moves_ok h3 (wk.trans hw) (fun s' p' ho' => by
        unfold Env.setAt
        rw [Env.get_set]
        by_cases hs : s = s'
        · subst hs
          rw [if_pos rfl]
          exact path_dead (x := e.get s) ho (by have : (e.get s).sub p = .own sz l := hat; rw [this]; rfl) (hp s p' ho')
        · rw [if_neg hs]
          exact hp s' p' ho') (wk.Rs hx2) hm'
      subst hr
      refine ⟨blk', bs ++ bs', E', k1.fl_perm ?_, k2.trans wk, k3, k4, k5, fun t ht => k6 t (by simp [ht]), ⟨bs, bs', rfl, hy U bs h1 h2, fun s' p' hb => ?_, fun s2 y' s' p' hb hmem => ?_, k7⟩, by simpa using k8, fun y2 s2 p2 hm => ?_⟩
      · rw [show bs' ++ (bs ++ fl) = (bs' ++ bs) ++ fl by simp]
        exact List.Perm.append_right _ List.perm_append_comm
      · rcases hbk with rfl | ⟨rfl, hpl⟩
        · cases hb
        · cases hb
          refine ⟨hpl, ?_⟩
          have : E'.at_ s p = E.at_ s p := by unfold Env.at_; rw [k6 s (by simp)]
          rw [this]
          exact hw _ _ ho
      · rcases hbk with rfl | ⟨rfl, hpl⟩
        · cases hb
        · cases hb
          rintro rfl
          have := k9 y' s' p' hmem
          rw [Env.setAt_nil] at this
          unfold Env.at_ at this
          rw [Env.get_set] at this
          simp [PV.sub_dead, PV.isObj] at this
      · rcases List.mem_cons.1 hm with hm | hm
        · rcases hbk with rfl | ⟨rfl, hpl⟩
          · cases hm
          · cases hm
            exact ho
        · exact wk _ _ (k9 y2 s2 p2 hm)
    cases m with
    | false =>
      simp only [moves, Option.bind_eq_bind, Option.bind_eq_some_iff, Option.pure_def, Option.some.injEq, Prod.mk.injEq, Prod.exists] at hm
      obtain ⟨r', e2, hm', rfl, rfl⟩ := hm
      exact skip hm' rfl
    | true =>
      cases x with
      | ref s p =>
        have hx1' := hx1.2
        simp only [refOK] at hx1'
        simp only [moves] at hm
        split at hm
        · rename_i sz l hat
          simp only [Option.bind_eq_bind, Option.bind_eq_some_iff, Option.pure_def, Option.some.injEq, Prod.mk.injEq, Prod.exists] at hm
          obtain ⟨r', e2, hm', rfl, rfl⟩ := hm
          have ho : (e.at_ s p).isObj = true := by rw [hat]; rfl
          exact slice s p sz l _ _ r' hat (fun U bs hU hR => by rw [hx1'.2 ho] at hU; exact Option.some.inj hU ▸ hR) (.inr ⟨rfl, hx1'.2 ho⟩) hm' rfl
        · rename_i cs hat
          split at hm
          · rename_i hc
            obtain ⟨rfl, hus⟩ := hc
            simp only [Option.bind_eq_bind, Option.bind_eq_some_iff, Option.pure_def, Option.some.injEq, Prod.mk.injEq, Prod.exists] at hm
            obtain ⟨r', e2, hm', rfl, rfl⟩ := hm
            have ho : (e.at_ s []).isObj = true := by rw [hat]; rfl
            obtain ⟨U, bs, blk1, h1, h2, h3⟩ := h.take ho
            have wk : Weak (e.setAt s [] .dead) e := Weak.setAt rfl (by simp [PV.isObj])
            rw [hat] at h2
            have wE : Weak (E.set s (.box [])) E := by
              intro s' p' o
              unfold Env.at_ at o ⊢
              rw [Env.get_set] at o
              by_cases hs : s = s'
              · subst hs
                rw [if_pos rfl] at o
                cases p' with
                | nil => exact hw s [] ho
                | cons a p' => simp [PV.sub, PV.kids, PV.sub_dead, PV.isObj] at o
              · rwa [if_neg hs] at o
            obtain ⟨blk', bs', E', k1, k2, k3, k4, k5, k6, k7, k8, k9⟩ := moves_ok (E := E.set s (.box [])) h3 (by
              intro s' p' o
              rw [Env.setAt_nil] at o
              unfold Env.at_ at o ⊢
              rw [Env.get_set] at o ⊢
              by_cases hs : s = s'
              · simp [hs, PV.sub_dead, PV.isObj] at o
              · rw [if_neg hs] at o ⊢
                exact hw s' p' o) (fun s' p' ho' => by
              rw [Env.setAt_nil, Env.get_set]
              unfold Env.at_ at ho'
              rw [Env.get_set] at ho'
              by_cases hs : s = s'
              · rw [if_pos hs] at ho' ⊢
                cases p' with
                | nil => rfl
                | cons a p' => simp [PV.sub, PV.kids, PV.sub_dead, PV.isObj] at ho'
              · rw [if_neg hs] at ho' ⊢
                exact hp s' p' ho') (wk.Rs hx2) hm'
            refine ⟨blk', bs ++ bs', E', k1.fl_perm ?_, k2.trans wk, k3.trans wE, k4, k5, fun t ht => ?_, ⟨bs, bs', rfl, ?_, fun s' p' hb => ?_, fun s2 y' s' p' hb hmem => ?_, k7⟩, by simpa using k8, fun y2 s2 p2 hm => ?_⟩
            · rw [show bs' ++ (bs ++ fl) = (bs' ++ bs) ++ fl by simp]
              exact List.Perm.append_right _ List.perm_append_comm
            · rw [k6 t (by simp [ht]), Env.get_set]
              have : s ≠ t := by
                rintro rfl
                simp [ht] at hus
              simp [this]
            · rw [hx1'.2 ho] at h1
              obtain rfl := Option.some.inj h1
              exact h2
            · cases hb
              refine ⟨hx1'.2 ho, ?_⟩
              have : E'.at_ s [] = (E.set s (.box [])).at_ s [] := by unfold Env.at_; rw [k6 s (by simp)]
              rw [this]
              unfold Env.at_
              rw [Env.get_set]
              simp [PV.sub, PV.isObj]
            · cases hb
              rintro rfl
              have := k9 y' s' p' hmem
              rw [Env.setAt_nil] at this
              unfold Env.at_ at this
              rw [Env.get_set] at this
              simp [PV.sub_dead, PV.isObj] at this
            · rcases List.mem_cons.1 hm with hm | hm
              · cases hm
                exact ho
              · exact wk _ _ (k9 y2 s2 p2 hm)
          · simp at hm
        · rename_i b1 b2 b3 hat
          split at hm
          · rename_i hc
            obtain ⟨rfl, hus⟩ := hc
            simp only [Option.bind_eq_bind, Option.bind_eq_some_iff, Option.pure_def, Option.some.injEq, Prod.mk.injEq, Prod.exists] at hm
            obtain ⟨r', e2, hm', rfl, rfl⟩ := hm
            have ho : (e.at_ s []).isObj = true := by rw [hat]; rfl
            obtain ⟨U, bs, blk1, h1, h2, h3⟩ := h.take ho
            have wk : Weak (e.setAt s [] .dead) e := Weak.setAt rfl (by simp [PV.isObj])
            rw [hat] at h2
            have wE : Weak (E.set s (.box [])) E := by
              intro s' p' o
              unfold Env.at_ at o ⊢
              rw [Env.get_set] at o
              by_cases hs : s = s'
              · subst hs
                rw [if_pos rfl] at o
                cases p' with
                | nil => exact hw s [] ho
                | cons a p' => simp [PV.sub, PV.kids, PV.sub_dead, PV.isObj] at o
              · rwa [if_neg hs] at o
            obtain ⟨blk', bs', E', k1, k2, k3, k4, k5, k6, k7, k8, k9⟩ := moves_ok (E := E.set s (.box [])) h3 (by
              intro s' p' o
              rw [Env.setAt_nil] at o
              unfold Env.at_ at o ⊢
              rw [Env.get_set] at o ⊢
              by_cases hs : s = s'
              · simp [hs, PV.sub_dead, PV.isObj] at o
              · rw [if_neg hs] at o ⊢
                exact hw s' p' o) (fun s' p' ho' => by
              rw [Env.setAt_nil, Env.get_set]
              unfold Env.at_ at ho'
              rw [Env.get_set] at ho'
              by_cases hs : s = s'
              · rw [if_pos hs] at ho' ⊢
                cases p' with
                | nil => rfl
                | cons a p' => simp [PV.sub, PV.kids, PV.sub_dead, PV.isObj] at ho'
              · rw [if_neg hs] at ho' ⊢
                exact hp s' p' ho') (wk.Rs hx2) hm'
            refine ⟨blk', bs ++ bs', E', k1.fl_perm ?_, k2.trans wk, k3.trans wE, k4, k5, fun t ht => ?_, ⟨bs, bs', rfl, ?_, fun s' p' hb => ?_, fun s2 y' s' p' hb hmem => ?_, k7⟩, by simpa using k8, fun y2 s2 p2 hm => ?_⟩
            · rw [show bs' ++ (bs ++ fl) = (bs' ++ bs) ++ fl by simp]
              exact List.Perm.append_right _ List.perm_append_comm
            · rw [k6 t (by simp [ht]), Env.get_set]
              have : s ≠ t := by
                rintro rfl
                simp [ht] at hus
              simp [this]
            · rw [hx1'.2 ho] at h1
              obtain rfl := Option.some.inj h1
              exact h2
            · cases hb
              refine ⟨hx1'.2 ho, ?_⟩
              have : E'.at_ s [] = (E.set s (.box [])).at_ s [] := by unfold Env.at_; rw [k6 s (by simp)]
              rw [this]
              unfold Env.at_
              rw [Env.get_set]
              simp [PV.sub, PV.isObj]
            · cases hb
              rintro rfl
              have := k9 y' s' p' hmem
              rw [Env.setAt_nil] at this
              unfold Env.at_ at this
              rw [Env.get_set] at this
              simp [PV.sub_dead, PV.isObj] at this
            · rcases List.mem_cons.1 hm with hm | hm
              · cases hm
                exact ho
              · exact wk _ _ (k9 y2 s2 p2 hm)
          · simp at hm
        · simp at hm
      | win s p sw lo hi =>
        have hx1' := hx1.2
        simp only [refOK] at hx1'
        simp only [moves] at hm
        split at hm
        · rename_i sz l hat
          split at hm
          · rename_i hc
            obtain ⟨rfl, rfl⟩ := hc
            simp only [Option.bind_eq_bind, Option.bind_eq_some_iff, Option.pure_def, Option.some.injEq, Prod.mk.injEq, Prod.exists] at hm
            obtain ⟨r', e2, hm', rfl, rfl⟩ := hm
            have ho : (e.at_ s p).isObj = true := by rw [hat]; rfl
            exact slice s p sw l _ _ r' hat (fun U bs hU hR => own_take hR hU (hx1'.2 ho)) (.inl rfl) hm' rfl
          · simp at hm
        · simp at hm
      | nil sz =>
        simp only [moves, Option.bind_eq_bind, Option.bind_eq_some_iff, Option.pure_def, Option.some.injEq, Prod.mk.injEq, Prod.exists] at hm
        obtain ⟨r', e2, hm', rfl, rfl⟩ := hm
        obtain ⟨blk', bs, E', k1, k2, k3, k4, k5, k6, k7, k8, k9⟩ := moves_ok h hw hp hx2 hm'
        exact ⟨blk', bs, E', k1, k2, k3, k4, k5, k6, ⟨[], bs, rfl, ⟨hx1.1, rfl⟩, fun s p hb => (by cases hb), fun s y s' p hb => (by cases hb), k7⟩, by simpa using k8, fun y s p hm => k9 y s p (by simpa using hm)⟩
      | _ =>
        simp only [moves, Option.bind_eq_bind, Option.bind_eq_some_iff, Option.pure_def, Option.some.injEq, Prod.mk.injEq, Prod.exists] at hm
        obtain ⟨r', e2, hm', rfl, rfl⟩ := hm
        exact skip hm' rfl

/-! ### What is lent -/
theorem ro_cut {sz : Nat} {l : List PV} {a : Option Addr} {n cap : Nat} (h : R w I nope (.ro sz l) (.slice a n cap) []) {lo hi cap' : Nat} {a' : Option Addr} (h1 : lo ≤ hi) (h2 : hi ≤ l.length) (h4 : hi - lo ≤ cap')
    (h5 : lo < hi → a' = a.map (·.add (lo * sz))) : R w I nope (.ro sz ((l.take hi).drop lo)) (.slice a' (hi - lo) cap') [] := by
  obtain ⟨_, hs, a0, c0, e, _, hc⟩ := h
  cases e
  have hl : ((l.take hi).drop lo).length = hi - lo := by simp; omega
  refine ⟨rfl, (hs.take hi).drop lo, a', cap', by rw [hl], by omega, ?_⟩
  by_cases he : hi = lo
  · left
    apply List.eq_nil_of_length_eq_zero
    omega
  · right
    rcases hc with rfl | ⟨A, vs, rfl, hA, hb, hr, hcells⟩
    · simp at h2; omega
    · refine ⟨A.add (lo * sz), (vs.take hi).drop lo, h5 (by omega), spot_add _ _ hA, by rw [block_add]; exact hb, (hr.take0 hi).drop0 lo, ?_⟩
      have hsz := SzOk.sizes hs hr
      rw [← flatV_drop (fun v hv => hsz v (List.mem_of_mem_take hv)), ← flatV_take hsz]
      exact (hcells.take _).drop hA _
def isRow : PV → Prop
  | .own _ _ => True
  | .ro _ _ => True
  | _ => False
theorem freezeAll_ok : ∀ {ls : List (Nat × List Nat)} {e : Env} {blk : Nat → List Nat} {I : Nat → Prop}, Inv B e q val w I blk fl → (∀ s p, (s, p) ∈ ls → (e.get s).path p = true ∧ isRow (e.at_ s p)) →
    ∃ blk' I2, Inv B (freezeAll e ls) q val w I2 blk' fl ∧ Weak (freezeAll e ls) e ∧ (∀ b, I b → I2 b) ∧ ∀ s p sz l, (s, p) ∈ ls → e.at_ s p = .own sz l → ∃ U, place val w s p = some U ∧ R w I2 nope (.ro sz l) U []
  | [], e, blk, I, h, _ => ⟨blk, I, h, Weak.refl _, fun _ h => h, fun _ _ _ _ hm => by simp at hm⟩
  | (s, p) :: ls, e, blk, I, h, hp => by
    have hpath := (hp s p (by simp)).1
    -- the rest's paths
    have rest : ∀ y : PV, y.kids = [] → isRow y → ((e.at_ s p).kids = []) → e.at_ s p = e.at_ s p → ∀ s' p', (s', p') ∈ ls → ((e.setAt s p y).get s').path p' = true ∧ isRow ((e.setAt s p y).at_ s' p') := by
      intro y hyk hyr hk _ s' p' hm
      obtain ⟨h1, h2⟩ := hp s' p' (by simp [hm])
      unfold Env.setAt Env.at_
      rw [Env.get_set]
      by_cases hs : s = s'
      · subst hs
        rw [if_pos rfl]
        have key : ∀ (p p' : List Nat) (x : PV), x.path p = true → (x.sub p).kids = [] → x.path p' = true → isRow (x.sub p') → (x.setSub p y).path p' = true ∧ isRow ((x.setSub p y).sub p') := by
          intro p
          induction p with
          | nil =>
            intro p' x _ hk' hp' hr
            have hset : x.setSub [] y = y := by cases x <;> rfl
            rw [hset]
            cases p' with
            | nil => exact ⟨rfl, hyr⟩
            | cons o p' =>
              have hk2 : x.kids = [] := by simpa [PV.sub] using hk'
              simp [PV.path, hk2] at hp'
          | cons o p ih =>
            intro p' x hx hk' hp' hr
            simp only [PV.path] at hx
            cases hkid : x.kids[o]? with
            | none => simp [hkid] at hx
            | some c =>
              simp only [hkid] at hx
              rw [PV.setSub_cons hkid]
              cases p' with
              | nil => cases x <;> simp_all [PV.sub, isRow, PV.kids]
              | cons o' p' =>
                simp only [PV.path, PV.sub, PV.kids_withKid hkid]
                by_cases ho : o = o'
                · subst ho
                  have hlt : o < x.kids.length := (List.getElem?_eq_some_iff.1 hkid).1
                  simp only [List.getElem?_set_self hlt, Option.getD_some]
                  simp only [PV.path, hkid] at hp'
                  simp only [PV.sub, hkid, Option.getD_some] at hr hk'
                  exact ih p' c hx hk' hp' hr
                · simp only [List.getElem?_set_ne ho]
                  exact ⟨by simpa [PV.path] using hp', by simpa [PV.sub] using hr⟩
        exact key p p' (e.get s) hpath hk h1 h2
      · rw [if_neg hs]
        exact ⟨h1, h2⟩
    cases hat : e.at_ s p with
    | own sz l =>
      have ho : (e.at_ s p).isObj = true := by rw [hat]; rfl
      obtain ⟨U, bs, blk1, h1, h2, h3⟩ := h.take ho
      rw [hat] at h2
      have h4 := h3.frozen
      have hpath1 : ((e.setAt s p .dead).get s).path p = true := Env.path_setAt hpath _
      have hro : R w (fun b => I b ∨ b ∈ bs) nope (.ro sz l) U [] := R.frozen (fun b hb => .inl hb) (.own sz l) U bs rfl (fun b hb => .inr hb) h2
      obtain ⟨blk2, h5⟩ := Inv.lay (bs := []) (by simpa using h4) hpath1 h1 hro
      rw [Env.setAt_setAt hpath] at h5
      have hr := rest (.ro sz l) rfl trivial (by rw [hat]; rfl) rfl
      obtain ⟨blk3, I3, k1, k2, k3, k4⟩ := freezeAll_ok (ls := ls) h5 hr
      have wk : Weak (e.setAt s p (.ro sz l)) e := Weak.setAt rfl (by simp [PV.isObj])
      have hfz : freezeAll e ((s, p) :: ls) = freezeAll (e.setAt s p (.ro sz l)) ls := by simp [freezeAll, hat]
      rw [hfz]
      refine ⟨blk3, I3, k1, k2.trans wk, fun b hb => k3 b (.inl hb), fun s' p' sz' l' hm hat' => ?_⟩
      by_cases hsame : s' = s ∧ p' = p
      · obtain ⟨rfl, rfl⟩ := hsame
        rw [hat] at hat'
        cases hat'
        exact ⟨U, h1, R.mono k3 (fun _ _ => rfl) _ nope nope (fun _ _ h => h) _ _ (fun _ _ => rfl) hro⟩
      · have hm' : (s', p') ∈ ls := by
          rcases List.mem_cons.1 hm with hh | hh
          · exact absurd (by simpa using hh) hsame
          · exact hh
        refine k4 s' p' sz' l' hm' ?_
        unfold Env.setAt Env.at_
        rw [Env.get_set]
        by_cases hs : s = s'
        · subst hs
          rw [if_pos rfl]
          have key : ∀ (p p' : List Nat) (x : PV), p' ≠ p → x.path p = true → (x.sub p).kids = [] → x.sub p' = .own sz' l' → (x.setSub p (.ro sz l)).sub p' = .own sz' l' := by
            intro p
            induction p with
            | nil =>
              intro p' x hne _ hk' hx'
              cases p' with
              | nil => exact absurd rfl hne
              | cons o p' =>
                have hk2 : x.kids = [] := by simpa [PV.sub] using hk'
                simp [PV.sub, hk2, PV.sub_dead] at hx'
            | cons o p ih =>
              intro p' x hne hx hk' hx'
              simp only [PV.path] at hx
              cases hkid : x.kids[o]? with
              | none => simp [hkid] at hx
              | some c =>
                simp only [hkid] at hx
                rw [PV.setSub_cons hkid]
                cases p' with
                | nil =>
                  have hxx : x = .own sz' l' := hx'
                  rw [hxx] at hkid
                  simp [PV.kids] at hkid
                | cons o' p' =>
                  simp only [PV.sub, PV.kids_withKid hkid]
                  by_cases ho : o = o'
                  · subst ho
                    have hlt : o < x.kids.length := (List.getElem?_eq_some_iff.1 hkid).1
                    simp only [List.getElem?_set_self hlt, Option.getD_some]
                    simp only [PV.sub, hkid, Option.getD_some] at hx' hk'
                    exact ih p' c (fun hpp => hne (by rw [hpp])) hx hk' hx'
                  · simp only [List.getElem?_set_ne ho]
                    simpa [PV.sub] using hx'
          exact key p p' (e.get s) (fun hpp => hsame ⟨rfl, hpp⟩) hpath (by have : (e.get s).sub p = .own sz l := hat; rw [this]; rfl) hat'
        · rw [if_neg hs]
          exact hat'
    | ro sz l =>
      have hfz : freezeAll e ((s, p) :: ls) = freezeAll e ls := by
        simp only [freezeAll, hat]
      rw [hfz]
      obtain ⟨blk3, I3, k1, k2, k3, k4⟩ := freezeAll_ok (ls := ls) h (fun s' p' hm => hp s' p' (by simp [hm]))
      refine ⟨blk3, I3, k1, k2, k3, fun s' p' sz' l' hm hat' => ?_⟩
      rcases List.mem_cons.1 hm with hh | hh
      · cases hh
        rw [hat] at hat'
        cases hat'
      · exact k4 s' p' sz' l' hh hat'
    | _ =>
      have := (hp s p (by simp)).2
      rw [hat] at this
      exact this.elim

/-- A value that is lent. -/
theorem lend1_ok (_ : Inv B e q val w I blk fl) {x : PV} {V : Value} (hx : R w I (refOK e val w) x V []) {y : PV} {ls : List (Nat × List Nat)} (hl : lend1 e x = some (y, ls)) :
    (∀ s p, (s, p) ∈ ls → (e.get s).path p = true ∧ isRow (e.at_ s p)) ∧ ∀ I2 : Nat → Prop, (∀ b, I b → I2 b) → (∀ s p sz l, (s, p) ∈ ls → e.at_ s p = .own sz l → ∃ U, place val w s p = some U ∧ R w I2 nope (.ro sz l) U []) → R w I2 nope y V [] := by
  have up : ∀ (x : PV) (V : Value) (I2 : Nat → Prop), (∀ b, I b → I2 b) → R w I nope x V [] → R w I2 nope x V [] := fun x V I2 hI hR => R.mono hI (fun _ _ => rfl) _ nope nope (fun _ _ h => h) _ _ (fun _ _ => rfl) hR
  cases x with
  | v x =>
    simp only [lend1, Option.some.injEq, Prod.mk.injEq] at hl
    obtain ⟨rfl, rfl⟩ := hl
    exact ⟨fun _ _ hm => by simp at hm, fun I2 hI _ => up (.v x) V I2 hI hx⟩
  | ro sz l =>
    simp only [lend1, Option.some.injEq, Prod.mk.injEq] at hl
    obtain ⟨rfl, rfl⟩ := hl
    exact ⟨fun _ _ hm => by simp at hm, fun I2 hI _ => up (.ro sz l) V I2 hI hx⟩
  | nil sz =>
    simp only [lend1, Option.some.injEq, Prod.mk.injEq] at hl
    obtain ⟨rfl, rfl⟩ := hl
    exact ⟨fun _ _ hm => by simp at hm, fun I2 hI _ => ⟨rfl, fun x hx => (by cases hx), none, 0, hx.1, Nat.le_refl _, .inl rfl⟩⟩
  | raddr cs =>
    simp only [lend1, Option.some.injEq, Prod.mk.injEq] at hl
    obtain ⟨rfl, rfl⟩ := hl
    exact ⟨fun _ _ hm => by simp at hm, fun I2 hI _ => up (.raddr cs) V I2 hI hx⟩
  | clo f cs =>
    simp only [lend1, Option.some.injEq, Prod.mk.injEq] at hl
    obtain ⟨rfl, rfl⟩ := hl
    exact ⟨fun _ _ hm => by simp at hm, fun I2 hI _ => up (.clo f cs) V I2 hI hx⟩
  | ref s p =>
    have hx2 := hx.2
    simp only [refOK] at hx2
    simp only [lend1] at hl
    split at hl
    · rename_i sz l hat
      simp only [Option.some.injEq, Prod.mk.injEq] at hl
      obtain ⟨rfl, rfl⟩ := hl
      have ho : (e.at_ s p).isObj = true := by rw [hat]; rfl
      refine ⟨fun s' p' hm => ?_, fun I2 hI hk => ?_⟩
      · simp only [List.mem_singleton, Prod.mk.injEq] at hm
        obtain ⟨rfl, rfl⟩ := hm
        exact ⟨PV.path_of_obj p' _ ho, by rw [hat]; trivial⟩
      · obtain ⟨U, h1, h2⟩ := hk s p sz l (by simp) hat
        rw [hx2.2 ho] at h1
        obtain rfl := Option.some.inj h1
        exact h2
    · simp at hl
  | win s p sz lo hi =>
    have hx2 := hx.2
    simp only [refOK] at hx2
    simp only [lend1] at hl
    split at hl
    · rename_i sz' l hat
      split at hl
      · rename_i hc
        subst hc
        simp only [Option.some.injEq, Prod.mk.injEq] at hl
        obtain ⟨rfl, rfl⟩ := hl
        have ho : (e.at_ s p).isObj = true := by rw [hat]; rfl
        refine ⟨fun s' p' hm => ?_, fun I2 hI hk => ?_⟩
        · simp only [List.mem_singleton, Prod.mk.injEq] at hm
          obtain ⟨rfl, rfl⟩ := hm
          exact ⟨PV.path_of_obj p' _ ho, by rw [hat]; trivial⟩
        · obtain ⟨U, h1, h2⟩ := hk s p sz' l (by simp) hat
          obtain ⟨a, n, cap, a', cap', h3, rfl, h4, h5, h6, h7, h8⟩ := hx2.2 ho
          rw [h3] at h1
          obtain rfl := Option.some.inj h1
          have hn : n = l.length := by obtain ⟨_, _, a0, c0, e1, _⟩ := h2; cases e1; rfl
          exact ro_cut h2 h4 (by omega) h7 h8.2
      · simp at hl
    · simp at hl
  | _ => simp [lend1] at hl
theorem lendL_ok (h : Inv B e q val w I blk fl) : ∀ {xs : List PV} {vs : List Value} {ys : List PV} {ls : List (Nat × List Nat)}, Rs w I (refOK e val w) xs vs [] → lendL e xs = some (ys, ls) →
    (∀ s p, (s, p) ∈ ls → (e.get s).path p = true ∧ isRow (e.at_ s p)) ∧ ∀ I2 : Nat → Prop, (∀ b, I b → I2 b) → (∀ s p sz l, (s, p) ∈ ls → e.at_ s p = .own sz l → ∃ U, place val w s p = some U ∧ R w I2 nope (.ro sz l) U []) → Rs w I2 nope ys vs []
  | [], vs, ys, ls, hx, hl => by
    simp only [lendL, Option.some.injEq, Prod.mk.injEq] at hl
    obtain ⟨rfl, rfl⟩ := hl
    exact ⟨fun _ _ hm => by simp at hm, fun _ _ _ => ⟨hx.1, rfl⟩⟩
  | x :: xs, vs, ys, ls, hx, hl => by
    obtain ⟨v, us, b1, b2, rfl, e0, h1, h2⟩ := hx
    obtain ⟨rfl, rfl⟩ : b1 = [] ∧ b2 = [] := by simpa using e0.symm
    simp only [lendL, Option.bind_eq_bind, Option.bind_eq_some_iff, Option.pure_def, Option.some.injEq, Prod.mk.injEq, Prod.exists] at hl
    obtain ⟨y, a, hl1, ys', b, hl2, rfl, rfl⟩ := hl
    obtain ⟨k1, k2⟩ := lend1_ok h h1 hl1
    obtain ⟨k3, k4⟩ := lendL_ok h h2 hl2
    refine ⟨fun s p hm => (List.mem_append.1 hm).elim (k1 s p) (k3 s p), fun I2 hI hk => ⟨v, us, [], [], rfl, rfl, k2 I2 hI fun s p sz l hm => hk s p sz l (by simp [hm]), k4 I2 hI fun s p sz l hm => hk s p sz l (by simp [hm])⟩⟩
theorem lend_ok (h : Inv B e q val w I blk fl) {x : PV} {V : Value} (hx : R w I (refOK e val w) x V []) {y : PV} {ls : List (Nat × List Nat)} (hl : lend e x = some (y, ls)) :
    (∀ s p, (s, p) ∈ ls → (e.get s).path p = true ∧ isRow (e.at_ s p)) ∧ ∀ I2 : Nat → Prop, (∀ b, I b → I2 b) → (∀ s p sz l, (s, p) ∈ ls → e.at_ s p = .own sz l → ∃ U, place val w s p = some U ∧ R w I2 nope (.ro sz l) U []) → R w I2 nope y V [] := by
  unfold lend at hl
  split at hl
  · rename_i cs
    simp only [Option.bind_eq_bind, Option.bind_eq_some_iff, Option.pure_def, Option.some.injEq, Prod.mk.injEq, Prod.exists] at hl
    obtain ⟨ys, b, hl1, rfl, rfl⟩ := hl
    obtain ⟨vs, rfl, hx⟩ := hx
    obtain ⟨k1, k2⟩ := lendL_ok h hx hl1
    exact ⟨k1, fun I2 hI hk => ⟨vs, rfl, k2 I2 hI hk⟩⟩
  · exact lend1_ok h hx hl
/-- The arguments as they are handed in. -/
theorem pass_ok (h : Inv B e q val w I blk fl) : ∀ {ms : List (Option (PV × Option (Nat × List Nat)))} {xs : List PV} {vs : List Value} {bs : List Nat} {ys : List PV} {ls : List (Nat × List Nat)} {bk : List (Option (Nat × List Nat))}, ms.length = xs.length → Rs w I (refOK e val w) xs vs [] → MovedR w I val E ms vs bs → pass e ms xs = some (ys, ls, bk) →
    (∀ s p, (s, p) ∈ ls → (e.get s).path p = true ∧ isRow (e.at_ s p)) ∧ bk = ms.map (fun m => m.bind (·.2)) ∧
    ∀ I2 : Nat → Prop, (∀ b, I b → I2 b) → (∀ s p sz l, (s, p) ∈ ls → e.at_ s p = .own sz l → ∃ U, place val w s p = some U ∧ R w I2 nope (.ro sz l) U []) → Rs w I2 nope ys vs bs
  | [], [], vs, bs, ys, ls, bk, _, hx, hm, hp => by
    simp only [pass, Option.some.injEq, Prod.mk.injEq] at hp
    obtain ⟨rfl, rfl, rfl⟩ := hp
    exact ⟨fun _ _ hm => by simp at hm, rfl, fun _ _ _ => ⟨hx.1, hm⟩⟩
  | some (y, b) :: ms, x :: xs, vs, bs, ys, ls, bk, hlen, hx, hm, hp => by
    obtain ⟨v, us, c1, c2, rfl, e0, h1, h2⟩ := hx
    obtain ⟨rfl, rfl⟩ : c1 = [] ∧ c2 = [] := by simpa using e0.symm
    obtain ⟨b1, b2, rfl, hy, hpl, _, hm⟩ := hm
    simp only [pass, Option.bind_eq_bind, Option.bind_eq_some_iff, Option.pure_def, Option.some.injEq, Prod.mk.injEq, Prod.exists] at hp
    obtain ⟨ys', ls', bk', hp', rfl, rfl, rfl⟩ := hp
    obtain ⟨k1, k2, k3⟩ := pass_ok h (by simpa using hlen) h2 hm hp'
    refine ⟨k1, by simp [k2], fun I2 hI hk => ⟨v, us, b1, b2, rfl, rfl, ?_, k3 I2 hI hk⟩⟩
    exact R.mono hI (fun _ _ => rfl) _ nope nope (fun _ _ h => h) _ _ (fun _ _ => rfl) hy
  | none :: ms, x :: xs, vs, bs, ys, ls, bk, hlen, hx, hm, hp => by
    obtain ⟨v, us, c1, c2, rfl, e0, h1, h2⟩ := hx
    obtain ⟨rfl, rfl⟩ : c1 = [] ∧ c2 = [] := by simpa using e0.symm
    simp only [pass, Option.bind_eq_bind, Option.bind_eq_some_iff, Option.pure_def, Option.some.injEq, Prod.mk.injEq, Prod.exists] at hp
    obtain ⟨y, l1, hl1, ys', ls', bk', hp', rfl, rfl, rfl⟩ := hp
    obtain ⟨k1, k2, k3⟩ := pass_ok h (by simpa using hlen) h2 hm hp'
    obtain ⟨k4, k5⟩ := lend_ok h h1 hl1
    refine ⟨fun s p hm => (List.mem_append.1 hm).elim (k4 s p) (k1 s p), by simp [k2], fun I2 hI hk => ⟨v, us, [], bs, rfl, by simp, k5 I2 hI fun s p sz l hm => hk s p sz l (by simp [hm]), k3 I2 hI fun s p sz l hm => hk s p sz l (by simp [hm])⟩⟩
  | [], _ :: _, _, _, _, _, _, hlen, _, _, _ => by simp at hlen
  | _ :: _, [], _, _, _, _, _, hlen, _, _, _ => by simp at hlen

/-! ### What comes back -/
theorem sub_laid {y : PV} (hy : y.kids = []) : ∀ (p p' : List Nat) (x : PV), ((x.setSub p y).sub p').isObj = true → p' = p ∨ (x.sub p').isObj = true
  | [], p', x, h => by
    have hset : x.setSub [] y = y := by cases x <;> rfl
    rw [hset] at h
    cases p' with
    | nil => exact .inl rfl
    | cons o p' => simp [PV.sub, hy, PV.sub_dead, PV.isObj] at h
  | o :: p, p', x, h => by
    by_cases hkid : ∃ c, x.kids[o]? = some c
    · obtain ⟨c, hkid⟩ := hkid
      rw [PV.setSub_cons hkid] at h
      cases p' with
      | nil => right; simpa [PV.sub, PV.isObj_withKid] using h
      | cons o' p' =>
        simp only [PV.sub, PV.kids_withKid hkid] at h ⊢
        by_cases ho : o = o'
        · subst ho
          have hlt : o < x.kids.length := (List.getElem?_eq_some_iff.1 hkid).1
          simp only [List.getElem?_set_self hlt, Option.getD_some] at h
          rcases sub_laid hy p p' c h with h1 | h1
          · exact .inl (by rw [h1])
          · right; simpa [hkid] using h1
        · simp only [List.getElem?_set_ne ho] at h
          exact .inr h
    · have hn : x.kids[o]? = none := by
        cases hk : x.kids[o]? with
        | none => rfl
        | some c => exact absurd ⟨c, hk⟩ hkid
      right
      have hlen : x.kids.length ≤ o := List.getElem?_eq_none_iff.1 hn
      have : x.setSub (o :: p) y = x := by
        cases x <;> simp only [PV.kids] at hlen <;> simp [PV.setSub, List.set_eq_of_length_le, hlen]
      rwa [this] at h
mutual
theorem R.close : ∀ (x : PV) (V : Value) (c b : List Nat) (f : PV → Value → Prop), R w I nope x V c → R w I f x V b → R w I nope x V b
  | .v _, _, _, _, _, _, h => h
  | .agg cs, V, c, b, f, hc, h => by
    obtain ⟨vs, e, h⟩ := h
    obtain ⟨vs', e', hc⟩ := hc
    have : vs = vs' := by
      rw [e] at e'
      simpa using e'
    subst this
    exact ⟨vs, e, Rs.close cs vs c b f hc h⟩
  | .tup cs, V, c, b, f, hc, h => by
    obtain ⟨vs, e, h⟩ := h
    obtain ⟨vs', e', hc⟩ := hc
    have : vs = vs' := by
      rw [e] at e'
      simpa using e'
    subst this
    exact ⟨vs, e, Rs.close cs vs c b f hc h⟩
  | .ro _ _, _, _, _, _, _, h => h
  | .own _ _, _, _, _, _, _, h => h
  | .box _, _, _, _, _, _, h => h
  | .ref _ _, _, _, _, _, hc, _ => hc.2.elim
  | .win _ _ _ _ _, _, _, _, _, hc, _ => hc.2.elim
  | .addr _ _, _, _, _, _, hc, _ => hc.2.elim
  | .eaddr _ _ _ _ _, _, _, _, _, hc, _ => hc.2.elim
  | .raddr _, _, _, _, _, _, h => h
  | .clo _ _, _, _, _, _, _, h => h
  | .nil _, _, _, _, _, _, h => h
  | .dead, _, _, _, _, _, h => h
  | .iter _ _, _, _, _, _, _, h => h
  | .bld _ _ _, _, _, _, _, _, h => h
  | .mapc _ _, _, _, _, _, _, h => h
  | .pan _, _, _, _, _, _, h => h
  | .selfp, _, _, _, _, _, h => h
theorem Rs.close : ∀ (l : List PV) (vs : List Value) (c b : List Nat) (f : PV → Value → Prop), Rs w I nope l vs c → Rs w I f l vs b → Rs w I nope l vs b
  | [], _, _, _, _, _, h => h
  | x :: r, vs, c, b, f, hc, h => by
    obtain ⟨v, us, b1, b2, rfl, rfl, h1, h2⟩ := h
    obtain ⟨v', us', c1, c2, e, rfl, h3, h4⟩ := hc
    obtain ⟨rfl, rfl⟩ := List.cons.inj e
    exact ⟨v, us, b1, b2, rfl, rfl, R.close x v c1 b1 f h3 h1, Rs.close r us c2 b2 f h4 h2⟩
end
theorem giveBack1_ok {bs : List Nat} (h : Inv B e (refOK E val w) val w I blk (bs ++ fl)) (hw : Weak e E) {s : Nat} {p : List Nat} {v : Value} (hp : place val w s p = some v) (ho : (E.at_ s p).isObj = true) {y : PV} (hy : R w I nope y v bs) :
    ∃ blk' E', Inv B (giveBack1 e s p y) (refOK E' val w) val w I blk' fl ∧ Weak (giveBack1 e s p y) E' ∧ ∀ s' p', (p = [] → s' ≠ s) → (E.at_ s' p').isObj = true → (E'.at_ s' p').isObj = true := by
  cases p with
  | nil =>
    obtain ⟨blk1, h1, k1, _⟩ := h.kill s fun p => !p.isEmpty
    have hlay := Inv.lay (p := []) h1 rfl hp hy
    rw [Env.setAt_nil] at hlay
    obtain ⟨blk2, h2⟩ := hlay
    refine ⟨blk2, E.set s y, { h2 with rel := fun t => ?_ }, ?_, ?_⟩
    · have hr := h2.rel t
      simp only [giveBack1]
      rw [Env.get_set] at hr ⊢
      by_cases hs : s = t
      · subst hs
        rw [if_pos rfl] at hr ⊢
        have hv : val s = v := Option.some.inj hp
        have := h2.rel s
        rw [Env.get_set, if_pos rfl] at this
        -- what is laid speaks of no place
        have hcl : ∀ b, R w I (refOK E val w) y v b → R w I (refOK (E.set s y) val w) y v b := by
          intro b hb
          exact (R.close y v bs b _ hy hb).ofNope
        rw [hv] at hr ⊢
        exact hcl _ hr
      · rw [if_neg hs] at hr ⊢
        refine R.congr (s := s) (t := fun p => !p.isEmpty) ?_ _ _ _ ?_ hr
        · intro x V hm k
          cases x <;> simp only [refOK, PV.ment] at k hm ⊢
          · rename_i s' p'
            refine ⟨k.1, fun o => k.2 ?_⟩
            unfold Env.at_ at o ⊢
            rw [Env.get_set] at o
            by_cases hss : s = s'
            · subst hss
              have : p' = [] := by simpa using hm
              subst this
              exact ho
            · rwa [if_neg hss] at o
          · rename_i s' p' sz lo hi
            refine ⟨k.1, fun o => k.2 ?_⟩
            unfold Env.at_ at o ⊢
            rw [Env.get_set] at o
            by_cases hss : s = s'
            · subst hss
              have : p' = [] := by simpa using hm
              subst this
              exact ho
            · rwa [if_neg hss] at o
          · rename_i s' o'
            refine ⟨k.1, fun o => k.2 ?_⟩
            rw [Env.get_set] at o
            by_cases hss : s = s'
            · subst hss
              exact ho
            · rwa [if_neg hss] at o
          · rename_i s' p' sz i j
            refine ⟨k.1, fun o => k.2 ?_⟩
            unfold Env.at_ at o ⊢
            rw [Env.get_set] at o
            by_cases hss : s = s'
            · subst hss
              have : p' = [] := by simpa using hm
              subst this
              exact ho
            · rwa [if_neg hss] at o
        · rw [Env.get_kill]
          by_cases hm : PV.ment s (fun p => !p.isEmpty) (e.get t) = true
          · simp [hm, PV.ment]
          · simp [hm]
    · intro s' p' o
      simp only [giveBack1] at o
      unfold Env.at_ at o ⊢
      rw [Env.get_set] at o ⊢
      by_cases hs : s = s'
      · rwa [if_pos hs] at o ⊢
      · rw [if_neg hs] at o ⊢
        exact hw s' p' (k1 s' p' o)
    · intro s' p' hc o
      unfold Env.at_
      rw [Env.get_set, if_neg (Ne.symm (hc rfl))]
      exact o
  | cons o p =>
    simp only [giveBack1]
    split
    · rename_i hc
      simp only [Bool.and_eq_true, List.isEmpty_iff] at hc
      obtain ⟨blk2, h2⟩ := Inv.lay h hc.1 hp hy
      refine ⟨blk2, E, h2, ?_, fun s' p' _ o => o⟩
      intro s' p' ho'
      unfold Env.setAt Env.at_ at ho'
      rw [Env.get_set] at ho'
      by_cases hs : s = s'
      · subst hs
        rw [if_pos rfl] at ho'
        rcases sub_laid hc.2 _ _ _ ho' with h3 | h3
        · rw [h3]; exact ho
        · exact hw s p' h3
      · rw [if_neg hs] at ho'
        exact hw s' p' ho'
    · exact ⟨blk, E, h.fl_drop (List.sublist_append_right _ _), hw, fun s' p' _ o => o⟩

theorem giveBack_ok {w0 : World} {I0 : Nat → Prop} {E0 : Env} : ∀ {ms : List (Option (PV × Option (Nat × List Nat)))} {vs : List Value} {bs0 : List Nat} {ys : List PV} {bs : List Nat} {e E : Env} {blk : Nat → List Nat},
    Inv B e (refOK E val w) val w I blk (bs ++ fl) → Weak e E → MovedR w0 I0 val E0 ms vs bs0 → (∀ y s p, some (y, some (s, p)) ∈ ms → (E.at_ s p).isObj = true ∧ place val w s p = place val w0 s p) → Rs w I nope ys vs bs →
    ∃ blk' E', Inv B (giveBack e (ms.map fun m => m.bind (·.2)) ys) (refOK E' val w) val w I blk' fl ∧ Weak (giveBack e (ms.map fun m => m.bind (·.2)) ys) E'
  | [], vs, bs0, ys, bs, e, E, blk, h, hw, hm, hp, hy => ⟨blk, E, by simpa [giveBack] using h.fl_drop (List.sublist_append_right bs fl), by simpa [giveBack] using hw⟩
  | m :: ms, vs, bs0, [], bs, e, E, blk, h, hw, hm, hp, hy => by
    refine ⟨blk, E, ?_, ?_⟩
    · have : giveBack e ((m :: ms).map fun m => m.bind (·.2)) [] = e := by
        cases hmb : m.bind (·.2) with
        | none => simp [giveBack, hmb]
        | some sp => obtain ⟨s, p⟩ := sp; simp [giveBack, hmb]
      rw [this]
      exact h.fl_drop (List.sublist_append_right bs fl)
    · have : giveBack e ((m :: ms).map fun m => m.bind (·.2)) [] = e := by
        cases hmb : m.bind (·.2) with
        | none => simp [giveBack, hmb]
        | some sp => obtain ⟨s, p⟩ := sp; simp [giveBack, hmb]
      rw [this]
      exact hw
  | none :: ms, [], bs0, y :: ys, bs, e, E, blk, h, hw, hm, hp, hy => hm.elim
  | some _ :: ms, [], bs0, y :: ys, bs, e, E, blk, h, hw, hm, hp, hy => hm.elim
  | none :: ms, v :: vs, bs0, y :: ys, bs, e, E, blk, h, hw, hm, hp, hy => by
    obtain ⟨v', us, b1, b2, ev, rfl, h1, h2⟩ := hy
    obtain ⟨rfl, rfl⟩ := List.cons.inj ev
    have hb : Inv B e (refOK E val w) val w I blk (b2 ++ fl) := h.fl_drop (by rw [List.append_assoc]; exact List.sublist_append_right _ _)
    simp only [List.map_cons, Option.bind_none, giveBack]
    exact giveBack_ok hb hw hm (fun y s p hmem => hp y s p (by simp [hmem])) h2
  | some (z, bk) :: ms, v :: vs, bs0, y :: ys, bs, e, E, blk, h, hw, hm, hp, hy => by
    obtain ⟨v', us, b1, b2, ev, rfl, h1, h2⟩ := hy
    obtain ⟨rfl, rfl⟩ := List.cons.inj ev
    obtain ⟨c1, c2, _, _, hpl, hd, hm'⟩ := hm
    cases bk with
    | none =>
      have hb : Inv B e (refOK E val w) val w I blk (b2 ++ fl) := h.fl_drop (by rw [List.append_assoc]; exact List.sublist_append_right _ _)
      simp only [List.map_cons, Option.bind_some, giveBack]
      exact giveBack_ok hb hw hm' (fun y s p hmem => hp y s p (by simp [hmem])) h2
    | some sp =>
      obtain ⟨s, p⟩ := sp
      simp only [List.map_cons, Option.bind_some, giveBack]
      obtain ⟨o1, o2⟩ := hp z s p (by simp)
      obtain ⟨blk1, E1, k1, k2, k3⟩ := giveBack1_ok (fl := b2 ++ fl) (by simpa using h) hw (o2.trans (hpl s p rfl).1) o1 h1
      exact giveBack_ok k1 k2 hm' (fun y' s' p' hmem => by
        obtain ⟨o3, o4⟩ := hp y' s' p' (by simp [hmem])
        refine ⟨k3 s' p' (fun hp0 => ?_) o3, o4⟩
        subst hp0
        exact hd s y' s' p' rfl hmem) h2
end
end Go.AM

/- Calls, joined: the operation. No conditions. -/
namespace Go.AM
open Go

section
variable {P : Program} {B : Base} {T : Tab} {C : Oracle} {e e' E : Env} {w w' : World} {I I' : Nat → Prop} {blk : Nat → List Nat} {fl : List Nat} {val : Nat → Value} {q : PV → Value → Prop}

mutual
theorem R.noRo : ∀ (q : PV → Value → Prop) (x : PV) (V : Value) (bs : List Nat), x.noRo = true → R w I q x V bs → R w I' q x V bs
  | q, .v _, _, _, _, h => h
  | q, .agg cs, V, bs, n, h => by
    obtain ⟨vs, e, h⟩ := h
    exact ⟨vs, e, Rs.noRo q cs vs bs n h⟩
  | q, .tup cs, V, bs, n, h => by
    obtain ⟨vs, e, h⟩ := h
    exact ⟨vs, e, Rs.noRo q cs vs bs n h⟩
  | q, .ro sz l, V, bs, n, h => by
    obtain ⟨e0, hs, a, cap, e, hc, h⟩ := h
    exact ⟨e0, hs, a, cap, e, hc, .inl (by simpa [PV.noRo] using n)⟩
  | q, .own sz l, V, bs, n, h => by
    obtain ⟨hs, h⟩ := h
    refine ⟨hs, ?_⟩
    rcases h with h | ⟨g, vs, rfl, h1, h2⟩
    · exact .inl h
    · exact .inr ⟨g, vs, rfl, Rs.noRo _ l vs [] n h1, h2⟩
  | q, .box cs, V, bs, n, h => by
    obtain ⟨g, us, bs', rfl, h1, h2⟩ := h
    exact ⟨g, us, bs', rfl, Rs.noRo _ cs us bs' n h1, h2⟩
  | q, .ref _ _, _, _, n, _ => by simp [PV.noRo] at n
  | q, .win _ _ _ _ _, _, _, n, _ => by simp [PV.noRo] at n
  | q, .addr _ _, _, _, n, _ => by simp [PV.noRo] at n
  | q, .eaddr _ _ _ _ _, _, _, n, _ => by simp [PV.noRo] at n
  | q, .raddr _, _, _, n, _ => by simp [PV.noRo] at n
  | q, .clo _ _, _, _, n, _ => by simp [PV.noRo] at n
  | q, .nil _, _, _, _, h => h
  | q, .dead, _, _, _, h => h
  | q, .iter _ _, _, _, n, _ => by simp [PV.noRo] at n
  | q, .selfp, _, _, _, h => h
  | q, .bld _ _ _, _, _, _, h => h
  | q, .mapc _ _, _, _, _, h => h
  | q, .pan _, _, _, n, _ => by simp [PV.noRo] at n
theorem Rs.noRo : ∀ (q : PV → Value → Prop) (l : List PV) (vs : List Value) (bs : List Nat), PV.noRoL l = true → Rs w I q l vs bs → Rs w I' q l vs bs
  | q, [], _, _, _, h => h
  | q, x :: r, vs, bs, n, h => by
    simp only [PV.noRoL, Bool.and_eq_true] at n
    obtain ⟨v, us, b1, b2, e1, e2, h1, h2⟩ := h
    exact ⟨v, us, b1, b2, e1, e2, R.noRo q x v b1 n.1 h1, Rs.noRo q r us b2 n.2 h2⟩
end

/-- The world behind a call: what was handed over is gone, what came back floats. -/
theorem Inv.after {bs c : List Nat} (h : Inv B e q val w I blk bs) (hos : w'.os = w.os) (htape : w'.tape = w.tape) (hout : w'.output = w.output) (hsize : w.heap.size ≤ w'.heap.size) (hsame : ∀ b, b < w.heap.size → b ∉ bs → w'.heap[b]? = w.heap[b]?)
    (hI1 : ∀ b, I b → I' b) (hI2 : ∀ b, I' b → I b ∨ b ∈ bs ∨ w.heap.size ≤ b) (hI3 : ∀ b, I' b → b < w'.heap.size) (hnd : c.Nodup) (hc : ∀ b, b ∈ c → ¬ I' b ∧ (b ∈ bs ∨ w.heap.size ≤ b) ∧ b < w'.heap.size) : Inv B e q val w' I' blk c := by
  have sI : ∀ b, I b → w'.heap[b]? = w.heap[b]? := fun b hb => hsame b (h.ltI b hb) fun hf => h.notIf b hf hb
  refine { nd := h.nd, ndf := hnd, dj := h.dj, keepI := fun b hb => hI1 b (h.keepI b hb), own := h.own, rel := ?_, djf := ?_, notI := ?_, notIf := fun b hb => (hc b hb).1, ltI := hI3, ltf := fun b hb => (hc b hb).2.2, newI := ?_, ownf := ?_, os := hos.trans h.os, tape := htape.trans h.tape, output := hout.trans h.output, size := Nat.le_trans h.size hsize, same := ?_, glob := ?_ }
  · exact fun s => R.mono hI1 sI _ q q (fun _ _ h => h) _ _ (fun b hb => hsame b (h.lt s b hb) (h.djf s b hb)) (h.rel s)
  · intro s b hb hf
    rcases (hc b hf).2.1 with h1 | h1
    · exact h.djf s b hb h1
    · have := h.lt s b hb; omega
  · intro s b hb hI
    rcases hI2 b hI with h1 | h1 | h1
    · exact h.notI s b hb h1
    · exact h.djf s b hb h1
    · have := h.lt s b hb; omega
  · intro b hb
    rcases hI2 b hb with h1 | h1 | h1
    · exact h.newI b h1
    · exact .inr (h.ownf b h1)
    · exact .inr (.inr (Nat.le_trans h.size h1))
  · intro b hb
    rcases (hc b hb).2.1 with h1 | h1
    · exact h.ownf b h1
    · exact .inr (Nat.le_trans h.size h1)
  · intro b hb hS
    rw [hsame b (Nat.lt_of_lt_of_le hb h.size) fun hf => ?_]
    · exact h.same b hb hS
    · rcases h.ownf b hf with h1 | h1
      · exact hS h1
      · omega
  · exact fun n hn => R.mono hI1 sI _ nope nope (fun _ _ h => h) _ _ (by simp) (h.glob n hn)
theorem Inv.told {e0 : Env} {w0 : World} (h : Inv B e (refOK e0 val w0) val w I blk fl) (hw : Weak E e0) (hp : ∀ s p, (E.at_ s p).isObj = true → place val w s p = place val w0 s p) : Inv B e (refOK E val w) val w I blk fl := by
  refine { h with rel := fun s => R.mono (fun _ h => h) (fun _ _ => rfl) _ _ _ ?_ _ _ (fun _ _ => rfl) (h.rel s) }
  intro x V k
  cases x <;> simp only [AM.refOK] at k ⊢
  · exact ⟨k.1, fun o => (hp _ _ o).trans (k.2 (hw _ _ o))⟩
  · refine ⟨k.1, fun o => ?_⟩
    rw [hp _ _ o]
    exact k.2 (hw _ _ o)
  · exact ⟨k.1, fun o => k.2 (hw _ [] o)⟩
  · refine ⟨k.1, fun o => ?_⟩
    rw [hp _ _ o]
    exact k.2 (hw _ _ o)
theorem MovedR.obj : ∀ {ms : List (Option (PV × Option (Nat × List Nat)))} {vs : List Value} {bs : List Nat}, MovedR w I val E ms vs bs → ∀ y s p, some (y, some (s, p)) ∈ ms → (E.at_ s p).isObj = true
  | [], _, _, _, _, _, _, hm => by simp at hm
  | none :: ms, v :: vs, bs, h, y, s, p, hm => MovedR.obj (ms := ms) (vs := vs) h y s p (by simpa using hm)
  | some (z, b) :: ms, v :: vs, bs, h, y, s, p, hm => by
    obtain ⟨b1, b2, _, _, h3, _, h4⟩ := h
    rcases List.mem_cons.1 hm with hm | hm
    · cases hm
      exact (h3 s p rfl).2
    · exact MovedR.obj h4 y s p hm
  | none :: _, [], _, h, _, _, _, _ => h.elim
  | some _ :: _, [], _, h, _, _, _, _ => h.elim
theorem MovedR.none_nil : ∀ {ms : List (Option (PV × Option (Nat × List Nat)))} {vs : List Value} {bs : List Nat}, MovedR w I val E ms vs bs → ms.all Option.isNone = true → bs = []
  | [], _, _, h, _ => h
  | none :: ms, v :: vs, bs, h, k => MovedR.none_nil (ms := ms) (vs := vs) h (by simpa using k)
  | some (z, b) :: ms, _, _, _, k => by simp at k
  | none :: _, [], _, h, _ => h.elim

theorem head_blk (h : Inv B e q val w I blk []) {s g : Nat} (ho : (e.get s).isObj = true) (hg : headV (val s) = some g) : g ∈ blk s := by
  have hR := h.rel s
  cases he : e.get s <;> rw [he] at ho hR <;> simp [PV.isObj] at ho
  · rcases hR.2 with ⟨hv, _, _⟩ | ⟨g', vs, hb, _, cap, cur, t, fr, hv, _⟩
    · rw [hv] at hg; simp [headV] at hg
    · rw [hv] at hg
      simp only [headV, Option.some.injEq] at hg
      rw [hb, ← hg]
      simp
  · obtain ⟨g', us, bs', hb, _, cur, t, fr, hv, _⟩ := hR
    rw [hv] at hg
    simp only [headV, Option.some.injEq] at hg
    rw [hb, ← hg]
    simp
  · obtain ⟨g', hb, hv, _⟩ := hR
    rw [hv] at hg
    simp only [headV, Option.some.injEq] at hg
    rw [hb, ← hg]
    simp
  · obtain ⟨b, p, v, hv, hb, _⟩ := hR
    rw [hv] at hg
    simp only [headV, Option.some.injEq] at hg
    rw [hb, ← hg]
    simp
  · obtain ⟨g', hb, hv, _⟩ := hR
    rw [hv] at hg
    simp only [headV, reduceCtorEq] at hg
theorem MovedR.heads {s : Nat} : ∀ {r : List (Option (PV × Option (Nat × List Nat)))} {vs : List Value} {bs : List Nat}, MovedR w I val E r vs bs → keepsS s r = true → ∀ b ∈ bs, ∃ t, t ≠ s ∧ headV (val t) = some b ∧ (E.at_ t []).isObj = true
  | [], vs, bs, h, _, b, hb => by
    simp only [MovedR] at h
    rw [h] at hb
    simp at hb
  | none :: r, [], bs, h, _, b, hb => h.elim
  | none :: r, v :: vs, bs, h, hk, b, hb => by
    simp only [keepsS, List.all_cons, Bool.true_and] at hk
    exact MovedR.heads (r := r) h hk b hb
  | some (y, bk) :: r, [], bs, h, _, b, hb => h.elim
  | some (y, bk) :: r, v :: vs, bs, h, hk, b, hb => by
    obtain ⟨b1, b2, rfl, h1, h2, h3, h4⟩ := h
    simp only [keepsS, List.all_cons, Bool.and_eq_true] at hk
    obtain ⟨hk1, hk2⟩ := hk
    rcases List.mem_append.1 hb with hb | hb
    · split at hk1
      · rename_i heq; cases heq
      · rename_i sz heq
        cases heq
        rw [h1.2] at hb
        simp at hb
      · rename_i cs t heq
        cases heq
        simp only [Bool.and_eq_true, Bool.not_eq_true', bne_iff_ne, ne_eq] at hk1
        obtain ⟨g, us, bs', rfl, hr, cur, tt, fr, rfl, _⟩ := h1
        have hnil := Rs.noObj_nil cs us bs' hk1.1 hr
        rw [hnil] at hb
        obtain rfl : b = g := by simpa using hb
        obtain ⟨k1, k2⟩ := h2 t [] rfl
        refine ⟨t, hk1.2, ?_, k2⟩
        simp only [place, walk, Option.some.injEq] at k1
        rw [k1]
        rfl
      · cases hk1
    · exact MovedR.heads h4 hk2 b hb
theorem callR_ok (hC : CallOK P B.glob C) (h : Inv B e (refOK e val w) val w I blk []) {f : FuncId} {xs : List PV} {vs : List Value} (hx : Rs w I (refOK e val w) xs vs []) {y : PV} (hcall : callR T C e f xs = some (y, e')) :
    Calls P f vs.toArray w fun en w' => ∃ V, en = ends y V ∧ Yields B val e' y V w' ∧ (∀ s, ((moves e [] (T.modes f) xs).map fun r => keepsS s r.1) = some true → ∀ b, b ∈ blk s → w'.heap[b]? = w.heap[b]?) := by
  unfold callR at hcall
  simp only [Option.bind_eq_bind, Option.bind_eq_some_iff, Option.pure_def, Option.some.injEq, Prod.mk.injEq, Prod.exists] at hcall
  obtain ⟨ms, e1, hmv, ys, lent, bk, hps, res, backs, hres, rfl, rfl⟩ := hcall
  obtain ⟨blk1, bs, E1, k1, k2, k3, k4, k5, _, k7, k8, _⟩ := moves_ok h (Weak.refl e) (fun s p ho => PV.path_of_obj p _ ho) hx hmv
  have k1' : Inv B e1 (refOK e val w) val w I blk1 bs := by simpa using k1
  obtain ⟨p1, p2, p3⟩ := pass_ok (E := E1) k1' k8 (k2.Rs hx) k7 hps
  obtain ⟨blk2, I2, f1, f2, f3, f4⟩ := freezeAll_ok k1' p1
  have hys := p3 I2 f3 f4
  refine (hC f ys res backs hres w I2 vs bs f1.ltI f1.ndf (fun b hb => f1.notIf b hb) f1.glob hys).mono ?_
  rintro en w' ⟨V, rfl, I3, b1, b2, i1, i2, i3, hos, htape, hout, hsize, hsame, hR, hbacks, hnd, hfl⟩
  refine ⟨V, rfl, ?_, fun s hn b hb => ?_⟩
  · -- the places are as they were
    have hpl : ∀ s p, (E1.at_ s p).isObj = true → place val w' s p = place val w s p := fun s p ho => place_same k1' hsame (k5 s p ho)
    have hmem : ∀ y s p, some (y, some (s, p)) ∈ ms → (E1.at_ s p).isObj = true ∧ place val w' s p = place val w s p := fun y s p hm => ⟨MovedR.obj k7 y s p hm, hpl s p (MovedR.obj k7 y s p hm)⟩
    have hltR := R.lt _ _ _ _ hR
    have hltB := Rs.lt _ _ _ _ hbacks
    have hlt : ∀ b, b ∈ b1 ++ b2 → b < w'.heap.size := fun b hb => (List.mem_append.1 hb).elim (hltR b) (hltB b)
    rw [p2]
    split
    · rename_i hc
      simp only [Bool.or_eq_true, Bool.and_eq_true, List.isEmpty_iff] at hc
      rcases hc with rfl | ⟨n1, n2⟩
      · -- nothing is lent
        have g1 : Inv B e1 (refOK E1 val w') val w' I3 blk2 (b2 ++ b1) := by
          have hf : freezeAll e1 [] = e1 := rfl
          rw [hf] at f1
          exact ((f1.after hos htape hout hsize hsame i1 i2 i3 hnd fun b hb => ⟨(hfl b hb).1, (hfl b hb).2, hlt b hb⟩).told k3 hpl).fl_perm List.perm_append_comm
        obtain ⟨blk3, E2, g2, g3⟩ := giveBack_ok g1 k4 k7 hmem hbacks
        exact ⟨I3, blk3, b1, g2.weaken g3, .inl hR⟩
      · have g1 : Inv B e1 (refOK E1 val w') val w' I blk1 (b2 ++ b1) :=
          ((k1'.after hos htape hout hsize hsame (fun _ h => h) (fun b hb => .inl hb) (fun b hb => Nat.lt_of_lt_of_le (k1'.ltI b hb) hsize) hnd fun b hb => ⟨fun hI => (hfl b hb).1 (i1 b (f3 b hI)), (hfl b hb).2, hlt b hb⟩).told k3 hpl).fl_perm List.perm_append_comm
        obtain ⟨blk3, E2, g2, g3⟩ := giveBack_ok g1 k4 k7 hmem (Rs.noRo _ _ _ _ n2 hbacks)
        exact ⟨I, blk3, b1, g2.weaken g3, .inl (R.noRo _ _ _ _ n1 hR)⟩
    · have g1 : Inv B (freezeAll e1 lent) (refOK E1 val w') val w' I3 blk2 (b2 ++ b1) :=
        ((f1.after hos htape hout hsize hsame i1 i2 i3 hnd fun b hb => ⟨(hfl b hb).1, (hfl b hb).2, hlt b hb⟩).told k3 hpl).fl_perm List.perm_append_comm
      obtain ⟨blk3, E2, g2, g3⟩ := giveBack_ok g1 (f2.trans k4) k7 hmem hbacks
      exact ⟨I3, blk3, b1, g2.weaken g3, .inl hR⟩
  · rw [hmv] at hn
    simp only [Option.map_some, Option.some.injEq] at hn
    refine hsame b (h.lt s b hb) fun hm => ?_
    obtain ⟨t, ht1, ht2, ht3⟩ := MovedR.heads k7 hn b hm
    have ho := k3 t [] ht3
    exact h.dj t s ht1 b (head_blk h ho ht2) hb
theorem call_some {f : FuncId} {xs : List PV} {r : PV × Env} (h : call T C e f xs = some r) : callR T C e f xs = some r ∧ r.1.isPan = false := by
  unfold call at h
  simp only [Option.bind_eq_some_iff] at h
  obtain ⟨q, h1, h2⟩ := h
  split at h2
  · cases h2
  · rename_i hp
    cases h2
    exact ⟨h1, by simpa using hp⟩
theorem call_ok (hC : CallOK P B.glob C) (h : Inv B e (refOK e val w) val w I blk []) {f : FuncId} {xs : List PV} {vs : List Value} (hx : Rs w I (refOK e val w) xs vs []) {y : PV} (hcall : call T C e f xs = some (y, e')) :
    Calls P f vs.toArray w fun en w' => ∃ V, en = .returned V ∧ Yields B val e' y V w' ∧ (∀ s, ((moves e [] (T.modes f) xs).map fun r => keepsS s r.1) = some true → ∀ b, b ∈ blk s → w'.heap[b]? = w.heap[b]?) := by
  obtain ⟨h1, h2⟩ := call_some hcall
  refine (callR_ok hC h hx h1).mono fun en w' ⟨V, he, k⟩ => ⟨V, ?_, k⟩
  rw [he, ends_ret h2]
end
end Go.AM

/- Every operation: what the real machine does is what the abstract one says. No conditions. -/
namespace Go.AM
open Go

/-- A function with a body. -/
def Enters (P : Program) (f : FuncId) : Prop := ∃ fn c, P.funcs[f]? = some fn ∧ (fn.name == "runtime.NumGoroutine") = false ∧ fn.body = some c
theorem Enters.run {P : Program} {f : FuncId} (h : Enters P f) (args : Array Value) (w : World) : (callFunc f args).run P w = .ok (.enter f args) w := by
  obtain ⟨fn, c, h1, h2, h3⟩ := h
  have h4 : fn.name ≠ "runtime.NumGoroutine" := by simpa using h2
  simp [callFunc, h1, h4, h3]
/-- A function that the model answers itself. -/
def ExtK.entry : ExtK → (Array Value → Sem Value) → Prop
  | .add64, en => en = add64Entry
  | .idxByteStr, en => en = Extern.BytealgIndexByte.indexByte
  | .fromBits, en => en = Extern.MathFloatBits.float64frombits
  | .toBits, en => en = Extern.MathFloatBits.float64bits
def Extn (P : Program) (f : FuncId) (k : ExtK) : Prop := ∃ fn en, P.funcs[f]? = some fn ∧ (fn.name == "runtime.NumGoroutine") = false ∧ fn.body.isNone = true ∧ Extern.findNext fn = none ∧ Extern.find fn = some en ∧ k.entry en
/-- What the program's types must say for an operation. -/
def IOp.ok (P : Program) (G : Nat → List PV) : IOp → Prop
  | .move x | .assign x | .box _ x | .nilck x | .un _ _ x | .extr x _ => x.ok G
  | .pick c a b => c.ok G ∧ a.ok G ∧ b.ok G
  | .alloc t zero => ∃ i z, P.info? t = some i ∧ i.zero = some z ∧ zaL zero = some z.cells.toList
  | .build t pl zero parts => (∀ p ∈ parts, p.2.ok G) ∧ BuildOK P t pl zero
  | .lit t sz parts => (∀ p ∈ parts, p.ok G) ∧ ∃ el ie z, P.underlying t = some (.slice el) ∧ P.info? el = some ie ∧ ie.zero = some z ∧ ie.size = sz ∧ 0 < sz ∧ parts.length * sz ≤ 2 ^ 24
  | .load t n a => a.ok G ∧ LoadOK P t n
  | .store t n a x => a.ok G ∧ x.ok G ∧ LoadOK P t n
  | .bin _ _ x y _ => x.ok G ∧ y.ok G
  | .eqs _ xt ks x y _ => x.ok G ∧ y.ok G ∧ EqOK P xt ks
  | .conv src dst k x => x.ok G ∧ ConvOK P src dst k
  | .mk t sz bytes zero l c => l.ok G ∧ c.ok G ∧ ∃ el ie z, P.underlying t = some (.slice el) ∧ P.info? el = some ie ∧ ie.zero = some z ∧ ie.size = sz ∧ ie.bytes = bytes ∧ ZeroV zero z
  | .slice t k x lo hi mx => x.ok G ∧ (∀ z ∈ lo, z.ok G) ∧ (∀ z ∈ hi, z.ok G) ∧ (∀ z ∈ mx, z.ok G) ∧ match k with
    | .str => P.underlying t = some .string ∧ mx = none
    | .sl sz => ∃ el ti, P.underlying t = some (.slice el) ∧ P.info? el = some ti ∧ ti.size = sz
    | .arr _ => True
  | .faddr t x f off => x.ok G ∧ ∃ (fs : Array Field) (fd : Field) (ti : TypeInfo), P.underlying t = some (.struct fs) ∧ fs[f]? = some fd ∧ fd.offset = off ∧ P.info? fd.type = some ti ∧ ti.size ≠ 0
  | .field t x f off n => x.ok G ∧ ∃ (fs : Array Field) (fd : Field), P.underlying t = some (.struct fs) ∧ fs[f]? = some fd ∧ fd.offset = off ∧ LoadOK P fd.type n
  | .iaddr t k x i => x.ok G ∧ i.ok G ∧ match k with
    | .sl sz => ∃ el ti, P.underlying t = some (.slice el) ∧ P.info? el = some ti ∧ ti.size = sz
    | .arr n sz => ∃ el ti, P.underlying t = some (.array n el) ∧ P.info? el = some ti ∧ ti.size = sz
    | .str => True
  | .index t k m x i => x.ok G ∧ i.ok G ∧ match k with
    | .str => P.underlying t = some .string
    | .arr n sz => ∃ el ti, P.underlying t = some (.array n el) ∧ P.info? el = some ti ∧ ti.size = sz ∧ LoadOK P el m
    | .sl _ => True
  | .call f args _ => (∀ x ∈ args, x.ok G) ∧ Enters P f
  | .allocB t _ => ∃ i z, P.info? t = some i ∧ i.zero = some z ∧ z.cells = #[.pointer none, .slice none 0 0]
  | .range t x => x.ok G ∧ P.underlying t = some .string
  | .mkmap _ => True
  | .mlook t kd z x k => x.ok G ∧ k.ok G ∧ ∃ kt el i, P.underlying t = some (.map kt el) ∧ P.underlying kt = some (kdOf kd) ∧ P.info? el = some i ∧ i.zero = some z
  | .mput _ t kd x k v => x.ok G ∧ k.ok G ∧ v.ok G ∧ ∃ kt el, P.underlying t = some (.map kt el) ∧ P.underlying kt = some (kdOf kd)
  | .throw x => x.ok G
  | .mkclo _ x => x.ok G
  | .tass _ t x => x.ok G ∧ P.concrete t = true
  | .mkiface t x => x.ok G ∧ P.concrete t = true
  | .next x => x.ok G
  | .mark t x => x.ok G ∧ ∃ el, P.underlying t = some (.slice el) ∧ P.underlying el = some (.int .u8)
  | .append t u _ sz bytes x y => x.ok G ∧ y.ok G ∧ ∃ el ie z, P.underlying t = some (.slice el) ∧ (P.underlying u = some (.slice el) ∨ P.underlying u = some .string) ∧ P.info? el = some ie ∧ ie.zero = some z ∧ ie.size = sz ∧ ie.bytes = bytes ∧ z.cells.size = sz
  | .len t txt x => x.ok G ∧ if txt then P.underlying t = some .string else ∃ el, P.underlying t = some (.slice el)
  | .minmax _ _ x y => x.ok G ∧ y.ok G
  | .ext f k args _ => (∀ x ∈ args, x.ok G) ∧ Extn P f k
  | .callv es f args _ => f.ok G ∧ (∀ x ∈ args, x.ok G) ∧ ∀ n ∈ es, Enters P n
  | .other x => ∀ cs b, x ≠ .select cs b

section
variable {P : Program} {B : Base} {T : Tab} {C : Oracle} {a : Act} {H : Nat → Value} {e e' : Env} {w w' : World} {I : Nat → Prop} {blk : Nat → List Nat} {Q : Exit → Act → World → Prop}

/-- The variables that an operation's value comes from are told of no block that it doesn't know. -/
theorem RunsTo.wp {o : Oper} {V : Value} {w' : World} (h : RunsTo P o a w V w') {K : Act → World → Prop} (hK : K (a.put o.dst V) w') : o.wp P a w K Q := by
  unfold Oper.wp
  rcases h with h | ⟨h, rfl⟩
  · rw [h]; exact hK
  · rw [h]; exact hK
/-- An operation that reads and writes no memory. -/
def IOp.isF : IOp → Bool
  | .move _ | .pick _ _ _ | .build _ _ _ _ | .nilck _ | .bin _ _ _ _ _ | .eqs _ _ _ _ _ _ | .un _ _ _ | .slice _ _ _ _ _ _ | .faddr _ _ _ _ | .field _ _ _ _ _ | .iaddr _ _ _ _ | .index _ _ _ _ _ | .extr _ _ | .len _ _ _ | .minmax _ _ _ _ | .ext _ _ _ _ => true
  | .mkiface _ _ => true
  | .tass _ _ _ => true
  | .conv _ _ k _ => k.pure
  | _ => false
def IOp.isR : IOp → Bool
  | .load _ _ _ => true
  | _ => false
def IOp.isCall : IOp → Bool
  | .call _ _ _ => true
  | .callv _ _ _ _ => true
  | _ => false
theorem extPV_one {k : ExtK} {xs : List PV} {y : PV} (h : extPV k xs = some y) : y.hasObj = false := by
  unfold extPV at h
  split at h
  · split at h
    · cases h; rfl
    · cases h
  · cases h; rfl
  · cases h; rfl
  · cases h; rfl
  · cases h
theorem extPV_run {k : ExtK} {en : Array Value → Sem Value} (he : k.entry en) {xs : List PV} {y : PV} (h : extPV k xs = some y) {q : PV → Value → Prop} {vs : List Value} (hx : Rs w I q xs vs []) :
    ∃ V, (∀ w2, (en vs.toArray).run P w2 = .ok V w2) ∧ R w I q y V [] := by
  have one : ∀ {x : Value} {xs : List PV} {vs : List Value}, Rs w I q (.v x :: xs) vs [] → ∃ us, vs = x :: us ∧ Rs w I q xs us [] := by
    rintro x xs vs ⟨v, us, b1, b2, rfl, e, ⟨rfl, _, _⟩, h2⟩
    obtain ⟨rfl, rfl⟩ : b1 = [] ∧ b2 = [] := by simpa using e.symm
    exact ⟨us, rfl, h2⟩
  unfold extPV at h
  split at h
  · rename_i a b c
    split at h
    · rename_i hc
      cases h
      obtain ⟨u1, rfl, h1⟩ := one hx
      obtain ⟨u2, rfl, h2⟩ := one h1
      obtain ⟨u3, rfl, h3⟩ := one h2
      obtain ⟨rfl, _⟩ := h3
      have he' : en = add64Entry := he
      subst he'
      exact ⟨_, fun w2 => run_add64 a b c hc.1 hc.2.1 hc.2.2.1 hc.2.2.2 w2, _, rfl, _, _, [], [], rfl, rfl, ⟨rfl, rfl, rfl⟩, _, _, [], [], rfl, rfl, ⟨rfl, rfl, rfl⟩, rfl, rfl⟩
    · cases h
  · rename_i s c
    cases h
    obtain ⟨u1, rfl, h1⟩ := one hx
    obtain ⟨u2, rfl, h2⟩ := one h1
    obtain ⟨rfl, _⟩ := h2
    have he' : en = Extern.BytealgIndexByte.indexByte := he
    subst he'
    exact ⟨_, fun w2 => run_indexByte_string s c w2, rfl, rfl, rfl⟩
  · cases h
    obtain ⟨u1, rfl, h1⟩ := one hx
    obtain ⟨rfl, _⟩ := h1
    have he' : en = Extern.MathFloatBits.float64frombits := he
    subst he'
    exact ⟨_, fun w2 => rfl, rfl, rfl, rfl⟩
  · cases h
    obtain ⟨u1, rfl, h1⟩ := one hx
    obtain ⟨rfl, _⟩ := h1
    have he' : en = Extern.MathFloatBits.float64bits := he
    subst he'
    exact ⟨_, fun w2 => rfl, rfl, rfl, rfl⟩
  · cases h
theorem R.ofClo {q : PV → Value → Prop} {f : FuncId} {cs : List PV} {V : Value} {bs : List Nat} (h : R w I q (.clo f cs) V bs) : R w I nope (.clo f cs) V bs := h
theorem op_F (h : Inv B e (refOK e (valOf a H) w) (valOf a H) w I blk []) {o : Oper} {op : IOp} (hok : op.ok P B.glob) (ho : o.op = op.toOp) (hF : op.isF = true) {y : PV} (hev : ev T C e op = some (y, e')) :
    ∃ V, RunsF P o a V ∧ Yields B (valOf a H) e' y V w := by
  cases op with
  | move x =>
    simp only [ev, Option.some.injEq, Prod.mk.injEq] at hev
    obtain ⟨rfl, rfl⟩ := hev
    exact ⟨_, run_move h hok ho⟩
  | pick c x z =>
    simp only [ev] at hev
    split at hev
    · rename_i t ht
      simp only [Option.some.injEq, Prod.mk.injEq] at hev
      obtain ⟨rfl, rfl⟩ := hev
      exact ⟨_, run_pick h hok.1 hok.2.1 hok.2.2 ho ht⟩
    · simp at hev
  | build t pl zero parts =>
    simp only [ev, Option.bind_eq_bind, Option.bind_eq_some_iff, Option.pure_def, Option.some.injEq, Prod.mk.injEq] at hev
    obtain ⟨cs, hs, rfl, rfl⟩ := hev
    exact run_buildOp h hok.1 ho hok.2 hs
  | nilck x =>
    simp only [ev] at hev
    split at hev
    · rename_i s e1
      split at hev
      · rename_i cs hg
        simp only [Option.some.injEq, Prod.mk.injEq] at hev
        obtain ⟨rfl, rfl⟩ := hev
        have := run_nilck_view (P := P) (y := .addr s 0) h hok ho (by rw [e1]; simp [offAddr, hg])
        rw [e1] at this
        exact this
      · simp at hev
    · rename_i u e1
      split at hev
      · rename_i fn x1 x2
        split at hev
        · rename_i n hemp
          simp only [Option.some.injEq, Prod.mk.injEq] at hev
          obtain ⟨rfl, rfl⟩ := hev
          have h1 := ev_ok h hok
          rw [e1] at h1
          refine ⟨_, fun w2 => ?_, Yields.plain h rfl⟩
          have := h1.1
          simp [execOp, ho, IOp.toOp, this]
        · simp at hev
      · simp at hev
    · rename_i f cs e1
      simp only [Option.some.injEq, Prod.mk.injEq] at hev
      obtain ⟨rfl, rfl⟩ := hev
      have h1 := ev_ok h hok
      rw [e1] at h1
      refine ⟨_, fun w2 => ?_, _, blk, [], h, .inl (R.ofClo h1)⟩
      obtain ⟨_, A, us, hA, _⟩ := h1
      simp [execOp, ho, IOp.toOp, hA]
    · simp only [Option.map_eq_some_iff, Prod.mk.injEq] at hev
      obtain ⟨r, hr, rfl, rfl⟩ := hev
      exact run_nilck h hok ho hr
  | bin op xt x z yt =>
    simp only [ev, Option.map_eq_some_iff, Prod.mk.injEq] at hev
    obtain ⟨r, hr, rfl, rfl⟩ := hev
    exact run_bin h hok.1 hok.2 ho hr
  | eqs neg xt ks x z yt =>
    simp only [ev, Option.map_eq_some_iff, Prod.mk.injEq] at hev
    obtain ⟨r, hr, rfl, rfl⟩ := hev
    exact run_eqs h hok.1 hok.2.1 ho hok.2.2 hr
  | un op xt x =>
    simp only [ev, Option.map_eq_some_iff, Prod.mk.injEq] at hev
    obtain ⟨r, hr, rfl, rfl⟩ := hev
    exact run_un h hok ho hr
  | conv src dst k x =>
    simp only [ev, Option.map_eq_some_iff, Prod.mk.injEq] at hev
    obtain ⟨r, hr, rfl, rfl⟩ := hev
    exact run_convF h hok.1 ho hok.2 hF hr
  | slice t k x lo hi mx =>
    obtain ⟨hx, hlo, hhi, hmx, hk⟩ := hok
    simp only [ev] at hev
    cases k with
    | str =>
      simp only [Option.map_eq_some_iff, Prod.mk.injEq] at hev
      obtain ⟨r, hr, rfl, rfl⟩ := hev
      obtain ⟨h1, rfl⟩ := hk
      exact run_sliceStr h hx hlo hhi ho h1 hr
    | sl sz =>
      simp only [Option.map_eq_some_iff, Prod.mk.injEq] at hev
      obtain ⟨r, hr, rfl, rfl⟩ := hev
      obtain ⟨el, ti, h1, h2, h3⟩ := hk
      exact run_sliceSl h hx hlo hhi hmx ho h1 h2 h3 hr
    | arr n => simp at hev
  | faddr t x f off =>
    simp only [ev, Option.map_eq_some_iff, Prod.mk.injEq] at hev
    obtain ⟨r, hr, rfl, rfl⟩ := hev
    obtain ⟨hx, fs, fd, ti, h1, h2, h3, h4, h5⟩ := hok
    exact run_faddr h hx ho h1 h2 h3 h4 h5 hr
  | field t x f off n =>
    simp only [ev] at hev
    obtain ⟨hx, fs, fd, h1, h2, h3, h4⟩ := hok
    split at hev
    · rename_i cs hc
      simp only [Option.map_eq_some_iff, Prod.mk.injEq] at hev
      obtain ⟨r, hr, rfl, rfl⟩ := hev
      exact run_field h hx ho h1 h2 h3 h4 hc hr
    · simp at hev
  | iaddr t k x i =>
    obtain ⟨hx, hi, hk⟩ := hok
    simp only [ev] at hev
    cases k with
    | sl sz =>
      simp only [Option.map_eq_some_iff, Prod.mk.injEq] at hev
      obtain ⟨r, hr, rfl, rfl⟩ := hev
      obtain ⟨el, ti, h1, h2, h3⟩ := hk
      exact run_indexSl h hx hi ho h1 h2 h3 hr
    | arr n sz =>
      simp only [Option.map_eq_some_iff, Prod.mk.injEq] at hev
      obtain ⟨r, hr, rfl, rfl⟩ := hev
      obtain ⟨el, ti, h1, h2, h3⟩ := hk
      exact run_indexArr h hx hi ho h1 h2 h3 hr
    | str => simp at hev
  | index t k m x i =>
    obtain ⟨hx, hi, hk⟩ := hok
    simp only [ev] at hev
    cases k with
    | sl sz => simp at hev
    | arr n sz =>
      simp only at hev
      split at hev
      · rename_i cs hc
        simp only [Option.bind_eq_some_iff, Option.map_eq_some_iff, Prod.mk.injEq] at hev
        obtain ⟨j, hj, r, hr, rfl, rfl⟩ := hev
        obtain ⟨el, ti, h1, h2, h3, h4⟩ := hk
        exact run_indexAgg h hx hi ho h1 h2 h3 h4 hc hj hr
      · simp at hev
    | str =>
      simp only at hev
      split at hev
      · rename_i s hc
        simp only [Option.map_eq_some_iff, Prod.mk.injEq] at hev
        obtain ⟨j, hj, rfl, rfl⟩ := hev
        exact run_indexStr h hx hi ho hk hc hj
      · simp at hev
  | extr x j =>
    simp only [ev] at hev
    split at hev
    · rename_i cs hc
      split at hev
      · rename_i z hz
        simp only [Option.some.injEq, Prod.mk.injEq] at hev
        obtain ⟨rfl, rfl⟩ := hev
        exact run_extr h hok ho hc hz
      · simp at hev
    · simp at hev
  | len t txt x =>
    simp only [ev, Option.map_eq_some_iff, Prod.mk.injEq] at hev
    obtain ⟨n, hn, rfl, rfl⟩ := hev
    exact run_len h hok.1 ho hok.2 hn
  | minmax mx ts x z =>
    simp only [ev] at hev
    split at hev
    · rename_i k m k' n e1 e2
      split at hev
      · rename_i hk
        subst hk
        simp only [Option.some.injEq, Prod.mk.injEq] at hev
        obtain ⟨rfl, rfl⟩ := hev
        exact run_minmax h hok.1 hok.2 ho e1 e2
      · simp at hev
    · simp at hev
  | ext f k args ts =>
    simp only [ev, Option.map_eq_some_iff, Prod.mk.injEq] at hev
    obtain ⟨r, hr, rfl, rfl⟩ := hev
    obtain ⟨hx, fn, en, h1, h2, h3, h4, h5, h6⟩ := hok
    obtain ⟨V, hV, hR⟩ := extPV_run (P := P) h6 hr (evL_ok h hx)
    refine ⟨V, fun w2 => ?_, Yields.of h (extPV_one hr) hR⟩
    have hm : args.map (a.eval ∘ fun x => x.op) = args.map fun x => a.eval x.op := rfl
    have hf : a.eval (.func f) = .func (.func f) #[] #[] := rfl
    have hc := run_callFunc_extern h1 h2 h3 h4 h5 (args.map fun x => a.eval x.op).toArray w2
    rw [hV w2] at hc
    simp [execOp, ho, IOp.toOp, resolve, invoke, hf, Deferred.ofValue]
    rw [hm]
    exact hc
  | assign x => simp [IOp.isF] at hF
  | mark t x => simp [IOp.isF] at hF
  | range t x => simp [IOp.isF] at hF
  | allocB t b => simp [IOp.isF] at hF
  | mkmap t => simp [IOp.isF] at hF
  | mlook t kd z x k => simp [IOp.isF] at hF
  | mput ins t kd x k v => simp [IOp.isF] at hF
  | throw x => simp [IOp.isF] at hF
  | mkclo f x => simp [IOp.isF] at hF
  | tass xt t x =>
    simp only [ev, Option.map_eq_some_iff, Prod.mk.injEq] at hev
    obtain ⟨v, hv, rfl, rfl⟩ := hev
    exact run_tass h hok.1 ho hok.2 hv
  | mkiface t x =>
    simp only [ev, Option.map_eq_some_iff, Prod.mk.injEq] at hev
    obtain ⟨v, hv, rfl, rfl⟩ := hev
    exact run_mkiface h hok.1 ho hok.2 hv
  | next x => simp [IOp.isF] at hF
  | box t x => simp [IOp.isF] at hF
  | alloc t z => simp [IOp.isF] at hF
  | lit t sz ps => simp [IOp.isF] at hF
  | load t n x => simp [IOp.isF] at hF
  | store t n ad x => simp [IOp.isF] at hF
  | mk t sz bytes zero l c => simp [IOp.isF] at hF
  | call f args ts => simp [IOp.isF] at hF
  | append t u txt sz bytes x z => simp [IOp.isF] at hF
  | callv es f args ts => simp [IOp.isF] at hF
  | other x => simp [IOp.isF] at hF
theorem op_runs (h : Inv B e (refOK e (valOf a H) w) (valOf a H) w I blk []) {o : Oper} {op : IOp} (hok : op.ok P B.glob) (ho : o.op = op.toOp) (hc : op.isCall = false) {y : PV} (hev : ev T C e op = some (y, e')) :
    ∃ V w', RunsTo P o a w V w' ∧ Yields B (valOf a H) e' y V w' := by
  by_cases hF : op.isF = true
  · obtain ⟨V, h1, h2⟩ := op_F h hok ho hF hev
    exact ⟨V, w, h1.to w, h2⟩
  cases op with
  | assign x => exact ⟨_, _, run_assign h hok ho hev⟩
  | mark t x =>
    obtain ⟨hx, el, h1, h2⟩ := hok
    simp only [ev] at hev
    exact run_mark h hx ho h1 h2 hev
  | allocB t b =>
    simp only [ev, Option.some.injEq, Prod.mk.injEq] at hev
    obtain ⟨rfl, rfl⟩ := hev
    obtain ⟨i, z, h1, h2, h3⟩ := hok
    exact run_allocB h ho h1 h2 h3
  | mkmap t =>
    simp only [ev, Option.some.injEq, Prod.mk.injEq] at hev
    obtain ⟨rfl, rfl⟩ := hev
    exact run_mkmap h ho
  | mlook t kd z x k =>
    simp only [ev] at hev
    obtain ⟨hx, hk, kt, el, i, h1, h2, h3, h4⟩ := hok
    exact run_mlook h hx hk ho h1 h2 h3 h4 hev
  | mput ins t kd x k v =>
    simp only [ev] at hev
    obtain ⟨hx, hk, hv, kt, el, h1, h2⟩ := hok
    refine run_mput h hx hk hv ?_ h1 h2 hev
    rw [ho]
    cases ins
    · exact .inl rfl
    · exact .inr rfl
  | throw x => simp [ev] at hev
  | mkclo f x =>
    simp only [ev] at hev
    exact run_mkclo h hok ho hev
  | tass xt t x => simp [IOp.isF] at hF
  | mkiface t x => simp [IOp.isF] at hF
  | range t x =>
    simp only [ev] at hev
    exact run_range h hok.1 ho hok.2 hev
  | next x =>
    simp only [ev] at hev
    exact run_next h hok ho hev
  | box t x =>
    simp only [ev, Option.bind_eq_bind, Option.bind_eq_some_iff, Option.pure_def, Option.some.injEq, Prod.mk.injEq, Prod.exists] at hev
    obtain ⟨z, e2, hs, rfl, rfl⟩ := hev
    exact run_box h hok ho hs
  | alloc t zero =>
    simp only [ev, Option.some.injEq, Prod.mk.injEq] at hev
    obtain ⟨rfl, rfl⟩ := hev
    obtain ⟨i, z, h1, h2, h3⟩ := hok
    exact run_alloc h ho h1 h2 h3
  | lit t sz parts =>
    simp only [ev, Option.bind_eq_bind, Option.bind_eq_some_iff, Prod.exists] at hev
    obtain ⟨ys, e2, hs, hev⟩ := hev
    obtain ⟨hx, el, ie, z, h1, h2, h3, h4, h5, h6⟩ := hok
    split at hev
    · rename_i hc
      simp only [Option.pure_def, Option.some.injEq, Prod.mk.injEq] at hev
      obtain ⟨rfl, rfl⟩ := hev
      simp only [Bool.and_eq_true, List.all_eq_true, beq_iff_eq] at hc
      exact run_lit h hx ho h1 h2 h3 h4 h5 h6 hs hc.1 hc.2
    · simp at hev
  | load t n ad =>
    simp only [ev, Option.map_eq_some_iff, Prod.mk.injEq] at hev
    obtain ⟨z, hz, rfl, rfl⟩ := hev
    obtain ⟨V, h1, h2⟩ := run_load h hok.1 ho hok.2 hz
    exact ⟨V, w, h1, h2⟩
  | store t n ad x =>
    simp only [ev, Option.bind_eq_bind, Option.bind_eq_some_iff, Option.pure_def, Option.some.injEq, Prod.mk.injEq, Prod.exists] at hev
    obtain ⟨z, e2, hs, e3, hst, rfl, rfl⟩ := hev
    obtain ⟨w', k⟩ := run_store h hok.1 hok.2.1 ho hok.2.2 hs hst
    exact ⟨_, w', k⟩
  | conv src dst k x =>
    simp only [ev, Option.map_eq_some_iff, Prod.mk.injEq] at hev
    obtain ⟨r, hr, rfl, rfl⟩ := hev
    exact run_conv h hok.1 ho hok.2 hr
  | mk t sz bytes zero l c =>
    simp only [ev] at hev
    split at hev
    · rename_i n m e1 e2
      split at hev
      · rename_i hc
        simp only [Option.some.injEq, Prod.mk.injEq] at hev
        obtain ⟨rfl, rfl⟩ := hev
        obtain ⟨c0, c1, c2, c3, c4, c5⟩ := hc
        obtain ⟨hl, hcp, el, ie, z, h1, h2, h3, h4, h5, h6⟩ := hok
        exact run_mk h hl hcp ho h1 h2 h3 h4 h5 h6 c4 c5 e1 e2 c0 c1 c2 c3
      · simp at hev
    · simp at hev
  | append t u txt sz bytes x z =>
    obtain ⟨hx, hz, el, ie, zv, h1, h2, h3, h4, h5, h6, h7⟩ := hok
    simp only [ev] at hev
    refine run_append h hx hz ho h1 h2 h3 h4 h5 h6 h7 hev fun ys vy hm hr => flat_one hr ?_
    obtain ⟨vy', hs, _⟩ := more_ok (P := P) h hz hm
    exact fun x hx' => (hs x hx').2
  | call f args ts => simp [IOp.isCall] at hc
  | callv es f args ts => simp [IOp.isCall] at hc
  | other x => simp [ev] at hev
  | move x => simp [IOp.isF] at hF
  | pick c x z => simp [IOp.isF] at hF
  | build t pl zero parts => simp [IOp.isF] at hF
  | nilck x => simp [IOp.isF] at hF
  | bin op xt x z yt => simp [IOp.isF] at hF
  | eqs neg xt ks x z yt => simp [IOp.isF] at hF
  | un op xt x => simp [IOp.isF] at hF
  | slice t k x lo hi mx => simp [IOp.isF] at hF
  | faddr t x f off => simp [IOp.isF] at hF
  | field t x f off n => simp [IOp.isF] at hF
  | iaddr t k x i => simp [IOp.isF] at hF
  | index t k m x i => simp [IOp.isF] at hF
  | extr x j => simp [IOp.isF] at hF
  | len t txt x => simp [IOp.isF] at hF
  | minmax mx ts x z => simp [IOp.isF] at hF
  | ext f k args ts => simp [IOp.isF] at hF
theorem ev_calls {op : IOp} (hc : op.isCall = true) : ev T C e op = (op.calls e).bind fun q => call T C e q.1 q.2 := by
  cases op <;> simp only [IOp.isCall] at hc <;> first | (cases hc; done) | skip
  · rfl
  · rename_i es f args ts
    simp only [ev, IOp.calls]
    cases calleeOf es (f.ev e) <;> rfl
theorem calls_enters (h : Inv B e (refOK e (valOf a H) w) (valOf a H) w I blk []) {o : Oper} {op : IOp} (hok : op.ok P B.glob) (ho : o.op = op.toOp) (hc : op.isCall = true) {f : FuncId} {xs : List PV} (hq : op.calls e = some (f, xs)) :
    ∃ vs, (execOp a.eval o).run P w = .ok (.enter f vs.toArray) w ∧ Rs w I (refOK e (valOf a H) w) xs vs [] := by
  have key : ∀ (x : Operand) (args : List Opd) (ts : List TypeId), o.op = .call { callee := .value x, args := (args.map (·.op)).toArray, argTypes := ts.toArray } → a.eval x = .func (.func f) #[] #[] → Enters P f → (execOp a.eval o).run P w = .ok (.enter f ((args.map fun x => a.eval x.op).toArray)) w := by
    intro x args ts ho hx hen
    have := hen.run ((args.map fun x => a.eval x.op).toArray) w
    have hm : args.map (a.eval ∘ fun x => x.op) = args.map fun x => a.eval x.op := rfl
    simp [execOp, ho, resolve, invoke, hx, Deferred.ofValue]
    rw [hm]
    exact this
  cases op <;> simp only [IOp.isCall] at hc <;> first | (cases hc; done) | skip
  · rename_i g args ts
    simp only [IOp.calls, Option.some.injEq, Prod.mk.injEq] at hq
    obtain ⟨rfl, rfl⟩ := hq
    exact ⟨_, key _ args ts ho rfl hok.2, evL_ok h hok.1⟩
  · rename_i es g args ts
    simp only [IOp.calls, Option.map_eq_some_iff, Prod.mk.injEq] at hq
    obtain ⟨⟨n, ex⟩, hcal, rfl, rfl⟩ := hq
    have hR := ev_ok h hok.1
    unfold calleeOf at hcal
    split at hcal
    · rename_i n' c d e1
      split at hcal
      · rename_i hcd
        cases hcal
        obtain ⟨h1, h2, h3⟩ := hcd
        rw [e1] at hR
        refine ⟨_, key _ args ts ho ?_ (hok.2.2 _ h3), by simpa using evL_ok h hok.2.1⟩
        rw [hR.1, Array.isEmpty_iff.1 h1, Array.isEmpty_iff.1 h2]
      · cases hcal
    · rename_i n' cs e1
      split at hcal
      · rename_i hin
        cases hcal
        rw [e1] at hR
        obtain ⟨_, A, us, hA, hno, hIA, hRs, hcl⟩ := hR
        have hen := hok.2.2 _ hin
        refine ⟨(args.map fun (x : Opd) => a.eval x.op) ++ [Value.pointer (some A)], ?_, Rs.append (bs := []) (bs' := []) (evL_ok h hok.2.1) ⟨_, [], [], [], rfl, rfl, ⟨rfl, A, us, rfl, hno, hIA, hRs, hcl⟩, rfl, rfl⟩⟩
        have := hen.run (((args.map fun (x : Opd) => a.eval x.op) ++ [Value.pointer (some A)]).toArray) w
        have hm : args.map (a.eval ∘ fun x => x.op) = args.map fun x => a.eval x.op := rfl
        simp [execOp, ho, IOp.toOp, resolve, invoke, hA, Deferred.ofValue]
        rw [hm]
        simpa using this
      · cases hcal
    · cases hcal
theorem op_sound (hC : CallOK P B.glob C) (h : Inv B e (refOK e (valOf a H) w) (valOf a H) w I blk []) {o : Oper} {op : IOp} (hok : op.ok P B.glob) (ho : o.op = op.toOp) {y : PV} (hev : ev T C e op = some (y, e')) :
    o.wp P a w (fun a' w' => ∃ V, a' = a.put o.dst V ∧ Yields B (valOf a H) e' y V w') Q := by
  by_cases hc : op.isCall = true
  · rw [ev_calls hc] at hev
    simp only [Option.bind_eq_some_iff, Prod.exists] at hev
    obtain ⟨f, xs, hq, hev⟩ := hev
    obtain ⟨vs, hrun, hx⟩ := calls_enters h hok ho hc hq
    have hcall := call_ok (T := T) hC h hx hev
    unfold Oper.wp
    rw [hrun]
    exact hcall.mono fun en w' ⟨V, he, hy, _⟩ => by subst he; exact ⟨V, rfl, hy⟩
  · obtain ⟨V, w', h1, h2⟩ := op_runs h hok ho (by simpa using hc) hev
    exact h1.wp ⟨V, rfl, h2⟩
/-- Nothing is told any more. -/
theorem Inv.void {q q' : PV → Value → Prop} {val val' : Nat → Value} {fl : List Nat} (h : Inv B e q val w I blk fl) : Inv B [] q' val' w I (fun _ => []) [] :=
  { h with rel := fun _ => rfl, nd := fun _ => List.nodup_nil, ndf := List.nodup_nil, dj := fun _ _ _ _ hb => (by simp at hb), djf := fun _ _ hb => (by simp at hb), notI := fun _ _ hb => (by simp at hb), notIf := fun _ hb => (by simp at hb), ltf := fun _ hb => (by simp at hb), own := fun _ _ hb => (by simp at hb), ownf := fun _ hb => (by simp at hb) }
/-- What is held loose is forgotten. -/
theorem Inv.loose {q : PV → Value → Prop} {val : Nat → Value} {fl : List Nat} (h : Inv B e q val w I blk fl) : Inv B e q val w I blk [] :=
  { h with ndf := List.nodup_nil, djf := fun _ _ _ hb => (by simp at hb), notIf := fun _ hb => (by simp at hb), ltf := fun _ hb => (by simp at hb), ownf := fun _ hb => (by simp at hb) }
theorem pan_sound (hC : CallOK P B.glob C) (h : Inv B e (refOK e (valOf a H) w) (valOf a H) w I blk []) {o : Oper} {op : IOp} (hok : op.ok P B.glob) (ho : o.op = op.toOp) {x : Value} (hp : panOf T C e op = some (x, e')) {K : Act → World → Prop}
    (hQ : ∀ w' I' blk', Inv B e' (refOK e' (valOf a H) w') (valOf a H) w' I' blk' [] → Q (.panic [{ v := x, recovered := false }]) a w') : o.wp P a w K Q := by
  by_cases hc : op.isCall = true
  · have hp' : ((op.calls e).bind fun q => (callR T C e q.1 q.2).bind fun r => match r.1 with | .pan x => some (x, r.2) | _ => none) = some (x, e') := by
      cases op <;> simp only [IOp.isCall] at hc <;> first | (cases hc; done) | exact hp
    simp only [Option.bind_eq_some_iff, Prod.exists] at hp'
    obtain ⟨f, xs, hq, y, e1, hcall, hy⟩ := hp'
    obtain ⟨vs, hrun, hx⟩ := calls_enters h hok ho hc hq
    unfold Oper.wp
    rw [hrun]
    refine (callR_ok (T := T) hC h hx hcall).mono fun en w' ⟨V, he, hk, _⟩ => ?_
    split at hy
    · cases hy
      simp only [ends] at he
      subst he
      obtain ⟨I', blk', bs, hI, _⟩ := hk
      exact hQ w' I' blk' hI.loose
    · cases hy
  · cases op <;> first | exact absurd rfl hc | (simp [panOf, IOp.calls] at hp; done) | skip
    rename_i z
    simp only [panOf] at hp
    split at hp
    · rename_i t v hz
      cases hp
      have hR := ev_ok h hok
      rw [hz] at hR
      have : (execOp a.eval o).run P w = .halt (.panic (.iface t v)) w := by
        simp only [execOp, ho, IOp.toOp, hR.1]
        rfl
      unfold Oper.wp
      rw [this]
      exact hQ w I blk h
    · cases hp
end
end Go.AM
