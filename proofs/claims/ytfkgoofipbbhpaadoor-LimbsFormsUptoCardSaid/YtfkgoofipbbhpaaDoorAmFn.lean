/- Functions: entered, left, called. No conditions. -/
import Derived.Test.YtfkgoofipbbhpaaDoorAmCtl
namespace Go.AM
open Go

def stripR : ResultVar → Nat × Option TypeId
  | .tmp t => (t, none)
  | .cell a t => (a, some t)
def eraseR : RV → Nat × Option TypeId
  | .tmp s => (s, none)
  | .cell s t _ => (s, some t)
def RV.ok (P : Program) : RV → Prop
  | .tmp s => s < home
  | .cell s t n => s < home ∧ LoadOK P t n
/-- A function's result variable, read. -/
def readR (tmps : Array Value) : ResultVar → Sem Value
  | .tmp t => pure (tmps.getD t undef)
  | .cell a t => do loadVar t (← asAddr (tmps.getD a undef))

section
variable {P : Program} {B : Base} {T : Tab} {C : Oracle} {a : Act} {H : Nat → Value} {e e' : Env} {w w' : World} {I : Nat → Prop} {blk : Nat → List Nat} {fl : List Nat} {Q : Exit → Act → World → Prop} {n : Nat}

theorem results_ok : ∀ {rvs : List RV} {rs : List ResultVar} {e e' : Env} {blk : Nat → List Nat} {fl : List Nat} {ys : List PV}, rs.map stripR = rvs.map eraseR → (∀ r ∈ rvs, r.ok P) → Inv B e (refOK e (valOf a H) w) (valOf a H) w I blk fl → results e rvs = some (ys, e') →
    ∃ vs blk' bs, (rs.mapM (readR a.tmps)).run P w = .ok vs w ∧ Inv B e' (refOK e' (valOf a H) w) (valOf a H) w I blk' (bs ++ fl) ∧ Rs w I nope ys vs bs ∧ Weak e' e
  | [], rs, e, e', blk, fl, ys, hm, hok, h, hr => by
    have : rs = [] := by cases rs <;> simp_all
    subst this
    simp only [results, Option.some.injEq, Prod.mk.injEq] at hr
    obtain ⟨rfl, rfl⟩ := hr
    exact ⟨[], blk, [], by simp, h, ⟨rfl, rfl⟩, Weak.refl _⟩
  | rv :: rvs, rs, e, e', blk, fl, ys, hm, hok, h, hr => by
    cases rs with
    | nil => simp at hm
    | cons r rs =>
      simp only [List.map_cons, List.cons.injEq] at hm
      obtain ⟨hr0, hm⟩ := hm
      have hrv := hok rv (by simp)
      have step : ∀ (y : PV) (V : Value) (e1 : Env) (x : PV) (ys' : List PV), (readR a.tmps r).run P w = .ok V w → R w I (refOK e (valOf a H) w) x V [] → settle e x = some (y, e1) → results e1 rvs = some (ys', e') → ys = y :: ys' →
          ∃ vs blk' bs, ((r :: rs).mapM (readR a.tmps)).run P w = .ok vs w ∧ Inv B e' (refOK e' (valOf a H) w) (valOf a H) w I blk' (bs ++ fl) ∧ Rs w I nope ys vs bs ∧ Weak e' e := by
        intro y V e1 x ys' h1 hx h2 h3 h4
        obtain ⟨blk1, bs1, k1, k2, k3⟩ := settle_ok h hx h2
        obtain ⟨vs, blk2, bs2, k4, k5, k6, k7⟩ := results_ok hm (fun r hr => hok r (by simp [hr])) (k1.weaken k3) h3
        refine ⟨V :: vs, blk2, bs1 ++ bs2, ?_, k5.fl_perm ?_, ?_, k7.trans k3⟩
        · simp [List.mapM_cons, h1, k4]
        · rw [show bs2 ++ (bs1 ++ fl) = (bs2 ++ bs1) ++ fl by simp]
          exact List.Perm.append_right _ List.perm_append_comm
        · subst h4
          exact ⟨V, vs, bs1, bs2, rfl, rfl, k2, k6⟩
      cases rv with
      | tmp s =>
        cases r with
        | cell a' t => simp [stripR, eraseR] at hr0
        | tmp t =>
          simp only [stripR, eraseR, Prod.mk.injEq, and_true] at hr0
          subst hr0
          simp only [results, Option.bind_eq_bind, Option.bind_eq_some_iff, Option.pure_def, Option.some.injEq, Prod.mk.injEq, Prod.exists] at hr
          obtain ⟨y, e1, hs, ys', e2, hr', rfl, rfl⟩ := hr
          have hv : valOf a H t = a.tmps.getD t undef := by
            have : t < home := hrv
            simp [valOf, this]
          exact step y (a.tmps.getD t undef) e1 _ ys' (by simp [readR]) (hv ▸ h.view t) hs hr' rfl
      | cell s t n =>
        cases r with
        | tmp t' => simp [stripR, eraseR] at hr0
        | cell a' t' =>
          simp only [stripR, eraseR, Prod.mk.injEq, Option.some.injEq] at hr0
          obtain ⟨rfl, rfl⟩ := hr0
          obtain ⟨hs, hld⟩ := hrv
          have hv : valOf a H a' = a.tmps.getD a' undef := by simp [valOf, hs]
          have hvw := h.view a'
          simp only [results] at hr
          split at hr
          · rename_i s' hsv
            rw [hsv] at hvw
            split at hr
            · rename_i cs hg
              split at hr
              case isFalse => simp at hr
              rename_i hlen
              simp only [Option.bind_eq_bind, Option.bind_eq_some_iff, Option.pure_def, Option.some.injEq, Prod.mk.injEq, Prod.exists] at hr
              obtain ⟨x, hx, y, e1, hst, ys', e2, hr', rfl, rfl⟩ := hr
              have hvw2 := hvw.2
              simp only [refOK] at hvw2
              have hp := hvw2.2 (by simp [Env.at_, PV.sub, hg, PV.isObj])
              simp only [place, walk, Option.some.injEq] at hp
              obtain ⟨g, us, hgv, hul, hcv⟩ := cellViews_ok h hg
              obtain ⟨c1, c2⟩ := hcv 0 (n.getD 1) (by omega)
              have hA : a.tmps.getD a' undef = .pointer (some ⟨g, 0, none⟩) := by rw [← hv, ← hp, hgv]
              obtain ⟨l1, l2⟩ := run_loadVar hld c1
              rcases part_R c2 hx with ⟨hn, u, hu, hR⟩ | ⟨k, hn, hk, hR⟩
              · exact step y u e1 x ys' (by simp only [readR, hA]; simp [asAddr, l1 hn u hu]) hR hst hr' rfl
              · exact step y _ e1 x ys' (by simp only [readR, hA]; simp [asAddr, l2 k hn hk]) hR hst hr' rfl
            · simp at hr
          · simp at hr

/-! ### Entering -/
theorem get_enter : ∀ (xs : List PV) (i s : Nat), i + xs.length ≤ home →
    (enter i xs).get s = if s < home then (if i ≤ s then (match xs[s - i]? with | some x => if x.isObj then .ref (home + s) [] else x | none => .dead) else .dead)
      else (if home + i ≤ s then (match xs[s - home - i]? with | some x => if x.isObj then x else .dead | none => .dead) else .dead)
  | [], i, s, _ => by simp [enter, Env.get]
  | x :: r, i, s, h => by
    simp only [List.length_cons] at h
    have ih := get_enter r (i + 1) s (by omega)
    have hshift : ∀ k, i + 1 ≤ k → (x :: r)[k - i]? = r[k - (i + 1)]? := by
      intro k hk
      rw [show k - i = (k - (i + 1)) + 1 by omega]
      simp
    by_cases hx : x.isObj = true
    · simp only [enter, hx, if_true, Env.get]
      by_cases h1 : i = s
      · subst h1
        rw [if_pos rfl, if_pos (by omega), if_pos (Nat.le_refl _)]
        simp [hx]
      · rw [if_neg h1]
        by_cases h2 : home + i = s
        · subst h2
          rw [if_pos rfl, if_neg (by omega), if_pos (Nat.le_refl _)]
          simp [hx]
        · rw [if_neg h2, ih]
          by_cases h3 : s < home
          · simp only [h3, if_true]
            by_cases h4 : i ≤ s
            · rw [if_pos h4, if_pos (by omega), hshift s (by omega)]
            · rw [if_neg h4, if_neg (by omega)]
          · simp only [h3, if_false]
            by_cases h4 : home + i ≤ s
            · rw [if_pos h4, if_pos (by omega)]
              have := hshift (s - home) (by omega)
              rw [this]
            · rw [if_neg h4, if_neg (by omega)]
    · have hx' : x.isObj = false := by simpa using hx
      simp only [enter, hx', Bool.false_eq_true, if_false, Env.get]
      by_cases h1 : i = s
      · subst h1
        rw [if_pos rfl, if_pos (by omega), if_pos (Nat.le_refl _)]
        simp [hx']
      · rw [if_neg h1, ih]
        by_cases h3 : s < home
        · simp only [h3, if_true]
          by_cases h4 : i ≤ s
          · rw [if_pos h4, if_pos (by omega), hshift s (by omega)]
          · rw [if_neg h4, if_neg (by omega)]
        · simp only [h3, if_false]
          by_cases h4 : home + i ≤ s
          · by_cases h5 : home + i = s
            · subst h5
              rw [if_pos h4, if_neg (by omega)]
              simp [hx']
            · rw [if_pos h4, if_pos (by omega)]
              have := hshift (s - home) (by omega)
              rw [this]
          · rw [if_neg h4, if_neg (by omega)]
/-- The arguments, one by one. -/
theorem Rs.each {q : PV → Value → Prop} : ∀ {xs : List PV} {vs : List Value} {bss : List Nat}, Rs w I q xs vs bss → bss.Nodup →
    ∃ Bs : Nat → List Nat, (∀ (k : Nat) (x : PV), xs[k]? = some x → ∃ v, vs[k]? = some v ∧ R w I q x v (Bs k)) ∧ (∀ k, xs.length ≤ k → Bs k = []) ∧ (∀ k, (Bs k).Nodup) ∧ (∀ j k b, j ≠ k → b ∈ Bs j → b ∉ Bs k) ∧ ∀ k b, b ∈ Bs k → b ∈ bss
  | [], vs, bss, h, _ => ⟨fun _ => [], fun k x hx => by simp at hx, fun _ _ => rfl, fun _ => List.nodup_nil, fun _ _ _ _ hb => by simp at hb, fun _ _ hb => by simp at hb⟩
  | x :: r, vs, bss, h, hnd => by
    obtain ⟨v, us, b1, b2, rfl, rfl, h1, h2⟩ := h
    have hn := List.nodup_append.1 hnd
    obtain ⟨Bs, k1, k2, k3, k4, k5⟩ := Rs.each h2 hn.2.1
    refine ⟨fun k => match k with | 0 => b1 | k + 1 => Bs k, ?_, ?_, ?_, ?_, ?_⟩
    · intro k y hy
      cases k with
      | zero => simp at hy; subst hy; exact ⟨v, rfl, h1⟩
      | succ k => exact k1 k y (by simpa using hy)
    · intro k hk
      cases k with
      | zero => simp at hk
      | succ k => exact k2 k (by simpa using hk)
    · intro k
      cases k with
      | zero => exact hn.1
      | succ k => exact k3 k
    · intro j k b hjk hb hb'
      cases j with
      | zero =>
        cases k with
        | zero => exact hjk rfl
        | succ k => exact hn.2.2 b hb b (k5 k b hb') rfl
      | succ j =>
        cases k with
        | zero => exact hn.2.2 b hb' b (k5 j b hb) rfl
        | succ k => exact k4 j k b (by omega) hb hb'
    · intro k b hb
      cases k with
      | zero => simp [show b ∈ b1 from hb]
      | succ k => simp [k5 k b hb]
theorem R.isObj_one {q : PV → Value → Prop} {x : PV} {V : Value} {bs : List Nat} (h : R w I q x V bs) (ho : x.isObj = true) : V.oneCell' = true := by
  cases x <;> simp [PV.isObj] at ho
  · rcases h.2 with ⟨rfl, _⟩ | ⟨g, vs, _, _, cap, cur, t, fr, rfl, _⟩ <;> rfl
  · obtain ⟨g, us, bs', _, _, cur, t, fr, rfl, _⟩ := h
    rfl
  · obtain ⟨g, _, rfl, _⟩ := h
    rfl
  · exact BldAt.one h
/-- The state at a function's entry. -/
theorem enter_inv {G : Nat → List PV} {xs : List PV} {vs : List Value} {bss : List Nat} {n : Nat} (hI : ∀ b, I b → b < w.heap.size) (hnd : bss.Nodup) (hni : ∀ b, b ∈ bss → ¬ I b) (hG : ∀ n, G n ≠ [] → R w I nope (.raddr (G n)) (.pointer (some ⟨n, 0, none⟩)) []) (hx : Rs w I nope xs vs bss)
    (hlen : xs.length ≤ n) (hn : n ≤ home) :
    St ⟨w, I, (· ∈ bss), G⟩ (fun s => vs.getD (s - home) undef) n (enter 0 xs) { tmps := vs.toArray ++ Array.replicate (n - vs.toArray.size) undef, defers := [] } w := by
  obtain ⟨Bs, k1, k2, k3, k4, k5⟩ := hx.each hnd
  have hl := hx.length
  have hltb := Rs.lt _ _ _ _ hx
  let blk : Nat → List Nat := fun s => if s < home then (match xs[s]? with | some x => if x.isObj then [] else Bs s | none => []) else (match xs[s - home]? with | some x => if x.isObj then Bs (s - home) else [] | none => [])
  -- whose blocks a slot has
  have own : ∀ s b, b ∈ blk s → ∃ k, b ∈ Bs k ∧ (∃ x, xs[k]? = some x ∧ ((x.isObj = true ∧ s = home + k) ∨ (x.isObj = false ∧ s = k))) := by
    intro s b hb
    simp only [blk] at hb
    split at hb
    · rename_i hs
      split at hb
      · rename_i x hx'
        split at hb
        · simp at hb
        · rename_i ho
          exact ⟨s, hb, x, hx', .inr ⟨by simpa using ho, rfl⟩⟩
      · simp at hb
    · rename_i hs
      split at hb
      · rename_i x hx'
        split at hb
        · rename_i ho
          exact ⟨s - home, hb, x, hx', .inl ⟨ho, by omega⟩⟩
        · simp at hb
      · simp at hb
  refine ⟨by simp; omega, rfl, I, blk, ?_⟩
  have hval : ∀ (k : Nat) (v : Value), vs[k]? = some v → valOf { tmps := vs.toArray ++ Array.replicate (n - vs.toArray.size) undef, defers := [] } (fun s => vs.getD (s - home) undef) k = v := by
    intro k v hv
    have hk : k < vs.length := (List.getElem?_eq_some_iff.1 hv).1
    have : k < home := by omega
    simp [valOf, this, Array.getElem?_append, hk]
    have := (List.getElem?_eq_some_iff.1 hv).2
    exact this
  have hvalH : ∀ (k : Nat) (v : Value), vs[k]? = some v → valOf { tmps := vs.toArray ++ Array.replicate (n - vs.toArray.size) undef, defers := [] } (fun s => vs.getD (s - home) undef) (home + k) = v := by
    intro k v hv
    have : ¬ home + k < home := by omega
    simp [valOf, hv, this]
  refine { rel := ?_, nd := ?_, ndf := List.nodup_nil, dj := ?_, djf := fun _ _ _ hf => by simp at hf, notI := ?_, notIf := fun _ hb => by simp at hb, ltI := hI, ltf := fun _ hb => by simp at hb, keepI := fun _ h => h, newI := fun _ h => .inl h, own := ?_, ownf := fun _ hb => by simp at hb, os := rfl, tape := rfl, output := rfl, size := Nat.le_refl _, same := fun _ _ _ => rfl, glob := hG }
  · intro s
    have hge := get_enter xs 0 s (by omega)
    simp only [Nat.zero_le, if_true, Nat.sub_zero, Nat.add_zero] at hge
    rw [hge]
    by_cases hs : s < home
    · simp only [hs, if_true, blk]
      cases hxs : xs[s]? with
      | none => simp [AM.R]
      | some x =>
        obtain ⟨v, hv, hR⟩ := k1 s x hxs
        simp only
        by_cases ho : x.isObj = true
        · simp only [ho, if_true]
          rw [hval s v hv]
          refine ⟨rfl, hR.isObj_one ho, fun _ => ?_⟩
          simp only [place, walk]
          rw [hvalH s v hv]
        · simp only [ho]
          rw [hval s v hv]
          exact hR.ofNope
    · simp only [hs, if_false, blk]
      by_cases hs2 : home ≤ s
      · simp only [hs2, if_true]
        cases hxs : xs[s - home]? with
        | none => simp [AM.R]
        | some x =>
          obtain ⟨v, hv, hR⟩ := k1 (s - home) x hxs
          simp only
          by_cases ho : x.isObj = true
          · simp only [ho, if_true]
            have := hvalH (s - home) v hv
            rw [show home + (s - home) = s by omega] at this
            rw [this]
            exact hR.ofNope
          · simp [ho, AM.R]
      · omega
  · intro s
    simp only [blk]
    split
    · split
      · split
        · exact List.nodup_nil
        · exact k3 _
      · exact List.nodup_nil
    · split
      · split
        · exact k3 _
        · exact List.nodup_nil
      · exact List.nodup_nil
  · intro s t hst b hb hb'
    obtain ⟨j, hj, x, hxj, hc⟩ := own s b hb
    obtain ⟨k, hk, y, hyk, hc'⟩ := own t b hb'
    by_cases hjk : j = k
    · subst hjk
      rw [hxj] at hyk
      obtain rfl := Option.some.inj hyk
      rcases hc with ⟨c1, c2⟩ | ⟨c1, c2⟩ <;> rcases hc' with ⟨d1, d2⟩ | ⟨d1, d2⟩
      · omega
      · rw [c1] at d1; cases d1
      · rw [c1] at d1; cases d1
      · omega
    · exact k4 j k b hjk hj hk
  · intro s b hb
    obtain ⟨j, hj, _⟩ := own s b hb
    exact hni b (k5 j b hj)
  · intro s b hb
    obtain ⟨j, hj, _⟩ := own s b hb
    exact .inl (k5 j b hj)

/-! ### Leaving -/
theorem left1_ok {q : PV → Value → Prop} {x : PV} {V : Value} {bs : List Nat} (h : R w I q x V bs) : ∃ c, R w I nope (left1 x) V c ∧ (c = bs ∨ c = []) := by
  cases x <;> simp only [left1] <;> first | exact ⟨bs, h, .inl rfl⟩ | exact ⟨[], rfl, .inr rfl⟩
theorem left_ok {q : PV → Value → Prop} {val : Nat → Value} (h : Inv B e q val w I blk fl) : ∀ {xs : List PV} {vs : List Value} {i : Nat}, (∀ k v, vs[k]? = some v → val (home + i + k) = v) → vs.length = xs.length →
    ∃ bs, Rs w I nope (left e i xs) vs bs ∧ bs.Nodup ∧ ∀ b, b ∈ bs → ∃ s, home + i ≤ s ∧ b ∈ blk s
  | [], vs, i, _, hl => by
    have : vs = [] := by cases vs <;> simp_all
    subst this
    exact ⟨[], ⟨rfl, rfl⟩, List.nodup_nil, fun _ hb => by simp at hb⟩
  | x :: xs, vs, i, hv, hl => by
    cases vs with
    | nil => simp at hl
    | cons v vs =>
      obtain ⟨bs, k1, k2, k3⟩ := left_ok h (xs := xs) (vs := vs) (i := i + 1) (fun k u hu => by
        have := hv (k + 1) u (by simpa using hu)
        rw [← this]; congr 1; omega) (by simpa using hl)
      have h0 := h.rel (home + i)
      have e0 : val (home + i) = v := hv 0 v rfl
      rw [e0] at h0
      have ⟨c, c1, c2⟩ : ∃ c, R w I nope (if x.isObj then left1 (e.get (home + i)) else .dead) v c ∧ (c = blk (home + i) ∨ c = []) := by
        split
        · exact left1_ok h0
        · exact ⟨[], rfl, .inr rfl⟩
      refine ⟨c ++ bs, ⟨v, vs, c, bs, rfl, rfl, c1, k1⟩, ?_, ?_⟩
      · rcases c2 with rfl | rfl
        · refine List.nodup_append.2 ⟨h.nd _, k2, fun b hb b' hb' hbb => ?_⟩
          subst hbb
          obtain ⟨s, hs1, hs2⟩ := k3 b hb'
          exact h.dj (home + i) s (by omega) b hb hs2
        · simpa using k2
      · intro b hb
        rcases List.mem_append.1 hb with hb | hb
        · rcases c2 with rfl | rfl
          · exact ⟨home + i, Nat.le_refl _, hb⟩
          · simp at hb
        · obtain ⟨s, hs1, hs2⟩ := k3 b hb
          exact ⟨s, by omega, hs2⟩
theorem single_ok {ys : List PV} {vs : List Value} {bs : List Nat} (h : Rs w I nope ys vs bs) : R w I nope (single ys) (if h : vs.toArray.size = 1 then vs.toArray[0] else .tuple vs.toArray) bs := by
  have hl := h.length
  match ys, vs, hl, h with
  | [], [], _, h => exact ⟨[], rfl, h⟩
  | [y], [v], _, h =>
    obtain ⟨v', us, b1, b2, e1, e2, h1, h2, h3⟩ := h
    subst h2
    simp only [List.cons.injEq, and_true] at e1
    subst e1
    subst h3
    simpa [single, e2] using h1
  | y :: y2 :: ys, v :: v2 :: vs, _, h => 
    have : ¬ (v :: v2 :: vs).toArray.size = 1 := by simp
    rw [dif_neg this]
    exact ⟨_, rfl, h⟩

/-- A function of the program is the one that the abstract machine has. -/
def FnOK (P : Program) (G : Nat → List PV) (f : FuncId) (af : AFunc) : Prop :=
  ∃ fn c, P.funcs[f]? = some fn ∧ fn.body = some c ∧ fn.ntmps = af.nt ∧ af.nt ≤ home ∧ fn.results.toList.map stripR = af.res.map eraseR ∧ (∀ r ∈ af.res, r.ok P) ∧ strip c = erase af.body ∧ af.body.ok P G af.nt ∧ plansB c af.body = true

theorem runFn_ok {G : Nat → List PV} (hC : CallOK P G C) (hmix : P.follows .mixedOrders = true) {f : FuncId} {af : AFunc} (hf : FnOK P G f af) {fuel : Nat} {xs : List PV} {y : PV} {backs : List PV} (hr : runFn T C fuel af xs = some (y, backs))
    {vs : List Value} {bss : List Nat} (hI : ∀ b, I b → b < w.heap.size) (hnd : bss.Nodup) (hni : ∀ b, b ∈ bss → ¬ I b) (hG : ∀ n, G n ≠ [] → R w I nope (.raddr (G n)) (.pointer (some ⟨n, 0, none⟩)) []) (hx : Rs w I nope xs vs bss) :
    Calls P f vs.toArray w fun en w' => ∃ V, en = .returned V ∧ Left w I bss vs w' y V backs := by
  obtain ⟨fn, c, h1, h2, h3, h4, h5, h6, h7, h8, h9⟩ := hf
  unfold runFn at hr
  split at hr
  case isFalse => simp at hr
  rename_i hlen
  have hst := enter_inv hI hnd hni hG hx hlen h4
  refine calls_of_wp h1 h2 ?_
  rw [h3]
  have fin : ∀ (out : Out) (e : Env), exec T C fuel af.body (enter 0 xs) = some (out, e) → (out = .normal ∨ out = .ret) → (do let (ys, e') ← results e af.res; pure (single ys, left e' 0 xs)) = some (y, backs) →
      c.wp P (bodyPost P fn fun en w' => ∃ V, en = .returned V ∧ Left w I bss vs w' y V backs) { tmps := vs.toArray ++ Array.replicate (af.nt - vs.toArray.size) undef, defers := [] } w := by
    intro out e hx1 hout hres
    simp only [Option.bind_eq_bind, Option.bind_eq_some_iff, Option.pure_def, Option.some.injEq, Prod.mk.injEq, Prod.exists] at hres
    obtain ⟨ys, e', hrs, rfl, rfl⟩ := hres
    refine wp_mono (exec_sound (B := ⟨w, I, (· ∈ bss), G⟩) hC hmix fuel af.body c h7 h8 h9 _ _ _ hx1 _ w hst) fun ex a' w' hm => ?_
    obtain ⟨rfl, hsz, hdf, I', blk', hInv⟩ := hm
    have main : a'.defers = [] ∧ ∃ v, (Go.results fn a'.tmps).run P w' = .ok v w' ∧ ∃ V, Ending.returned v = .returned V ∧ Left w I bss vs w' (single ys) V (left e' 0 xs) := by
      refine ⟨hdf, ?_⟩
      obtain ⟨us, blk2, bs, r1, r2, r3, r4⟩ := results_ok (rs := fn.results.toList) h5 h6 hInv hrs
      have hl := hx.length
      obtain ⟨b2, l1, l2, l3⟩ := left_ok r2 (xs := xs) (vs := vs) (i := 0) (fun k u hu => by
        have : ¬ home + k < home := by omega
        simp [valOf, hu, this]) hl
      refine ⟨_, ?_, _, rfl, I', bs, b2, r2.keepI, r2.newI, r2.ltI, r2.os, r2.tape, r2.output, r2.size, r2.same, single_ok r3, l1, ?_, ?_⟩
      · unfold Go.results
        have : (fn.results.mapM (readR a'.tmps)).run P w' = .ok us.toArray w' := by
          rw [Array.mapM_eq_mapM_toList]
          simp [r1]
        show ((do let vs ← fn.results.mapM (readR a'.tmps); pure (if h : vs.size = 1 then vs[0] else .tuple vs)) : Sem Value).run P w' = _
        simp [this]
      · refine List.nodup_append.2 ⟨by simpa using r2.ndf, l2, fun b hb b' hb' hbb => ?_⟩
        subst hbb
        obtain ⟨s, _, hs⟩ := l3 b hb'
        exact r2.djf s b hs (by simpa using hb)
      · intro b hb
        rcases List.mem_append.1 hb with hb | hb
        · exact ⟨r2.notIf b (by simpa using hb), r2.ownf b (by simpa using hb)⟩
        · obtain ⟨s, _, hs⟩ := l3 b hb
          exact ⟨r2.notI s b hs, r2.own s b hs⟩
    rcases hout with rfl | rfl
    · exact main
    · exact main
  split at hr
  · rename_i e hx1
    exact fin _ e hx1 (.inl rfl) hr
  · rename_i e hx1
    exact fin _ e hx1 (.inr rfl) hr
  · simp at hr
/-- Calls of the program's functions are answered as the abstract machine says. -/
theorem callN_ok {G : Nat → List PV} (hmix : P.follows .mixedOrders = true) (hext : CallOK P G T.ext) (hfns : ∀ f af, T.fns f = some af → FnOK P G f af) : ∀ n, CallOK P G (callN T n)
  | 0 => fun f xs y backs h => by simp [callN] at h
  | n + 1 => fun f xs y backs h w I vs bss hI hnd hni hG hx => by
    simp only [callN] at h
    split at h
    · rename_i r hr
      simp only [Option.some.injEq] at h
      subst h
      exact hext f xs _ _ hr w I vs bss hI hnd hni hG hx
    · split at h
      · rename_i af haf
        exact runFn_ok (callN_ok hmix hext hfns n) hmix (hfns f af haf) h hI hnd hni hG hx
      · simp at h
end
end Go.AM
