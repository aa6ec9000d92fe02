/- Calls, joined: the operation. No conditions. -/
import Derived.Test.YtfkgoofipbbhpaaDoorAmCall
namespace Go.AM
open Go

section
variable {P : Program} {B : Base} {T : Tab} {C : Oracle} {e e' E : Env} {w w' : World} {I I' : Nat → Prop} {blk : Nat → List Nat} {fl : List Nat} {val : Nat → Value} {q : PV → Value → Prop}

mutual
theorem R.noRo : ∀ (q : PV → Value → Prop) (x : PV) (V : Value) (bs : List Nat), x.noRo = true → R w I q x V bs → R w I' q x V bs
  | q, .v _, _, _, _, h => h
  | q, .agg cs, V, bs, n, h => by
    obtain ⟨vs, e, h⟩ := h
    exact ⟨vs, e, Rs.noRo q cs vs bs n h⟩
  | q, .tup cs, V, bs, n, h => by
    obtain ⟨vs, e, h⟩ := h
    exact ⟨vs, e, Rs.noRo q cs vs bs n h⟩
  | q, .ro sz l, V, bs, n, h => by
    obtain ⟨e0, hs, a, cap, e, hc, h⟩ := h
    exact ⟨e0, hs, a, cap, e, hc, .inl (by simpa [PV.noRo] using n)⟩
  | q, .own sz l, V, bs, n, h => by
    obtain ⟨hs, h⟩ := h
    refine ⟨hs, ?_⟩
    rcases h with h | ⟨g, vs, rfl, h1, h2⟩
    · exact .inl h
    · exact .inr ⟨g, vs, rfl, Rs.noRo _ l vs [] n h1, h2⟩
  | q, .box cs, V, bs, n, h => by
    obtain ⟨g, us, bs', rfl, h1, h2⟩ := h
    exact ⟨g, us, bs', rfl, Rs.noRo _ cs us bs' n h1, h2⟩
  | q, .ref _ _, _, _, n, _ => by simp [PV.noRo] at n
  | q, .win _ _ _ _ _, _, _, n, _ => by simp [PV.noRo] at n
  | q, .addr _ _, _, _, n, _ => by simp [PV.noRo] at n
  | q, .eaddr _ _ _ _ _, _, _, n, _ => by simp [PV.noRo] at n
  | q, .raddr _, _, _, n, _ => by simp [PV.noRo] at n
  | q, .nil _, _, _, _, h => h
  | q, .dead, _, _, _, h => h
  | q, .iter _ _, _, _, n, _ => by simp [PV.noRo] at n
  | q, .selfp, _, _, _, h => h
  | q, .bld _ _ _, _, _, _, h => h
theorem Rs.noRo : ∀ (q : PV → Value → Prop) (l : List PV) (vs : List Value) (bs : List Nat), PV.noRoL l = true → Rs w I q l vs bs → Rs w I' q l vs bs
  | q, [], _, _, _, h => h
  | q, x :: r, vs, bs, n, h => by
    simp only [PV.noRoL, Bool.and_eq_true] at n
    obtain ⟨v, us, b1, b2, e1, e2, h1, h2⟩ := h
    exact ⟨v, us, b1, b2, e1, e2, R.noRo q x v b1 n.1 h1, Rs.noRo q r us b2 n.2 h2⟩
end

/-- The world behind a call: what was handed over is gone, what came back floats. -/
theorem Inv.after {bs c : List Nat} (h : Inv B e q val w I blk bs) (hos : w'.os = w.os) (htape : w'.tape = w.tape) (hout : w'.output = w.output) (hsize : w.heap.size ≤ w'.heap.size) (hsame : ∀ b, b < w.heap.size → b ∉ bs → w'.heap[b]? = w.heap[b]?)
    (hI1 : ∀ b, I b → I' b) (hI2 : ∀ b, I' b → I b ∨ b ∈ bs ∨ w.heap.size ≤ b) (hI3 : ∀ b, I' b → b < w'.heap.size) (hnd : c.Nodup) (hc : ∀ b, b ∈ c → ¬ I' b ∧ (b ∈ bs ∨ w.heap.size ≤ b) ∧ b < w'.heap.size) : Inv B e q val w' I' blk c := by
  have sI : ∀ b, I b → w'.heap[b]? = w.heap[b]? := fun b hb => hsame b (h.ltI b hb) fun hf => h.notIf b hf hb
  refine { nd := h.nd, ndf := hnd, dj := h.dj, keepI := fun b hb => hI1 b (h.keepI b hb), own := h.own, rel := ?_, djf := ?_, notI := ?_, notIf := fun b hb => (hc b hb).1, ltI := hI3, ltf := fun b hb => (hc b hb).2.2, newI := ?_, ownf := ?_, os := hos.trans h.os, tape := htape.trans h.tape, output := hout.trans h.output, size := Nat.le_trans h.size hsize, same := ?_, glob := ?_ }
  · exact fun s => R.mono hI1 sI _ q q (fun _ _ h => h) _ _ (fun b hb => hsame b (h.lt s b hb) (h.djf s b hb)) (h.rel s)
  · intro s b hb hf
    rcases (hc b hf).2.1 with h1 | h1
    · exact h.djf s b hb h1
    · have := h.lt s b hb; omega
  · intro s b hb hI
    rcases hI2 b hI with h1 | h1 | h1
    · exact h.notI s b hb h1
    · exact h.djf s b hb h1
    · have := h.lt s b hb; omega
  · intro b hb
    rcases hI2 b hb with h1 | h1 | h1
    · exact h.newI b h1
    · exact .inr (h.ownf b h1)
    · exact .inr (.inr (Nat.le_trans h.size h1))
  · intro b hb
    rcases (hc b hb).2.1 with h1 | h1
    · exact h.ownf b h1
    · exact .inr (Nat.le_trans h.size h1)
  · intro b hb hS
    rw [hsame b (Nat.lt_of_lt_of_le hb h.size) fun hf => ?_]
    · exact h.same b hb hS
    · rcases h.ownf b hf with h1 | h1
      · exact hS h1
      · omega
  · exact fun n hn => R.mono hI1 sI _ nope nope (fun _ _ h => h) _ _ (by simp) (h.glob n hn)
theorem Inv.told {e0 : Env} {w0 : World} (h : Inv B e (refOK e0 val w0) val w I blk fl) (hw : Weak E e0) (hp : ∀ s p, (E.at_ s p).isObj = true → place val w s p = place val w0 s p) : Inv B e (refOK E val w) val w I blk fl := by
  refine { h with rel := fun s => R.mono (fun _ h => h) (fun _ _ => rfl) _ _ _ ?_ _ _ (fun _ _ => rfl) (h.rel s) }
  intro x V k
  cases x <;> simp only [AM.refOK] at k ⊢
  · exact ⟨k.1, fun o => (hp _ _ o).trans (k.2 (hw _ _ o))⟩
  · refine ⟨k.1, fun o => ?_⟩
    rw [hp _ _ o]
    exact k.2 (hw _ _ o)
  · exact ⟨k.1, fun o => k.2 (hw _ [] o)⟩
  · refine ⟨k.1, fun o => ?_⟩
    rw [hp _ _ o]
    exact k.2 (hw _ _ o)
theorem MovedR.obj : ∀ {ms : List (Option (PV × Option (Nat × List Nat)))} {vs : List Value} {bs : List Nat}, MovedR w I val E ms vs bs → ∀ y s p, some (y, some (s, p)) ∈ ms → (E.at_ s p).isObj = true
  | [], _, _, _, _, _, _, hm => by simp at hm
  | none :: ms, v :: vs, bs, h, y, s, p, hm => MovedR.obj (ms := ms) (vs := vs) h y s p (by simpa using hm)
  | some (z, b) :: ms, v :: vs, bs, h, y, s, p, hm => by
    obtain ⟨b1, b2, _, _, h3, _, h4⟩ := h
    rcases List.mem_cons.1 hm with hm | hm
    · cases hm
      exact (h3 s p rfl).2
    · exact MovedR.obj h4 y s p hm
  | none :: _, [], _, h, _, _, _, _ => h.elim
  | some _ :: _, [], _, h, _, _, _, _ => h.elim
theorem MovedR.none_nil : ∀ {ms : List (Option (PV × Option (Nat × List Nat)))} {vs : List Value} {bs : List Nat}, MovedR w I val E ms vs bs → ms.all Option.isNone = true → bs = []
  | [], _, _, h, _ => h
  | none :: ms, v :: vs, bs, h, k => MovedR.none_nil (ms := ms) (vs := vs) h (by simpa using k)
  | some (z, b) :: ms, _, _, _, k => by simp at k
  | none :: _, [], _, h, _ => h.elim

theorem call_ok (hC : CallOK P B.glob C) (h : Inv B e (refOK e val w) val w I blk []) {f : FuncId} {xs : List PV} {vs : List Value} (hx : Rs w I (refOK e val w) xs vs []) {y : PV} (hcall : call T C e f xs = some (y, e')) :
    Calls P f vs.toArray w fun en w' => ∃ V, en = .returned V ∧ Yields B val e' y V w' ∧ (((moves e [] (T.modes f) xs).map fun r => r.1.all Option.isNone) = some true → ∀ b, b < w.heap.size → w'.heap[b]? = w.heap[b]?) := by
  unfold call at hcall
  simp only [Option.bind_eq_bind, Option.bind_eq_some_iff, Option.pure_def, Option.some.injEq, Prod.mk.injEq, Prod.exists] at hcall
  obtain ⟨ms, e1, hmv, ys, lent, bk, hps, res, backs, hres, rfl, rfl⟩ := hcall
  obtain ⟨blk1, bs, E1, k1, k2, k3, k4, k5, _, k7, k8, _⟩ := moves_ok h (Weak.refl e) (fun s p ho => PV.path_of_obj p _ ho) hx hmv
  have k1' : Inv B e1 (refOK e val w) val w I blk1 bs := by simpa using k1
  obtain ⟨p1, p2, p3⟩ := pass_ok (E := E1) k1' k8 (k2.Rs hx) k7 hps
  obtain ⟨blk2, I2, f1, f2, f3, f4⟩ := freezeAll_ok k1' p1
  have hys := p3 I2 f3 f4
  refine (hC f ys res backs hres w I2 vs bs f1.ltI f1.ndf (fun b hb => f1.notIf b hb) f1.glob hys).mono ?_
  rintro en w' ⟨V, rfl, I3, b1, b2, i1, i2, i3, hos, htape, hout, hsize, hsame, hR, hbacks, hnd, hfl⟩
  refine ⟨V, rfl, ?_, fun hn b hb => ?_⟩
  · -- the places are as they were
    have hpl : ∀ s p, (E1.at_ s p).isObj = true → place val w' s p = place val w s p := fun s p ho => place_same k1' hsame (k5 s p ho)
    have hmem : ∀ y s p, some (y, some (s, p)) ∈ ms → (E1.at_ s p).isObj = true ∧ place val w' s p = place val w s p := fun y s p hm => ⟨MovedR.obj k7 y s p hm, hpl s p (MovedR.obj k7 y s p hm)⟩
    have hltR := R.lt _ _ _ _ hR
    have hltB := Rs.lt _ _ _ _ hbacks
    have hlt : ∀ b, b ∈ b1 ++ b2 → b < w'.heap.size := fun b hb => (List.mem_append.1 hb).elim (hltR b) (hltB b)
    rw [p2]
    split
    · rename_i hc
      simp only [Bool.or_eq_true, Bool.and_eq_true, List.isEmpty_iff] at hc
      rcases hc with rfl | ⟨n1, n2⟩
      · -- nothing is lent
        have g1 : Inv B e1 (refOK E1 val w') val w' I3 blk2 (b2 ++ b1) := by
          have hf : freezeAll e1 [] = e1 := rfl
          rw [hf] at f1
          exact ((f1.after hos htape hout hsize hsame i1 i2 i3 hnd fun b hb => ⟨(hfl b hb).1, (hfl b hb).2, hlt b hb⟩).told k3 hpl).fl_perm List.perm_append_comm
        obtain ⟨blk3, E2, g2, g3⟩ := giveBack_ok g1 k4 k7 hmem hbacks
        exact ⟨I3, blk3, b1, g2.weaken g3, .inl hR⟩
      · have g1 : Inv B e1 (refOK E1 val w') val w' I blk1 (b2 ++ b1) :=
          ((k1'.after hos htape hout hsize hsame (fun _ h => h) (fun b hb => .inl hb) (fun b hb => Nat.lt_of_lt_of_le (k1'.ltI b hb) hsize) hnd fun b hb => ⟨fun hI => (hfl b hb).1 (i1 b (f3 b hI)), (hfl b hb).2, hlt b hb⟩).told k3 hpl).fl_perm List.perm_append_comm
        obtain ⟨blk3, E2, g2, g3⟩ := giveBack_ok g1 k4 k7 hmem (Rs.noRo _ _ _ _ n2 hbacks)
        exact ⟨I, blk3, b1, g2.weaken g3, .inl (R.noRo _ _ _ _ n1 hR)⟩
    · have g1 : Inv B (freezeAll e1 lent) (refOK E1 val w') val w' I3 blk2 (b2 ++ b1) :=
        ((f1.after hos htape hout hsize hsame i1 i2 i3 hnd fun b hb => ⟨(hfl b hb).1, (hfl b hb).2, hlt b hb⟩).told k3 hpl).fl_perm List.perm_append_comm
      obtain ⟨blk3, E2, g2, g3⟩ := giveBack_ok g1 (f2.trans k4) k7 hmem hbacks
      exact ⟨I3, blk3, b1, g2.weaken g3, .inl hR⟩
  · rw [hmv] at hn
    simp only [Option.map_some, Option.some.injEq] at hn
    have hbs := MovedR.none_nil k7 hn
    subst hbs
    exact hsame b hb (by simp)
end
end Go.AM
