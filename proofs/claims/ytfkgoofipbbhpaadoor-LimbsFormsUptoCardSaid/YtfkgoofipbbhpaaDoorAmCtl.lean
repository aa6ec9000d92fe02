/- The code of a function, and its calls. No conditions. -/
import Derived.Test.YtfkgoofipbbhpaaDoorAmPlan
namespace Go.AM
open Go

inductive SCode where
  | skip | ret | label (l : Nat) | exit (id : Nat)
  | reg (id : Nat) (ops : List SOp) (draw : Bool)
  | seq (a b : SCode)
  | cond (c : Operand) (a b : SCode)
  | block (id : Nat) (b : SCode)
  | scope (b : SCode)
  | loop (b : SCode)
  | other
def strip : Code → SCode
  | .skip => .skip
  | .ret => .ret
  | .label l => .label l
  | .exit id => .exit id
  | .region id ops draw => .reg id (ops.toList.map stripO) draw
  | .seq a b => .seq (strip a) (strip b)
  | .cond c a b => .cond c (strip a) (strip b)
  | .block id b => .block id (strip b)
  | .scope b => .scope (strip b)
  | .loop b => .loop (strip b)
  | _ => .other
def erase : IR → SCode
  | .skip => .skip
  | .ret => .ret
  | .label l => .label l
  | .exit id => .exit id
  | .reg id ops plan _ => .reg id (ops.map eraseO) plan.isSome
  | .seq a b => .seq (erase a) (erase b)
  | .cond _ c a b => .cond c.op (erase a) (erase b)
  | .block id b => .block id (erase b)
  | .scope b => .scope (erase b)
  | .loop _ b => .loop (erase b)
  | .tail _ b => erase b
  | .other => .other
/-- What the types must say for all of it. -/
def IR.ok (P : Program) (G : Nat → List PV) (n : Nat) : IR → Prop
  | .reg _ ops _ _ => ∀ g ∈ ops, g.ok P G n
  | .seq a b => a.ok P G n ∧ b.ok P G n
  | .cond _ c a b => c.ok G ∧ a.ok P G n ∧ b.ok P G n
  | .block _ b => b.ok P G n
  | .scope b => b.ok P G n
  | .loop _ b => b.ok P G n
  | .tail _ b => b.ok P G n
  | _ => True
/-- Where an order is free, the order that is told serves every other. -/
def plansB : Code → IR → Bool
  | c, .tail _ b => plansB c b
  | .region _ ops true, .reg _ gs (some p) _ => planB ops gs p
  | .seq a b, .seq x y => plansB a x && plansB b y
  | .cond _ a b, .cond _ _ x y => plansB a x && plansB b y
  | .block _ b, .block _ x => plansB b x
  | .scope b, .scope x => plansB b x
  | .loop b, .loop _ x => plansB b x
  | _, _ => true

section
variable {P : Program} {B : Base} {T : Tab} {C : Oracle} {a : Act} {H : Nat → Value} {e e' : Env} {w w' : World} {I : Nat → Prop} {blk : Nat → List Nat} {Q : Exit → Act → World → Prop} {n : Nat}

def Out.exit' : Out → Exit
  | .normal => .normal
  | .ret => .ret
  | .exit id => .exit id
/-- What the run of a piece of code leaves. -/
def Meets (B : Base) (H : Nat → Value) (n : Nat) (out : Out) (e : Env) : Exit → Act → World → Prop := fun x a w => x = out.exit' ∧ St B H n e a w

theorem exec_sound (hC : CallOK P B.glob C) (hmix : P.follows .mixedOrders = true) (fuel : Nat) : ∀ (ir : IR) (c : Code), strip c = erase ir → ir.ok P B.glob n → plansB c ir = true →
    ∀ (e : Env) (out : Out) (e' : Env), exec T C fuel ir e = some (out, e') → ∀ (a : Act) (w : World), St B H n e a w → c.wp P (Meets B H n out e') a w
  | .skip, c, hs, hok, hp, e, out, e', hx, a, w, h => by
    cases c <;> simp only [strip, erase] at hs <;> first | cases hs | skip
    simp only [exec, Option.some.injEq, Prod.mk.injEq] at hx
    obtain ⟨rfl, rfl⟩ := hx
    exact wp_skip ⟨rfl, h⟩
  | .ret, c, hs, hok, hp, e, out, e', hx, a, w, h => by
    cases c <;> simp only [strip, erase] at hs <;> first | cases hs | skip
    simp only [exec, Option.some.injEq, Prod.mk.injEq] at hx
    obtain ⟨rfl, rfl⟩ := hx
    exact wp_ret ⟨rfl, h⟩
  | .label l, c, hs, hok, hp, e, out, e', hx, a, w, h => by
    cases c <;> simp only [strip, erase] at hs <;> first | (cases hs; done) | skip
    simp only [exec, Option.some.injEq, Prod.mk.injEq] at hx
    obtain ⟨rfl, rfl⟩ := hx
    exact wp_label ⟨rfl, h⟩
  | .exit id, c, hs, hok, hp, e, out, e', hx, a, w, h => by
    cases c <;> simp only [strip, erase] at hs <;> first | (cases hs; done) | skip
    cases hs
    simp only [exec, Option.some.injEq, Prod.mk.injEq] at hx
    obtain ⟨rfl, rfl⟩ := hx
    exact wp_exit ⟨rfl, h⟩
  | .reg id gs plan ks, c, hs, hok, hp, e, out, e', hx, a, w, h => by
    cases c <;> simp only [strip, erase] at hs <;> first | (cases hs; done) | skip
    rename_i id' ops draw
    simp only [SCode.reg.injEq] at hs
    obtain ⟨rfl, hm, hd⟩ := hs
    simp only [exec] at hx
    cases plan with
    | none =>
      simp only [Option.isSome_none] at hd
      subst hd
      simp only [Option.map_eq_some_iff, Prod.mk.injEq] at hx
      obtain ⟨e1, hr, rfl, rfl⟩ := hx
      exact wp_region_list (opsRun_sound hC hm hok hm hok h hr fun a' w' h' => ⟨rfl, h'.keep ks⟩)
    | some p =>
      simp only [Option.isSome_some] at hd
      subst hd
      simp only [Option.map_eq_some_iff, Prod.mk.injEq] at hx
      obtain ⟨e1, hr, rfl, rfl⟩ := hx
      exact plan_sound hC hm hok hp hmix h hr fun a' w' h' => ⟨rfl, h'.keep ks⟩
  | .seq x y, c, hs, hok, hp, e, out, e', hx, a, w, h => by
    cases c <;> simp only [strip, erase] at hs <;> first | (cases hs; done) | skip
    rename_i cx cy
    simp only [SCode.seq.injEq] at hs
    simp only [plansB, Bool.and_eq_true] at hp
    simp only [exec] at hx
    apply wp_seq
    split at hx
    · rename_i e1 hx1
      refine wp_mono (exec_sound hC hmix fuel x cx hs.1 hok.1 hp.1 e _ _ hx1 a w h) fun ex a' w' hm => ?_
      obtain ⟨rfl, h'⟩ := hm
      exact exec_sound hC hmix fuel y cy hs.2 hok.2 hp.2 e1 out e' hx a' w' h'
    · rename_i hne
      refine wp_mono (exec_sound hC hmix fuel x cx hs.1 hok.1 hp.1 e out e' hx a w h) fun ex a' w' hm => ?_
      obtain ⟨rfl, h'⟩ := hm
      cases out with
      | normal => exact (hne e' hx).elim
      | ret => exact ⟨rfl, h'⟩
      | exit id => exact ⟨rfl, h'⟩
  | .cond ks k x y, c, hs, hok, hp, e, out, e', hx, a, w, h => by
    cases c <;> simp only [strip, erase] at hs <;> first | (cases hs; done) | skip
    rename_i ck cx cy
    simp only [SCode.cond.injEq] at hs
    obtain ⟨rfl, hs1, hs2⟩ := hs
    simp only [plansB, Bool.and_eq_true] at hp
    simp only [exec] at hx
    obtain ⟨hk, hok1, hok2⟩ := hok
    have hev : R w _ (refOK e (valOf a H) w) (k.ev e) (a.eval k.op) [] := ev_ok h.2.2.choose_spec.choose_spec hk
    split at hx
    · rename_i hb
      rw [hb] at hev
      exact wp_cond_true hev.1 (exec_sound hC hmix fuel x cx hs1 hok1 hp.1 _ out e' hx a w (h.keep ks))
    · rename_i hb
      rw [hb] at hev
      exact wp_cond_false hev.1 (exec_sound hC hmix fuel y cy hs2 hok2 hp.2 _ out e' hx a w (h.keep ks))
    · simp at hx
  | .block id x, c, hs, hok, hp, e, out, e', hx, a, w, h => by
    cases c <;> simp only [strip, erase] at hs <;> first | (cases hs; done) | skip
    rename_i id' cx
    simp only [SCode.block.injEq] at hs
    obtain ⟨rfl, hs⟩ := hs
    simp only [plansB] at hp
    simp only [exec] at hx
    apply wp_block
    split at hx
    · rename_i i e1 hx1
      refine wp_mono (exec_sound hC hmix fuel x cx hs hok hp e _ _ hx1 a w h) fun ex a' w' hm => ?_
      obtain ⟨rfl, h'⟩ := hm
      simp only [Out.exit', Exit.inBlock]
      split at hx
      · rename_i hi
        simp only [Option.some.injEq, Prod.mk.injEq] at hx
        obtain ⟨rfl, rfl⟩ := hx
        rw [if_pos hi]
        exact ⟨rfl, h'⟩
      · rename_i hi
        simp only [Option.some.injEq, Prod.mk.injEq] at hx
        obtain ⟨rfl, rfl⟩ := hx
        rw [if_neg hi]
        exact ⟨rfl, h'⟩
    · rename_i hne
      refine wp_mono (exec_sound hC hmix fuel x cx hs hok hp e out e' hx a w h) fun ex a' w' hm => ?_
      obtain ⟨rfl, h'⟩ := hm
      cases out with
      | normal => exact ⟨rfl, h'⟩
      | ret => exact ⟨rfl, h'⟩
      | exit id => exact (hne id e' hx).elim
  | .other, c, hs, hok, hp, e, out, e', hx, a, w, h => by simp [exec] at hx
  | .tail ks x, c, hs, hok, hp, e, out, e', hx, a, w, h => exec_sound hC hmix fuel x c hs hok (by cases c <;> exact hp) (e.keep ks) out e' hx a w (h.keep ks)
  | .scope x, c, hs, hok, hp, e, out, e', hx, a, w, h => by
    cases c <;> simp only [strip, erase] at hs <;> first | (cases hs; done) | skip
    rename_i cx
    simp only [SCode.scope.injEq] at hs
    simp only [plansB] at hp
    simp only [exec] at hx
    refine wp_scope_straight (wp_mono (exec_sound hC hmix fuel x cx hs hok hp e out e' hx a w h) fun ex a' w' hm => ?_)
    obtain ⟨rfl, h'⟩ := hm
    cases out <;> exact ⟨rfl, h'⟩
  | .loop ks x, c, hs, hok, hp, e, out, e', hx, a, w, h => by
    cases c <;> simp only [strip, erase] at hs <;> first | (cases hs; done) | skip
    rename_i cx
    simp only [SCode.loop.injEq] at hs
    simp only [plansB] at hp
    simp only [exec] at hx
    have key : ∀ (m : Nat) (e : Env) (a : Act) (w : World), loopN (exec T C fuel x) ks m e = some (out, e') → St B H n e a w → Code.rounds P cx (Meets B H n out e') m a w := by
      intro m
      induction m with
      | zero => intro e a w hx h; simp [loopN] at hx
      | succ m ih =>
        intro e a w hx h
        simp only [loopN] at hx
        rw [rounds_succ]
        split at hx
        · rename_i e1 hx1
          refine wp_mono (exec_sound hC hmix fuel x cx hs hok hp _ _ _ hx1 a w (h.keep ks)) fun ex a' w' hm => ?_
          obtain ⟨rfl, h'⟩ := hm
          exact ih e1 a' w' hx h'
        · rename_i hne
          refine wp_mono (exec_sound hC hmix fuel x cx hs hok hp _ out e' hx a w (h.keep ks)) fun ex a' w' hm => ?_
          obtain ⟨rfl, h'⟩ := hm
          cases out with
          | normal => exact (hne e' hx).elim
          | ret => exact ⟨rfl, h'⟩
          | exit id => exact ⟨rfl, h'⟩
    exact wp_loop_rounds fuel (key fuel e a w hx h)
end
end Go.AM
