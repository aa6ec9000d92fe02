/- The abstract machine's run without a bound on its length. No conditions. -/
import Derived.Test.YtkcnnifgdhabgaaDoorAmG
namespace Go.AM
open Go

variable {T : Tab} {C C' : Oracle}

def OLe (C C' : Oracle) : Prop := ∀ f xs r, C f xs = some r → C' f xs = some r
theorem ev_indep {e : Env} {op : IOp} (h : op.isCall = false) : ev T C e op = ev T C' e op := by
  cases op <;> first | rfl | (simp [IOp.isCall] at h)
theorem callR_mono (h : OLe C C') {e : Env} {f : FuncId} {xs : List PV} {r : PV × Env} (k : callR T C e f xs = some r) : callR T C' e f xs = some r := by
  unfold callR at *
  simp only [Option.bind_eq_bind, Option.bind_eq_some_iff] at k ⊢
  obtain ⟨a, h1, b, h2, c, h3, h4⟩ := k
  exact ⟨a, h1, b, h2, c, h _ _ _ h3, h4⟩
theorem call_of {e : Env} {f : FuncId} {xs : List PV} {r : PV × Env} (h : callR T C e f xs = some r) (hp : r.1.isPan = false) : call T C e f xs = some r := by
  unfold call
  rw [h]
  simp [hp]
theorem call_mono (h : OLe C C') {e : Env} {f : FuncId} {xs : List PV} {r : PV × Env} (k : call T C e f xs = some r) : call T C' e f xs = some r := by
  obtain ⟨h1, h2⟩ := call_some k
  exact call_of (callR_mono h h1) h2
theorem ev_mono (h : OLe C C') {e : Env} {op : IOp} {r : PV × Env} (k : ev T C e op = some r) : ev T C' e op = some r := by
  by_cases hc : op.isCall = true
  · rw [ev_calls hc, Option.bind_eq_some_iff] at k ⊢
    obtain ⟨q, h1, h2⟩ := k
    exact ⟨q, h1, call_mono h h2⟩
  · rw [← ev_indep (C := C) (by simpa using hc)]
    exact k
theorem leaves_indep {e : Env} {s : Nat} {op : IOp} : leaves T C e s op = leaves T C' e s op := by
  cases op <;> first | rfl | (simp only [leaves]; rw [ev_indep (C' := C') rfl])
theorem unOK_indep {e : Env} {rds : List (Nat × Option Nat)} {un : List Nat} {op : IOp} : unOK T C e rds un op = unOK T C' e rds un op := by
  unfold unOK
  congr 1
  funext x
  congr 1
  cases x.2 with
  | none => rfl
  | some s => simp only; rw [leaves_indep (C' := C')]
/-- The panic of a call. -/
theorem panOf_call {op : IOp} (hc : op.isCall = true) {e : Env} {x : Value × Env} : panOf T C e op = some x ↔ ∃ f xs, op.calls e = some (f, xs) ∧ callR T C e f xs = some (.pan x.1, x.2) := by
  have : panOf T C e op = (op.calls e).bind fun q => (callR T C e q.1 q.2).bind fun r => match r.1 with | .pan x => some (x, r.2) | _ => none := by
    cases op <;> simp only [IOp.isCall] at hc <;> first | (cases hc; done) | rfl
  rw [this]
  simp only [Option.bind_eq_some_iff, Prod.exists]
  constructor
  · rintro ⟨f, xs, h1, y, e1, h2, h3⟩
    split at h3
    · cases h3
      exact ⟨f, xs, h1, h2⟩
    · cases h3
  · rintro ⟨f, xs, h1, h2⟩
    exact ⟨f, xs, h1, _, _, h2, rfl⟩
theorem panOf_indep {e : Env} {op : IOp} (h : op.isCall = false) : panOf T C e op = panOf T C' e op := by
  cases op <;> first | rfl | (simp [IOp.isCall] at h)
theorem panOf_mono (h : OLe C C') {e : Env} {op : IOp} {x : Value × Env} (k : panOf T C e op = some x) : panOf T C' e op = some x := by
  by_cases hc : op.isCall = true
  · obtain ⟨f, xs, h1, h2⟩ := (panOf_call hc).1 k
    exact (panOf_call hc).2 ⟨f, xs, h1, callR_mono h h2⟩
  · rw [← panOf_indep (C := C) (by simpa using hc)]
    exact k
theorem opsRunP_mono (h : OLe C C') {all : List GOp} : ∀ {l : List GOp} {e : Env} {r : Out × Env}, opsRunP T C all l e = some r → opsRunP T C' all l e = some r
  | [], _, _, k => k
  | o :: r, e, e', k => by
    simp only [opsRunP] at k ⊢
    split at k
    · split at k
      · rename_i x hp
        rw [panOf_mono h hp]
        exact k
      · simp only [Option.bind_eq_bind, Option.bind_eq_some_iff] at k
        obtain ⟨⟨y, e1⟩, h1, h2⟩ := k
        have h3 := ev_mono h h1
        simp only [pan_none h3, h3, Option.bind_eq_bind, Option.bind_some]
        exact opsRunP_mono h h2
    · exact opsRunP_mono h k
    · cases k
theorem planRunP_mono (h : OLe C C') {all : List GOp} : ∀ {p : Plan} {rds : List (Nat × Option Nat)} {e : Env} {r : Out × Env}, planRunP T C all rds p e = some r → planRunP T C' all rds p e = some r
  | .nil, _, _, _, k => k
  | .fork ks p q, rds, e, r, k => by
    simp only [planRunP] at k ⊢
    obtain ⟨a, b, h1, h2, _⟩ := forkOut_some (out := r.1) (e := r.2) k
    rw [planRunP_mono h h1, planRunP_mono h h2]
    rw [h1, h2] at k
    exact k
  | .cons st r, rds, e, e', k => by
    simp only [planRunP] at k ⊢
    split at k
    · cases k
    · split at k
      · split at k
        · rename_i x hp
          rw [panOf_mono h hp]
          exact k
        · simp only [Option.bind_eq_bind, Option.bind_eq_some_iff] at k
          obtain ⟨⟨y, e1⟩, h1, h2⟩ := k
          have h3 := ev_mono h h1
          simp only [pan_none h3, h3, Option.bind_eq_bind, Option.bind_some]
          rw [unOK_indep (C' := C)]
          split at h2
          · rename_i hc
            rw [if_pos hc]
            exact planRunP_mono h h2
          · cases h2
      · split at k
        · rename_i hc
          rw [if_pos hc]
          exact planRunP_mono h k
        · cases k
      · cases k
theorem opsRun_mono (h : OLe C C') {all : List GOp} : ∀ {l : List GOp} {e e' : Env}, opsRun T C all l e = some e' → opsRun T C' all l e = some e'
  | [], _, _, k => k
  | o :: r, e, e', k => by
    simp only [opsRun] at k ⊢
    split at k
    · simp only [Option.bind_eq_bind, Option.bind_eq_some_iff] at k ⊢
      obtain ⟨⟨y, e1⟩, h1, h2⟩ := k
      exact ⟨(y, e1), ev_mono h h1, opsRun_mono h h2⟩
    · exact opsRun_mono h k
    · cases k
theorem planRun_mono (h : OLe C C') {all : List GOp} : ∀ {p : Plan} {rds : List (Nat × Option Nat)} {e e' : Env}, planRun T C all rds p e = some e' → planRun T C' all rds p e = some e'
  | .nil, _, _, _, k => k
  | .fork ks p q, rds, e, e', k => by
    simp only [planRun] at k ⊢
    exact forkEnv_of k (fun _ h1 => planRun_mono h h1) (fun _ h1 => planRun_mono h h1)
  | .cons st r, rds, e, e', k => by
    simp only [planRun] at k ⊢
    split at k
    · cases k
    · split at k
      · simp only [Option.bind_eq_bind, Option.bind_eq_some_iff] at k ⊢
        obtain ⟨⟨y, e1⟩, h1, h2⟩ := k
        refine ⟨(y, e1), ev_mono h h1, ?_⟩
        simp only at h2 ⊢
        rw [unOK_indep (C' := C)]
        split at h2
        · rename_i hc
          rw [if_pos hc]
          exact planRun_mono h h2
        · cases h2
      · split at k
        · rename_i hc
          rw [if_pos hc]
          exact planRun_mono h k
        · cases k
      · cases k
theorem loopN_mono {b b' : Env → Option (Out × Env)} (h : ∀ e r, b e = some r → b' e = some r) {ks : List Nat} : ∀ {n m : Nat} {e : Env} {r : Out × Env}, n ≤ m → loopN b ks n e = some r → loopN b' ks m e = some r
  | 0, _, _, _, _, k => by simp [loopN] at k
  | n + 1, 0, _, _, hn, _ => by omega
  | n + 1, m + 1, e, r, hn, k => by
    simp only [loopN] at k ⊢
    split at k
    · rename_i e1 h1
      rw [h _ _ h1]
      exact loopN_mono h (by omega) k
    · rename_i hne
      rw [h _ _ k]
      split
      · rename_i e1 h1
        cases h1
        exact (hne _ k).elim
      · rfl
theorem exec_mono (h : OLe C C') {n m : Nat} (hn : n ≤ m) : ∀ {ir : IR} {e : Env} {r : Out × Env}, exec T C n ir e = some r → exec T C' m ir e = some r
  | .skip, _, _, k => k
  | .ret, _, _, k => k
  | .label _, _, _, k => k
  | .exit _, _, _, k => k
  | .other, _, _, k => by cases k
  | .tail ks b, e, r, k => by
    simp only [exec] at k ⊢
    exact exec_mono h hn k
  | .frz ls b, e, r, k => by
    simp only [exec] at k ⊢
    split at k
    · rename_i hf
      rw [if_pos hf]
      exact exec_mono h hn k
    · cases k
  | .gd id d cf caps hnd b, e, r, k => by
    simp only [exec, Option.bind_eq_some_iff] at k ⊢
    obtain ⟨e1, h1, h2⟩ := k
    refine ⟨e1, h1, ?_⟩
    cases hx : exec T C n b e1 with
    | none => rw [hx] at h2; cases h2
    | some q =>
      rw [exec_mono h hn hx]
      rw [hx] at h2
      exact h2
  | .reg _ ops plan ks, e, r, k => by
    simp only [exec] at k ⊢
    cases plan with
    | none =>
      simp only [Option.map_eq_some_iff] at k ⊢
      obtain ⟨e1, h1, h2⟩ := k
      exact ⟨e1, opsRun_mono h h1, h2⟩
    | some p =>
      simp only [Option.map_eq_some_iff] at k ⊢
      obtain ⟨e1, h1, h2⟩ := k
      exact ⟨e1, planRun_mono h h1, h2⟩
  | .regp _ ops plan ks, e, r, k => by
    simp only [exec] at k ⊢
    cases plan with
    | none =>
      simp only [Option.map_eq_some_iff] at k ⊢
      obtain ⟨e1, h1, h2⟩ := k
      exact ⟨e1, opsRunP_mono h h1, h2⟩
    | some p =>
      simp only [Option.map_eq_some_iff] at k ⊢
      obtain ⟨e1, h1, h2⟩ := k
      exact ⟨e1, planRunP_mono h h1, h2⟩
  | .seq a b, e, r, k => by
    simp only [exec] at k ⊢
    split at k
    · rename_i e1 h1
      rw [exec_mono h hn h1]
      exact exec_mono h hn k
    · rename_i hne
      rw [exec_mono h hn k]
      split
      · rename_i e1 h1
        cases h1
        exact (hne _ k).elim
      · rfl
  | .cond _ c a b, e, r, k => by
    simp only [exec] at k ⊢
    split at k
    · exact exec_mono h hn k
    · exact exec_mono h hn k
    · cases k
  | .block id b, e, r, k => by
    simp only [exec] at k ⊢
    split at k
    · rename_i i e1 h1
      rw [exec_mono h hn h1]
      exact k
    · rename_i hne
      rw [exec_mono h hn k]
      split
      · rename_i i e1 h1
        cases h1
        exact (hne _ _ k).elim
      · rfl
  | .scope b, e, r, k => by
    simp only [exec] at k ⊢
    exact exec_mono h hn k
  | .loop ks b, e, r, k => by
    simp only [exec] at k ⊢
    exact loopN_mono (fun e r => exec_mono h hn) hn k
theorem runFn_mono (h : OLe C C') {n m : Nat} (hn : n ≤ m) {f : AFunc} {args : List PV} {r : PV × List PV} (k : runFn T C n f args = some r) : runFn T C' m f args = some r := by
  unfold runFn at *
  split at k
  case isFalse => cases k
  rename_i hl
  rw [if_pos hl]
  split at k
  · rename_i e he
    rw [exec_mono h hn he]
    exact k
  · rename_i e he
    rw [exec_mono h hn he]
    exact k
  · rename_i x e he
    rw [exec_mono h hn he]
    exact k
  · cases k
theorem callN_mono : ∀ {n m : Nat}, n ≤ m → OLe (callN T n) (callN T m)
  | 0, _, _, _, _, _, k => by simp [callN] at k
  | n + 1, 0, hn, _, _, _, _ => by omega
  | n + 1, m + 1, hn, f, xs, r, k => by
    simp only [callN] at k ⊢
    split at k
    · exact k
    · rename_i he
      split at k
      · rename_i a ha
        exact runFn_mono (callN_mono (by omega)) (by omega) k
      · cases k

/-! ### Limits -/
def Mono {α : Type} (F : Nat → Option α) : Prop := ∀ n m r, n ≤ m → F n = some r → F m = some r
open Classical in
noncomputable def lim {α : Type} (F : Nat → Option α) : Option α := if h : ∃ r n, F n = some r then some h.choose else none
theorem lim_iff {α : Type} {F : Nat → Option α} (hF : Mono F) {r : α} : lim F = some r ↔ ∃ n, F n = some r := by
  unfold lim
  constructor
  · intro h
    split at h
    · rename_i hx
      rw [Option.some.injEq] at h
      subst h
      exact hx.choose_spec
    · cases h
  · rintro ⟨n, h⟩
    have hx : ∃ r n, F n = some r := ⟨r, n, h⟩
    rw [dif_pos hx]
    obtain ⟨m, hm⟩ := hx.choose_spec
    have h1 := hF n (max n m) r (Nat.le_max_left _ _) h
    have h2 := hF m (max n m) _ (Nat.le_max_right _ _) hm
    rw [h1] at h2
    exact h2.symm
/-- Calls, answered without a bound. -/
noncomputable def Cinf (T : Tab) : Oracle := fun f xs => lim fun n => callN T n f xs
noncomputable def Exec (T : Tab) (ir : IR) (e : Env) : Option (Out × Env) := lim fun n => exec T (callN T n) n ir e
theorem Cinf_iff {f : FuncId} {xs : List PV} {r : PV × List PV} : Cinf T f xs = some r ↔ ∃ n, callN T n f xs = some r := lim_iff fun _ _ _ hn k => callN_mono hn _ _ _ k
theorem Exec_iff {ir : IR} {e : Env} {r : Out × Env} : Exec T ir e = some r ↔ ∃ n, exec T (callN T n) n ir e = some r := lim_iff fun _ _ _ hn k => exec_mono (callN_mono hn) hn k
theorem callN_le (n : Nat) : OLe (callN T n) (Cinf T) := fun _ _ _ k => Cinf_iff.2 ⟨n, k⟩
theorem Cinf_ok {P : Program} {G : Nat → List PV} (hmix : P.follows .mixedOrders = true) (hext : CallOK P G T.ext) (hfns : ∀ f af, T.fns f = some af → FnOK P G f af) : CallOK P G (Cinf T) := by
  intro f xs y backs h
  obtain ⟨n, hn⟩ := Cinf_iff.1 h
  exact callN_ok hmix hext hfns n f xs y backs hn

theorem callR_lim {e : Env} {f : FuncId} {xs : List PV} {r : PV × Env} (h : callR T (Cinf T) e f xs = some r) : ∃ n, callR T (callN T n) e f xs = some r := by
  unfold callR at h
  simp only [Option.bind_eq_bind, Option.bind_eq_some_iff] at h
  obtain ⟨a, h1, b, h2, c, h3, h4⟩ := h
  obtain ⟨n, hn⟩ := Cinf_iff.1 h3
  refine ⟨n, ?_⟩
  unfold callR
  simp only [Option.bind_eq_bind, Option.bind_eq_some_iff]
  exact ⟨a, h1, b, h2, c, hn, h4⟩
theorem panOf_lim {e : Env} {op : IOp} {x : Value × Env} (h : panOf T (Cinf T) e op = some x) : ∃ n, panOf T (callN T n) e op = some x := by
  by_cases hc : op.isCall = true
  · obtain ⟨f, xs, h1, h2⟩ := (panOf_call hc).1 h
    obtain ⟨n, hn⟩ := callR_lim h2
    exact ⟨n, (panOf_call hc).2 ⟨f, xs, h1, hn⟩⟩
  · exact ⟨0, by rw [panOf_indep (C' := Cinf T) (by simpa using hc)]; exact h⟩
theorem ev_lim {e : Env} {op : IOp} {r : PV × Env} (h : ev T (Cinf T) e op = some r) : ∃ n, ev T (callN T n) e op = some r := by
  by_cases hc : op.isCall = true
  · rw [ev_calls hc, Option.bind_eq_some_iff] at h
    obtain ⟨q, hq, h⟩ := h
    obtain ⟨h1, h2⟩ := call_some h
    obtain ⟨n, hn⟩ := callR_lim h1
    refine ⟨n, ?_⟩
    rw [ev_calls hc, Option.bind_eq_some_iff]
    exact ⟨q, hq, call_of hn h2⟩
  · exact ⟨0, by rw [ev_indep (C' := Cinf T) (by simpa using hc)]; exact h⟩
theorem opsRun_lim {all : List GOp} : ∀ {l : List GOp} {e e' : Env}, opsRun T (Cinf T) all l e = some e' → ∃ n, opsRun T (callN T n) all l e = some e'
  | [], _, _, k => ⟨0, k⟩
  | o :: r, e, e', k => by
    simp only [opsRun] at k
    split at k
    · rename_i hw
      simp only [Option.bind_eq_bind, Option.bind_eq_some_iff] at k
      obtain ⟨⟨y, e1⟩, h1, h2⟩ := k
      obtain ⟨n, hn⟩ := ev_lim h1
      obtain ⟨m, hm⟩ := opsRun_lim h2
      refine ⟨max n m, ?_⟩
      simp only [opsRun, hw, Option.bind_eq_bind, Option.bind_eq_some_iff]
      exact ⟨(y, e1), ev_mono (callN_mono (Nat.le_max_left _ _)) hn, opsRun_mono (callN_mono (Nat.le_max_right _ _)) hm⟩
    · rename_i hw
      obtain ⟨m, hm⟩ := opsRun_lim k
      exact ⟨m, by simp only [opsRun, hw]; exact hm⟩
    · cases k
theorem planRun_lim {all : List GOp} : ∀ {p : Plan} {rds : List (Nat × Option Nat)} {e e' : Env}, planRun T (Cinf T) all rds p e = some e' → ∃ n, planRun T (callN T n) all rds p e = some e'
  | .nil, _, _, _, k => ⟨0, k⟩
  | .fork ks p q, rds, e, e', k => by
    simp only [planRun] at k
    obtain ⟨x, y, hx, hy, _⟩ := forkEnv_some k
    obtain ⟨n, hn⟩ := planRun_lim hx
    obtain ⟨m, hm⟩ := planRun_lim hy
    refine ⟨max n m, ?_⟩
    simp only [planRun]
    rw [hx, hy] at k
    rw [planRun_mono (callN_mono (Nat.le_max_left n m)) hn, planRun_mono (callN_mono (Nat.le_max_right n m)) hm]
    exact k
  | .cons st r, rds, e, e', k => by
    simp only [planRun] at k
    split at k
    · cases k
    · rename_i o ho
      split at k
      · rename_i hw
        simp only [Option.bind_eq_bind, Option.bind_eq_some_iff] at k
        obtain ⟨⟨y, e1⟩, h1, h2⟩ := k
        simp only at h2
        split at h2
        · rename_i hc
          obtain ⟨n, hn⟩ := ev_lim h1
          obtain ⟨m, hm⟩ := planRun_lim h2
          refine ⟨max n m, ?_⟩
          simp only [planRun, ho, hw, Option.bind_eq_bind, Option.bind_eq_some_iff]
          refine ⟨(y, e1), ev_mono (callN_mono (Nat.le_max_left _ _)) hn, ?_⟩
          simp only
          rw [unOK_indep (C' := Cinf T), if_pos hc]
          exact planRun_mono (callN_mono (Nat.le_max_right _ _)) hm
        · cases h2
      · rename_i hw
        split at k
        · rename_i hc
          obtain ⟨m, hm⟩ := planRun_lim k
          exact ⟨m, by simp only [planRun, ho, hw, if_pos hc]; exact hm⟩
        · cases k
      · cases k
theorem opsRunP_lim {all : List GOp} : ∀ {l : List GOp} {e : Env} {r : Out × Env}, opsRunP T (Cinf T) all l e = some r → ∃ n, opsRunP T (callN T n) all l e = some r
  | [], _, _, k => ⟨0, k⟩
  | o :: r, e, e', k => by
    simp only [opsRunP] at k
    split at k
    · rename_i hw
      split at k
      · rename_i x hp
        obtain ⟨n, hn⟩ := panOf_lim hp
        exact ⟨n, by simp only [opsRunP, hw, hn]; exact k⟩
      · simp only [Option.bind_eq_bind, Option.bind_eq_some_iff] at k
        obtain ⟨⟨y, e1⟩, h1, h2⟩ := k
        obtain ⟨n, hn⟩ := ev_lim h1
        obtain ⟨m, hm⟩ := opsRunP_lim h2
        refine ⟨max n m, ?_⟩
        have h3 := ev_mono (callN_mono (T := T) (Nat.le_max_left n m)) hn
        simp only [opsRunP, hw, pan_none h3, h3, Option.bind_eq_bind, Option.bind_some]
        exact opsRunP_mono (callN_mono (Nat.le_max_right _ _)) hm
    · rename_i hw
      obtain ⟨m, hm⟩ := opsRunP_lim k
      exact ⟨m, by simp only [opsRunP, hw]; exact hm⟩
    · cases k
theorem planRunP_lim {all : List GOp} : ∀ {p : Plan} {rds : List (Nat × Option Nat)} {e : Env} {r : Out × Env}, planRunP T (Cinf T) all rds p e = some r → ∃ n, planRunP T (callN T n) all rds p e = some r
  | .nil, _, _, _, k => ⟨0, k⟩
  | .fork ks p q, rds, e, r, k => by
    simp only [planRunP] at k
    obtain ⟨x, y, hx, hy, _⟩ := forkOut_some (out := r.1) (e := r.2) k
    obtain ⟨n, hn⟩ := planRunP_lim hx
    obtain ⟨m, hm⟩ := planRunP_lim hy
    refine ⟨max n m, ?_⟩
    simp only [planRunP]
    rw [hx, hy] at k
    rw [planRunP_mono (callN_mono (Nat.le_max_left n m)) hn, planRunP_mono (callN_mono (Nat.le_max_right n m)) hm]
    exact k
  | .cons st r, rds, e, e', k => by
    simp only [planRunP] at k
    split at k
    · cases k
    · rename_i o ho
      split at k
      · rename_i hw
        split at k
        · rename_i x hp
          obtain ⟨n, hn⟩ := panOf_lim hp
          exact ⟨n, by simp only [planRunP, ho, hw, hn]; exact k⟩
        · simp only [Option.bind_eq_bind, Option.bind_eq_some_iff] at k
          obtain ⟨⟨y, e1⟩, h1, h2⟩ := k
          simp only at h2
          split at h2
          · rename_i hc
            obtain ⟨n, hn⟩ := ev_lim h1
            obtain ⟨m, hm⟩ := planRunP_lim h2
            refine ⟨max n m, ?_⟩
            have h3 := ev_mono (callN_mono (T := T) (Nat.le_max_left n m)) hn
            simp only [planRunP, ho, hw, pan_none h3, h3, Option.bind_eq_bind, Option.bind_some]
            rw [unOK_indep (C' := Cinf T), if_pos hc]
            exact planRunP_mono (callN_mono (Nat.le_max_right _ _)) hm
          · cases h2
      · rename_i hw
        split at k
        · rename_i hc
          obtain ⟨m, hm⟩ := planRunP_lim k
          exact ⟨m, by simp only [planRunP, ho, hw, if_pos hc]; exact hm⟩
        · cases k
      · cases k
/-! ### Equations -/
theorem Exec_regp (id : Nat) (ops : List GOp) (ks : List Nat) (e : Env) : Exec T (.regp id ops none ks) e = (opsRunP T (Cinf T) ops ops e).map fun r => (r.1, r.2.keep ks) := by
  refine Option.ext fun r => ?_
  rw [Exec_iff]
  simp only [exec, Option.map_eq_some_iff]
  constructor
  · rintro ⟨n, e1, h1, h2⟩
    exact ⟨e1, opsRunP_mono (callN_le n) h1, h2⟩
  · rintro ⟨e1, h1, h2⟩
    obtain ⟨n, hn⟩ := opsRunP_lim h1
    exact ⟨n, e1, hn, h2⟩
theorem Exec_planp (id : Nat) (ops : List GOp) (p : Plan) (ks : List Nat) (e : Env) : Exec T (.regp id ops (some p) ks) e = (planRunP T (Cinf T) ops [] p e).map fun r => (r.1, r.2.keep ks) := by
  refine Option.ext fun r => ?_
  rw [Exec_iff]
  simp only [exec, Option.map_eq_some_iff]
  constructor
  · rintro ⟨n, e1, h1, h2⟩
    exact ⟨e1, planRunP_mono (callN_le n) h1, h2⟩
  · rintro ⟨e1, h1, h2⟩
    obtain ⟨n, hn⟩ := planRunP_lim h1
    exact ⟨n, e1, hn, h2⟩
theorem Exec_skip (e : Env) : Exec T .skip e = some (.normal, e) := Exec_iff.2 ⟨0, rfl⟩
theorem Exec_ret (e : Env) : Exec T .ret e = some (.ret, e) := Exec_iff.2 ⟨0, rfl⟩
theorem Exec_label (l : Nat) (e : Env) : Exec T (.label l) e = some (.normal, e) := Exec_iff.2 ⟨0, rfl⟩
theorem Exec_exit (i : Nat) (e : Env) : Exec T (.exit i) e = some (.exit i, e) := Exec_iff.2 ⟨0, rfl⟩
theorem Exec_reg (id : Nat) (ops : List GOp) (ks : List Nat) (e : Env) : Exec T (.reg id ops none ks) e = (opsRun T (Cinf T) ops ops e).map fun e' => (.normal, e'.keep ks) := by
  refine Option.ext fun r => ?_
  rw [Exec_iff]
  simp only [exec, Option.map_eq_some_iff]
  constructor
  · rintro ⟨n, e1, h1, h2⟩
    exact ⟨e1, opsRun_mono (callN_le n) h1, h2⟩
  · rintro ⟨e1, h1, h2⟩
    obtain ⟨n, hn⟩ := opsRun_lim h1
    exact ⟨n, e1, hn, h2⟩
theorem Exec_plan (id : Nat) (ops : List GOp) (p : Plan) (ks : List Nat) (e : Env) : Exec T (.reg id ops (some p) ks) e = (planRun T (Cinf T) ops [] p e).map fun e' => (.normal, e'.keep ks) := by
  refine Option.ext fun r => ?_
  rw [Exec_iff]
  simp only [exec, Option.map_eq_some_iff]
  constructor
  · rintro ⟨n, e1, h1, h2⟩
    exact ⟨e1, planRun_mono (callN_le n) h1, h2⟩
  · rintro ⟨e1, h1, h2⟩
    obtain ⟨n, hn⟩ := planRun_lim h1
    exact ⟨n, e1, hn, h2⟩
theorem exec_up {n m : Nat} (h : n ≤ m) {ir : IR} {e : Env} {r : Out × Env} (k : exec T (callN T n) n ir e = some r) : exec T (callN T m) m ir e = some r := exec_mono (callN_mono h) h k
/-- Goes on behind a normal end. -/
noncomputable def andThen (x : Option (Out × Env)) (k : Env → Option (Out × Env)) : Option (Out × Env) := match x with
  | some (.normal, e) => k e
  | r => r
theorem andThen_normal (e : Env) (k : Env → Option (Out × Env)) : andThen (some (.normal, e)) k = k e := rfl
theorem andThen_ret (e : Env) (k : Env → Option (Out × Env)) : andThen (some (.ret, e)) k = some (.ret, e) := rfl
theorem andThen_exit (i : Nat) (e : Env) (k : Env → Option (Out × Env)) : andThen (some (.exit i, e)) k = some (.exit i, e) := rfl
theorem andThen_pan (x : Value) (e : Env) (k : Env → Option (Out × Env)) : andThen (some (.pan x, e)) k = some (.pan x, e) := rfl
theorem andThen_none (k : Env → Option (Out × Env)) : andThen none k = none := rfl
theorem Exec_seq (a b : IR) (e : Env) : Exec T (.seq a b) e = andThen (Exec T a e) (Exec T b) := by
  refine Option.ext fun r => ?_
  rw [Exec_iff]
  constructor
  · rintro ⟨n, h⟩
    simp only [exec] at h
    split at h
    · rename_i e1 h1
      rw [Exec_iff.2 ⟨n, h1⟩, andThen_normal]
      exact Exec_iff.2 ⟨n, h⟩
    · rename_i hne
      rw [Exec_iff.2 ⟨n, h⟩]
      obtain ⟨o, e1⟩ := r
      cases o with
      | normal => exact (hne _ h).elim
      | ret => rfl
      | exit i => rfl
      | pan x => rfl
  · intro h
    cases ha : Exec T a e with
    | none => rw [ha] at h; cases h
    | some q =>
      obtain ⟨o, e1⟩ := q
      obtain ⟨n, hn⟩ := Exec_iff.1 ha
      rw [ha] at h
      cases o with
      | normal =>
        obtain ⟨m, hm⟩ := Exec_iff.1 h
        refine ⟨max n m, ?_⟩
        simp only [exec, exec_up (Nat.le_max_left n m) hn]
        exact exec_up (Nat.le_max_right n m) hm
      | ret =>
        refine ⟨n, ?_⟩
        simp only [exec, hn]
        exact h
      | exit i =>
        refine ⟨n, ?_⟩
        simp only [exec, hn]
        exact h
      | pan x =>
        refine ⟨n, ?_⟩
        simp only [exec, hn]
        exact h
theorem Exec_cond (ks : List Nat) (c : Opd) (a b : IR) (e : Env) (t : Bool) (h : c.ev e = .v (.bool t)) : Exec T (.cond ks c a b) e = if t then Exec T a (e.keep ks) else Exec T b (e.keep ks) := by
  refine Option.ext fun r => ?_
  cases t
  · simp only [Bool.false_eq_true, if_false, Exec_iff, exec, h]
  · simp only [if_true, Exec_iff, exec, h]
/-- The end of a block. -/
noncomputable def inBlock (id : Nat) (x : Option (Out × Env)) : Option (Out × Env) := match x with
  | some (.exit i, e) => if i = id then some (.normal, e) else some (.exit i, e)
  | r => r
theorem inBlock_normal (id : Nat) (e : Env) : inBlock id (some (.normal, e)) = some (.normal, e) := rfl
theorem inBlock_ret (id : Nat) (e : Env) : inBlock id (some (.ret, e)) = some (.ret, e) := rfl
theorem inBlock_exit (id i : Nat) (e : Env) : inBlock id (some (.exit i, e)) = if i = id then some (.normal, e) else some (.exit i, e) := rfl
theorem inBlock_pan (id : Nat) (x : Value) (e : Env) : inBlock id (some (.pan x, e)) = some (.pan x, e) := rfl
theorem inBlock_none (id : Nat) : inBlock id none = none := rfl
theorem Exec_block (id : Nat) (b : IR) (e : Env) : Exec T (.block id b) e = inBlock id (Exec T b e) := by
  refine Option.ext fun r => ?_
  rw [Exec_iff]
  constructor
  · rintro ⟨n, h⟩
    simp only [exec] at h
    split at h
    · rename_i i e1 h1
      rw [Exec_iff.2 ⟨n, h1⟩]
      exact h
    · rename_i hne
      rw [Exec_iff.2 ⟨n, h⟩]
      obtain ⟨o, e1⟩ := r
      cases o with
      | normal => rfl
      | ret => rfl
      | exit i => exact (hne _ _ h).elim
      | pan x => rfl
  · intro h
    cases ha : Exec T b e with
    | none => rw [ha] at h; cases h
    | some q =>
      obtain ⟨n, hn⟩ := Exec_iff.1 ha
      rw [ha] at h
      refine ⟨n, ?_⟩
      simp only [exec, hn]
      exact h
theorem Exec_scope (b : IR) (e : Env) : Exec T (.scope b) e = Exec T b e := by
  refine Option.ext fun r => ?_
  simp only [Exec_iff, exec]
theorem Exec_tail (ks : List Nat) (b : IR) (e : Env) : Exec T (.tail ks b) e = Exec T b (e.keep ks) := by
  refine Option.ext fun r => ?_
  simp only [Exec_iff, exec]
theorem Exec_frz (ls : List (Nat × List Nat)) (b : IR) (e : Env) : Exec T (.frz ls b) e = if frzOK e ls then Exec T b (freezeAll e ls) else none := by
  refine Option.ext fun r => ?_
  by_cases hf : frzOK e ls = true
  · simp only [Exec_iff, exec, hf, if_true]
  · simp only [Exec_iff, exec, hf]
    simp
theorem Exec_gd (id d : Nat) (cf : FuncId) (caps : List Nat) (hnd : Value → Option (List (List PV))) (b : IR) (e : Env) : Exec T (.gd id d cf caps hnd b) e = (rehome (e.put d .dead) 200000 caps).bind fun e => gdEnd caps.length hnd (Exec T b e) := by
  refine Option.ext fun r => ?_
  rw [Exec_iff]
  simp only [exec, Option.bind_eq_some_iff]
  constructor
  · rintro ⟨n, e1, h1, h2⟩
    refine ⟨e1, h1, ?_⟩
    cases hx : exec T (callN T n) n b e1 with
    | none => rw [hx] at h2; cases h2
    | some q =>
      rw [Exec_iff.2 ⟨n, hx⟩]
      rw [hx] at h2
      exact h2
  · rintro ⟨e1, h1, h2⟩
    cases hx : Exec T b e1 with
    | none => rw [hx] at h2; cases h2
    | some q =>
      obtain ⟨n, hn⟩ := Exec_iff.1 hx
      refine ⟨n, e1, h1, ?_⟩
      rw [hn]
      rw [hx] at h2
      exact h2
theorem Exec_loop (ks : List Nat) (b : IR) (e : Env) : Exec T (.loop ks b) e = andThen (Exec T b (e.keep ks)) (Exec T (.loop ks b)) := by
  refine Option.ext fun r => ?_
  rw [Exec_iff]
  constructor
  · rintro ⟨n, h⟩
    simp only [exec] at h
    cases n with
    | zero => simp [loopN] at h
    | succ n =>
      simp only [loopN] at h
      split at h
      · rename_i e1 h1
        rw [Exec_iff.2 ⟨n + 1, h1⟩, andThen_normal]
        refine Exec_iff.2 ⟨n + 1, ?_⟩
        simp only [exec]
        exact loopN_mono (fun _ _ h => h) (Nat.le_succ n) h
      · rename_i hne
        rw [Exec_iff.2 ⟨n + 1, h⟩]
        obtain ⟨o, e1⟩ := r
        cases o with
        | normal => exact (hne _ h).elim
        | ret => rfl
        | exit i => rfl
        | pan x => rfl
  · intro h
    cases ha : Exec T b (e.keep ks) with
    | none => rw [ha] at h; cases h
    | some q =>
      obtain ⟨o, e1⟩ := q
      obtain ⟨n, hn⟩ := Exec_iff.1 ha
      rw [ha] at h
      cases o with
      | normal =>
        obtain ⟨m, hm⟩ := Exec_iff.1 h
        refine ⟨max n m + 1, ?_⟩
        simp only [exec, loopN, exec_up (Nat.le_trans (Nat.le_max_left n m) (Nat.le_succ _)) hn]
        simp only [exec] at hm
        exact loopN_mono (fun _ _ h => exec_up (Nat.le_trans (Nat.le_max_right n m) (Nat.le_succ _)) h) (Nat.le_max_right n m) hm
      | ret =>
        refine ⟨n + 1, ?_⟩
        simp only [exec, loopN, exec_up (Nat.le_succ n) hn]
        exact h
      | exit i =>
        refine ⟨n + 1, ?_⟩
        simp only [exec, loopN, exec_up (Nat.le_succ n) hn]
        exact h
      | pan x =>
        refine ⟨n + 1, ?_⟩
        simp only [exec, loopN, exec_up (Nat.le_succ n) hn]
        exact h
/-- A function's end. -/
def finish (f : AFunc) (args : List PV) (x : Option (Out × Env)) : Option (PV × List PV) := match x with
  | some (.normal, e) => (results e f.res).map fun r => (single r.1, left r.2 0 args)
  | some (.ret, e) => (results e f.res).map fun r => (single r.1, left r.2 0 args)
  | some (.pan x, _) => some (.pan x, args.map fun _ => .dead)
  | _ => none
noncomputable def Run (T : Tab) (f : AFunc) (args : List PV) : Option (PV × List PV) := if args.length ≤ f.nt then finish f args (Exec T f.body (enter 0 args)) else none
theorem runFn_finish {n : Nat} {f : AFunc} {args : List PV} : runFn T C n f args = if args.length ≤ f.nt then finish f args (exec T C n f.body (enter 0 args)) else none := by
  unfold runFn finish
  split
  · rcases exec T C n f.body (enter 0 args) with _ | ⟨o, e⟩
    · rfl
    · cases o <;> simp only [] <;> first | rfl | (cases results e f.res <;> rfl)
  · rfl
theorem Cinf_eq {f : FuncId} {xs : List PV} (he : T.ext f xs = none) {a : AFunc} (ha : T.fns f = some a) : Cinf T f xs = Run T a xs := by
  refine Option.ext fun r => ?_
  rw [Cinf_iff]
  unfold Run
  constructor
  · rintro ⟨n, h⟩
    cases n with
    | zero => simp [callN] at h
    | succ n =>
      simp only [callN, he, ha, runFn_finish] at h
      split at h
      · rename_i hl
        rw [if_pos hl]
        cases hx : exec T (callN T n) n a.body (enter 0 xs) with
        | none => rw [hx] at h; cases h
        | some q =>
          rw [Exec_iff.2 ⟨n, hx⟩]
          rw [hx] at h
          exact h
      · cases h
  · intro h
    split at h
    · rename_i hl
      cases hx : Exec T a.body (enter 0 xs) with
      | none => rw [hx] at h; cases h
      | some q =>
        obtain ⟨n, hn⟩ := Exec_iff.1 hx
        rw [hx] at h
        refine ⟨n + 1, ?_⟩
        simp only [callN, he, ha, runFn_finish, if_pos hl, hn]
        exact h
    · cases h
end Go.AM
