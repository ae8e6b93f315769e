/- The slim machine: the equations of the evaluator without fuel. -/
import Derived.Test.YtlocjmbfcdfjfaaSlimP
namespace Go.Proofs.Ytlocjmbfcdfjfaa.Slim
open Go
set_option linter.unusedVariables false
set_option linter.unusedSimpArgs false

section
variable {T : Table} {pr : Prims}

theorem of_heavy {g : X → AV} {m : Mem} {op : AO} {r : AV × Mem} (h : heavy (call T pr) g m op = some r) : ∃ n, heavy (callWith T pr (arun T pr n)) g m op = some r := by
  cases op with
  | call f args =>
    unfold heavy at h
    cases e : g f with
    | fn f first captured =>
      simp only [e] at h
      obtain ⟨n, hn⟩ := of_call h
      exact ⟨n, by unfold heavy; simp only [e]; exact hn⟩
    | _ => simp only [e] at h; cases h
  | _ => exact ⟨0, h⟩

theorem of_aop {g : X → AV} {m : Mem} {op : AO} {r : AV × Mem} (h : aop (call T pr) g m op = some r) : ∃ n, aop (callWith T pr (arun T pr n)) g m op = some r := by
  unfold aop at h
  cases e : light g op with
  | some v => simp only [e] at h; exact ⟨0, by unfold aop; simp only [e]; exact h⟩
  | none =>
    simp only [e] at h
    cases e2 : memop g m.H op with
    | some v => simp only [e2] at h; exact ⟨0, by unfold aop; simp only [e, e2]; exact h⟩
    | none =>
      simp only [e2] at h
      cases e3 : making g op with
      | some v => simp only [e3] at h; exact ⟨0, by unfold aop; simp only [e, e2, e3]; exact h⟩
      | none =>
        simp only [e3] at h
        obtain ⟨n, hn⟩ := of_heavy h
        exact ⟨n, by unfold aop; simp only [e, e2, e3]; exact hn⟩

theorem le_call {n k : Nat} (h : n ≤ k) : LeC (callWith T pr (arun T pr n)) (callWith T pr (arun T pr k)) := call_mono (arun_le h)
theorem le_callw (n : Nat) : LeC (callWith T pr (arun T pr n)) (call T pr) := call_mono (arun_run n)

theorem of_aops {tm : List AV} : ∀ {ops : List AOper} {loc : List AV} {m : Mem} {r : List AV × Mem}, aops (call T pr) tm ops loc m = some r → ∃ n, aops (callWith T pr (arun T pr n)) tm ops loc m = some r
  | [], loc, m, r, h => ⟨0, h⟩
  | o :: rest, loc, m, r, h => by
    unfold aops at h
    cases e : wanted (get tm loc) o.guard with
    | none => simp only [e] at h; cases h
    | some b =>
      cases b with
      | false =>
        simp only [e] at h
        obtain ⟨n, hn⟩ := of_aops h
        exact ⟨n, by unfold aops; simp only [e]; exact hn⟩
      | true =>
        simp only [e] at h
        cases e2 : aop (call T pr) (get tm loc) m o.op with
        | none => simp only [e2] at h; cases h
        | some v =>
          simp only [e2] at h
          obtain ⟨n, hn⟩ := of_aops h
          obtain ⟨k, hk⟩ := of_aop e2
          refine ⟨max n k, ?_⟩
          unfold aops
          simp only [e, aop_mono (le_call (Nat.le_max_right n k)) hk]
          exact aops_mono (le_call (Nat.le_max_left n k)) hn

theorem of_dops {tm : List AV} : ∀ {es : List DE} {loc : List AV} {m : Mem} {r : List AV × Mem}, dops (call T pr) tm es loc m = some r → ∃ n, dops (callWith T pr (arun T pr n)) tm es loc m = some r
  | [], loc, m, r, h => ⟨0, h⟩
  | e :: rest, loc, m, r, h => by
    unfold dops at h
    cases e1 : wanted (get tm loc) e.guard with
    | none => simp only [e1] at h; cases h
    | some b =>
      cases b with
      | false =>
        simp only [e1] at h
        split at h
        · rename_i h3
          obtain ⟨n, hn⟩ := of_dops h
          refine ⟨n, ?_⟩
          unfold dops
          simp only [e1]
          rw [if_pos h3]
          exact hn
        · cases h
      | true =>
        simp only [e1] at h
        cases e2 : aop (call T pr) (get tm loc) m e.op with
        | none => simp only [e2] at h; cases h
        | some v =>
          simp only [e2] at h
          split at h
          · rename_i h3
            obtain ⟨n, hn⟩ := of_dops h
            obtain ⟨k, hk⟩ := of_aop e2
            refine ⟨max n k, ?_⟩
            unfold dops
            simp only [e1, aop_mono (le_call (Nat.le_max_right n k)) hk]
            rw [if_pos h3]
            exact dops_mono (le_call (Nat.le_max_left n k)) hn
          · cases h

/-- code behind code -/
def thenRun (r : Option (Ex × St)) (f : St → Option (Ex × St)) : Option (Ex × St) :=
  match r with
  | some (.normal, st) => f st
  | r => r

@[simp] theorem thenRun_normal (st : St) (f : St → Option (Ex × St)) : thenRun (some (.normal, st)) f = f st := rfl
@[simp] theorem thenRun_ret (st : St) (f : St → Option (Ex × St)) : thenRun (some (.ret, st)) f = some (.ret, st) := rfl
@[simp] theorem thenRun_exit (k : Nat) (st : St) (f : St → Option (Ex × St)) : thenRun (some (.exit k, st)) f = some (.exit k, st) := rfl
@[simp] theorem thenRun_none (f : St → Option (Ex × St)) : thenRun none f = none := rfl
@[simp] theorem thenRun_ite (c : Prop) [Decidable c] (a b : Option (Ex × St)) (f : St → Option (Ex × St)) : thenRun (if c then a else b) f = if c then thenRun a f else thenRun b f := by split <;> rfl

/-- the end of a block -/
def inBlock (id : Nat) (r : Option (Ex × St)) : Option (Ex × St) :=
  match r with
  | some (.exit k, st) => if k = id then some (.normal, st) else some (.exit k, st)
  | r => r

@[simp] theorem inBlock_normal (id : Nat) (st : St) : inBlock id (some (.normal, st)) = some (.normal, st) := rfl
@[simp] theorem inBlock_ret (id : Nat) (st : St) : inBlock id (some (.ret, st)) = some (.ret, st) := rfl
@[simp] theorem inBlock_exit (id k : Nat) (st : St) : inBlock id (some (.exit k, st)) = if k = id then some (.normal, st) else some (.exit k, st) := rfl
@[simp] theorem inBlock_none (id : Nat) : inBlock id none = none := rfl
@[simp] theorem inBlock_ite (id : Nat) (c : Prop) [Decidable c] (a b : Option (Ex × St)) : inBlock id (if c then a else b) = if c then inBlock id a else inBlock id b := by split <;> rfl

/-- a condition -/
def condOf : AV → Option Bool
  | .bool b => some b
  | _ => none
@[simp] theorem condOf_bool (b : Bool) : condOf (.bool b) = some b := rfl

def pickRun (c : Option Bool) (a b : Option (Ex × St)) : Option (Ex × St) :=
  match c with
  | some true => a
  | some false => b
  | none => none
@[simp] theorem pickRun_some (c : Bool) (a b : Option (Ex × St)) : pickRun (some c) a b = if c = true then a else b := by cases c <;> rfl

theorem run_ext {c : ACode} {st : St} {x : Option (Ex × St)} (h1 : ∀ n r, arun T pr (n + 1) c st = some r → x = some r) (h2 : ∀ r, x = some r → ∃ n, arun T pr n c st = some r) : run T pr c st = x := by
  cases hx : x with
  | some r =>
    obtain ⟨n, hn⟩ := h2 r hx
    exact run_of hn
  | none =>
    cases hr : run T pr c st with
    | none => rfl
    | some r =>
      obtain ⟨n, hn⟩ := of_run hr
      cases n with
      | zero => simp [arun] at hn
      | succ n =>
        have := h1 n r hn
        rw [hx] at this
        cases this

theorem run_skip (st : St) : run T pr .skip st = some (.normal, st) := run_of (n := 1) rfl
theorem run_exit (id : Nat) (st : St) : run T pr (.exit id) st = some (.exit id, st) := run_of (n := 1) rfl
theorem run_ret (st : St) : run T pr .ret st = some (.ret, st) := run_of (n := 1) rfl

theorem run_seq (a b : ACode) (st : St) : run T pr (.seq a b) st = thenRun (run T pr a st) (run T pr b) := by
  refine run_ext (fun n r h => ?_) fun r h => ?_
  · simp only [arun, astep] at h
    split at h
    · rename_i e
      rw [run_of e]
      exact run_of h
    · rename_i hne
      rw [run_of h]
      obtain ⟨ex, s2⟩ := r
      cases ex with
      | normal => exact absurd h (hne s2)
      | _ => rfl
  · cases e : run T pr a st with
    | none => rw [e] at h; cases h
    | some p =>
      obtain ⟨ex, s2⟩ := p
      obtain ⟨n, hn⟩ := of_run e
      rw [e] at h
      cases ex with
      | normal =>
        obtain ⟨k, hk⟩ := of_run (show run T pr b s2 = some r from h)
        refine ⟨max n k + 1, ?_⟩
        simp only [arun, astep, arun_le (Nat.le_max_left n k) _ _ _ hn]
        exact arun_le (Nat.le_max_right n k) _ _ _ hk
      | exit k =>
        cases h
        exact ⟨n + 1, by simp only [arun, astep, hn]⟩
      | ret =>
        cases h
        exact ⟨n + 1, by simp only [arun, astep, hn]⟩

theorem run_cond (x : X) (a b : ACode) (st : St) : run T pr (.cond x a b) st = pickRun (condOf (get st.tm [] x)) (run T pr a st) (run T pr b st) := by
  refine run_ext (fun n r h => ?_) fun r h => ?_
  · simp only [arun, astep] at h
    split at h
    · rename_i e; rw [e]; exact run_of h
    · rename_i e; rw [e]; exact run_of h
    · cases h
  · cases e : get st.tm [] x with
    | bool t =>
      rw [e] at h
      cases t with
      | true => obtain ⟨n, hn⟩ := of_run (show run T pr a st = some r from h); exact ⟨n + 1, by simp only [arun, astep, e]; exact hn⟩
      | false => obtain ⟨n, hn⟩ := of_run (show run T pr b st = some r from h); exact ⟨n + 1, by simp only [arun, astep, e]; exact hn⟩
    | _ => rw [e] at h; cases h

theorem run_block (id : Nat) (b : ACode) (st : St) : run T pr (.block id b) st = inBlock id (run T pr b st) := by
  refine run_ext (fun n r h => ?_) fun r h => ?_
  · simp only [arun, astep] at h
    split at h
    · rename_i e
      rw [run_of e]
      exact h
    · rename_i hne
      rw [run_of h]
      obtain ⟨ex, s2⟩ := r
      cases ex with
      | exit k => exact absurd h (hne k s2)
      | _ => rfl
  · cases e : run T pr b st with
    | none => rw [e] at h; cases h
    | some p =>
      obtain ⟨ex, s2⟩ := p
      obtain ⟨n, hn⟩ := of_run e
      rw [e] at h
      refine ⟨n + 1, ?_⟩
      simp only [arun, astep, hn]
      cases ex <;> exact h

theorem loopN_arun {b : ACode} {N : Nat} : ∀ {n : Nat} {st : St} {r : Ex × St}, n ≤ N → loopN (arun T pr N) b n st = some r → arun T pr (N + 1) (.loop b) st = some r := by
  intro n st r hn h
  simp only [arun, astep]
  exact loopN_mono (fun _ _ _ h => h) hn h

theorem run_loop (b : ACode) (st : St) : run T pr (.loop b) st = thenRun (run T pr b st) (run T pr (.loop b)) := by
  refine run_ext (fun n r h => ?_) fun r h => ?_
  · simp only [arun, astep] at h
    cases n with
    | zero => cases h
    | succ n =>
      unfold loopN at h
      split at h
      · rename_i s2 e
        rw [run_of e]
        exact run_of (loopN_arun (Nat.le_succ n) h)
      · rename_i hne
        rw [run_of h]
        obtain ⟨ex, s2⟩ := r
        cases ex with
        | normal => exact absurd h (hne s2)
        | _ => rfl
  · cases e : run T pr b st with
    | none => rw [e] at h; cases h
    | some p =>
      obtain ⟨ex, s2⟩ := p
      obtain ⟨n, hn⟩ := of_run e
      rw [e] at h
      cases ex with
      | normal =>
        obtain ⟨k, hk⟩ := of_run (show run T pr (.loop b) s2 = some r from h)
        cases k with
        | zero => simp [arun] at hk
        | succ k =>
          simp only [arun, astep] at hk
          refine ⟨max n k + 1 + 1, ?_⟩
          simp only [arun, astep]
          show loopN (arun T pr (max n k + 1)) b (max n k + 1) st = some r
          unfold loopN
          rw [arun_le (show n ≤ max n k + 1 by omega) _ _ _ hn]
          exact loopN_mono (arun_le (show k ≤ max n k + 1 by omega)) (Nat.le_max_right n k) hk
      | exit k =>
        cases h
        refine ⟨n + 1 + 1, ?_⟩
        simp only [arun, astep]
        show loopN (arun T pr (n + 1)) b (n + 1) st = _
        unfold loopN
        rw [arun_le (Nat.le_succ n) _ _ _ hn]
      | ret =>
        cases h
        refine ⟨n + 1 + 1, ?_⟩
        simp only [arun, astep]
        show loopN (arun T pr (n + 1)) b (n + 1) st = _
        unfold loopN
        rw [arun_le (Nat.le_succ n) _ _ _ hn]

/-- behind a region -/
def outRun (tm : List AV) (outs : List (Nat × Nat)) (r : Option (List AV × Mem)) : Option (Ex × St) :=
  match r with
  | some (loc, m) => some (.normal, ⟨setOuts tm loc outs, m⟩)
  | none => none
@[simp] theorem outRun_some (tm : List AV) (outs : List (Nat × Nat)) (loc : List AV) (m : Mem) : outRun tm outs (some (loc, m)) = some (.normal, ⟨setOuts tm loc outs, m⟩) := rfl
@[simp] theorem outRun_none (tm : List AV) (outs : List (Nat × Nat)) : outRun tm outs none = none := rfl
@[simp] theorem outRun_ite (tm : List AV) (outs : List (Nat × Nat)) (c : Prop) [Decidable c] (a b : Option (List AV × Mem)) : outRun tm outs (if c then a else b) = if c then outRun tm outs a else outRun tm outs b := by split <;> rfl

theorem run_region (ops : List AOper) (outs : List (Nat × Nat)) (st : St) : run T pr (.region ops outs) st = outRun st.tm outs (aops (call T pr) st.tm ops [] st.m) := by
  refine run_ext (fun n r h => ?_) fun r h => ?_
  · simp only [arun, astep] at h
    split at h
    · cases h
    · rename_i e
      rw [aops_mono (le_callw n) e]
      exact h
  · cases e : aops (call T pr) st.tm ops [] st.m with
    | none => rw [e] at h; cases h
    | some p =>
      obtain ⟨n, hn⟩ := of_aops e
      rw [e] at h
      exact ⟨n + 1, by simp only [arun, astep, hn]; exact h⟩

theorem run_draw (es : List DE) (outs : List (Nat × Nat)) (st : St) : run T pr (.draw es outs) st = outRun st.tm outs (dops (call T pr) st.tm es [] st.m) := by
  refine run_ext (fun n r h => ?_) fun r h => ?_
  · simp only [arun, astep] at h
    split at h
    · cases h
    · rename_i e
      rw [dops_mono (le_callw n) e]
      exact h
  · cases e : dops (call T pr) st.tm es [] st.m with
    | none => rw [e] at h; cases h
    | some p =>
      obtain ⟨n, hn⟩ := of_dops e
      rw [e] at h
      exact ⟨n + 1, by simp only [arun, astep, hn]; exact h⟩

/-- the end of a call -/
def endCall (F : AFun) (m : Mem) (r : Option (Ex × St)) : Option (AV × Mem) :=
  match r with
  | some (.exit _, _) => none
  | some (_, st) => match resultList st.tm st.m.H F.results with
    | some vs => finish F.mode m.H.length m.esc (tupled vs) st.m
    | none => none
  | none => none

def finRun (F : AFun) (m : Mem) (st : St) : Option (AV × Mem) :=
  match resultList st.tm st.m.H F.results with
  | some vs => finish F.mode m.H.length m.esc (tupled vs) st.m
  | none => none

@[simp] theorem endCall_normal (F : AFun) (m : Mem) (st : St) : endCall F m (some (.normal, st)) = finRun F m st := rfl
@[simp] theorem endCall_ret (F : AFun) (m : Mem) (st : St) : endCall F m (some (.ret, st)) = finRun F m st := rfl
@[simp] theorem endCall_exit (F : AFun) (m : Mem) (k : Nat) (st : St) : endCall F m (some (.exit k, st)) = none := rfl
@[simp] theorem endCall_none (F : AFun) (m : Mem) : endCall F m none = none := rfl
@[simp] theorem endCall_ite (F : AFun) (m : Mem) (c : Prop) [Decidable c] (a b : Option (Ex × St)) : endCall F m (if c then a else b) = if c then endCall F m a else endCall F m b := by split <;> rfl

theorem call_eq {f : FuncId} {F : AFun} (h : T f = some F) (args : List AV) (m : Mem) : call T pr f args m = endCall F m (run T pr F.code ⟨entry F args, { m with esc := none }⟩) := by
  unfold call callWith
  rw [h]
  simp only []
  cases run T pr F.code ⟨entry F args, { m with esc := none }⟩ with
  | none => rfl
  | some p =>
    obtain ⟨ex, st⟩ := p
    cases ex <;> rfl

theorem call_prim {f : FuncId} (h : T f = none) (args : List AV) (m : Mem) : call T pr f args m = pr f args m := by
  unfold call callWith
  rw [h]

end
def FnOk (P : Program) (p : FuncId × AFun) : Prop := ∃ fn keep mode pl, P.funcs[p.1]? = some fn ∧ compileFn P keep mode pl fn = some p.2

theorem allNil {P : Program} : ∀ p ∈ ([] : List (FuncId × AFun)), FnOk P p := fun p h => by cases h
theorem allCons {P : Program} {p : FuncId × AFun} {ps : List (FuncId × AFun)} (h : FnOk P p) (k : ∀ q ∈ ps, FnOk P q) : ∀ q ∈ p :: ps, FnOk P q := List.forall_mem_cons.mpr ⟨h, k⟩

theorem tableOk_of {P : Program} {tab : List (FuncId × AFun)} (h : ∀ p ∈ tab, FnOk P p) : TableOk P (fun f => tab.lookup f) := by
  intro f F hf
  have key : ∀ (tab : List (FuncId × AFun)), tab.lookup f = some F → (f, F) ∈ tab := by
    intro tab
    induction tab with
    | nil => intro h; cases h
    | cons p ps ih =>
      obtain ⟨g, G⟩ := p
      intro h
      rw [List.lookup_cons] at h
      split at h
      · rename_i e
        have : f = g := by simpa using e
        cases h
        rw [this]
        exact List.mem_cons_self
      · exact List.mem_cons_of_mem _ (ih h)
  exact h _ (key tab hf)

end Go.Proofs.Ytlocjmbfcdfjfaa.Slim
