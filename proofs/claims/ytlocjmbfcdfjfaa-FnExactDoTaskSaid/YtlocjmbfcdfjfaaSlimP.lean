/- The slim machine: THE SOUNDNESS: what the evaluator gives, the model's call does. And the evaluator without fuel, with its equations. -/
import Derived.Test.YtlocjmbfcdfjfaaSlimO
namespace Go.Proofs.Ytlocjmbfcdfjfaa.Slim
open Go
set_option linter.unusedVariables false
set_option linter.unusedSimpArgs false

abbrev Prims := FuncId → List AV → Mem → Option (AV × Mem)
abbrev Table := FuncId → Option AFun

theorem Grow.step {n : Nat} {call : FuncId → List AV → Mem → Option (AV × Mem)} (hcall : ∀ f args m v m', call f args m = some (v, m') → Grow m m') {R : ACode → St → Option (Ex × St)}
    (hR : ∀ c st e st', R c st = some (e, st') → Grow st.m st'.m) {c : ACode} {st st' : St} {e : Ex} (h : astep n call R c st = some (e, st')) : Grow st.m st'.m := by
  cases c with
  | skip => cases h; exact Grow.refl _
  | region ops outs =>
    simp only [astep] at h
    split at h
    · cases h
    · rename_i h1; cases h; exact Grow.aops hcall h1
  | draw es outs =>
    simp only [astep] at h
    split at h
    · cases h
    · rename_i h1; cases h; exact Grow.dops hcall h1
  | seq a b =>
    simp only [astep] at h
    split at h
    · rename_i h1; exact (hR _ _ _ _ h1).trans (hR _ _ _ _ h)
    · exact hR _ _ _ _ h
  | cond x a b =>
    simp only [astep] at h
    split at h
    · exact hR _ _ _ _ h
    · exact hR _ _ _ _ h
    · cases h
  | block id b =>
    simp only [astep] at h
    split at h
    · rename_i h1
      split at h
      · cases h; exact hR _ _ _ _ h1
      · cases h; exact hR _ _ _ _ h1
    · exact hR _ _ _ _ h
  | loop b =>
    simp only [astep] at h
    have key : ∀ (k : Nat) (st : St), loopN R b k st = some (e, st') → Grow st.m st'.m := by
      intro k
      induction k with
      | zero => intro st h; cases h
      | succ k ih =>
        intro st h
        unfold loopN at h
        split at h
        · rename_i h1; exact (hR _ _ _ _ h1).trans (ih _ h)
        · exact hR _ _ _ _ h
    exact key n st h
  | exit id => cases h; exact Grow.refl _
  | ret => cases h; exact Grow.refl _

theorem Grow.call {T : Table} {pr : Prims} (hpr : ∀ f args m v m', pr f args m = some (v, m') → Grow m m') {R : ACode → St → Option (Ex × St)}
    (hR : ∀ c st e st', R c st = some (e, st') → Grow st.m st'.m) {f : FuncId} {args : List AV} {m m' : Mem} {v : AV} (h : callWith T pr R f args m = some (v, m')) : Grow m m' := by
  unfold callWith at h
  split at h
  · exact hpr _ _ _ _ _ h
  · split at h
    · cases h
    · rename_i h1
      split at h
      · exact Grow.finish (hR _ _ _ _ h1) h
      · cases h
    · cases h

theorem Grow.run {T : Table} {pr : Prims} (hpr : ∀ f args m v m', pr f args m = some (v, m') → Grow m m') : ∀ (n : Nat) (c : ACode) (st : St) (e : Ex) (st' : St), arun T pr n c st = some (e, st') → Grow st.m st'.m
  | 0, c, st, e, st', h => by simp [arun] at h
  | n + 1, c, st, e, st', h => by
    simp only [arun] at h
    exact Grow.step (fun f args m v m' h => Grow.call hpr (Grow.run hpr n) h) (Grow.run hpr n) h

/-- the functions that are taken by contracts: sound, and they keep the old blocks -/
structure PrimsOk (P : Program) (pr : Prims) : Prop where
  ok : CallOk P pr
  grow : ∀ f args m v m', pr f args m = some (v, m') → Grow m m'

theorem run_sound {P : Program} {T : Table} {pr : Prims} (hm : P.follows .mixedOrders = true) (hT : TableOk P T) (hpr : PrimsOk P pr) : ∀ n, CodeOk P (arun T pr n) ∧ CallOk P (callWith T pr (arun T pr n))
  | 0 => by
    have h0 : CodeOk P (arun T pr 0) := fun nt keep pl c ac st st' e ι w a hc he => by simp [arun] at he
    exact ⟨h0, call_step hT hpr.ok h0 (Grow.run hpr.grow 0)⟩
  | n + 1 => by
    obtain ⟨h1, h2⟩ := run_sound hm hT hpr n
    have h3 : CodeOk P (arun T pr (n + 1)) := code_step hm h2 (fun f args m v m' h => Grow.call hpr.grow (Grow.run hpr.grow n) h) h1 n
    exact ⟨h3, call_step hT hpr.ok h3 (Grow.run hpr.grow (n + 1))⟩

/-! the evaluator without fuel -/

/-- a is told as much as b -/
def LeS (a b : Option (Ex × St)) : Prop := ∀ r, a = some r → b = some r

def LeR (R R' : ACode → St → Option (Ex × St)) : Prop := ∀ c st, LeS (R c st) (R' c st)
def LeC (C C' : FuncId → List AV → Mem → Option (AV × Mem)) : Prop := ∀ f args m r, C f args m = some r → C' f args m = some r

theorem heavy_mono {C C' : FuncId → List AV → Mem → Option (AV × Mem)} (h : LeC C C') {g : X → AV} {m : Mem} {op : AO} {r : AV × Mem} (he : heavy C g m op = some r) : heavy C' g m op = some r := by
  cases op with
  | call f args =>
    unfold heavy at he ⊢
    cases e : g f with
    | fn f first captured => simp only [e] at he ⊢; exact h _ _ _ _ he
    | _ => simp only [e] at he; cases he
  | _ => exact he

theorem aop_mono {C C' : FuncId → List AV → Mem → Option (AV × Mem)} (h : LeC C C') {g : X → AV} {m : Mem} {op : AO} {r : AV × Mem} (he : aop C g m op = some r) : aop C' g m op = some r := by
  unfold aop at he ⊢
  cases e : light g op with
  | some v => simp only [e] at he ⊢; exact he
  | none =>
    simp only [e] at he ⊢
    cases e2 : memop g m.H op with
    | some v => simp only [e2] at he ⊢; exact he
    | none =>
      simp only [e2] at he ⊢
      cases e3 : making g op with
      | some v => simp only [e3] at he ⊢; exact he
      | none => simp only [e3] at he ⊢; exact heavy_mono h he

theorem aops_mono {C C' : FuncId → List AV → Mem → Option (AV × Mem)} (h : LeC C C') {tm : List AV} : ∀ {ops : List AOper} {loc : List AV} {m : Mem} {r : List AV × Mem}, aops C tm ops loc m = some r → aops C' tm ops loc m = some r
  | [], loc, m, r, he => he
  | o :: rest, loc, m, r, he => by
    unfold aops at he ⊢
    cases e : wanted (get tm loc) o.guard with
    | none => simp only [e] at he; cases he
    | some b =>
      cases b with
      | false => simp only [e] at he ⊢; exact aops_mono h he
      | true =>
        simp only [e] at he ⊢
        cases e2 : aop C (get tm loc) m o.op with
        | none => simp only [e2] at he; cases he
        | some v => simp only [e2, aop_mono h e2] at he ⊢; exact aops_mono h he

theorem dops_mono {C C' : FuncId → List AV → Mem → Option (AV × Mem)} (h : LeC C C') {tm : List AV} : ∀ {es : List DE} {loc : List AV} {m : Mem} {r : List AV × Mem}, dops C tm es loc m = some r → dops C' tm es loc m = some r
  | [], loc, m, r, he => he
  | e :: rest, loc, m, r, he => by
    unfold dops at he ⊢
    cases e1 : wanted (get tm loc) e.guard with
    | none => simp only [e1] at he; cases he
    | some b =>
      cases b with
      | false =>
        simp only [e1] at he ⊢
        split at he
        · rename_i e3; rw [if_pos e3]; exact dops_mono h he
        · cases he
      | true =>
        simp only [e1] at he ⊢
        cases e2 : aop C (get tm loc) m e.op with
        | none => simp only [e2] at he; cases he
        | some v =>
          simp only [e2, aop_mono h e2] at he ⊢
          split at he
          · rename_i e3; rw [if_pos e3]; exact dops_mono h he
          · cases he

theorem loopN_mono {R R' : ACode → St → Option (Ex × St)} (h : LeR R R') {b : ACode} : ∀ {n k : Nat} (hn : n ≤ k) {st : St} {r : Ex × St}, loopN R b n st = some r → loopN R' b k st = some r
  | 0, k, hn, st, r, he => by cases he
  | n + 1, 0, hn, st, r, he => by omega
  | n + 1, k + 1, hn, st, r, he => by
    unfold loopN at *
    split at he
    · rename_i st1 e
      rw [h _ _ _ e]
      exact loopN_mono h (by omega) he
    · rename_i hne
      have := h _ _ _ he
      rw [this]
      obtain ⟨ex, st2⟩ := r
      cases ex with
      | normal => exact absurd he (hne st2)
      | _ => rfl

theorem astep_mono {n k : Nat} (hn : n ≤ k) {C C' : FuncId → List AV → Mem → Option (AV × Mem)} (hC : LeC C C') {R R' : ACode → St → Option (Ex × St)} (h : LeR R R') : LeR (astep n C R) (astep k C' R') := by
  intro c st r he
  cases c with
  | skip => exact he
  | region ops outs =>
    simp only [astep] at he ⊢
    cases e : aops C st.tm ops [] st.m with
    | none => simp only [e] at he; cases he
    | some v => simp only [e, aops_mono hC e] at he ⊢; exact he
  | draw es outs =>
    simp only [astep] at he ⊢
    cases e : dops C st.tm es [] st.m with
    | none => simp only [e] at he; cases he
    | some v => simp only [e, dops_mono hC e] at he ⊢; exact he
  | seq a b =>
    simp only [astep] at *
    split at he
    · rename_i st1 e
      rw [h _ _ _ e]
      exact h _ _ _ he
    · rename_i hne
      rw [h _ _ _ he]
      obtain ⟨ex, st2⟩ := r
      cases ex with
      | normal => exact absurd he (hne st2)
      | _ => rfl
  | cond x a b =>
    unfold astep at he ⊢
    cases e : get st.tm [] x with
    | bool t => cases t <;> (simp only [e] at he ⊢; exact h _ _ _ he)
    | _ => simp only [e] at he; cases he
  | block id b =>
    simp only [astep] at *
    split at he
    · rename_i k2 st1 e
      rw [h _ _ _ e]
      exact he
    · rename_i hne
      rw [h _ _ _ he]
      obtain ⟨ex, st2⟩ := r
      cases ex with
      | exit id2 => exact absurd he (hne id2 st2)
      | _ => rfl
  | loop b => exact loopN_mono h hn he
  | exit id => exact he
  | ret => exact he

theorem call_mono {T : Table} {pr : Prims} {R R' : ACode → St → Option (Ex × St)} (h : LeR R R') : LeC (callWith T pr R) (callWith T pr R') := by
  intro f args m r he
  unfold callWith at he ⊢
  cases e : T f with
  | none => simp only [e] at he ⊢; exact he
  | some F =>
    simp only [e] at he ⊢
    cases e2 : R F.code ⟨entry F args, { m with esc := none }⟩ with
    | none => simp only [e2] at he; cases he
    | some p =>
      obtain ⟨ex, st⟩ := p
      simp only [h _ _ _ e2]
      simp only [e2] at he
      exact he

theorem arun_mono {T : Table} {pr : Prims} : ∀ (n : Nat), LeR (arun T pr n) (arun T pr (n + 1))
  | 0 => fun c st r he => by simp [arun] at he
  | n + 1 => fun c st r he => by
    have ih := arun_mono (T := T) (pr := pr) n
    simp only [arun] at *
    exact astep_mono (Nat.le_succ n) (call_mono ih) ih c st r he

theorem arun_le {T : Table} {pr : Prims} {n k : Nat} (h : n ≤ k) : LeR (arun T pr n) (arun T pr k) := by
  induction h with
  | refl => exact fun c st r he => he
  | step _ ih => exact fun c st r he => arun_mono _ _ _ _ (ih c st r he)

open Classical in
/-- code, as far as any fuel tells -/
noncomputable def run (T : Table) (pr : Prims) (c : ACode) (st : St) : Option (Ex × St) :=
  if h : ∃ n r, arun T pr n c st = some r then some h.choose_spec.choose else none

theorem run_of {T : Table} {pr : Prims} {n : Nat} {c : ACode} {st : St} {r : Ex × St} (h : arun T pr n c st = some r) : run T pr c st = some r := by
  have hex : ∃ n r, arun T pr n c st = some r := ⟨n, r, h⟩
  unfold run
  rw [dif_pos hex]
  have h1 := hex.choose_spec.choose_spec
  rcases Nat.le_total n hex.choose with hle | hle
  · have := arun_le hle c st r h
    rw [h1] at this
    exact this
  · have := arun_le hle c st _ h1
    rw [h] at this
    exact this.symm

theorem of_run {T : Table} {pr : Prims} {c : ACode} {st : St} {r : Ex × St} (h : run T pr c st = some r) : ∃ n, arun T pr n c st = some r := by
  unfold run at h
  split at h
  · rename_i hex
    cases h
    exact ⟨_, hex.choose_spec.choose_spec⟩
  · cases h

theorem arun_run {T : Table} {pr : Prims} (n : Nat) : LeR (arun T pr n) (run T pr) := fun c st r h => run_of h

/-- a call, without fuel -/
noncomputable def call (T : Table) (pr : Prims) : FuncId → List AV → Mem → Option (AV × Mem) := callWith T pr (run T pr)

theorem of_call {T : Table} {pr : Prims} {f : FuncId} {args : List AV} {m : Mem} {r : AV × Mem} (h : call T pr f args m = some r) : ∃ n, callWith T pr (arun T pr n) f args m = some r := by
  unfold call callWith at h
  split at h
  · rename_i e; exact ⟨0, by unfold callWith; simp only [e]; exact h⟩
  · rename_i F e
    split at h
    · cases h
    · rename_i ex st2 hne he
      obtain ⟨n, hn⟩ := of_run he
      refine ⟨n, ?_⟩
      unfold callWith
      simp only [e, hn]
      cases ex with
      | exit id => exact absurd rfl (hne id)
      | normal => exact h
      | ret => exact h
    · cases h

/-- THE SOUNDNESS -/
theorem sound {P : Program} {T : Table} {pr : Prims} (hm : P.follows .mixedOrders = true) (hT : TableOk P T) (hpr : PrimsOk P pr) : CallOk P (call T pr) := by
  intro f args m v m' ι w vs h
  obtain ⟨n, hn⟩ := of_call h
  exact (run_sound hm hT hpr n).2 f args m v m' ι w vs hn

end Go.Proofs.Ytlocjmbfcdfjfaa.Slim
