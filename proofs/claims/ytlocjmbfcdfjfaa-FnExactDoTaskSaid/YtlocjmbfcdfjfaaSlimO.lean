/- The slim machine: code, as it is compiled; its calls, proved. -/
import Derived.Test.YtlocjmbfcdfjfaaSlimU
namespace Go.Proofs.Ytlocjmbfcdfjfaa.Slim
open Go
set_option linter.unusedVariables false
set_option linter.unusedSimpArgs false

def compileCode (P : Program) (nt : Nat) (keep : List Nat) (pl : Plans) : Code → Option ACode
  | .skip => some .skip
  | .label _ => some .skip
  | .region id ops draw =>
    if draw then
      match pl.lookup id with
      | none => none
      | some order => match compileDraw P nt keep ops order [] with
        | none => none
        | some items => if (List.range ops.size).all (fun i => items.any (·.idx == i)) then some (.draw (items.map fun it => ⟨it.ao, it.gd, it.again⟩) (outsFrom (envD items 0) keep 0)) else none
    else match compileOps P nt keep ops ops.toList 0 [] with
      | some (as, env) => some (.region as (outsFrom env keep 0))
      | none => none
  | .seq a b => match compileCode P nt keep pl a, compileCode P nt keep pl b with
    | some x, some y => some (.seq x y)
    | _, _ => none
  | .cond c a b => match cxOf keep [] c, compileCode P nt keep pl a, compileCode P nt keep pl b with
    | some x, some y, some z => some (.cond x y z)
    | _, _, _ => none
  | .block id c => (compileCode P nt keep pl c).map (.block id)
  | .loop c => (compileCode P nt keep pl c).map .loop
  | .exit id => some (.exit id)
  | .ret => some .ret
  | _ => none

def compileResults (P : Program) (keep : List Nat) : List ResultVar → Option (List AR)
  | [] => some []
  | .tmp t :: rs => match keep.idxOf? t, compileResults P keep rs with
    | some s, some as => some (.tmp s :: as)
    | _, _ => none
  | .cell a t :: rs => match keep.idxOf? a, aggT P t, szT P t, compileResults P keep rs with
    | some s, some g, some sz, some as => some (.cell s g sz :: as)
    | _, _, _, _ => none

/-- the slim function of a function of the program -/
def compileFn (P : Program) (keep : List Nat) (mode : Nat) (pl : Plans) (fn : Func) : Option AFun :=
  if fn.name == "runtime.NumGoroutine" then none else
  match fn.body with
  | some c => match compileCode P fn.ntmps keep pl c, compileResults P keep fn.results.toList with
    | some a, some rs => some ⟨keep, fn.ntmps, a, rs, mode⟩
    | _, _ => none
  | none => none

/-- the table is the program's -/
def TableOk (P : Program) (T : FuncId → Option AFun) : Prop :=
  ∀ f F, T f = some F → ∃ fn keep mode pl, P.funcs[f]? = some fn ∧ compileFn P keep mode pl fn = some F

theorem setOuts_length : ∀ (outs : List (Nat × Nat)) (tm loc : List AV), (setOuts tm loc outs).length = tm.length
  | [], tm, loc => rfl
  | (s, j) :: rest, tm, loc => by unfold setOuts; rw [setOuts_length rest]; simp

theorem setOuts_get (env : List (Nat × Nat)) (loc : List AV) : ∀ (ks : List Nat) (s0 : Nat) (tm : List AV) (s : Nat), s < tm.length →
    (setOuts tm loc (outsFrom env ks s0))[s]? = if s0 ≤ s ∧ s < s0 + ks.length then (match env.lookup (ks.getD (s - s0) 0) with | some j => some ((loc[j]?).getD .undef) | none => tm[s]?) else tm[s]?
  | [], s0, tm, s, hs => by
    rw [if_neg (by simp)]; rfl
  | t :: ks, s0, tm, s, hs => by
    unfold outsFrom
    by_cases h0 : s = s0
    · subst h0
      rw [if_pos (by simp)]
      simp only [Nat.sub_self, List.getD_cons_zero]
      cases hl : env.lookup t with
      | none =>
        simp only []
        rw [setOuts_get env loc ks (s + 1) tm s hs, if_neg (by omega)]
      | some j =>
        simp only [setOuts]
        rw [setOuts_get env loc ks (s + 1) _ s (by simpa using hs), if_neg (by omega)]
        simp [hs]
    · have hsub : s0 ≤ s → s - s0 = (s - (s0 + 1)) + 1 := by omega
      have hcond : (s0 ≤ s ∧ s < s0 + (t :: ks).length) ↔ (s0 + 1 ≤ s ∧ s < s0 + 1 + ks.length) := by simp; omega
      cases hl : env.lookup t with
      | none =>
        simp only []
        rw [setOuts_get env loc ks (s0 + 1) tm s hs]
        by_cases hc : s0 + 1 ≤ s ∧ s < s0 + 1 + ks.length
        · rw [if_pos hc, if_pos (hcond.mpr hc), hsub (by omega)]
          simp
        · rw [if_neg hc, if_neg (fun h => hc (hcond.mp h))]
      | some j =>
        simp only [setOuts]
        rw [setOuts_get env loc ks (s0 + 1) _ s (by simpa using hs)]
        have hset : (tm.set s0 ((loc[j]?).getD .undef))[s]? = tm[s]? := by rw [List.getElem?_set, if_neg (fun e => h0 e.symm)]
        by_cases hc : s0 + 1 ≤ s ∧ s < s0 + 1 + ks.length
        · rw [if_pos hc, if_pos (hcond.mpr hc), hsub (by omega), hset]
          simp
        · rw [if_neg hc, if_neg (fun h => hc (hcond.mp h)), hset]

section
variable {P : Program}

/-- the slots behind a region -/
theorem Inv.outs {ι : Emb} {w : World} {nt : Nat} {keep : List Nat} {tm : List AV} {env : List (Nat × Nat)} {loc : List AV} {a : Act} (h : Inv ι w nt keep tm env loc a) :
    Inv ι w nt keep (setOuts tm loc (outsFrom env keep 0)) [] [] a := by
  refine ⟨fun t j e => by simp at e, fun t s _ k => ?_, h.size, h.defers, by rw [setOuts_length]; exact h.len⟩
  have hs : keep[s]? = some t := by
    rw [List.idxOf?_eq_some_iff] at k
    obtain ⟨hlt, h1, _⟩ := k
    rw [List.getElem?_eq_getElem hlt]
    simpa using h1
  have hlt : s < keep.length := (List.getElem?_eq_some_iff.mp hs).1
  rw [setOuts_get env loc keep 0 tm s (by rw [h.len]; exact hlt), if_pos (by omega)]
  have hg : keep.getD (s - 0) 0 = t := by rw [Nat.sub_zero, List.getD, hs]; rfl
  rw [hg]
  cases hl : env.lookup t with
  | none => exact h.kept t s hl k
  | some j => exact (h.made t j hl).2

/-- what code comes to in the model -/
def Post (ι : Emb) (m : Mem) (w : World) (nt : Nat) (keep : List Nat) (e : Ex) (st' : St) : Exit → Act → World → Prop
  | .normal, a', w' => e = .normal ∧ ∃ ι', Rel ι' st'.m w' ∧ Ext ι m w ι' st'.m w' ∧ Inv ι' w' nt keep st'.tm [] [] a'
  | .exit id, a', w' => e = .exit id ∧ ∃ ι', Rel ι' st'.m w' ∧ Ext ι m w ι' st'.m w' ∧ Inv ι' w' nt keep st'.tm [] [] a'
  | .ret, a', w' => e = .ret ∧ ∃ ι', Rel ι' st'.m w' ∧ Ext ι m w ι' st'.m w' ∧ Inv ι' w' nt keep st'.tm [] [] a'
  | _, _, _ => False

theorem Post.trans {ι ι₁ : Emb} {m m₁ : Mem} {w w₁ : World} {nt : Nat} {keep : List Nat} {e : Ex} {st : St} (E : Ext ι m w ι₁ m₁ w₁) : ∀ x a w', Post ι₁ m₁ w₁ nt keep e st x a w' → Post ι m w nt keep e st x a w'
  | .normal, a, w', ⟨h, ι', r1, r2, r3⟩ => ⟨h, ι', r1, E.trans r2, r3⟩
  | .exit id, a, w', ⟨h, ι', r1, r2, r3⟩ => ⟨h, ι', r1, E.trans r2, r3⟩
  | .ret, a, w', ⟨h, ι', r1, r2, r3⟩ => ⟨h, ι', r1, E.trans r2, r3⟩

theorem rounds_mono {c : Code} {Q Q' : Exit → Act → World → Prop} (h : ∀ e a w, Q e a w → Q' e a w) : ∀ (n : Nat) (a : Act) (w : World), Code.rounds P c Q n a w → Code.rounds P c Q' n a w
  | 0, _, _, hr => hr
  | n + 1, a, w, hr => by
    rw [rounds_succ] at *
    refine wp_mono hr ?_
    intro e a1 w1 hq
    cases e with
    | normal => exact rounds_mono h n a1 w1 hq
    | _ => exact h _ _ _ hq

/-- code, as far as it is told -/
def CodeOk (P : Program) (R : ACode → St → Option (Ex × St)) : Prop :=
  ∀ (nt : Nat) (keep : List Nat) (pl : Plans) (c : Code) (ac : ACode) (st st' : St) (e : Ex) (ι : Emb) (w : World) (a : Act), compileCode P nt keep pl c = some ac → R ac st = some (e, st') →
    Rel ι st.m w → Inv ι w nt keep st.tm [] [] a → c.wp P (Post ι st.m w nt keep e st') a w

theorem code_step (hm : P.follows .mixedOrders = true) {call : FuncId → List AV → Mem → Option (AV × Mem)} (hcall : CallOk P call) (hgrow : ∀ f args m v m', call f args m = some (v, m') → Grow m m') {R : ACode → St → Option (Ex × St)} (hR : CodeOk P R) (n : Nat) : CodeOk P (astep n call R) := by
  intro nt keep pl c ac st st' e ι w a hc he hrel I
  cases c with
  | skip => cases hc; cases he; exact wp_skip ⟨rfl, ι, hrel, Ext.refl _ _ _, I⟩
  | label l => cases hc; cases he; exact wp_label ⟨rfl, ι, hrel, Ext.refl _ _ _, I⟩
  | region id ops draw =>
    simp only [compileCode] at hc
    split at hc
    · rename_i hd
      subst hd
      split at hc
      · cases hc
      · split at hc
        · cases hc
        · rename_i items hitems
          split at hc
          · rename_i hcov
            cases hc
            simp only [astep] at he
            split at he
            · cases he
            · rename_i loc m he1
              cases he
              exact draw_ok hm hcall hgrow hitems hcov he1 hrel I fun ι' w' a' R' E' I' => ⟨rfl, ι', R', E', I'.outs⟩
          · cases hc
    · rename_i hd
      have hd' : draw = false := by simpa using hd
      subst hd'
      split at hc
      · rename_i as env hops
        cases hc
        simp only [astep] at he
        split at he
        · cases he
        · rename_i loc m he1
          cases he
          refine wp_region ?_
          have := aops_ok hcall (Q := Post ι st.m w nt keep .normal ⟨setOuts st.tm loc (outsFrom env keep 0), m⟩) ops.toList 0 [] env as [] loc st.m m ι w a (fun j o hj => by simpa using hj) hops he1 hrel I rfl
            (fun ι' w' a' R' E' I' => ⟨rfl, ι', R', E', I'.outs⟩)
          rw [List.range_eq_range']
          simpa using this
      · cases hc
  | seq x y =>
    simp only [compileCode] at hc
    split at hc
    · rename_i ax ay h1 h2
      cases hc
      simp only [astep] at he
      refine wp_seq ?_
      split at he
      · rename_i st1 hx
        refine wp_mono (hR nt keep pl x ax st st1 .normal ι w a h1 hx hrel I) ?_
        intro ex a1 w1 hp
        cases ex with
        | normal =>
          obtain ⟨_, ι1, r1, r2, r3⟩ := hp
          exact wp_mono (hR nt keep pl y ay st1 st' e ι1 w1 a1 h2 he r1 r3) (fun ex a2 w2 h => h.trans r2)
        | exit id => exact absurd hp.1 (by simp)
        | ret => exact absurd hp.1 (by simp)
        | goto l => exact hp.elim
        | panic ch => exact hp.elim
        | outgrown => exact hp.elim
      · rename_i hne
        refine wp_mono (hR nt keep pl x ax st st' e ι w a h1 he hrel I) ?_
        intro ex a1 w1 hp
        cases ex with
        | normal => obtain ⟨rfl, _⟩ := hp; exact absurd he (hne st')
        | exit id => exact hp
        | ret => exact hp
        | goto l => exact hp.elim
        | panic ch => exact hp.elim
        | outgrown => exact hp.elim
    · cases hc
  | cond c x y =>
    simp only [compileCode] at hc
    split at hc
    · rename_i ac' ax ay h0 h1 h2
      cases hc
      simp only [astep] at he
      have hv := I.ok _ _ h0
      split at he
      · rename_i eb
        rw [eb] at hv
        exact wp_cond_true (V.bool_inv hv) (hR nt keep pl x ax st st' e ι w a h1 he hrel I)
      · rename_i eb
        rw [eb] at hv
        exact wp_cond_false (V.bool_inv hv) (hR nt keep pl y ay st st' e ι w a h2 he hrel I)
      · cases he
    · cases hc
  | block id c =>
    simp only [compileCode, Option.map_eq_some_iff] at hc
    obtain ⟨ab, h1, rfl⟩ := hc
    simp only [astep] at he
    refine wp_block ?_
    split at he
    · rename_i k st1 hx
      refine wp_mono (hR nt keep pl c ab st st1 (.exit k) ι w a h1 hx hrel I) ?_
      intro ex a1 w1 hp
      cases ex with
      | normal => exact absurd hp.1 (by simp)
      | exit id' =>
        obtain ⟨hk, ι1, r1, r2, r3⟩ := hp
        cases hk
        simp only [Exit.inBlock]
        split at he
        · rename_i hki
          cases he
          rw [if_pos hki]
          exact ⟨rfl, ι1, r1, r2, r3⟩
        · rename_i hki
          cases he
          rw [if_neg hki]
          exact ⟨rfl, ι1, r1, r2, r3⟩
      | ret => exact absurd hp.1 (by simp)
      | goto l => exact hp.elim
      | panic ch => exact hp.elim
      | outgrown => exact hp.elim
    · rename_i hne
      refine wp_mono (hR nt keep pl c ab st st' e ι w a h1 he hrel I) ?_
      intro ex a1 w1 hp
      cases ex with
      | normal => exact hp
      | exit id' => obtain ⟨rfl, _⟩ := hp; exact absurd he (hne id' st')
      | ret => exact hp
      | goto l => exact hp.elim
      | panic ch => exact hp.elim
      | outgrown => exact hp.elim
  | loop c =>
    simp only [compileCode, Option.map_eq_some_iff] at hc
    obtain ⟨ab, h1, rfl⟩ := hc
    simp only [astep] at he
    have key : ∀ (n : Nat) (st : St) (ι : Emb) (w : World) (a : Act), loopN R ab n st = some (e, st') → Rel ι st.m w → Inv ι w nt keep st.tm [] [] a → Code.rounds P c (Post ι st.m w nt keep e st') n a w := by
      intro n
      induction n with
      | zero => intro st ι w a h; cases h
      | succ n ih =>
        intro st ι w a h hrel I
        rw [rounds_succ]
        unfold loopN at h
        split at h
        · rename_i st1 hx
          refine wp_mono (hR nt keep pl c ab st st1 .normal ι w a h1 hx hrel I) ?_
          intro ex a1 w1 hp
          cases ex with
          | normal =>
            obtain ⟨_, ι1, r1, r2, r3⟩ := hp
            have := ih st1 ι1 w1 a1 h r1 r3
            exact rounds_mono (fun ex a2 w2 h => h.trans r2) n a1 w1 this
          | exit id => exact absurd hp.1 (by simp)
          | ret => exact absurd hp.1 (by simp)
          | goto l => exact hp.elim
          | panic ch => exact hp.elim
          | outgrown => exact hp.elim
        · rename_i hne
          refine wp_mono (hR nt keep pl c ab st st' e ι w a h1 h hrel I) ?_
          intro ex a1 w1 hp
          cases ex with
          | normal => obtain ⟨rfl, _⟩ := hp; exact absurd h (hne st')
          | exit id => exact hp
          | ret => exact hp
          | goto l => exact hp.elim
          | panic ch => exact hp.elim
          | outgrown => exact hp.elim
    exact wp_loop_rounds n (key n st ι w a he hrel I)
  | exit id => cases hc; cases he; exact wp_exit ⟨rfl, ι, hrel, Ext.refl _ _ _, I⟩
  | ret => cases hc; cases he; exact wp_ret ⟨rfl, ι, hrel, Ext.refl _ _ _, I⟩
  | rangeFunc => cases hc
  | scope => cases hc
  | goto => cases hc
  | refuse => cases hc

def resSem (tmps : Array Value) (r : ResultVar) : Sem Value :=
  match r with
  | .tmp t => pure (tmps.getD t undef)
  | .cell b t => do loadVar t (← asAddr (tmps.getD b undef))

theorem results_eq (fn : Func) (tmps : Array Value) : results fn tmps = (do
    let vs ← fn.results.mapM (resSem tmps)
    pure (if h : vs.size = 1 then vs[0] else .tuple vs)) := rfl

theorem results_ok {nt : Nat} {keep : List Nat} {ι : Emb} {m : Mem} {w : World} {tm : List AV} {a : Act} (R : Rel ι m w) (I : Inv ι w nt keep tm [] [] a) :
    ∀ (rs : List ResultVar) (as : List AR) (vs : List AV), compileResults P keep rs = some as → resultList tm m.H as = some vs →
      ∃ us : List Value, (rs.mapM (resSem a.tmps)).run P w = .ok us w ∧ VL ι w vs us
  | [], as, vs, hc, hr => by cases hc; cases hr; exact ⟨[], rfl, rfl⟩
  | .tmp t :: rs, as, vs, hc, hr => by
    unfold compileResults at hc
    split at hc
    · rename_i s as' h1 h2
      cases hc
      unfold resultList at hr
      split at hr
      · rename_i v vs' h3 h4
        cases hr
        obtain ⟨us, u1, u2⟩ := results_ok R I rs as' vs' h2 h4
        cases h3
        have hv := I.kept t s rfl h1
        refine ⟨a.tmps.getD t undef :: us, ?_, ⟨_, _, rfl, hv, u2⟩⟩
        rw [List.mapM_cons]
        simp only [resSem, Sem.run_bind, Sem.run_pure, Result.andThen_ok, u1]
      · cases hr
    · cases hc
  | .cell b t :: rs, as, vs, hc, hr => by
    unfold compileResults at hc
    split at hc
    · rename_i s g sz as' h1 h2 h3 h4
      cases hc
      unfold resultList at hr
      split at hr
      · rename_i v vs' h5 h6
        cases hr
        obtain ⟨us, u1, u2⟩ := results_ok R I rs as' vs' h4 h6
        have hv := I.kept b s rfl h1
        obtain ⟨v', r1, r2⟩ := loadAt_ok (P := P) R h2 h3 hv h5
        refine ⟨v' :: us, ?_, ⟨_, _, rfl, r2, u2⟩⟩
        rw [List.mapM_cons]
        have hsa : (do loadVar t (← asAddr (a.tmps.getD b undef)) : Sem Value).run P w = .ok v' w := by
          have he : a.eval (.tmp b) = a.tmps.getD b undef := rfl
          rw [← he]
          generalize a.eval (.tmp b) = q at *
          cases q with
          | pointer p =>
            cases p with
            | none => simp [Instr.sureAddr] at r1
            | some p => simpa [Instr.sureAddr, asAddr] using r1
          | _ => simp [Instr.sureAddr] at r1
        have hsa' : (resSem a.tmps (.cell b t)).run P w = .ok v' w := hsa
        simp only [Sem.run_bind, hsa', Sem.run_pure, Result.andThen_ok, u1]
      · cases hr
    · cases hc

theorem entry_inv {ι : Emb} {w : World} {keep : List Nat} {nt : Nat} {F : AFun} (hk : F.keep = keep) {args : List AV} {vs : List Value} (hv : VL ι w args vs) :
    Inv ι w nt keep (entry F args) [] [] { tmps := vs.toArray ++ Array.replicate (nt - vs.toArray.size) undef, defers := [] } := by
  refine ⟨fun t j e => by simp at e, fun t s _ k => ?_, by simp; omega, rfl, by simp [entry, hk]⟩
  have hs : keep[s]? = some t := by
    rw [List.idxOf?_eq_some_iff] at k
    obtain ⟨hlt, h1, _⟩ := k
    rw [List.getElem?_eq_getElem hlt]
    simpa using h1
  unfold entry
  rw [hk, List.getElem?_map, hs]
  simp only [Option.map_some, Option.getD_some]
  cases ha : args[t]? with
  | none => trivial
  | some c =>
    obtain ⟨y, h1, h2⟩ := hv.get t c ha
    have hlt : t < vs.length := (List.getElem?_eq_some_iff.mp h1).1
    have : (({ tmps := vs.toArray ++ Array.replicate (nt - vs.toArray.size) undef, defers := [] } : Act)).eval (.tmp t) = y := by
      simp only [Act.eval, Array.getD_eq_getD_getElem?]
      rw [Array.getElem?_append_left (by simpa using hlt)]
      simp [h1]
    rw [this]
    exact h2

theorem call_step {T : FuncId → Option AFun} {pr : FuncId → List AV → Mem → Option (AV × Mem)} (hT : TableOk P T) (hpr : CallOk P pr) {R : ACode → St → Option (Ex × St)} (hR : CodeOk P R)
    (hG : ∀ c st e st', R c st = some (e, st') → Grow st.m st'.m) : CallOk P (callWith T pr R) := by
  intro f args m v m' ι w vs h hrel hargs
  unfold callWith at h
  split at h
  · exact hpr f args m v m' ι w vs h hrel hargs
  · rename_i F hF
    obtain ⟨fn, keep, mode, pl, hf, hfn⟩ := hT f F hF
    unfold compileFn at hfn
    split at hfn
    · cases hfn
    · rename_i hname
      split at hfn
      · rename_i c hb
        split at hfn
        · rename_i ac rs h1 h2
          cases hfn
          refine ⟨⟨fn, hf, by rw [hb]; rfl, by simpa using hname⟩, ?_⟩
          refine calls_of_wp hf hb ?_
          have R0 : Rel ι { m with esc := none } w := ⟨hrel.len, hrel.low, hrel.at', hrel.inj⟩
          split at h
          · cases h
          · rename_i e st hne he
            split at h
            · rename_i us hus
              have I0 := entry_inv (ι := ι) (w := w) (nt := fn.ntmps) (keep := keep) (F := ⟨keep, fn.ntmps, ac, rs, mode⟩) rfl hargs
              refine wp_mono (hR fn.ntmps keep pl c ac _ st e ι w _ h1 he R0 I0) ?_
              have fin : ∀ (ex : Exit) (a' : Act) (w' : World), (∃ ι', Rel ι' st.m w' ∧ Ext ι { m with esc := none } w ι' st.m w' ∧ Inv ι' w' fn.ntmps keep st.tm [] [] a') →
                  a'.defers = [] ∧ ∃ v0, (results fn a'.tmps).run P w' = .ok v0 w' ∧ ∃ (ι' : Emb) (v' : Value), Ending.returned v0 = .returned v' ∧ V ι' w' v v' ∧ Rel ι' m' w' ∧ Ext ι m w ι' m' w' := by
                rintro ex a' w' ⟨ι', r1, r2, r3⟩
                obtain ⟨ws, q1, q2⟩ := results_ok (P := P) r1 r3 fn.results.toList rs us h2 hus
                have hres : ∃ v0, (results fn a'.tmps).run P w' = .ok v0 w' ∧ V ι' w' (tupled us) v0 := by
                  have hlen := q2.length
                  have hmm : (fn.results.mapM (resSem a'.tmps)).run P w' = .ok ws.toArray w' := by
                    rw [Array.mapM_eq_mapM_toList, Sem.run_map, q1]
                    rfl
                  have hrun : (results fn a'.tmps).run P w' = .ok (if h : ws.toArray.size = 1 then ws.toArray[0] else .tuple ws.toArray) w' := by
                    rw [results_eq, Sem.run_bind, hmm]
                    rfl
                  refine ⟨_, hrun, ?_⟩
                  cases us with
                  | nil => cases q2; exact ⟨[], by simp, rfl⟩
                  | cons u us =>
                    obtain ⟨y, ys, rfl, q3, q4⟩ := q2
                    cases us with
                    | nil => cases q4; simpa [tupled] using q3
                    | cons u2 us2 =>
                      obtain ⟨y2, ys2, rfl, q5, q6⟩ := q4
                      rw [dif_neg (by simp)]
                      exact ⟨_, rfl, y, _, rfl, q3, y2, ys2, rfl, q5, q6⟩
                obtain ⟨v0, z1, z2⟩ := hres
                have E : Ext ι m w ι' st.m w' := ⟨r2.le, r2.grow, r2.size, r2.shapes, r2.img, r2.frame, r2.os, r2.tape, r2.output⟩
                obtain ⟨ι₂, f1, f2, f3⟩ := finish_ok hrel r1 E (hG _ _ _ _ he) z2 h
                exact ⟨r3.defers, v0, z1, ι₂, v0, rfl, f1, f2, f3⟩
              intro ex a' w' hp
              cases ex with
              | normal => exact fin .normal a' w' hp.2
              | ret => exact fin .ret a' w' hp.2
              | exit id =>
                obtain ⟨rfl, _⟩ := hp
                exact absurd rfl (hne id)
              | goto l => exact hp.elim
              | panic ch => exact hp.elim
              | outgrown => exact hp.elim
            · cases h
          · cases h
        · cases hfn
      · cases hfn

end
end Go.Proofs.Ytlocjmbfcdfjfaa.Slim
