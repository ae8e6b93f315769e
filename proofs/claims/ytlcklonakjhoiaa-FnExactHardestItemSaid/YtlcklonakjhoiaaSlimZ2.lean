/- The slim machine: code, as it is compiled; its calls, proved. -/
import Derived.Test.YtlcklonakjhoiaaSlimZ1
import Derived.WalkKit
import Derived.ProofKit
import Derived.OpenShut
import Derived.Below
import Derived.Carry
import Derived.Deep.Slices
import Derived.Deep.Fields
import Derived.ChangeSame
import Derived.Lib.SmallJoins
import Derived.Deep.RegionLaw
import Derived.OwnWalk
import Derived.Lib.Walk
import Derived.Lib.SliceRun
import Derived.Lib.Slices
import Derived.Shelf.RegionOpenPlain
import Derived.Deep.LoopGhost
/- The slim machine: code, as it is compiled; its calls, proved. -/
namespace Go.Proofs.Ytlcklonakjhoiaa.Slim
open Go
set_option linter.unusedVariables false
set_option linter.unusedSimpArgs false

def compileCode (P : Program) (nt : Nat) (keep : List Nat) (pl : Plans) : Code → Option ACode
  | .skip => some .skip
  | .label _ => some .skip
  | .region id ops draw =>
    if draw then
      match pl.lookup id with
      | none => none
      | some order => match compileDraw P nt keep ops order [] with
        | none => none
        | some items => if (List.range ops.size).all (fun i => items.any (·.idx == i)) then some (.draw (items.map fun it => ⟨it.ao, it.gd, it.again⟩) (outsFrom (envD items 0) keep 0)) else none
    else match compileOps P nt keep ops ops.toList 0 [] with
      | some (az, env) => some (.region az (outsFrom env keep 0))
      | none => none
  | .seq a b => match compileCode P nt keep pl a, compileCode P nt keep pl b with
    | some x, some y => some (.seq x y)
    | _, _ => none
  | .cond c a b => match cxOf keep [] c, compileCode P nt keep pl a, compileCode P nt keep pl b with
    | some x, some y, some z => some (.cond x y z)
    | _, _, _ => none
  | .block id c => (compileCode P nt keep pl c).map (.block id)
  | .loop c => (compileCode P nt keep pl c).map .loop
  | .exit id => some (.exit id)
  | .ret => some .ret
  | _ => none

def compileResults (P : Program) (keep : List Nat) : List ResultVar → Option (List AR)
  | [] => some []
  | .tmp t :: rs => match keep.idxOf? t, compileResults P keep rs with
    | some s, some az => some (.tmp s :: az)
    | _, _ => none
  | .cell a t :: rs => match keep.idxOf? a, aggT P t, szT P t, compileResults P keep rs with
    | some s, some g, some sz, some az => some (.cell s g sz :: az)
    | _, _, _, _ => none

/-- the slim function of a function of the program -/
def compileFn (P : Program) (keep : List Nat) (mode : Nat) (pl : Plans) (fn : Func) : Option AFun :=
  if fn.name == "runtime.NumGoroutine" then none else
  match fn.body with
  | some c => match compileCode P fn.ntmps keep pl c, compileResults P keep fn.results.toList with
    | some a, some rs => some ⟨keep, fn.ntmps, a, rs, mode⟩
    | _, _ => none
  | none => none

/-- the table is the program's -/
def TableOk (P : Program) (T : FuncId → Option AFun) : Prop :=
  ∀ f F, T f = some F → ∃ fn keep mode pl, P.funcs[f]? = some fn ∧ compileFn P keep mode pl fn = some F

theorem setOuts_length : ∀ (outs : List (Nat × Nat)) (tm loc : List AV), (setOuts tm loc outs).length = tm.length
  | [], tm, loc => rfl
  | (s, j) :: rest, tm, loc => by unfold setOuts; rw [setOuts_length rest]; simp

theorem setOuts_get (env : List (Nat × Nat)) (loc : List AV) : ∀ (ks : List Nat) (s0 : Nat) (tm : List AV) (s : Nat), s < tm.length →
    (setOuts tm loc (outsFrom env ks s0))[s]? = if s0 ≤ s ∧ s < s0 + ks.length then (match env.lookup (ks.getD (s - s0) 0) with | some j => some ((loc[j]?).getD .undef) | none => tm[s]?) else tm[s]?
  | [], s0, tm, s, hs => by
    rw [if_neg (by simp)]; rfl
  | t :: ks, s0, tm, s, hs => by
    unfold outsFrom
    by_cases h0 : s = s0
    · subst h0
      rw [if_pos (by simp)]
      simp only [Nat.sub_self, List.getD_cons_zero]
      cases hl : env.lookup t with
      | none =>
        simp only []
        rw [setOuts_get env loc ks (s + 1) tm s hs, if_neg (by omega)]
      | some j =>
        simp only [setOuts]
        rw [setOuts_get env loc ks (s + 1) _ s (by simpa using hs), if_neg (by omega)]
        simp [hs]
    · have hsub : s0 ≤ s → s - s0 = (s - (s0 + 1)) + 1 := by omega
      have hcond : (s0 ≤ s ∧ s < s0 + (t :: ks).length) ↔ (s0 + 1 ≤ s ∧ s < s0 + 1 + ks.length) := by simp; omega
      cases hl : env.lookup t with
      | none =>
        simp only []
        rw [setOuts_get env loc ks (s0 + 1) tm s hs]
        by_cases hc : s0 + 1 ≤ s ∧ s < s0 + 1 + ks.length
        · rw [if_pos hc, if_pos (hcond.mpr hc), hsub (by omega)]
          simp
        · rw [if_neg hc, if_neg (fun h => hc (hcond.mp h))]
      | some j =>
        simp only [setOuts]
        rw [setOuts_get env loc ks (s0 + 1) _ s (by simpa using hs)]
        have hset : (tm.set s0 ((loc[j]?).getD .undef))[s]? = tm[s]? := by rw [List.getElem?_set, if_neg (fun e => h0 e.symm)]
        by_cases hc : s0 + 1 ≤ s ∧ s < s0 + 1 + ks.length
        · rw [if_pos hc, if_pos (hcond.mpr hc), hsub (by omega), hset]
          simp
        · rw [if_neg hc, if_neg (fun h => hc (hcond.mp h)), hset]

section
variable {P : Program}

/-- the slots behind a region -/
theorem Inv.outs {ι : Emb} {w : World} {nt : Nat} {keep : List Nat} {tm : List AV} {env : List (Nat × Nat)} {loc : List AV} {a : Act} (h : Inv ι w nt keep tm env loc a) :
    Inv ι w nt keep (setOuts tm loc (outsFrom env keep 0)) [] [] a := by
  refine ⟨fun t j e => by simp at e, fun t s _ k => ?_, h.size, h.defers, by rw [setOuts_length]; exact h.len⟩
  have hs : keep[s]? = some t := by
    rw [List.idxOf?_eq_some_iff] at k
    obtain ⟨hlt, h1, _⟩ := k
    rw [List.getElem?_eq_getElem hlt]
    simpa using h1
  have hlt : s < keep.length := (List.getElem?_eq_some_iff.mp hs).1
  rw [setOuts_get env loc keep 0 tm s (by rw [h.len]; exact hlt), if_pos (by omega)]
  have hg : keep.getD (s - 0) 0 = t := by rw [Nat.sub_zero, List.getD, hs]; rfl
  rw [hg]
  cases hl : env.lookup t with
  | none => exact h.kept t s hl k
  | some j => exact (h.made t j hl).2

/-- what code comes to in the model -/
def Post (ι : Emb) (m : Mem) (w : World) (nt : Nat) (keep : List Nat) (e : Ex) (st' : St) : Exit → Act → World → Prop
  | .normal, a', w' => e = .normal ∧ ∃ ι', Rel ι' st'.m w' ∧ Ext ι m w ι' st'.m w' ∧ Inv ι' w' nt keep st'.tm [] [] a'
  | .exit id, a', w' => e = .exit id ∧ ∃ ι', Rel ι' st'.m w' ∧ Ext ι m w ι' st'.m w' ∧ Inv ι' w' nt keep st'.tm [] [] a'
  | .ret, a', w' => e = .ret ∧ ∃ ι', Rel ι' st'.m w' ∧ Ext ι m w ι' st'.m w' ∧ Inv ι' w' nt keep st'.tm [] [] a'
  | _, _, _ => False

theorem Post.trans {ι ι₁ : Emb} {m m₁ : Mem} {w w₁ : World} {nt : Nat} {keep : List Nat} {e : Ex} {st : St} (E : Ext ι m w ι₁ m₁ w₁) : ∀ x a w', Post ι₁ m₁ w₁ nt keep e st x a w' → Post ι m w nt keep e st x a w'
  | .normal, a, w', ⟨h, ι', r1, r2, r3⟩ => ⟨h, ι', r1, E.trans r2, r3⟩
  | .exit id, a, w', ⟨h, ι', r1, r2, r3⟩ => ⟨h, ι', r1, E.trans r2, r3⟩
  | .ret, a, w', ⟨h, ι', r1, r2, r3⟩ => ⟨h, ι', r1, E.trans r2, r3⟩

theorem rounds_mono {c : Code} {Q Q' : Exit → Act → World → Prop} (h : ∀ e a w, Q e a w → Q' e a w) : ∀ (n : Nat) (a : Act) (w : World), Code.rounds P c Q n a w → Code.rounds P c Q' n a w
  | 0, _, _, hr => hr
  | n + 1, a, w, hr => by
    rw [rounds_succ] at *
    refine wp_mono hr ?_
    intro e a1 w1 hq
    cases e with
    | normal => exact rounds_mono h n a1 w1 hq
    | _ => exact h _ _ _ hq

/-- code, as far as it is told -/
def CodeOk (P : Program) (R : ACode → St → Option (Ex × St)) : Prop :=
  ∀ (nt : Nat) (keep : List Nat) (pl : Plans) (c : Code) (ac : ACode) (st st' : St) (e : Ex) (ι : Emb) (w : World) (a : Act), compileCode P nt keep pl c = some ac → R ac st = some (e, st') →
    Rel ι st.m w → Inv ι w nt keep st.tm [] [] a → c.wp P (Post ι st.m w nt keep e st') a w

theorem code_step (hm : P.follows .mixedOrders = true) {call : FuncId → List AV → Mem → Option (AV × Mem)} (hcall : CallOk P call) (hgrow : ∀ f args m v m', call f args m = some (v, m') → Grow m m') {R : ACode → St → Option (Ex × St)} (hR : CodeOk P R) (n : Nat) : CodeOk P (astep n call R) := by
  intro nt keep pl c ac st st' e ι w a hc he hrel I
  cases c with
  | skip => cases hc; cases he; exact wp_skip ⟨rfl, ι, hrel, Ext.refl _ _ _, I⟩
  | label l => cases hc; cases he; exact wp_label ⟨rfl, ι, hrel, Ext.refl _ _ _, I⟩
  | region id ops draw =>
    simp only [compileCode] at hc
    split at hc
    · rename_i hd
      subst hd
      split at hc
      · cases hc
      · split at hc
        · cases hc
        · rename_i items hitems
          split at hc
          · rename_i hcov
            cases hc
            simp only [astep] at he
            split at he
            · cases he
            · rename_i loc m he1
              cases he
              exact draw_ok hm hcall hgrow hitems hcov he1 hrel I fun ι' w' a' R' E' I' => ⟨rfl, ι', R', E', I'.outs⟩
          · cases hc
    · rename_i hd
      have hd' : draw = false := by simpa using hd
      subst hd'
      split at hc
      · rename_i az env hops
        cases hc
        simp only [astep] at he
        split at he
        · cases he
        · rename_i loc m he1
          cases he
          refine wp_region ?_
          have := aops_ok hcall (Q := Post ι st.m w nt keep .normal ⟨setOuts st.tm loc (outsFrom env keep 0), m⟩) ops.toList 0 [] env az [] loc st.m m ι w a (fun j o hj => by simpa using hj) hops he1 hrel I rfl
            (fun ι' w' a' R' E' I' => ⟨rfl, ι', R', E', I'.outs⟩)
          rw [List.range_eq_range']
          simpa using this
      · cases hc
  | seq x y =>
    simp only [compileCode] at hc
    split at hc
    · rename_i ax ay h1 h2
      cases hc
      simp only [astep] at he
      refine wp_seq ?_
      split at he
      · rename_i st1 hx
        refine wp_mono (hR nt keep pl x ax st st1 .normal ι w a h1 hx hrel I) ?_
        intro ex a1 w1 hp
        cases ex with
        | normal =>
          obtain ⟨_, ι1, r1, r2, r3⟩ := hp
          exact wp_mono (hR nt keep pl y ay st1 st' e ι1 w1 a1 h2 he r1 r3) (fun ex a2 w2 h => h.trans r2)
        | exit id => exact absurd hp.1 (by simp)
        | ret => exact absurd hp.1 (by simp)
        | goto l => exact hp.elim
        | panic ch => exact hp.elim
        | outgrown => exact hp.elim
      · rename_i hne
        refine wp_mono (hR nt keep pl x ax st st' e ι w a h1 he hrel I) ?_
        intro ex a1 w1 hp
        cases ex with
        | normal => obtain ⟨rfl, _⟩ := hp; exact absurd he (hne st')
        | exit id => exact hp
        | ret => exact hp
        | goto l => exact hp.elim
        | panic ch => exact hp.elim
        | outgrown => exact hp.elim
    · cases hc
  | cond c x y =>
    simp only [compileCode] at hc
    split at hc
    · rename_i ac' ax ay h0 h1 h2
      cases hc
      simp only [astep] at he
      have hv := I.ok _ _ h0
      split at he
      · rename_i eb
        rw [eb] at hv
        exact wp_cond_true (V.bool_inv hv) (hR nt keep pl x ax st st' e ι w a h1 he hrel I)
      · rename_i eb
        rw [eb] at hv
        exact wp_cond_false (V.bool_inv hv) (hR nt keep pl y ay st st' e ι w a h2 he hrel I)
      · cases he
    · cases hc
  | block id c =>
    simp only [compileCode, Option.map_eq_some_iff] at hc
    obtain ⟨ab, h1, rfl⟩ := hc
    simp only [astep] at he
    refine wp_block ?_
    split at he
    · rename_i k st1 hx
      refine wp_mono (hR nt keep pl c ab st st1 (.exit k) ι w a h1 hx hrel I) ?_
      intro ex a1 w1 hp
      cases ex with
      | normal => exact absurd hp.1 (by simp)
      | exit id' =>
        obtain ⟨hk, ι1, r1, r2, r3⟩ := hp
        cases hk
        simp only [Exit.inBlock]
        split at he
        · rename_i hki
          cases he
          rw [if_pos hki]
          exact ⟨rfl, ι1, r1, r2, r3⟩
        · rename_i hki
          cases he
          rw [if_neg hki]
          exact ⟨rfl, ι1, r1, r2, r3⟩
      | ret => exact absurd hp.1 (by simp)
      | goto l => exact hp.elim
      | panic ch => exact hp.elim
      | outgrown => exact hp.elim
    · rename_i hne
      refine wp_mono (hR nt keep pl c ab st st' e ι w a h1 he hrel I) ?_
      intro ex a1 w1 hp
      cases ex with
      | normal => exact hp
      | exit id' => obtain ⟨rfl, _⟩ := hp; exact absurd he (hne id' st')
      | ret => exact hp
      | goto l => exact hp.elim
      | panic ch => exact hp.elim
      | outgrown => exact hp.elim
  | loop c =>
    simp only [compileCode, Option.map_eq_some_iff] at hc
    obtain ⟨ab, h1, rfl⟩ := hc
    simp only [astep] at he
    have key : ∀ (n : Nat) (st : St) (ι : Emb) (w : World) (a : Act), loopN R ab n st = some (e, st') → Rel ι st.m w → Inv ι w nt keep st.tm [] [] a → Code.rounds P c (Post ι st.m w nt keep e st') n a w := by
      intro n
      induction n with
      | zero => intro st ι w a h; cases h
      | succ n ih =>
        intro st ι w a h hrel I
        rw [rounds_succ]
        unfold loopN at h
        split at h
        · rename_i st1 hx
          refine wp_mono (hR nt keep pl c ab st st1 .normal ι w a h1 hx hrel I) ?_
          intro ex a1 w1 hp
          cases ex with
          | normal =>
            obtain ⟨_, ι1, r1, r2, r3⟩ := hp
            have := ih st1 ι1 w1 a1 h r1 r3
            exact rounds_mono (fun ex a2 w2 h => h.trans r2) n a1 w1 this
          | exit id => exact absurd hp.1 (by simp)
          | ret => exact absurd hp.1 (by simp)
          | goto l => exact hp.elim
          | panic ch => exact hp.elim
          | outgrown => exact hp.elim
        · rename_i hne
          refine wp_mono (hR nt keep pl c ab st st' e ι w a h1 h hrel I) ?_
          intro ex a1 w1 hp
          cases ex with
          | normal => obtain ⟨rfl, _⟩ := hp; exact absurd h (hne st')
          | exit id => exact hp
          | ret => exact hp
          | goto l => exact hp.elim
          | panic ch => exact hp.elim
          | outgrown => exact hp.elim
    exact wp_loop_rounds n (key n st ι w a he hrel I)
  | exit id => cases hc; cases he; exact wp_exit ⟨rfl, ι, hrel, Ext.refl _ _ _, I⟩
  | ret => cases hc; cases he; exact wp_ret ⟨rfl, ι, hrel, Ext.refl _ _ _, I⟩
  | rangeFunc => cases hc
  | scope => cases hc
  | goto => cases hc
  | refuse => cases hc

def resSem (tmps : Array Value) (r : ResultVar) : Sem Value :=
  match r with
  | .tmp t => pure (tmps.getD t undef)
  | .cell b t => do loadVar t (← asAddr (tmps.getD b undef))

theorem results_eq (fn : Func) (tmps : Array Value) : results fn tmps = (do
    let vs ← fn.results.mapM (resSem tmps)
    pure (if h : vs.size = 1 then vs[0] else .tuple vs)) := rfl

theorem results_ok {nt : Nat} {keep : List Nat} {ι : Emb} {m : Mem} {w : World} {tm : List AV} {a : Act} (R : Rel ι m w) (I : Inv ι w nt keep tm [] [] a) :
    ∀ (rs : List ResultVar) (az : List AR) (vs : List AV), compileResults P keep rs = some az → resultList tm m.H az = some vs →
      ∃ us : List Value, (rs.mapM (resSem a.tmps)).run P w = .ok us w ∧ VL ι w vs us
  | [], az, vs, hc, hr => by cases hc; cases hr; exact ⟨[], rfl, rfl⟩
  | .tmp t :: rs, az, vs, hc, hr => by
    unfold compileResults at hc
    split at hc
    · rename_i s az' h1 h2
      cases hc
      unfold resultList at hr
      split at hr
      · rename_i v vs' h3 h4
        cases hr
        obtain ⟨us, u1, u2⟩ := results_ok R I rs az' vs' h2 h4
        cases h3
        have hv := I.kept t s rfl h1
        refine ⟨a.tmps.getD t undef :: us, ?_, ⟨_, _, rfl, hv, u2⟩⟩
        rw [List.mapM_cons]
        simp only [resSem, Sem.run_bind, Sem.run_pure, Result.andThen_ok, u1]
      · cases hr
    · cases hc
  | .cell b t :: rs, az, vs, hc, hr => by
    unfold compileResults at hc
    split at hc
    · rename_i s g sz az' h1 h2 h3 h4
      cases hc
      unfold resultList at hr
      split at hr
      · rename_i v vs' h5 h6
        cases hr
        obtain ⟨us, u1, u2⟩ := results_ok R I rs az' vs' h4 h6
        have hv := I.kept b s rfl h1
        obtain ⟨v', r1, r2⟩ := loadAt_ok (P := P) R h2 h3 hv h5
        refine ⟨v' :: us, ?_, ⟨_, _, rfl, r2, u2⟩⟩
        rw [List.mapM_cons]
        have hsa : (do loadVar t (← asAddr (a.tmps.getD b undef)) : Sem Value).run P w = .ok v' w := by
          have he : a.eval (.tmp b) = a.tmps.getD b undef := rfl
          rw [← he]
          generalize a.eval (.tmp b) = q at *
          cases q with
          | pointer p =>
            cases p with
            | none => simp [Instr.sureAddr] at r1
            | some p => simpa [Instr.sureAddr, asAddr] using r1
          | _ => simp [Instr.sureAddr] at r1
        have hsa' : (resSem a.tmps (.cell b t)).run P w = .ok v' w := hsa
        simp only [Sem.run_bind, hsa', Sem.run_pure, Result.andThen_ok, u1]
      · cases hr
    · cases hc

theorem entry_inv {ι : Emb} {w : World} {keep : List Nat} {nt : Nat} {F : AFun} (hk : F.keep = keep) {args : List AV} {vs : List Value} (hv : VL ι w args vs) :
    Inv ι w nt keep (entry F args) [] [] { tmps := vs.toArray ++ Array.replicate (nt - vs.toArray.size) undef, defers := [] } := by
  refine ⟨fun t j e => by simp at e, fun t s _ k => ?_, by simp; omega, rfl, by simp [entry, hk]⟩
  have hs : keep[s]? = some t := by
    rw [List.idxOf?_eq_some_iff] at k
    obtain ⟨hlt, h1, _⟩ := k
    rw [List.getElem?_eq_getElem hlt]
    simpa using h1
  unfold entry
  rw [hk, List.getElem?_map, hs]
  simp only [Option.map_some, Option.getD_some]
  cases ha : args[t]? with
  | none => trivial
  | some c =>
    obtain ⟨y, h1, h2⟩ := hv.get t c ha
    have hlt : t < vs.length := (List.getElem?_eq_some_iff.mp h1).1
    have : (({ tmps := vs.toArray ++ Array.replicate (nt - vs.toArray.size) undef, defers := [] } : Act)).eval (.tmp t) = y := by
      simp only [Act.eval, Array.getD_eq_getD_getElem?]
      rw [Array.getElem?_append_left (by simpa using hlt)]
      simp [h1]
    rw [this]
    exact h2

theorem call_step {T : FuncId → Option AFun} {pr : FuncId → List AV → Mem → Option (AV × Mem)} (hT : TableOk P T) (hpr : CallOk P pr) {R : ACode → St → Option (Ex × St)} (hR : CodeOk P R)
    (hG : ∀ c st e st', R c st = some (e, st') → Grow st.m st'.m) : CallOk P (callWith T pr R) := by
  intro f args m v m' ι w vs h hrel hargs
  unfold callWith at h
  split at h
  · exact hpr f args m v m' ι w vs h hrel hargs
  · rename_i F hF
    obtain ⟨fn, keep, mode, pl, hf, hfn⟩ := hT f F hF
    unfold compileFn at hfn
    split at hfn
    · cases hfn
    · rename_i hname
      split at hfn
      · rename_i c hb
        split at hfn
        · rename_i ac rs h1 h2
          cases hfn
          refine ⟨⟨fn, hf, by rw [hb]; rfl, by simpa using hname⟩, ?_⟩
          refine calls_of_wp hf hb ?_
          have R0 : Rel ι { m with esc := none } w := ⟨hrel.len, hrel.low, hrel.at', hrel.inj⟩
          split at h
          · cases h
          · rename_i e st hne he
            split at h
            · rename_i us hus
              have I0 := entry_inv (ι := ι) (w := w) (nt := fn.ntmps) (keep := keep) (F := ⟨keep, fn.ntmps, ac, rs, mode⟩) rfl hargs
              refine wp_mono (hR fn.ntmps keep pl c ac _ st e ι w _ h1 he R0 I0) ?_
              have fin : ∀ (ex : Exit) (a' : Act) (w' : World), (∃ ι', Rel ι' st.m w' ∧ Ext ι { m with esc := none } w ι' st.m w' ∧ Inv ι' w' fn.ntmps keep st.tm [] [] a') →
                  a'.defers = [] ∧ ∃ v0, (results fn a'.tmps).run P w' = .ok v0 w' ∧ ∃ (ι' : Emb) (v' : Value), Ending.returned v0 = .returned v' ∧ V ι' w' v v' ∧ Rel ι' m' w' ∧ Ext ι m w ι' m' w' := by
                rintro ex a' w' ⟨ι', r1, r2, r3⟩
                obtain ⟨ws, q1, q2⟩ := results_ok (P := P) r1 r3 fn.results.toList rs us h2 hus
                have hres : ∃ v0, (results fn a'.tmps).run P w' = .ok v0 w' ∧ V ι' w' (tupled us) v0 := by
                  have hlen := q2.length
                  have hmm : (fn.results.mapM (resSem a'.tmps)).run P w' = .ok ws.toArray w' := by
                    rw [Array.mapM_eq_mapM_toList, Sem.run_map, q1]
                    rfl
                  have hrun : (results fn a'.tmps).run P w' = .ok (if h : ws.toArray.size = 1 then ws.toArray[0] else .tuple ws.toArray) w' := by
                    rw [results_eq, Sem.run_bind, hmm]
                    rfl
                  refine ⟨_, hrun, ?_⟩
                  cases us with
                  | nil => cases q2; exact ⟨[], by simp, rfl⟩
                  | cons u us =>
                    obtain ⟨y, ys, rfl, q3, q4⟩ := q2
                    cases us with
                    | nil => cases q4; simpa [tupled] using q3
                    | cons u2 us2 =>
                      obtain ⟨y2, ys2, rfl, q5, q6⟩ := q4
                      rw [dif_neg (by simp)]
                      exact ⟨_, rfl, y, _, rfl, q3, y2, ys2, rfl, q5, q6⟩
                obtain ⟨v0, z1, z2⟩ := hres
                have E : Ext ι m w ι' st.m w' := ⟨r2.le, r2.grow, r2.size, r2.shapes, r2.img, r2.frame, r2.os, r2.tape, r2.output⟩
                obtain ⟨ι₂, f1, f2, f3⟩ := finish_ok hrel r1 E (hG _ _ _ _ he) z2 h
                exact ⟨r3.defers, v0, z1, ι₂, v0, rfl, f1, f2, f3⟩
              intro ex a' w' hp
              cases ex with
              | normal => exact fin .normal a' w' hp.2
              | ret => exact fin .ret a' w' hp.2
              | exit id =>
                obtain ⟨rfl, _⟩ := hp
                exact absurd rfl (hne id)
              | goto l => exact hp.elim
              | panic ch => exact hp.elim
              | outgrown => exact hp.elim
            · cases h
          · cases h
        · cases hfn
      · cases hfn

end
end Go.Proofs.Ytlcklonakjhoiaa.Slim

/- The slim machine: THE SOUNDNESS: what the evaluator gives, the model's call does. And the evaluator without fuel, with its equations. -/
namespace Go.Proofs.Ytlcklonakjhoiaa.Slim
open Go
set_option linter.unusedVariables false
set_option linter.unusedSimpArgs false

abbrev Prims := FuncId → List AV → Mem → Option (AV × Mem)
abbrev Table := FuncId → Option AFun

theorem Grow.step {n : Nat} {call : FuncId → List AV → Mem → Option (AV × Mem)} (hcall : ∀ f args m v m', call f args m = some (v, m') → Grow m m') {R : ACode → St → Option (Ex × St)}
    (hR : ∀ c st e st', R c st = some (e, st') → Grow st.m st'.m) {c : ACode} {st st' : St} {e : Ex} (h : astep n call R c st = some (e, st')) : Grow st.m st'.m := by
  cases c with
  | skip => cases h; exact Grow.refl _
  | region ops outs =>
    simp only [astep] at h
    split at h
    · cases h
    · rename_i h1; cases h; exact Grow.aops hcall h1
  | draw es outs =>
    simp only [astep] at h
    split at h
    · cases h
    · rename_i h1; cases h; exact Grow.dops hcall h1
  | seq a b =>
    simp only [astep] at h
    split at h
    · rename_i h1; exact (hR _ _ _ _ h1).trans (hR _ _ _ _ h)
    · exact hR _ _ _ _ h
  | cond x a b =>
    simp only [astep] at h
    split at h
    · exact hR _ _ _ _ h
    · exact hR _ _ _ _ h
    · cases h
  | block id b =>
    simp only [astep] at h
    split at h
    · rename_i h1
      split at h
      · cases h; exact hR _ _ _ _ h1
      · cases h; exact hR _ _ _ _ h1
    · exact hR _ _ _ _ h
  | loop b =>
    simp only [astep] at h
    have key : ∀ (k : Nat) (st : St), loopN R b k st = some (e, st') → Grow st.m st'.m := by
      intro k
      induction k with
      | zero => intro st h; cases h
      | succ k ih =>
        intro st h
        unfold loopN at h
        split at h
        · rename_i h1; exact (hR _ _ _ _ h1).trans (ih _ h)
        · exact hR _ _ _ _ h
    exact key n st h
  | exit id => cases h; exact Grow.refl _
  | ret => cases h; exact Grow.refl _

theorem Grow.call {T : Table} {pr : Prims} (hpr : ∀ f args m v m', pr f args m = some (v, m') → Grow m m') {R : ACode → St → Option (Ex × St)}
    (hR : ∀ c st e st', R c st = some (e, st') → Grow st.m st'.m) {f : FuncId} {args : List AV} {m m' : Mem} {v : AV} (h : callWith T pr R f args m = some (v, m')) : Grow m m' := by
  unfold callWith at h
  split at h
  · exact hpr _ _ _ _ _ h
  · split at h
    · cases h
    · rename_i h1
      split at h
      · exact Grow.finish (hR _ _ _ _ h1) h
      · cases h
    · cases h

theorem Grow.run {T : Table} {pr : Prims} (hpr : ∀ f args m v m', pr f args m = some (v, m') → Grow m m') : ∀ (n : Nat) (c : ACode) (st : St) (e : Ex) (st' : St), arun T pr n c st = some (e, st') → Grow st.m st'.m
  | 0, c, st, e, st', h => by simp [arun] at h
  | n + 1, c, st, e, st', h => by
    simp only [arun] at h
    exact Grow.step (fun f args m v m' h => Grow.call hpr (Grow.run hpr n) h) (Grow.run hpr n) h

/-- the functions that are taken by contracts: sound, and they keep the old blocks -/
structure PrimsOk (P : Program) (pr : Prims) : Prop where
  ok : CallOk P pr
  grow : ∀ f args m v m', pr f args m = some (v, m') → Grow m m'

theorem run_sound {P : Program} {T : Table} {pr : Prims} (hm : P.follows .mixedOrders = true) (hT : TableOk P T) (hpr : PrimsOk P pr) : ∀ n, CodeOk P (arun T pr n) ∧ CallOk P (callWith T pr (arun T pr n))
  | 0 => by
    have h0 : CodeOk P (arun T pr 0) := fun nt keep pl c ac st st' e ι w a hc he => by simp [arun] at he
    exact ⟨h0, call_step hT hpr.ok h0 (Grow.run hpr.grow 0)⟩
  | n + 1 => by
    obtain ⟨h1, h2⟩ := run_sound hm hT hpr n
    have h3 : CodeOk P (arun T pr (n + 1)) := code_step hm h2 (fun f args m v m' h => Grow.call hpr.grow (Grow.run hpr.grow n) h) h1 n
    exact ⟨h3, call_step hT hpr.ok h3 (Grow.run hpr.grow (n + 1))⟩

/-! the evaluator without fuel -/

/-- a is told as much as b -/
def LeS (a b : Option (Ex × St)) : Prop := ∀ r, a = some r → b = some r

def LeR (R R' : ACode → St → Option (Ex × St)) : Prop := ∀ c st, LeS (R c st) (R' c st)
def LeC (C C' : FuncId → List AV → Mem → Option (AV × Mem)) : Prop := ∀ f args m r, C f args m = some r → C' f args m = some r

theorem heavy_mono {C C' : FuncId → List AV → Mem → Option (AV × Mem)} (h : LeC C C') {g : X → AV} {m : Mem} {op : AO} {r : AV × Mem} (he : heavy C g m op = some r) : heavy C' g m op = some r := by
  cases op with
  | call f args =>
    unfold heavy at he ⊢
    cases e : g f with
    | fn f first captured => simp only [e] at he ⊢; exact h _ _ _ _ he
    | _ => simp only [e] at he; cases he
  | _ => exact he

theorem aop_mono {C C' : FuncId → List AV → Mem → Option (AV × Mem)} (h : LeC C C') {g : X → AV} {m : Mem} {op : AO} {r : AV × Mem} (he : aop C g m op = some r) : aop C' g m op = some r := by
  unfold aop at he ⊢
  cases e : light g op with
  | some v => simp only [e] at he ⊢; exact he
  | none =>
    simp only [e] at he ⊢
    cases e2 : memop g m.H op with
    | some v => simp only [e2] at he ⊢; exact he
    | none =>
      simp only [e2] at he ⊢
      cases e3 : making g op with
      | some v => simp only [e3] at he ⊢; exact he
      | none => simp only [e3] at he ⊢; exact heavy_mono h he

theorem aops_mono {C C' : FuncId → List AV → Mem → Option (AV × Mem)} (h : LeC C C') {tm : List AV} : ∀ {ops : List AOper} {loc : List AV} {m : Mem} {r : List AV × Mem}, aops C tm ops loc m = some r → aops C' tm ops loc m = some r
  | [], loc, m, r, he => he
  | o :: rest, loc, m, r, he => by
    unfold aops at he ⊢
    cases e : wanted (get tm loc) o.guard with
    | none => simp only [e] at he; cases he
    | some b =>
      cases b with
      | false => simp only [e] at he ⊢; exact aops_mono h he
      | true =>
        simp only [e] at he ⊢
        cases e2 : aop C (get tm loc) m o.op with
        | none => simp only [e2] at he; cases he
        | some v => simp only [e2, aop_mono h e2] at he ⊢; exact aops_mono h he

theorem dops_mono {C C' : FuncId → List AV → Mem → Option (AV × Mem)} (h : LeC C C') {tm : List AV} : ∀ {es : List DE} {loc : List AV} {m : Mem} {r : List AV × Mem}, dops C tm es loc m = some r → dops C' tm es loc m = some r
  | [], loc, m, r, he => he
  | e :: rest, loc, m, r, he => by
    unfold dops at he ⊢
    cases e1 : wanted (get tm loc) e.guard with
    | none => simp only [e1] at he; cases he
    | some b =>
      cases b with
      | false =>
        simp only [e1] at he ⊢
        split at he
        · rename_i e3; rw [if_pos e3]; exact dops_mono h he
        · cases he
      | true =>
        simp only [e1] at he ⊢
        cases e2 : aop C (get tm loc) m e.op with
        | none => simp only [e2] at he; cases he
        | some v =>
          simp only [e2, aop_mono h e2] at he ⊢
          split at he
          · rename_i e3; rw [if_pos e3]; exact dops_mono h he
          · cases he

theorem loopN_mono {R R' : ACode → St → Option (Ex × St)} (h : LeR R R') {b : ACode} : ∀ {n k : Nat} (hn : n ≤ k) {st : St} {r : Ex × St}, loopN R b n st = some r → loopN R' b k st = some r
  | 0, k, hn, st, r, he => by cases he
  | n + 1, 0, hn, st, r, he => by omega
  | n + 1, k + 1, hn, st, r, he => by
    unfold loopN at *
    split at he
    · rename_i st1 e
      rw [h _ _ _ e]
      exact loopN_mono h (by omega) he
    · rename_i hne
      have := h _ _ _ he
      rw [this]
      obtain ⟨ex, st2⟩ := r
      cases ex with
      | normal => exact absurd he (hne st2)
      | _ => rfl

theorem astep_mono {n k : Nat} (hn : n ≤ k) {C C' : FuncId → List AV → Mem → Option (AV × Mem)} (hC : LeC C C') {R R' : ACode → St → Option (Ex × St)} (h : LeR R R') : LeR (astep n C R) (astep k C' R') := by
  intro c st r he
  cases c with
  | skip => exact he
  | region ops outs =>
    simp only [astep] at he ⊢
    cases e : aops C st.tm ops [] st.m with
    | none => simp only [e] at he; cases he
    | some v => simp only [e, aops_mono hC e] at he ⊢; exact he
  | draw es outs =>
    simp only [astep] at he ⊢
    cases e : dops C st.tm es [] st.m with
    | none => simp only [e] at he; cases he
    | some v => simp only [e, dops_mono hC e] at he ⊢; exact he
  | seq a b =>
    simp only [astep] at *
    split at he
    · rename_i st1 e
      rw [h _ _ _ e]
      exact h _ _ _ he
    · rename_i hne
      rw [h _ _ _ he]
      obtain ⟨ex, st2⟩ := r
      cases ex with
      | normal => exact absurd he (hne st2)
      | _ => rfl
  | cond x a b =>
    unfold astep at he ⊢
    cases e : get st.tm [] x with
    | bool t => cases t <;> (simp only [e] at he ⊢; exact h _ _ _ he)
    | _ => simp only [e] at he; cases he
  | block id b =>
    simp only [astep] at *
    split at he
    · rename_i k2 st1 e
      rw [h _ _ _ e]
      exact he
    · rename_i hne
      rw [h _ _ _ he]
      obtain ⟨ex, st2⟩ := r
      cases ex with
      | exit id2 => exact absurd he (hne id2 st2)
      | _ => rfl
  | loop b => exact loopN_mono h hn he
  | exit id => exact he
  | ret => exact he

theorem call_mono {T : Table} {pr : Prims} {R R' : ACode → St → Option (Ex × St)} (h : LeR R R') : LeC (callWith T pr R) (callWith T pr R') := by
  intro f args m r he
  unfold callWith at he ⊢
  cases e : T f with
  | none => simp only [e] at he ⊢; exact he
  | some F =>
    simp only [e] at he ⊢
    cases e2 : R F.code ⟨entry F args, { m with esc := none }⟩ with
    | none => simp only [e2] at he; cases he
    | some p =>
      obtain ⟨ex, st⟩ := p
      simp only [h _ _ _ e2]
      simp only [e2] at he
      exact he

theorem arun_mono {T : Table} {pr : Prims} : ∀ (n : Nat), LeR (arun T pr n) (arun T pr (n + 1))
  | 0 => fun c st r he => by simp [arun] at he
  | n + 1 => fun c st r he => by
    have ih := arun_mono (T := T) (pr := pr) n
    simp only [arun] at *
    exact astep_mono (Nat.le_succ n) (call_mono ih) ih c st r he

theorem arun_le {T : Table} {pr : Prims} {n k : Nat} (h : n ≤ k) : LeR (arun T pr n) (arun T pr k) := by
  induction h with
  | refl => exact fun c st r he => he
  | step _ ih => exact fun c st r he => arun_mono _ _ _ _ (ih c st r he)

open Classical in
/-- code, as far as any fuel tells -/
noncomputable def run (T : Table) (pr : Prims) (c : ACode) (st : St) : Option (Ex × St) :=
  if h : ∃ n r, arun T pr n c st = some r then some h.choose_spec.choose else none

theorem run_of {T : Table} {pr : Prims} {n : Nat} {c : ACode} {st : St} {r : Ex × St} (h : arun T pr n c st = some r) : run T pr c st = some r := by
  have hex : ∃ n r, arun T pr n c st = some r := ⟨n, r, h⟩
  unfold run
  rw [dif_pos hex]
  have h1 := hex.choose_spec.choose_spec
  rcases Nat.le_total n hex.choose with hle | hle
  · have := arun_le hle c st r h
    rw [h1] at this
    exact this
  · have := arun_le hle c st _ h1
    rw [h] at this
    exact this.symm

theorem of_run {T : Table} {pr : Prims} {c : ACode} {st : St} {r : Ex × St} (h : run T pr c st = some r) : ∃ n, arun T pr n c st = some r := by
  unfold run at h
  split at h
  · rename_i hex
    cases h
    exact ⟨_, hex.choose_spec.choose_spec⟩
  · cases h

theorem arun_run {T : Table} {pr : Prims} (n : Nat) : LeR (arun T pr n) (run T pr) := fun c st r h => run_of h

/-- a call, without fuel -/
noncomputable def call (T : Table) (pr : Prims) : FuncId → List AV → Mem → Option (AV × Mem) := callWith T pr (run T pr)

theorem of_call {T : Table} {pr : Prims} {f : FuncId} {args : List AV} {m : Mem} {r : AV × Mem} (h : call T pr f args m = some r) : ∃ n, callWith T pr (arun T pr n) f args m = some r := by
  unfold call callWith at h
  split at h
  · rename_i e; exact ⟨0, by unfold callWith; simp only [e]; exact h⟩
  · rename_i F e
    split at h
    · cases h
    · rename_i ex st2 hne he
      obtain ⟨n, hn⟩ := of_run he
      refine ⟨n, ?_⟩
      unfold callWith
      simp only [e, hn]
      cases ex with
      | exit id => exact absurd rfl (hne id)
      | normal => exact h
      | ret => exact h
    · cases h

/-- THE SOUNDNESS -/
theorem sound {P : Program} {T : Table} {pr : Prims} (hm : P.follows .mixedOrders = true) (hT : TableOk P T) (hpr : PrimsOk P pr) : CallOk P (call T pr) := by
  intro f args m v m' ι w vs h
  obtain ⟨n, hn⟩ := of_call h
  exact (run_sound hm hT hpr n).2 f args m v m' ι w vs hn

end Go.Proofs.Ytlcklonakjhoiaa.Slim

/- The slim machine: the equations of the evaluator without fuel. -/
namespace Go.Proofs.Ytlcklonakjhoiaa.Slim
open Go
set_option linter.unusedVariables false
set_option linter.unusedSimpArgs false

section
variable {T : Table} {pr : Prims}

theorem of_heavy {g : X → AV} {m : Mem} {op : AO} {r : AV × Mem} (h : heavy (call T pr) g m op = some r) : ∃ n, heavy (callWith T pr (arun T pr n)) g m op = some r := by
  cases op with
  | call f args =>
    unfold heavy at h
    cases e : g f with
    | fn f first captured =>
      simp only [e] at h
      obtain ⟨n, hn⟩ := of_call h
      exact ⟨n, by unfold heavy; simp only [e]; exact hn⟩
    | _ => simp only [e] at h; cases h
  | _ => exact ⟨0, h⟩

theorem of_aop {g : X → AV} {m : Mem} {op : AO} {r : AV × Mem} (h : aop (call T pr) g m op = some r) : ∃ n, aop (callWith T pr (arun T pr n)) g m op = some r := by
  unfold aop at h
  cases e : light g op with
  | some v => simp only [e] at h; exact ⟨0, by unfold aop; simp only [e]; exact h⟩
  | none =>
    simp only [e] at h
    cases e2 : memop g m.H op with
    | some v => simp only [e2] at h; exact ⟨0, by unfold aop; simp only [e, e2]; exact h⟩
    | none =>
      simp only [e2] at h
      cases e3 : making g op with
      | some v => simp only [e3] at h; exact ⟨0, by unfold aop; simp only [e, e2, e3]; exact h⟩
      | none =>
        simp only [e3] at h
        obtain ⟨n, hn⟩ := of_heavy h
        exact ⟨n, by unfold aop; simp only [e, e2, e3]; exact hn⟩

theorem le_call {n k : Nat} (h : n ≤ k) : LeC (callWith T pr (arun T pr n)) (callWith T pr (arun T pr k)) := call_mono (arun_le h)
theorem le_callw (n : Nat) : LeC (callWith T pr (arun T pr n)) (call T pr) := call_mono (arun_run n)

theorem of_aops {tm : List AV} : ∀ {ops : List AOper} {loc : List AV} {m : Mem} {r : List AV × Mem}, aops (call T pr) tm ops loc m = some r → ∃ n, aops (callWith T pr (arun T pr n)) tm ops loc m = some r
  | [], loc, m, r, h => ⟨0, h⟩
  | o :: rest, loc, m, r, h => by
    unfold aops at h
    cases e : wanted (get tm loc) o.guard with
    | none => simp only [e] at h; cases h
    | some b =>
      cases b with
      | false =>
        simp only [e] at h
        obtain ⟨n, hn⟩ := of_aops h
        exact ⟨n, by unfold aops; simp only [e]; exact hn⟩
      | true =>
        simp only [e] at h
        cases e2 : aop (call T pr) (get tm loc) m o.op with
        | none => simp only [e2] at h; cases h
        | some v =>
          simp only [e2] at h
          obtain ⟨n, hn⟩ := of_aops h
          obtain ⟨k, hk⟩ := of_aop e2
          refine ⟨max n k, ?_⟩
          unfold aops
          simp only [e, aop_mono (le_call (Nat.le_max_right n k)) hk]
          exact aops_mono (le_call (Nat.le_max_left n k)) hn

theorem of_dops {tm : List AV} : ∀ {es : List DE} {loc : List AV} {m : Mem} {r : List AV × Mem}, dops (call T pr) tm es loc m = some r → ∃ n, dops (callWith T pr (arun T pr n)) tm es loc m = some r
  | [], loc, m, r, h => ⟨0, h⟩
  | e :: rest, loc, m, r, h => by
    unfold dops at h
    cases e1 : wanted (get tm loc) e.guard with
    | none => simp only [e1] at h; cases h
    | some b =>
      cases b with
      | false =>
        simp only [e1] at h
        split at h
        · rename_i h3
          obtain ⟨n, hn⟩ := of_dops h
          refine ⟨n, ?_⟩
          unfold dops
          simp only [e1]
          rw [if_pos h3]
          exact hn
        · cases h
      | true =>
        simp only [e1] at h
        cases e2 : aop (call T pr) (get tm loc) m e.op with
        | none => simp only [e2] at h; cases h
        | some v =>
          simp only [e2] at h
          split at h
          · rename_i h3
            obtain ⟨n, hn⟩ := of_dops h
            obtain ⟨k, hk⟩ := of_aop e2
            refine ⟨max n k, ?_⟩
            unfold dops
            simp only [e1, aop_mono (le_call (Nat.le_max_right n k)) hk]
            rw [if_pos h3]
            exact dops_mono (le_call (Nat.le_max_left n k)) hn
          · cases h

/-- code behind code -/
def thenRun (r : Option (Ex × St)) (f : St → Option (Ex × St)) : Option (Ex × St) :=
  match r with
  | some (.normal, st) => f st
  | r => r

@[simp] theorem thenRun_normal (st : St) (f : St → Option (Ex × St)) : thenRun (some (.normal, st)) f = f st := rfl
@[simp] theorem thenRun_ret (st : St) (f : St → Option (Ex × St)) : thenRun (some (.ret, st)) f = some (.ret, st) := rfl
@[simp] theorem thenRun_exit (k : Nat) (st : St) (f : St → Option (Ex × St)) : thenRun (some (.exit k, st)) f = some (.exit k, st) := rfl
@[simp] theorem thenRun_none (f : St → Option (Ex × St)) : thenRun none f = none := rfl
@[simp] theorem thenRun_ite (c : Prop) [Decidable c] (a b : Option (Ex × St)) (f : St → Option (Ex × St)) : thenRun (if c then a else b) f = if c then thenRun a f else thenRun b f := by split <;> rfl

/-- the end of a block -/
def inBlock (id : Nat) (r : Option (Ex × St)) : Option (Ex × St) :=
  match r with
  | some (.exit k, st) => if k = id then some (.normal, st) else some (.exit k, st)
  | r => r

@[simp] theorem inBlock_normal (id : Nat) (st : St) : inBlock id (some (.normal, st)) = some (.normal, st) := rfl
@[simp] theorem inBlock_ret (id : Nat) (st : St) : inBlock id (some (.ret, st)) = some (.ret, st) := rfl
@[simp] theorem inBlock_exit (id k : Nat) (st : St) : inBlock id (some (.exit k, st)) = if k = id then some (.normal, st) else some (.exit k, st) := rfl
@[simp] theorem inBlock_none (id : Nat) : inBlock id none = none := rfl
@[simp] theorem inBlock_ite (id : Nat) (c : Prop) [Decidable c] (a b : Option (Ex × St)) : inBlock id (if c then a else b) = if c then inBlock id a else inBlock id b := by split <;> rfl

/-- a condition -/
def condOf : AV → Option Bool
  | .bool b => some b
  | _ => none
@[simp] theorem condOf_bool (b : Bool) : condOf (.bool b) = some b := rfl

def pickRun (c : Option Bool) (a b : Option (Ex × St)) : Option (Ex × St) :=
  match c with
  | some true => a
  | some false => b
  | none => none
@[simp] theorem pickRun_some (c : Bool) (a b : Option (Ex × St)) : pickRun (some c) a b = if c = true then a else b := by cases c <;> rfl

theorem run_ext {c : ACode} {st : St} {x : Option (Ex × St)} (h1 : ∀ n r, arun T pr (n + 1) c st = some r → x = some r) (h2 : ∀ r, x = some r → ∃ n, arun T pr n c st = some r) : run T pr c st = x := by
  cases hx : x with
  | some r =>
    obtain ⟨n, hn⟩ := h2 r hx
    exact run_of hn
  | none =>
    cases hr : run T pr c st with
    | none => rfl
    | some r =>
      obtain ⟨n, hn⟩ := of_run hr
      cases n with
      | zero => simp [arun] at hn
      | succ n =>
        have := h1 n r hn
        rw [hx] at this
        cases this

theorem run_skip (st : St) : run T pr .skip st = some (.normal, st) := run_of (n := 1) rfl
theorem run_exit (id : Nat) (st : St) : run T pr (.exit id) st = some (.exit id, st) := run_of (n := 1) rfl
theorem run_ret (st : St) : run T pr .ret st = some (.ret, st) := run_of (n := 1) rfl

theorem run_seq (a b : ACode) (st : St) : run T pr (.seq a b) st = thenRun (run T pr a st) (run T pr b) := by
  refine run_ext (fun n r h => ?_) fun r h => ?_
  · simp only [arun, astep] at h
    split at h
    · rename_i e
      rw [run_of e]
      exact run_of h
    · rename_i hne
      rw [run_of h]
      obtain ⟨ex, s2⟩ := r
      cases ex with
      | normal => exact absurd h (hne s2)
      | _ => rfl
  · cases e : run T pr a st with
    | none => rw [e] at h; cases h
    | some p =>
      obtain ⟨ex, s2⟩ := p
      obtain ⟨n, hn⟩ := of_run e
      rw [e] at h
      cases ex with
      | normal =>
        obtain ⟨k, hk⟩ := of_run (show run T pr b s2 = some r from h)
        refine ⟨max n k + 1, ?_⟩
        simp only [arun, astep, arun_le (Nat.le_max_left n k) _ _ _ hn]
        exact arun_le (Nat.le_max_right n k) _ _ _ hk
      | exit k =>
        cases h
        exact ⟨n + 1, by simp only [arun, astep, hn]⟩
      | ret =>
        cases h
        exact ⟨n + 1, by simp only [arun, astep, hn]⟩

theorem run_cond (x : X) (a b : ACode) (st : St) : run T pr (.cond x a b) st = pickRun (condOf (get st.tm [] x)) (run T pr a st) (run T pr b st) := by
  refine run_ext (fun n r h => ?_) fun r h => ?_
  · simp only [arun, astep] at h
    split at h
    · rename_i e; rw [e]; exact run_of h
    · rename_i e; rw [e]; exact run_of h
    · cases h
  · cases e : get st.tm [] x with
    | bool t =>
      rw [e] at h
      cases t with
      | true => obtain ⟨n, hn⟩ := of_run (show run T pr a st = some r from h); exact ⟨n + 1, by simp only [arun, astep, e]; exact hn⟩
      | false => obtain ⟨n, hn⟩ := of_run (show run T pr b st = some r from h); exact ⟨n + 1, by simp only [arun, astep, e]; exact hn⟩
    | _ => rw [e] at h; cases h

theorem run_block (id : Nat) (b : ACode) (st : St) : run T pr (.block id b) st = inBlock id (run T pr b st) := by
  refine run_ext (fun n r h => ?_) fun r h => ?_
  · simp only [arun, astep] at h
    split at h
    · rename_i e
      rw [run_of e]
      exact h
    · rename_i hne
      rw [run_of h]
      obtain ⟨ex, s2⟩ := r
      cases ex with
      | exit k => exact absurd h (hne k s2)
      | _ => rfl
  · cases e : run T pr b st with
    | none => rw [e] at h; cases h
    | some p =>
      obtain ⟨ex, s2⟩ := p
      obtain ⟨n, hn⟩ := of_run e
      rw [e] at h
      refine ⟨n + 1, ?_⟩
      simp only [arun, astep, hn]
      cases ex <;> exact h

theorem loopN_arun {b : ACode} {N : Nat} : ∀ {n : Nat} {st : St} {r : Ex × St}, n ≤ N → loopN (arun T pr N) b n st = some r → arun T pr (N + 1) (.loop b) st = some r := by
  intro n st r hn h
  simp only [arun, astep]
  exact loopN_mono (fun _ _ _ h => h) hn h

theorem run_loop (b : ACode) (st : St) : run T pr (.loop b) st = thenRun (run T pr b st) (run T pr (.loop b)) := by
  refine run_ext (fun n r h => ?_) fun r h => ?_
  · simp only [arun, astep] at h
    cases n with
    | zero => cases h
    | succ n =>
      unfold loopN at h
      split at h
      · rename_i s2 e
        rw [run_of e]
        exact run_of (loopN_arun (Nat.le_succ n) h)
      · rename_i hne
        rw [run_of h]
        obtain ⟨ex, s2⟩ := r
        cases ex with
        | normal => exact absurd h (hne s2)
        | _ => rfl
  · cases e : run T pr b st with
    | none => rw [e] at h; cases h
    | some p =>
      obtain ⟨ex, s2⟩ := p
      obtain ⟨n, hn⟩ := of_run e
      rw [e] at h
      cases ex with
      | normal =>
        obtain ⟨k, hk⟩ := of_run (show run T pr (.loop b) s2 = some r from h)
        cases k with
        | zero => simp [arun] at hk
        | succ k =>
          simp only [arun, astep] at hk
          refine ⟨max n k + 1 + 1, ?_⟩
          simp only [arun, astep]
          show loopN (arun T pr (max n k + 1)) b (max n k + 1) st = some r
          unfold loopN
          rw [arun_le (show n ≤ max n k + 1 by omega) _ _ _ hn]
          exact loopN_mono (arun_le (show k ≤ max n k + 1 by omega)) (Nat.le_max_right n k) hk
      | exit k =>
        cases h
        refine ⟨n + 1 + 1, ?_⟩
        simp only [arun, astep]
        show loopN (arun T pr (n + 1)) b (n + 1) st = _
        unfold loopN
        rw [arun_le (Nat.le_succ n) _ _ _ hn]
      | ret =>
        cases h
        refine ⟨n + 1 + 1, ?_⟩
        simp only [arun, astep]
        show loopN (arun T pr (n + 1)) b (n + 1) st = _
        unfold loopN
        rw [arun_le (Nat.le_succ n) _ _ _ hn]

/-- behind a region -/
def outRun (tm : List AV) (outs : List (Nat × Nat)) (r : Option (List AV × Mem)) : Option (Ex × St) :=
  match r with
  | some (loc, m) => some (.normal, ⟨setOuts tm loc outs, m⟩)
  | none => none
@[simp] theorem outRun_some (tm : List AV) (outs : List (Nat × Nat)) (loc : List AV) (m : Mem) : outRun tm outs (some (loc, m)) = some (.normal, ⟨setOuts tm loc outs, m⟩) := rfl
@[simp] theorem outRun_none (tm : List AV) (outs : List (Nat × Nat)) : outRun tm outs none = none := rfl
@[simp] theorem outRun_ite (tm : List AV) (outs : List (Nat × Nat)) (c : Prop) [Decidable c] (a b : Option (List AV × Mem)) : outRun tm outs (if c then a else b) = if c then outRun tm outs a else outRun tm outs b := by split <;> rfl

theorem run_region (ops : List AOper) (outs : List (Nat × Nat)) (st : St) : run T pr (.region ops outs) st = outRun st.tm outs (aops (call T pr) st.tm ops [] st.m) := by
  refine run_ext (fun n r h => ?_) fun r h => ?_
  · simp only [arun, astep] at h
    split at h
    · cases h
    · rename_i e
      rw [aops_mono (le_callw n) e]
      exact h
  · cases e : aops (call T pr) st.tm ops [] st.m with
    | none => rw [e] at h; cases h
    | some p =>
      obtain ⟨n, hn⟩ := of_aops e
      rw [e] at h
      exact ⟨n + 1, by simp only [arun, astep, hn]; exact h⟩

theorem run_draw (es : List DE) (outs : List (Nat × Nat)) (st : St) : run T pr (.draw es outs) st = outRun st.tm outs (dops (call T pr) st.tm es [] st.m) := by
  refine run_ext (fun n r h => ?_) fun r h => ?_
  · simp only [arun, astep] at h
    split at h
    · cases h
    · rename_i e
      rw [dops_mono (le_callw n) e]
      exact h
  · cases e : dops (call T pr) st.tm es [] st.m with
    | none => rw [e] at h; cases h
    | some p =>
      obtain ⟨n, hn⟩ := of_dops e
      rw [e] at h
      exact ⟨n + 1, by simp only [arun, astep, hn]; exact h⟩

/-- the end of a call -/
def endCall (F : AFun) (m : Mem) (r : Option (Ex × St)) : Option (AV × Mem) :=
  match r with
  | some (.exit _, _) => none
  | some (_, st) => match resultList st.tm st.m.H F.results with
    | some vs => finish F.mode m.H.length m.esc (tupled vs) st.m
    | none => none
  | none => none

def finRun (F : AFun) (m : Mem) (st : St) : Option (AV × Mem) :=
  match resultList st.tm st.m.H F.results with
  | some vs => finish F.mode m.H.length m.esc (tupled vs) st.m
  | none => none

@[simp] theorem endCall_normal (F : AFun) (m : Mem) (st : St) : endCall F m (some (.normal, st)) = finRun F m st := rfl
@[simp] theorem endCall_ret (F : AFun) (m : Mem) (st : St) : endCall F m (some (.ret, st)) = finRun F m st := rfl
@[simp] theorem endCall_exit (F : AFun) (m : Mem) (k : Nat) (st : St) : endCall F m (some (.exit k, st)) = none := rfl
@[simp] theorem endCall_none (F : AFun) (m : Mem) : endCall F m none = none := rfl
@[simp] theorem endCall_ite (F : AFun) (m : Mem) (c : Prop) [Decidable c] (a b : Option (Ex × St)) : endCall F m (if c then a else b) = if c then endCall F m a else endCall F m b := by split <;> rfl

theorem call_eq {f : FuncId} {F : AFun} (h : T f = some F) (args : List AV) (m : Mem) : call T pr f args m = endCall F m (run T pr F.code ⟨entry F args, { m with esc := none }⟩) := by
  unfold call callWith
  rw [h]
  simp only []
  cases run T pr F.code ⟨entry F args, { m with esc := none }⟩ with
  | none => rfl
  | some p =>
    obtain ⟨ex, st⟩ := p
    cases ex <;> rfl

theorem call_prim {f : FuncId} (h : T f = none) (args : List AV) (m : Mem) : call T pr f args m = pr f args m := by
  unfold call callWith
  rw [h]

end
def FnOk (P : Program) (p : FuncId × AFun) : Prop := ∃ fn keep mode pl, P.funcs[p.1]? = some fn ∧ compileFn P keep mode pl fn = some p.2

theorem allNil {P : Program} : ∀ p ∈ ([] : List (FuncId × AFun)), FnOk P p := fun p h => by cases h
theorem allCons {P : Program} {p : FuncId × AFun} {ps : List (FuncId × AFun)} (h : FnOk P p) (k : ∀ q ∈ ps, FnOk P q) : ∀ q ∈ p :: ps, FnOk P q := List.forall_mem_cons.mpr ⟨h, k⟩

theorem tableOk_of {P : Program} {tab : List (FuncId × AFun)} (h : ∀ p ∈ tab, FnOk P p) : TableOk P (fun f => tab.lookup f) := by
  intro f F hf
  have key : ∀ (tab : List (FuncId × AFun)), tab.lookup f = some F → (f, F) ∈ tab := by
    intro tab
    induction tab with
    | nil => intro h; cases h
    | cons p ps ih =>
      obtain ⟨g, G⟩ := p
      intro h
      rw [List.lookup_cons] at h
      split at h
      · rename_i e
        have : f = g := by simpa using e
        cases h
        rw [this]
        exact List.mem_cons_self
      · exact List.mem_cons_of_mem _ (ih h)
  exact h _ (key tab hf)

end Go.Proofs.Ytlcklonakjhoiaa.Slim

/- The slim machine: what a law is handed, opened; and what is told of a law. -/
namespace Go.Proofs.Ytlcklonakjhoiaa.Slim
open Go Go.Deep Go.RowKit
set_option linter.unusedVariables false
set_option linter.unusedSimpArgs false

/-- memory that is handed in: it is read alone -/
structure Opened (ι : Emb) (H : List Blk) (w : World) : Prop where
  rel : Rel ι ⟨H, none⟩ w
  ro : ∀ (b : Nat) cs, H[b]? ≠ some (.cells cs true)

theorem Opened.nil (w : World) : Opened [] [] w :=
  ⟨⟨rfl, fun b c d h => by simp at h, fun b cs wr h => by simp at h, fun b b' cs cs' wr c d c' d' _ h => by simp at h⟩, fun b cs h => by simp at h⟩

theorem Opened.add {ι : Emb} {H : List Blk} {w : World} (O : Opened ι H w) {c d : Nat} {k : IntKind} {zs : List Int} (hc : c < w.heap.size) (h : ∀ j z, zs[j]? = some z → w.cell? ⟨c, d + j, none⟩ = some (.int k z)) :
    Opened (ι ++ [some (c, d)]) (H ++ [.cells (zs.map (AV.int k)) false]) w := by
  have hle : Emb.le ι (ι ++ [some (c, d)]) := fun b p hb => by
    rw [List.getElem?_append_left]; exact hb
    exact (List.getElem?_eq_some_iff.mp hb).1
  have hro : ∀ (b : Nat) cs, (H ++ [Blk.cells (zs.map (AV.int k)) false])[b]? ≠ some (.cells cs true) := by
    intro b cs hb
    rw [List.getElem?_append] at hb
    split at hb
    · exact O.ro b cs hb
    · have : b - H.length = 0 := by
        have := (List.getElem?_eq_some_iff.mp hb).1
        simp at this; omega
      rw [this] at hb
      simp at hb
  refine ⟨⟨by simp [O.rel.len], ?_, ?_, fun b b' cs cs' wr c d c' d' _ hb => absurd hb (hro b cs)⟩, hro⟩
  · intro b c' d' hb
    rw [List.getElem?_append] at hb
    split at hb
    · exact O.rel.low b c' d' hb
    · have : b - ι.length = 0 := by
        have := (List.getElem?_eq_some_iff.mp hb).1
        simp at this; omega
      rw [this] at hb
      simp at hb
      rw [← hb.1]; exact hc
  · intro b cs wr hb
    have hl := O.rel.len
    simp only [] at hl
    simp only [List.getElem?_append] at hb
    split at hb
    · obtain ⟨c', d', h1, h2⟩ := O.rel.at' b cs wr hb
      refine ⟨c', d', hle _ _ h1, ?_, h2.cell, h2.free⟩
      obtain ⟨vs, v1, v2⟩ := h2.vals
      exact ⟨vs, VL.mono hle (Shapes.refl w) _ _ v1, v2⟩
    · rename_i hlt
      have h0 : b - H.length = 0 := by
        have := (List.getElem?_eq_some_iff.mp hb).1
        simp at this; omega
      have hbe : b = ι.length := by omega
      rw [h0] at hb
      simp at hb
      obtain ⟨rfl, rfl⟩ := hb
      refine ⟨c, d, by rw [hbe]; simp, ⟨zs.map (Value.int k), VL.map_of zs (fun x _ => rfl), ?_⟩, ?_, fun e => by cases e⟩
      · intro j v hj
        rw [List.getElem?_map, Option.map_eq_some_iff] at hj
        obtain ⟨z, hz, rfl⟩ := hj
        exact h j z hz
      · simp [AV.isCell]

/-- a slice of k's, nf of them an element, as it is handed in -/
def IsArg (H : List Blk) (av : AV) (k : IntKind) (nf : Nat) (es : List (List Int)) : Prop :=
  (∀ e ∈ es, e.length = nf ∧ ∀ z ∈ e, (Lit.int k z).wf = true) ∧
  ((av = nilSlice ∧ es = []) ∨ ∃ b cap, av = .slice (some (b, 0)) nf es.length (some cap) ∧ es.length ≤ cap ∧ cap ≤ maxLen ∧ H[b]? = some (.cells (es.flatten.map (AV.int k)) false))

theorem IsArg.more {H : List Blk} {av : AV} {k : IntKind} {nf : Nat} {es : List (List Int)} (h : IsArg H av k nf es) (G : List Blk) : IsArg (H ++ G) av k nf es := by
  refine ⟨h.1, ?_⟩
  rcases h.2 with h | ⟨b, cap, h1, h2, h3, h4⟩
  · exact .inl h
  · refine .inr ⟨b, cap, h1, h2, h3, ?_⟩
    rw [List.getElem?_append_left (List.getElem?_eq_some_iff.mp h4).1]
    exact h4

theorem flat_cells {w : World} {c nf : Nat} {k : IntKind} : ∀ (es : List (List Int)) (x : Nat), (∀ e ∈ es, e.length = nf) →
    (∀ i e, es[i]? = some e → ∀ j z, e[j]? = some z → w.cell? ⟨c, x + i * nf + j, none⟩ = some (.int k z)) → ∀ q z, es.flatten[q]? = some z → w.cell? ⟨c, x + q, none⟩ = some (.int k z)
  | [], x, _, _, q, z, h => by simp at h
  | e :: es, x, hl, hc, q, z, h => by
    have he := hl e (by simp)
    rw [List.flatten_cons, List.getElem?_append] at h
    split at h
    · have := hc 0 e rfl q z h
      rw [Nat.zero_mul, Nat.add_zero] at this
      exact this
    · have := flat_cells es (x + nf) (fun e' h' => hl e' (by simp [h'])) (fun i e' hi j z' hj => by
        have := hc (i + 1) e' (by simpa using hi) j z' hj
        rw [show x + nf + i * nf + j = x + (i + 1) * nf + j by rw [Nat.add_mul]; omega]
        exact this) (q - e.length) z h
      rw [show x + nf + (q - e.length) = x + q by omega] at this
      exact this

section
variable {T : Type} {enc : TypeId × Value → T} {P : Program} {w : World} {spare : Nat → Bool} {held : Bool}

/-- an element is k's alone -/
def IntsAt (enc : TypeId × Value → T) (P : Program) (w : World) (spare : Nat → Bool) (held : Bool) (k : IntKind) (e : TypeId) : Prop :=
  ∀ n cs y, DataW.trod enc P w 0 spare held n e cs = some y → ∃ zs : List Int, cs = zs.map (Value.int k) ∧ ∀ z ∈ zs, (Lit.int k z).wf = true

theorem ints_list {k : IntKind} : ∀ (cs : List Value), (∀ (i : Nat) v, cs[i]? = some v → ∃ n, v = Value.int k n ∧ (Lit.int k n).wf = true) → ∃ zs : List Int, cs = zs.map (Value.int k) ∧ ∀ z ∈ zs, (Lit.int k z).wf = true
  | [], _ => ⟨[], rfl, fun z h => by cases h⟩
  | v :: cs, h => by
    obtain ⟨n, rfl, hn⟩ := h 0 v rfl
    obtain ⟨zs, rfl, hz⟩ := ints_list cs (fun i v hi => h (i + 1) v (by simpa using hi))
    refine ⟨n :: zs, rfl, fun z hz' => ?_⟩
    rcases List.mem_cons.mp hz' with rfl | hz'
    · exact hn
    · exact hz z hz'

theorem intsAt_int {k : IntKind} {e : TypeId} (he : P.underlying e = some (.int k)) : IntsAt enc P w spare held k e := by
  intro n cs y h
  obtain ⟨z, rfl, _, hz⟩ := DataW.trod_int he h
  exact ⟨[z], rfl, fun x hx => by simp at hx; subst hx; exact hz⟩

theorem intsAt_struct {k : IntKind} {e : TypeId} {fs : Array Field} (he : P.underlying e = some (.struct fs)) (hone : oneCellFields P fs = true) (hC : P.cellsOf e = fs.size)
    (hi : ∀ (j : Nat) f, fs[j]? = some f → P.underlying f.type = some (.int k)) : IntsAt enc P w spare held k e := by
  intro n cs y h
  obtain ⟨xs, n', _, hx, hlen, hxl, hf⟩ := DataW.trod_struct he h
  refine ints_list cs fun i v hv => ?_
  have hlt : i < fs.size := by
    have := (List.getElem?_eq_some_iff.mp hv).1
    rw [← hC, ← hlen]; exact this
  have hfi : fs[i]? = some (fs[i]'hlt) := Array.getElem?_eq_getElem hlt
  obtain ⟨ho, hk⟩ := hone_of hone i _ hfi
  have h1 := hf i _ hfi
  rw [ho, hk] at h1
  have hd : (cs.drop i).take 1 = [v] := by
    have hil := (List.getElem?_eq_some_iff.mp hv).1
    rw [List.drop_eq_getElem_cons hil]
    have := (List.getElem?_eq_some_iff.mp hv).2
    rw [this]; rfl
  rw [hd] at h1
  have hxi : xs[i]? = some (xs[i]'(by omega)) := List.getElem?_eq_getElem (by omega)
  rw [hxi] at h1
  obtain ⟨z, hz, _, hzw⟩ := DataW.trod_int (hi i _ hfi) h1
  cases hz
  exact ⟨z, rfl, hzw⟩

theorem intsAt_array {k : IntKind} {e e' : TypeId} {m : Nat} (he : P.underlying e = some (.array m e')) (hC : P.cellsOf e = m) (hC' : P.cellsOf e' = 1)
    (hi : P.underlying e' = some (.int k)) : IntsAt enc P w spare held k e := by
  intro n cs y h
  obtain ⟨xs, n', _, hx, hlen, hxl, hf⟩ := DataW.trod_array he h
  refine ints_list cs fun i v hv => ?_
  have hil := (List.getElem?_eq_some_iff.mp hv).1
  have hlt : i < m := by rw [← hC, ← hlen]; exact hil
  have h1 := hf i hlt
  rw [hC', Nat.mul_one] at h1
  have hd : (cs.drop i).take 1 = [v] := by
    rw [List.drop_eq_getElem_cons hil]
    have := (List.getElem?_eq_some_iff.mp hv).2
    rw [this]; rfl
  rw [hd] at h1
  have hxi : xs[i]? = some (xs[i]'(by omega)) := List.getElem?_eq_getElem (by omega)
  rw [hxi] at h1
  obtain ⟨z, hz, _, hzw⟩ := DataW.trod_int hi h1
  cases hz
  exact ⟨z, rfl, hzw⟩

theorem addr_eq {a : Addr} (h : a.spot = none) : a = ⟨a.block, a.off, none⟩ := by cases a; simp at h; subst h; rfl

theorem has_of {r : Reach} {b0 : Nat} {t e : TypeId} {a : Addr} {len cap : Nat} (ht : P.underlying t = some (.slice e)) (hv : Cell.okWide P w r b0 t (.slice (some a) len cap)) : a.spot = none ∧ ∃ row M, w.shape? a.block = some (row, M) := by
  unfold Cell.okWide at hv
  simp only [ht] at hv
  unfold Cell.ok at hv
  simp only [ht] at hv
  obtain ⟨_, _, _, h1, row, M, h2, _⟩ := hv
  exact ⟨h1, row, M, h2⟩

theorem open_arg {ι : Emb} {H : List Blk} (O : Opened ι H w) {r : Reach} {b0 : Nat} {t e : TypeId} {k : IntKind} {nf : Nat} (ht : P.underlying t = some (.slice e)) (hC : P.cellsOf e = nf) (hpos : 0 < nf)
    (hel : IntsAt enc P w (fun _ => true) held k e) {v : Value} (hv : Cell.okWide P w r b0 t v) {fuel : Nat} {x : DataW T × List MemPlace} (h : DataW.trod enc P w 0 (fun _ => true) held fuel t [v] = some x) :
    ∃ ι2 H2 av es, Opened (ι ++ ι2) (H ++ H2) w ∧ V (ι ++ ι2) w av v ∧ IsArg (H ++ H2) av k nf es := by
  rcases Deep.open_slice ht h with ⟨h0, _⟩ | ⟨a, len, cap, m, n, D, Pl, hcs, _, hl, hm, hmm, _, hi⟩
  · cases h0
    exact ⟨[], [], nilSlice, [], by simpa using O, ⟨rfl, rfl⟩, ⟨fun e h => by simp at h, .inl ⟨rfl, rfl⟩⟩⟩
  · cases hcs
    obtain ⟨hs, row, M, hM⟩ := has_of ht hv
    simp only [if_true] at hmm
    subst hmm
    rw [hC] at hi
    have key : ∀ i, i < m → ∃ zs : List Int, zs.length = nf ∧ (∀ z ∈ zs, (Lit.int k z).wf = true) ∧ ∀ j z, zs[j]? = some z → w.cell? ⟨a.block, a.off + i * nf + j, none⟩ = some (.int k z) := by
      intro i him
      obtain ⟨cs', c1, c2⟩ := hi i him
      obtain ⟨zs, rfl, z2⟩ := hel _ _ _ c2
      obtain ⟨_, d1, d2⟩ := World.cells?_some c1
      rw [List.length_map] at d1
      refine ⟨zs, d1, z2, fun j z hj => ?_⟩
      have hjl : j < nf := by rw [← d1]; exact (List.getElem?_eq_some_iff.mp hj).1
      have := d2 j hjl
      rw [List.getElem?_map, hj] at this
      have h3 : w.cell? ((a.add (i * nf)).add j) = some (Value.int k z) := this
      rw [← h3]
      congr 1
      rw [addr_eq hs]
      unfold Addr.add
      by_cases h1 : i * nf = 0 <;> by_cases h2 : j = 0 <;> simp [h1, h2]
    have pick : ∃ f : Nat → List Int, ∀ i, i < m → (f i).length = nf ∧ (∀ z ∈ f i, (Lit.int k z).wf = true) ∧ ∀ j z, (f i)[j]? = some z → w.cell? ⟨a.block, a.off + i * nf + j, none⟩ = some (.int k z) := by
      refine ⟨fun i => if h : i < m then (key i h).choose else [], fun i him => ?_⟩
      simp only [him, dif_pos]
      exact (key i him).choose_spec
    obtain ⟨f, hf⟩ := pick
    let es := (List.range len).map f
    have hes : ∀ i e, es[i]? = some e → i < len ∧ e = f i := by
      intro i e hi
      simp only [es, List.getElem?_map, Option.map_eq_some_iff] at hi
      obtain ⟨i', h1, h2⟩ := hi
      have hlt := (List.getElem?_eq_some_iff.mp h1).1
      simp at hlt
      rw [List.getElem?_range hlt] at h1
      cases h1
      exact ⟨hlt, h2.symm⟩
    have hlen : ∀ e ∈ es, e.length = nf ∧ ∀ z ∈ e, (Lit.int k z).wf = true := by
      intro e he
      obtain ⟨i, hi⟩ := List.getElem?_of_mem he
      obtain ⟨h1, rfl⟩ := hes i e hi
      exact ⟨(hf i (by omega)).1, (hf i (by omega)).2.1⟩
    have hcells := flat_cells (w := w) (c := a.block) (k := k) es a.off (fun e he => (hlen e he).1) (fun i e hi j z hj => by
      obtain ⟨h1, rfl⟩ := hes i e hi
      exact (hf i (by omega)).2.2 j z hj)
    have hblk : a.block < w.heap.size := by
      unfold World.shape? at hM
      cases hh : w.heap[a.block]? with
      | none => rw [hh] at hM; cases hM
      | some o => exact (Array.getElem?_eq_some_iff.mp hh).1
    have O' := O.add (d := a.off) hblk hcells
    have hll : es.length = len := by simp [es]
    refine ⟨[some (a.block, a.off)], [.cells (es.flatten.map (AV.int k)) false], .slice (some (H.length, 0)) nf es.length (some m), es, O', ?_, hlen, .inr ⟨H.length, m, rfl, by omega, hm, by simp⟩⟩
    refine ⟨a.block, a.off, a.off, m, row, M, ?_, ?_, by omega, .inl rfl, hM, ?_, fun q hq => by cases hq; rfl⟩
    · have := O.rel.len
      simp only [] at this
      rw [← this]
      simp
    · rw [hll, ← addr_eq hs]
    · rcases Nat.eq_zero_or_pos m with h0 | h0
      · exact .inl h0
      · right
        obtain ⟨f1, _, f3⟩ := hf (m - 1) (by omega)
        have hz : (f (m - 1))[nf - 1]? = some ((f (m - 1))[nf - 1]'(by omega)) := List.getElem?_eq_getElem (by omega)
        have := cell_shape hM (f3 _ _ hz)
        have h2 : m * nf = (m - 1) * nf + nf := by
          conv => lhs; rw [show m = (m - 1) + 1 by omega]
          rw [Nat.add_mul, Nat.one_mul]
        omega

end

/-- what is told of a law by the evaluator -/
theorem law_told {P : Program} {T : Table} {pr : Prims} (hm : P.follows .mixedOrders = true) (hT : TableOk P T) (hpr : PrimsOk P pr) {f : FuncId} {avs : List AV} {args : List Value} {ι : Emb} {H : List Blk} {W : World}
    (O : Opened ι H W) (hv : VL ι W avs args) {m' : Mem} (hcall : call T pr f avs ⟨H, none⟩ = some (.bool true, m')) :
    Calls P f args.toArray W fun e W' => e = .returned (.bool true) ∧ Below W.heap.size W W' := by
  obtain ⟨_, h⟩ := sound hm hT hpr f avs ⟨H, none⟩ (.bool true) m' ι W args hcall O.rel hv
  refine h.mono ?_
  rintro e W' ⟨ι', v', rfl, h1, h2, h3⟩
  cases h1
  refine ⟨rfl, h3.os, h3.tape, h3.output, h3.size, fun r hr => h3.frame r hr ?_⟩
  rintro ⟨b, cs, d, hb, _⟩
  exact O.ro b cs hb

theorem noPrims_ok (P : Program) : PrimsOk P (fun _ _ _ => none) := ⟨(fun f args m v m' ι w vs h => by cases h), (fun f args m v m' h => by cases h)⟩

end Go.Proofs.Ytlcklonakjhoiaa.Slim

/- The slim machine: structs that a law is handed, with slices among their fields. -/
namespace Go.Proofs.Ytlcklonakjhoiaa.Slim
open Go Go.Deep Go.RowKit Go.WideShapes Go.Joins
set_option linter.unusedVariables false
set_option linter.unusedSimpArgs false

theorem emb_app (a b : Emb) : Emb.le a (a ++ b) := fun i p hb => by
  rw [List.getElem?_append_left]; exact hb
  exact (List.getElem?_eq_some_iff.mp hb).1

theorem IsArg.cell {H : List Blk} {av : AV} {k : IntKind} {nf : Nat} {es : List (List Int)} (h : IsArg H av k nf es) : av.isCell = true := by
  rcases h.2 with ⟨rfl, _⟩ | ⟨b, cap, rfl, _⟩ <;> rfl

theorem array5 {α : Type} {cs : Array α} (h : cs.size = 5) : ∃ c0 c1 c2 c3 c4, cs = #[c0, c1, c2, c3, c4] := by
  obtain ⟨l⟩ := cs
  match l, h with
  | [c0, c1, c2, c3, c4], _ => exact ⟨c0, c1, c2, c3, c4, rfl⟩

theorem array6 {α : Type} {cs : Array α} (h : cs.size = 6) : ∃ c0 c1 c2 c3 c4 c5, cs = #[c0, c1, c2, c3, c4, c5] := by
  obtain ⟨l⟩ := cs
  match l, h with
  | [c0, c1, c2, c3, c4, c5], _ => exact ⟨c0, c1, c2, c3, c4, c5, rfl⟩

theorem ints1 {k : IntKind} {c0 : Value} {zs : List Int} (h : [c0] = zs.map (Value.int k)) : ∃ z0, c0 = .int k z0 := by
  match zs, h with
  | [z0], h => simp at h; exact ⟨z0, h⟩

theorem ints2 {k : IntKind} {c0 c1 : Value} {zs : List Int} (h : [c0, c1] = zs.map (Value.int k)) : ∃ z0 z1, c0 = .int k z0 ∧ c1 = .int k z1 := by
  match zs, h with
  | [z0, z1], h => simp at h; exact ⟨z0, z1, h.1, h.2⟩

theorem ints3 {k : IntKind} {c0 c1 c2 : Value} {zs : List Int} (h : [c0, c1, c2] = zs.map (Value.int k)) : ∃ z0 z1 z2, c0 = .int k z0 ∧ c1 = .int k z1 ∧ c2 = .int k z2 := by
  match zs, h with
  | [z0, z1, z2], h => simp at h; exact ⟨z0, z1, z2, h.1, h.2.1, h.2.2⟩

section
variable {T : Type} {enc : TypeId × Value → T} {P : Program} {w : World} {spare : Nat → Bool} {held : Bool}

theorem open_cells {r : Reach} {b0 : Nat} {t : TypeId} {fs : Array Field} {v : Value} {d : DataW T} {p : List MemPlace} (hs : P.underlying t = some (.struct fs)) (hone : oneCellFields P fs = true) (hC : P.cellsOf t = fs.size)
    (hv : Value.okWide P w r b0 t v) (h : DataW.Trod enc P w 0 spare held t v d p) :
    ∃ (cs : Array Value) (n : Nat), v = .agg cs ∧ cs.size = fs.size ∧ ∀ (j : Nat) f c, fs[j]? = some f → cs[j]? = some c → ∃ y, DataW.trod enc P w 0 spare held n f.type [c] = some y := by
  obtain ⟨cs, rfl, hsz⟩ := okWide_struct hs hv
  obtain ⟨fuel, hf⟩ := h
  have hf' : DataW.trod enc P w 0 spare held fuel t cs.toList = some (d, p) := by simpa [Value.cells] using hf
  obtain ⟨xs, n', _, hx, hlen, hxl, hfs⟩ := DataW.trod_struct hs hf'
  refine ⟨cs, n', rfl, hsz.trans hC, fun j f c hj hc => ?_⟩
  have h1 := hfs j f hj
  obtain ⟨ho, hk⟩ := hone_of hone j f hj
  rw [ho, hk] at h1
  have hc' : cs.toList[j]? = some c := by simpa using hc
  have hil := (List.getElem?_eq_some_iff.mp hc').1
  have hd : (cs.toList.drop j).take 1 = [c] := by
    rw [List.drop_eq_getElem_cons hil]
    have := (List.getElem?_eq_some_iff.mp hc').2
    rw [this]; rfl
  rw [hd] at h1
  have hjl : j < fs.size := (Array.getElem?_eq_some_iff.mp hj).1
  exact ⟨_, h1.trans (List.getElem?_eq_getElem (by omega))⟩

theorem open_fields {r : Reach} {b0 : Nat} {t : TypeId} {fs : Array Field} {v : Value} {d : DataW T} {p : List MemPlace} (hs : P.underlying t = some (.struct fs))
    (hv : Value.okWide P w r b0 t v) (h : DataW.Trod enc P w 0 spare held t v d p) :
    ∃ (cs : Array Value) (n : Nat), v = .agg cs ∧ cs.size = P.cellsOf t ∧ ∀ (j : Nat) f, fs[j]? = some f → ∃ y, DataW.trod enc P w 0 spare held n f.type ((cs.toList.drop f.offset).take (P.cellsOf f.type)) = some y := by
  obtain ⟨cs, rfl, hsz⟩ := okWide_struct hs hv
  obtain ⟨fuel, hf⟩ := h
  have hf' : DataW.trod enc P w 0 spare held fuel t cs.toList = some (d, p) := by simpa [Value.cells] using hf
  obtain ⟨xs, n', _, hx, hlen, hxl, hfs⟩ := DataW.trod_struct hs hf'
  refine ⟨cs, n', rfl, hsz, fun j f hj => ?_⟩
  have hjl : j < fs.size := (Array.getElem?_eq_some_iff.mp hj).1
  exact ⟨_, (hfs j f hj).trans (List.getElem?_eq_getElem (by omega))⟩

theorem okWide_cells {r : Reach} {b0 : Nat} {t : TypeId} {fs : Array Field} {cs : Array Value} {ts : List TypeId} (hs : P.underlying t = some (.struct fs)) (hts : P.cellTypes P.depth t = some ts) (hv : Value.okWide P w r b0 t (.agg cs)) :
    ∀ (j : Nat) c u, cs[j]? = some c → ts[j]? = some u → Cell.okWide P w r b0 u c := by
  simp only [Value.okWide, hs] at hv
  obtain ⟨cs', h1, h2, ts', h3, _, h4⟩ := hv
  cases h1
  rw [hts] at h3
  cases h3
  intro j c u hc hu
  obtain ⟨u', h5, h6⟩ := h4 j c hc
  have hjl := (List.getElem?_eq_some_iff.mp hu).1
  rw [Nat.mod_eq_of_lt hjl, hu] at h5
  cases h5
  exact h6

theorem open_arr2 {r : Reach} {b0 : Nat} {k : IntKind} {t e : TypeId} {v : Value} {d : DataW T} {p : List MemPlace} (hs : P.underlying t = some (.array 2 e)) (hC : P.cellsOf t = 2) (hC' : P.cellsOf e = 1)
    (hi : P.underlying e = some (.int k)) (hv : Value.okWide P w r b0 t v) (h : DataW.Trod enc P w 0 spare held t v d p) : ∃ a0 a1 : Int, v = .agg #[.int k a0, .int k a1] := by
  simp only [Value.okWide, hs] at hv
  obtain ⟨cs, rfl, hsz, _⟩ := hv
  obtain ⟨fuel, hf⟩ := h
  have hf' : DataW.trod enc P w 0 spare held fuel t cs.toList = some (d, p) := by simpa [Value.cells] using hf
  obtain ⟨zs, hz, _⟩ := intsAt_array hs hC hC' hi _ _ _ hf'
  obtain ⟨l⟩ := cs
  simp only at hz hsz
  match l, zs, hz, (by simpa [hC] using hsz : l.length = 2) with
  | [c0, c1], [z0, z1], hz, _ =>
    simp at hz
    exact ⟨z0, z1, by rw [hz.1, hz.2]⟩

end

end Go.Proofs.Ytlcklonakjhoiaa.Slim

/- The slim machine: what slices.Delete does to the memory. -/
namespace Go.Proofs.Ytlcklonakjhoiaa.Slim
open Go Go.Lib Go.RowKit
set_option linter.unusedVariables false
set_option linter.unusedSimpArgs false

theorem clear_one {P : Program} (w : World) (t e ty : TypeId) (z : Value) (ht : P.underlying t = some (.slice e)) (hv : ∀ w, (zeroValue e).run P w = .ok z w) (h1 : ∀ v ∈ z.cells.toList, v.oneCell' = true) (b o c : Nat)
    (hc : ∀ j, j < z.cells.size → (w.cell? ⟨b, o + j, none⟩).isSome = true) (hf : ∀ j, j < z.cells.size → w.frozen? ⟨b, o + j, none⟩ = false) :
    (Builtin.clear_ #[t] ty #[.slice (some ⟨b, o, none⟩) 1 c]).run P w = .ok (.tuple #[]) (w.setCells b o z.cells.toList) := by
  have hzc : (Builtin.zeroCells z.cells 1).toList = z.cells.toList := by
    simp [Builtin.zeroCells]
    apply List.ext_getElem
    · simp
    · intro i h1 h2
      simp at h2
      simp [Nat.mod_eq_of_lt h2, getElem!_pos z.cells i h2]
  have hst := run_storeCells_cells (P := P) b o z.cells.toList 0 w (by simpa using hc) (by simpa using hf) h1
  simp only [Nat.add_zero] at hst
  simp [Builtin.clear_, run_underlying ht, hv, hzc, hst]

section
variable {ι : Emb} {m : Mem} {w : World}

/-- of a block an end is no longer told -/
theorem Rel.trim (R : Rel ι m w) {b : Nat} {cs : List AV} {wr : Bool} (hb : m.H[b]? = some (.cells cs wr)) (k : Nat) :
    Rel ι { m with H := m.H.set b (.cells (cs.take k) wr) } w ∧ Ext ι m w ι { m with H := m.H.set b (.cells (cs.take k) wr) } w := by
  have hbl : b < m.H.length := (List.getElem?_eq_some_iff.mp hb).1
  have hset : ∀ (b' : Nat) cs' wr', (m.H.set b (.cells (cs.take k) wr))[b']? = some (Blk.cells cs' wr') → ∃ cs'', m.H[b']? = some (Blk.cells cs'' wr') ∧ cs' = if b = b' then cs''.take k else cs'' := by
    intro b' cs' wr' h
    rw [List.getElem?_set] at h
    split at h
    · rename_i hbb
      subst hbb
      cases h
      exact ⟨cs, hb, by simp⟩
    · rename_i hbb
      exact ⟨cs', h, by simp [hbb]⟩
  refine ⟨⟨by simp [R.len], R.low, fun b' cs' wr' h => ?_, fun b1 b2 cs1 cs2 wr' c d c' d' hne h1 h2 h3 h4 => ?_⟩, ⟨Emb.le_refl _, Nat.le_refl _, Nat.le_refl _, Shapes.refl _, fun r hr => ?_, fun _ _ _ => rfl, rfl, rfl, rfl⟩⟩
  · obtain ⟨cs'', h1, rfl⟩ := hset _ _ _ h
    obtain ⟨c, d, h2, hC⟩ := R.at' b' cs'' wr' h1
    refine ⟨c, d, h2, ?_⟩
    split
    · obtain ⟨us, h3, h4⟩ := hC.vals
      refine ⟨⟨us.take k, h3.take k, fun j v hj => h4 j v ?_⟩, ?_, hC.free⟩
      · rw [List.getElem?_take] at hj
        split at hj
        · exact hj
        · cases hj
      · have := all_sub hC.cell 0 k
        rwa [List.drop_zero] at this
    · exact hC
  · obtain ⟨e1, g1, _⟩ := hset _ _ _ h1
    obtain ⟨e2, g2, _⟩ := hset _ _ _ h2
    exact R.inj b1 b2 e1 e2 wr' c d c' d' hne g1 g2 h3 h4
  · obtain ⟨b', cs', d', h1, h2⟩ := hr
    obtain ⟨e1, g1, _⟩ := hset _ _ _ h1
    exact .inl ⟨b', e1, d', g1, h2⟩

theorem del_rel {P : Program} (R : Rel ι m w) {b n sz i : Nat} {cap : Option Nat} {cs : List AV} {v : Value} (hb : m.H[b]? = some (.cells cs true)) (hcs : cs.length = n * sz) (hi : i < n) (hv : V ι w (.slice (some (b, 0)) sz n cap) v) :
    ∃ (c x k : Nat) (news : List Value), v = .slice (some ⟨c, x, none⟩) n k ∧ n ≤ k ∧ news.length = (n - (i + 1)) * sz ∧
      (∀ t u, news[t]? = some u → w.drew.cell? ⟨c, x + (i + 1) * sz + t, none⟩ = some u) ∧ (∀ u ∈ news, u.oneCell' = true) ∧
      (∀ t, t < (n - (i + 1)) * sz → (w.drew.cell? ⟨c, x + i * sz + t, none⟩).isSome = true ∧ w.drew.frozen? ⟨c, x + i * sz + t, none⟩ = false) ∧
      (∀ t, t < sz → ((w.drew.setCells c (x + i * sz) news).cell? ⟨c, x + (i + (n - (i + 1))) * sz + t, none⟩).isSome = true ∧ (w.drew.setCells c (x + i * sz) news).frozen? ⟨c, x + (i + (n - (i + 1))) * sz + t, none⟩ = false) ∧
      ∃ ι', V ι' ((w.drew.setCells c (x + i * sz) news).setCells c (x + (i + (n - (i + 1))) * sz) (List.replicate sz (.int .i64 0))) (.slice (some (m.H.length + 1, 0)) sz (n - 1) none) (.slice (some ⟨c, x, none⟩) (i + (n - (i + 1))) k) ∧
        Rel ι' ⟨m.H.set b .dead ++ [.dead, .cells (cs.take (i * sz) ++ cs.drop ((i + 1) * sz)) true], m.esc⟩ ((w.drew.setCells c (x + i * sz) news).setCells c (x + (i + (n - (i + 1))) * sz) (List.replicate sz (.int .i64 0))) ∧
        Ext ι m w ι' ⟨m.H.set b .dead ++ [.dead, .cells (cs.take (i * sz) ++ cs.drop ((i + 1) * sz)) true], m.esc⟩ ((w.drew.setCells c (x + i * sz) news).setCells c (x + (i + (n - (i + 1))) * sz) (List.replicate sz (.int .i64 0))) := by
  obtain ⟨c, d, x, k, e, M, g1, rfl, g3, g4, g5, g6, g7⟩ := hv
  obtain ⟨c', d', g1', hC⟩ := R.at' b cs true hb
  rw [g1] at g1'
  cases g1'
  have hx : x = d := by rcases g4 with h | ⟨h, _⟩ <;> omega
  subst hx
  obtain ⟨us, hu, hcell⟩ := hC.vals
  obtain ⟨e', M', g5', hfree⟩ := hC.free rfl
  rw [g5] at g5'
  cases g5'
  have hul : us.length = n * sz := hu.length.trans hcs
  have hkM : x + k * sz ≤ M := by rcases g6 with h | h <;> omega
  have hnk : n * sz ≤ k * sz := Nat.mul_le_mul_right _ g3
  have e1 : (i + 1) * sz + (n - (i + 1)) * sz = n * sz := by rw [← Nat.add_mul]; congr 1; omega
  have e2 : (i + 1) * sz = i * sz + sz := by rw [Nat.add_mul, Nat.one_mul]
  have e3 : (i + (n - (i + 1))) * sz = i * sz + (n - (i + 1)) * sz := Nat.add_mul _ _ _
  have hbl : b < m.H.length := (List.getElem?_eq_some_iff.mp hb).1
  have R0 := R.drew
  have hu0 : VL ι w.drew cs us := VL.mono (w := w) (w' := w.drew) (Emb.le_refl _) (fun _ _ h => h) _ _ hu
  have hM : w.drew.shape? c = some (e, M) := g5
  obtain ⟨_, r1, r2⟩ := Rel.inplace (P := P) (b := b) (old := cs) (cs := cs.take (i * sz)) (new := cs.drop ((i + 1) * sz)) (us := us.take (i * sz)) (vs := us.drop ((i + 1) * sz)) R0 hb g1 hM (hu0.take _)
    (fun j v hj => by
      rw [List.getElem?_take] at hj
      split at hj
      · exact hcell j v hj
      · cases hj) (by have := all_sub hC.cell 0 (i * sz); rwa [List.drop_zero] at this)
    (hu0.drop _) (by have := all_sub hC.cell ((i + 1) * sz) cs.length; rwa [List.take_of_length_le (by simp)] at this) (by simp; omega)
  have htl : (us.take (i * sz)).length = i * sz := by rw [List.length_take]; omega
  rw [htl] at r1 r2
  have hH1 : (m.H.set b .dead ++ [Blk.cells (cs.take (i * sz) ++ cs.drop ((i + 1) * sz)) true])[m.H.length]? = some (.cells (cs.take (i * sz) ++ cs.drop ((i + 1) * sz)) true) := by
    rw [List.getElem?_append_right (by simp)]; simp
  have hι1 : (ι ++ [some (c, x)])[m.H.length]? = some (some (c, x)) := by rw [← R.len]; exact emb_last _ _
  obtain ⟨c', d', q1, hC1⟩ := r1.at' m.H.length _ true hH1
  rw [hι1] at q1
  cases q1
  obtain ⟨us1, hu1, hcell1⟩ := hC1.vals
  obtain ⟨e', M', g5', hfree1⟩ := hC1.free rfl
  have hM1 := r2.shapes _ _ hM
  rw [hM1] at g5'
  cases g5'
  have hal : (cs.take (i * sz) ++ cs.drop ((i + 1) * sz)).length = (i + (n - (i + 1))) * sz := by
    rw [List.length_append, List.length_take, List.length_drop]; omega
  have hu1l : us1.length = (i + (n - (i + 1))) * sz := hu1.length.trans hal
  obtain ⟨_, r3, r4⟩ := Rel.inplace (P := P) (b := m.H.length) (old := cs.take (i * sz) ++ cs.drop ((i + 1) * sz)) (cs := cs.take (i * sz) ++ cs.drop ((i + 1) * sz)) (new := List.replicate sz (AV.int .i64 0)) (us := us1) (vs := List.replicate sz (.int .i64 0)) r1 hH1 hι1 hM1 hu1 hcell1 hC1.cell
    (VL.replicate (c := .int .i64 0) (y := .int .i64 0) rfl sz) (by simp [AV.isCell]) (by right; simp; omega)
  rw [hu1l] at r3 r4
  have hH2 : (m.H.set b .dead ++ [Blk.cells (cs.take (i * sz) ++ cs.drop ((i + 1) * sz)) true]).set m.H.length .dead ++ [Blk.cells (cs.take (i * sz) ++ cs.drop ((i + 1) * sz) ++ List.replicate sz (AV.int .i64 0)) true] =
      m.H.set b .dead ++ [.dead, .cells (cs.take (i * sz) ++ cs.drop ((i + 1) * sz) ++ List.replicate sz (AV.int .i64 0)) true] := by
    rw [List.set_append_right _ _ (by simp)]
    simp
  simp only [hH2] at r3 r4
  obtain ⟨r5, r6⟩ := r3.trim (b := m.H.length + 1) (cs := cs.take (i * sz) ++ cs.drop ((i + 1) * sz) ++ List.replicate sz (AV.int .i64 0)) (wr := true) (by
    show (m.H.set b .dead ++ [.dead, _])[m.H.length + 1]? = _
    rw [List.getElem?_append_right (by simp)]; simp) ((i + (n - (i + 1))) * sz)
  have hH3 : (m.H.set b .dead ++ [.dead, Blk.cells (cs.take (i * sz) ++ cs.drop ((i + 1) * sz) ++ List.replicate sz (AV.int .i64 0)) true]).set (m.H.length + 1) (.cells ((cs.take (i * sz) ++ cs.drop ((i + 1) * sz) ++ List.replicate sz (AV.int .i64 0)).take ((i + (n - (i + 1))) * sz)) true) =
      m.H.set b .dead ++ [.dead, .cells (cs.take (i * sz) ++ cs.drop ((i + 1) * sz)) true] := by
    rw [List.set_append_right _ _ (by simp), List.take_left' hal]
    simp
  simp only [hH3] at r5 r6
  refine ⟨c, x, k, us.drop ((i + 1) * sz), rfl, g3, by rw [List.length_drop]; omega, fun t u ht => ?_, fun u hu' => ?_, fun t ht => ?_, fun t ht => ?_, _, ?_, r5, ((Ext.drew ι m w).trans r2).trans (r4.trans r6)⟩
  · rw [List.getElem?_drop] at ht
    have := hcell _ _ ht
    rw [← Nat.add_assoc] at this
    exact this
  · exact oneCells hu hC.cell u (List.mem_of_mem_drop hu')
  · obtain ⟨y, hy⟩ := shape_cell hM (show x + i * sz + t < M by omega)
    exact ⟨by rw [hy]; rfl, hfree _ (by omega)⟩
  · obtain ⟨y, hy⟩ := shape_cell hM1 (show x + (i + (n - (i + 1))) * sz + t < M by omega)
    exact ⟨by rw [hy]; rfl, hfree1 _ (by omega)⟩
  · refine ⟨c, x, x, k, e, M, ?_, ?_, by omega, .inl rfl, r6.shapes _ _ (r4.shapes _ _ hM1), .inr hkM, fun q hq => by cases hq⟩
    · rw [show m.H.length + 1 = (ι ++ [some (c, x)]).length by simp [R.len]]
      exact emb_last _ _
    · rw [show i + (n - (i + 1)) = n - 1 by omega]

end

end Go.Proofs.Ytlcklonakjhoiaa.Slim
