/- The slim machine: a region told in the text's order. -/
import Derived.Test.YtlocjmbfcdfjfaaSlimL
namespace Go.Proofs.Ytlocjmbfcdfjfaa.Slim
open Go
set_option linter.unusedVariables false
set_option linter.unusedSimpArgs false

section
variable {P : Program}

/-- what a call comes to in the model -/
def CallOk (P : Program) (call : FuncId → List AV → Mem → Option (AV × Mem)) : Prop :=
  ∀ f args m v m' (ι : Emb) (w : World) (vs : List Value), call f args m = some (v, m') → Rel ι m w → VL ι w args vs →
    (∃ fn, P.funcs[f]? = some fn ∧ fn.body.isSome = true ∧ fn.name ≠ "runtime.NumGoroutine") ∧
    Calls P f vs.toArray w fun e w' => ∃ (ι' : Emb) (v' : Value), e = .returned v' ∧ V ι' w' v v' ∧ Rel ι' m' w' ∧ Ext ι m w ι' m' w'

/-- what the slots hold within a region -/
structure Inv (ι : Emb) (w : World) (nt : Nat) (keep : List Nat) (tm : List AV) (env : List (Nat × Nat)) (loc : List AV) (a : Act) : Prop where
  made : ∀ t j, env.lookup t = some j → j < loc.length ∧ V ι w ((loc[j]?).getD .undef) (a.eval (.tmp t))
  kept : ∀ t s, env.lookup t = none → keep.idxOf? t = some s → V ι w ((tm[s]?).getD .undef) (a.eval (.tmp t))
  size : nt ≤ a.tmps.size
  defers : a.defers = []
  len : tm.length = keep.length

theorem Inv.mono {ι ι' : Emb} {w w' : World} {nt : Nat} {keep : List Nat} {tm : List AV} {env : List (Nat × Nat)} {loc : List AV} {a : Act} (h : Inv ι w nt keep tm env loc a) (hι : Emb.le ι ι') (hw : Shapes w w') :
    Inv ι' w' nt keep tm env loc a :=
  ⟨fun t j e => ⟨(h.made t j e).1, V.mono hι hw _ _ (h.made t j e).2⟩, fun t s e k => V.mono hι hw _ _ (h.kept t s e k), h.size, h.defers, h.len⟩

theorem Inv.ok {ι : Emb} {w : World} {nt : Nat} {keep : List Nat} {tm : List AV} {env : List (Nat × Nat)} {loc : List AV} {a : Act} (h : Inv ι w nt keep tm env loc a) : OkX ι w (cxOf keep env) (get tm loc) a.eval := by
  intro o x hx
  cases o with
  | tmp t =>
    simp only [cxOf] at hx
    split at hx
    · rename_i j hj
      cases hx
      exact (h.made t j hj).2
    · rename_i hn
      split at hx
      · rename_i s hs
        cases hx
        exact h.kept t s hn hs
      · cases hx; trivial
  | const v =>
    simp only [cxOf, Option.map_eq_some_iff] at hx
    obtain ⟨a', ha, rfl⟩ := hx
    exact V.ofConst ha
  | func f => cases hx; exact ⟨[], [], rfl, rfl, rfl⟩
  | global g => cases hx

theorem eval_put_self (a : Act) (d : Tmp) (v : Value) (h : d < a.tmps.size) : (a.put (some d) v).eval (.tmp d) = v := by
  simp [Act.eval, Act.put, h]

theorem eval_put_other (a : Act) (d t : Tmp) (v : Value) (h : d ≠ t) : (a.put (some d) v).eval (.tmp t) = a.eval (.tmp t) := by
  simp [Act.eval, Act.put, Array.getElem?_setIfInBounds_ne h]

theorem Inv.put {ι : Emb} {w : World} {nt : Nat} {keep : List Nat} {tm : List AV} {env : List (Nat × Nat)} {loc : List AV} {a : Act} (h : Inv ι w nt keep tm env loc a) {dst : Option Tmp} (hd : dstOk nt dst = true) {v : AV} {v' : Value}
    (hv : V ι w v v') : Inv ι w nt keep tm (envPut env dst loc.length) (loc ++ [v]) (a.put dst v') := by
  have old : ∀ t j, env.lookup t = some j → j < (loc ++ [v]).length ∧ ((loc ++ [v])[j]?).getD .undef = (loc[j]?).getD .undef := by
    intro t j e
    have := (h.made t j e).1
    exact ⟨by simp; omega, by rw [List.getElem?_append_left this]⟩
  cases dst with
  | none => exact ⟨fun t j e => ⟨(old t j e).1, by rw [(old t j e).2]; exact (h.made t j e).2⟩, h.kept, h.size, h.defers, h.len⟩
  | some d =>
    have hlt : d < a.tmps.size := by simp [dstOk] at hd; exact Nat.lt_of_lt_of_le hd h.size
    refine ⟨fun t j e => ?_, fun t s e k => ?_, ?_, ?_, h.len⟩
    · simp only [envPut, List.lookup_cons] at e
      by_cases htd : t = d
      · subst htd
        simp at e
        subst e
        refine ⟨by simp, ?_⟩
        rw [eval_put_self a t v' hlt]
        simpa using hv
      · have : (t == d) = false := by simpa using htd
        simp only [this] at e
        rw [eval_put_other a d t v' (fun e => htd e.symm), (old t j e).2]
        exact ⟨(old t j e).1, (h.made t j e).2⟩
    · simp only [envPut, List.lookup_cons] at e
      by_cases htd : t = d
      · subst htd
        simp at e
      · have : (t == d) = false := by simpa using htd
        simp only [this] at e
        rw [eval_put_other a d t v' (fun e => htd e.symm)]
        exact h.kept t s e k
    · simp [Act.put]; exact h.size
    · exact h.defers

theorem wanted_ok {ι : Emb} {w : World} {cx : Look} {g : X → AV} {a : Act} (hρ : OkX ι w cx g a.eval) {ops : Array Oper} {o : Oper} {gd : Option (X × Bool)} {b : Bool} (hg : guardX ops cx o.guard = some gd)
    (hw : Slim.wanted g gd = some b) : Region.wanted o (yielded ops a.tmps) = b := by
  unfold Region.wanted
  cases hgd : o.guard with
  | none =>
    rw [hgd] at hg
    cases hg
    simpa [Slim.wanted] using hw
  | some q =>
    obtain ⟨j, want⟩ := q
    rw [hgd] at hg
    simp only [guardX] at hg
    split at hg
    · rename_i d hd
      simp only [Option.map_eq_some_iff] at hg
      obtain ⟨x, hx, rfl⟩ := hg
      have hv := hρ _ _ hx
      simp only [Slim.wanted] at hw
      have hy : yielded ops a.tmps j = match a.tmps[d]? with | some (.bool c) => some c | _ => none := by
        unfold yielded
        rw [hd]
        rfl
      simp only [hy]
      have hev : a.eval (.tmp d) = (a.tmps[d]?).getD undef := by simp [Act.eval]
      rw [hev] at hv
      split at hw
      · rename_i c e
        rw [e] at hv
        cases hw
        cases hq : a.tmps[d]? with
        | none => rw [hq] at hv; exact absurd hv (by simp [V, undef])
        | some z =>
          rw [hq] at hv
          have hz : z = .bool c := hv
          subst hz
          simp
      · rename_i e
        rw [e] at hv
        cases hw
        obtain ⟨xs, h1, h2⟩ := hv
        cases h2
        cases hq : a.tmps[d]? with
        | none => simp
        | some z =>
          rw [hq] at h1
          have hz : z = .tuple #[] := h1
          subst hz
          simp
      · cases hw
    · cases hg

/-- one operation, and whatever follows -/
theorem step_ok {ι : Emb} {m m' : Mem} {w : World} {call : FuncId → List AV → Mem → Option (AV × Mem)} (hcall : CallOk P call) {cx : Look} {g : X → AV} {a : Act} (hρ : OkX ι w cx g a.eval) (R : Rel ι m w) (o : Oper)
    {next : Act → World → Prop} {Q : Exit → Act → World → Prop} {v : AV}
    (hdone : OpDone P ι m w a.eval o v m' ∨ ∃ k args, call k args m = some (v, m') ∧ OpCall P ι w a.eval o k args)
    (hnext : ∀ ι' w' v', V ι' w' v v' → Rel ι' m' w' → Ext ι m w ι' m' w' → next (a.put o.dst v') w') : o.wp P a w next Q := by
  unfold Oper.wp
  rcases hdone with ⟨n, w', ι', v', h1, h2, h3, h4, h5⟩ | ⟨k, args, hc, hoc⟩
  · rw [h1]
    rcases h2 with rfl | ⟨rfl, rfl⟩
    · exact hnext _ _ _ h3 h4 h5
    · exact hnext _ _ _ h3 h4 h5
  · obtain ⟨vs, hvs, hrun⟩ := hoc
    obtain ⟨⟨fn, q1, q2, q3⟩, hC⟩ := hcall k args m v m' ι w vs hc R hvs
    rw [hrun fn q1 q2 q3, Oper.upon_enter]
    refine hC.mono ?_
    rintro e w' ⟨ι', v', rfl, h1, h2, h3⟩
    exact hnext _ _ _ h1 h2 h3

/-- an operation, as the evaluator takes it -/
theorem aop_ok {ι : Emb} {m m' : Mem} {w : World} {call : FuncId → List AV → Mem → Option (AV × Mem)} {cx : Look} {g : X → AV} {ρ : Operand → Value} (hρ : OkX ι w cx g ρ) (R : Rel ι m w) (o : Oper) {ao : AO} {v : AV}
    (hc : compileOp P cx o.op = some ao) (h : aop call g m ao = some (v, m')) : OpDone P ι m w ρ o v m' ∨ ∃ k args, call k args m = some (v, m') ∧ OpCall P ι w ρ o k args := by
  unfold aop at h
  split at h
  · rename_i hl
    cases h
    exact .inl (OpDone.of_does R (light_ok hρ o hc hl))
  · split at h
    · rename_i hl
      cases h
      exact .inl (OpDone.of_does R (memop_ok hρ R o hc hl))
    · split at h
      · rename_i cs f hl
        cases h
        exact .inl (OpDone.of_makes R (making_ok hρ o hc hl))
      · exact heavy_ok hρ R o hc h

theorem aops_ok {call : FuncId → List AV → Mem → Option (AV × Mem)} (hcall : CallOk P call) {nt : Nat} {keep : List Nat} {all : Array Oper} {tm : List AV} {Q : Exit → Act → World → Prop} :
    ∀ (rest : List Oper) (i : Nat) (env env' : List (Nat × Nat)) (as : List AOper) (loc loc' : List AV) (m m' : Mem) (ι : Emb) (w : World) (a : Act),
      (∀ j o, rest[j]? = some o → all[i + j]? = some o) → compileOps P nt keep all rest i env = some (as, env') → aops call tm as loc m = some (loc', m') →
      Rel ι m w → Inv ι w nt keep tm env loc a → loc.length = i →
      (∀ ι' w' a', Rel ι' m' w' → Ext ι m w ι' m' w' → Inv ι' w' nt keep tm env' loc' a' → Q .normal a' w') →
      wpOps P all Q (List.range' i rest.length) a w
  | [], i, env, env', as, loc, loc', m, m', ι, w, a, hall, hc, he, R, I, hl, hQ => by
    cases hc; cases he
    exact hQ ι w a R (Ext.refl _ _ _) I
  | o :: rest, i, env, env', as, loc, loc', m, m', ι, w, a, hall, hc, he, R, I, hl, hQ => by
    unfold compileOps at hc
    split at hc
    · rename_i ao gd as' env'' hc1 hc2 hc3
      split at hc
      · rename_i hd
        cases hc
        have ho : all[i]? = some o := by simpa using hall 0 o rfl
        have hrest : ∀ j o', rest[j]? = some o' → all[i + 1 + j]? = some o' := by
          intro j o' hj
          have := hall (j + 1) o' (by simpa using hj)
          rwa [show i + 1 + j = i + (j + 1) by omega]
        rw [List.length_cons, List.range'_succ]
        simp only [wpOps, ho]
        unfold aops at he
        split at he
        · cases he
        · rename_i hw
          have hW := wanted_ok I.ok hc2 hw
          rw [if_neg (by rw [hW]; simp)]
          have I' := I.put hd (v := .tup []) (v' := undef) ⟨[], rfl, rfl⟩
          rw [hl] at I'
          exact aops_ok hcall rest (i + 1) _ env' as' _ loc' m m' ι w _ hrest hc3 he R I' (by simp [hl]) hQ
        · rename_i hw
          have hW := wanted_ok I.ok hc2 hw
          rw [if_pos hW]
          split at he
          · cases he
          · rename_i v m₁ hop
            left
            refine step_ok hcall I.ok R o (aop_ok I.ok R o hc1 hop) fun ι' w' v' hv R' E => ?_
            have I' := (I.mono E.le E.shapes).put hd hv
            rw [hl] at I'
            exact aops_ok hcall rest (i + 1) _ env' as' _ loc' m₁ m' ι' w' _ hrest hc3 he R' I' (by simp [hl]) (fun ι'' w'' a'' R'' E'' I'' => hQ ι'' w'' a'' R'' (E.trans E'') I'')
      · cases hc
    · cases hc

end
end Go.Proofs.Ytlocjmbfcdfjfaa.Slim
