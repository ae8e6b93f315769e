/- The slim machine: the evaluator of code and calls; what a step keeps of the old blocks. -/
import Derived.Test.YtlocjmbfcdfjfaaSlimK
namespace Go.Proofs.Ytlocjmbfcdfjfaa.Slim
open Go
set_option linter.unusedVariables false
set_option linter.unusedSimpArgs false

structure St where
  tm : List AV
  m : Mem

open Classical in
/-- what is told anew behind an operation -/
noncomputable def toldAnew (g : X → AV) (loc : List AV) (H : List Blk) : List (Nat × AOper) → Bool
  | [] => true
  | q :: qs => (decide (wanted g q.2.guard = some false) || decide (memop g H q.2.op = some ((loc[q.1]?).getD .undef))) && toldAnew g loc H qs

/-- a region that draws its order, told in an order of our choice -/
noncomputable def dops (call : FuncId → List AV → Mem → Option (AV × Mem)) (tm : List AV) : List DE → List AV → Mem → Option (List AV × Mem)
  | [], loc, m => some (loc, m)
  | e :: rest, loc, m =>
    match wanted (get tm loc) e.guard with
    | none => none
    | some false => if toldAnew (get tm (loc ++ [.tup []])) loc m.H e.again = true then dops call tm rest (loc ++ [.tup []]) m else none
    | some true =>
      match aop call (get tm loc) m e.op with
      | none => none
      | some (v, m') => if toldAnew (get tm (loc ++ [v])) loc m'.H e.again = true then dops call tm rest (loc ++ [v]) m' else none

def resultOf (tm : List AV) (H : List Blk) : AR → Option AV
  | .tmp s => some ((tm[s]?).getD .undef)
  | .cell s agg sz => loadAt H agg sz ((tm[s]?).getD .undef)

def resultList (tm : List AV) (H : List Blk) : List AR → Option (List AV)
  | [] => some []
  | r :: rs => match resultOf tm H r, resultList tm H rs with
    | some v, some vs => some (v :: vs)
    | _, _ => none

def tupled : List AV → AV
  | [v] => v
  | vs => .tup vs

def clean (lim : Nat) : Option Nat → Bool
  | none => true
  | some e => lim ≤ e

/-- the new blocks that a value names, in its order -/
def AV.roots (lim : Nat) : AV → List Nat
  | .ptr (some (b, _)) => if b < lim then [] else [b]
  | .slice (some (b, _)) _ _ _ => if b < lim then [] else [b]
  | .map (some b) => if b < lim then [] else [b]
  | .agg cs => go cs
  | .tup vs => go vs
  | .fn _ a b => go a ++ go b
  | _ => []
where go : List AV → List Nat
  | [] => []
  | v :: vs => v.roots lim ++ go vs

def AV.rename (f : Nat → Nat) : AV → AV
  | .ptr (some (b, o)) => .ptr (some (f b, o))
  | .slice (some (b, o)) sz n c => .slice (some (f b, o)) sz n c
  | .map (some b) => .map (some (f b))
  | .agg cs => .agg (go cs)
  | .tup vs => .tup (go vs)
  | .fn k a b => .fn k (go a) (go b)
  | v => v
where go : List AV → List AV
  | [] => []
  | v :: vs => v.rename f :: go vs

def dedup : List Nat → List Nat
  | [] => []
  | b :: bs => b :: (dedup bs).filter (· ≠ b)

def flatBlk (lim : Nat) : Option Blk → Bool
  | some (.cells cs _) => cs.all fun c => c.under lim
  | _ => false

def renum (lim : Nat) (rs : List Nat) (b : Nat) : Nat := if b < lim then b else lim + rs.idxOf b

/-- what is kept of a call's memory: 0 all; 1 nothing new; 2 the blocks that the result names, renumbered -/
def finish (mode lim : Nat) (esc0 : Option Nat) (v : AV) (m : Mem) : Option (AV × Mem) :=
  match mode with
  | 0 => some (v, { m with esc := joinEsc esc0 m.esc })
  | 1 => if v.under lim = true ∧ clean lim m.esc = true then some (v, { H := m.H.take lim, esc := esc0 }) else none
  | _ =>
    let rs := dedup (v.roots lim)
    if clean lim m.esc = true ∧ (rs.all fun b => flatBlk lim m.H[b]?) = true then
      some (v.rename (renum lim rs), { H := m.H.take lim ++ rs.map (fun b => (m.H[b]?).getD .dead), esc := esc0 })
    else none

def entry (F : AFun) (args : List AV) : List AV := F.keep.map fun t => (args[t]?).getD .undef

/-- a call, given what code comes to -/
def callWith (T : FuncId → Option AFun) (pr : FuncId → List AV → Mem → Option (AV × Mem)) (R : ACode → St → Option (Ex × St)) (f : FuncId) (args : List AV) (m : Mem) : Option (AV × Mem) :=
  match T f with
  | none => pr f args m
  | some F =>
    match R F.code ⟨entry F args, { m with esc := none }⟩ with
    | some (.exit _, _) => none
    | some (_, st) => match resultList st.tm st.m.H F.results with
      | some vs => finish F.mode m.H.length m.esc (tupled vs) st.m
      | none => none
    | none => none

def loopN (R : ACode → St → Option (Ex × St)) (body : ACode) : Nat → St → Option (Ex × St)
  | 0, _ => none
  | n + 1, st => match R body st with
    | some (.normal, st') => loopN R body n st'
    | r => r

/-- one level of code -/
noncomputable def astep (n : Nat) (call : FuncId → List AV → Mem → Option (AV × Mem)) (R : ACode → St → Option (Ex × St)) (c : ACode) (st : St) : Option (Ex × St) :=
  match c with
  | .skip => some (.normal, st)
  | .region ops outs => match aops call st.tm ops [] st.m with
    | none => none
    | some (loc, m) => some (.normal, ⟨setOuts st.tm loc outs, m⟩)
  | .draw es outs => match dops call st.tm es [] st.m with
    | none => none
    | some (loc, m) => some (.normal, ⟨setOuts st.tm loc outs, m⟩)
  | .seq a b => match R a st with
    | some (.normal, st') => R b st'
    | r => r
  | .cond x a b => match get st.tm [] x with
    | .bool true => R a st
    | .bool false => R b st
    | _ => none
  | .block id body => match R body st with
    | some (.exit k, st') => if k = id then some (.normal, st') else some (.exit k, st')
    | r => r
  | .loop body => loopN R body n st
  | .exit id => some (.exit id, st)
  | .ret => some (.ret, st)

noncomputable def arun (T : FuncId → Option AFun) (pr : FuncId → List AV → Mem → Option (AV × Mem)) : Nat → ACode → St → Option (Ex × St)
  | 0, _, _ => none
  | n + 1, c, st => astep n (callWith T pr (arun T pr n)) (arun T pr n) c st

/-! what a step keeps of the old blocks -/

def belowEsc (b : Nat) (e : Option Nat) : Prop := ∀ k, e = some k → b < k

/-- each cell of block b is an old one, or names no block behind b -/
def OldOr (m m' : Mem) (b : Nat) : Prop := ∀ cs' wr', m'.H[b]? = some (.cells cs' wr') → ∃ cs wr, m.H[b]? = some (.cells cs wr) ∧ ∀ c ∈ cs', c ∈ cs ∨ c.under (b + 1) = true

structure Grow (m m' : Mem) : Prop where
  size : m.H.length ≤ m'.H.length
  esc : ∀ b, belowEsc b m'.esc → belowEsc b m.esc
  old : ∀ b, b < m.H.length → belowEsc b m'.esc → OldOr m m' b
  ro : ∀ (b : Nat) cs, m'.H[b]? = some (.cells cs false) → m.H[b]? = some (.cells cs false)

theorem OldOr.refl (m : Mem) (b : Nat) : OldOr m m b := fun cs wr h => ⟨cs, wr, h, fun c hc => .inl hc⟩
theorem Grow.refl (m : Mem) : Grow m m := ⟨Nat.le_refl _, fun _ h => h, fun b _ _ => OldOr.refl m b, fun _ _ h => h⟩
theorem Grow.trans {a b c : Mem} (h : Grow a b) (k : Grow b c) : Grow a c where
  size := Nat.le_trans h.size k.size
  esc := fun x hx => h.esc x (k.esc x hx)
  old := fun x hx he cs wr hc => by
    obtain ⟨cs1, wr1, h1, h2⟩ := k.old x (Nat.lt_of_lt_of_le hx h.size) he cs wr hc
    obtain ⟨cs2, wr2, h3, h4⟩ := h.old x hx (k.esc x he) cs1 wr1 h1
    refine ⟨cs2, wr2, h3, fun y hy => ?_⟩
    rcases h2 y hy with h5 | h5
    · exact h4 y h5
    · exact .inr h5
  ro := fun x cs hx => h.ro x cs (k.ro x cs hx)

theorem Grow.newBlk (m : Mem) (cs : List AV) : Grow m (newBlk m cs) where
  size := by simp [Slim.newBlk]
  esc := fun _ h => h
  old := fun b hb _ => by
    intro cs' wr' h
    simp only [Slim.newBlk] at h
    rw [List.getElem?_append_left hb] at h
    exact ⟨cs', wr', h, fun c hc => .inl hc⟩
  ro := fun b cs' h => by
    simp only [Slim.newBlk] at h
    rcases Nat.lt_or_ge b m.H.length with hb | hb
    · rw [List.getElem?_append_left hb] at h; exact h
    · rw [List.getElem?_append_right hb] at h
      have h1 := (List.getElem?_eq_some_iff.mp h).1
      simp at h1
      rw [show b - m.H.length = 0 by omega] at h
      simp at h

theorem Grow.kill (m : Mem) (b : Nat) : Grow m { m with H := m.H.set b .dead } where
  size := by simp
  esc := fun _ h => h
  old := fun x hx _ => by
    intro cs' wr' h
    simp only [List.getElem?_set] at h
    split at h
    · split at h <;> cases h
    · exact ⟨cs', wr', h, fun c hc => .inl hc⟩
  ro := fun x cs h => by
    simp only [List.getElem?_set] at h
    split at h
    · split at h <;> cases h
    · exact h

theorem belowEsc_min {b x : Nat} {e : Option Nat} (h : belowEsc x (minEsc e b)) : belowEsc x e ∧ x < b := by
  cases e with
  | none => exact ⟨fun k hk => (by cases hk), h b rfl⟩
  | some e =>
    have := h (min e b) rfl
    exact ⟨fun k hk => (by cases hk; omega), by omega⟩

theorem mem_setRange {cs new : List AV} {o : Nat} {c : AV} (h : c ∈ setRange cs o new) : c ∈ cs ∨ c ∈ new := by
  unfold setRange at h
  simp only [List.mem_append] at h
  rcases h with (h | h) | h
  · exact .inl (List.mem_of_mem_take h)
  · exact .inr h
  · exact .inl (List.mem_of_mem_drop h)

theorem Grow.heavy {call : FuncId → List AV → Mem → Option (AV × Mem)} (hcall : ∀ f args m v m', call f args m = some (v, m') → Grow m m') {g : X → AV} {m m' : Mem} {ao : AO} {v : AV}
    (h : Slim.heavy call g m ao = some (v, m')) : Grow m m' := by
  unfold Slim.heavy at h
  split at h
  · split at h
    · rename_i b o new e1 e2
      split at h
      · rename_i cs hb
        split at h
        · cases h
          refine ⟨by simp, fun x hx => ?_, fun x hx he => ?_, fun x cs' hx => ?_⟩
          · split at hx
            · exact hx
            · exact (belowEsc_min hx).1
          · intro cs' wr' hc
            simp only [List.getElem?_set] at hc
            split at hc
            · rename_i hbx
              subst hbx
              split at hc
              · cases hc
                refine ⟨cs, true, hb, fun c hc => ?_⟩
                rcases mem_setRange hc with h1 | h1
                · exact .inl h1
                · right
                  simp only [] at he
                  split at he
                  · rename_i hall
                    exact List.all_eq_true.mp hall c h1
                  · have := (belowEsc_min he).2
                    omega
              · exact absurd hx (by assumption)
            · exact ⟨cs', wr', hc, fun c hc => .inl hc⟩
          · simp only [List.getElem?_set] at hx
            split at hx
            · split at hx <;> cases hx
            · exact hx
        · cases h
      · cases h
    · cases h
  · split at h
    · split at h
      · cases h; exact Grow.newBlk _ _
      · cases h
    · cases h
  · split at h
    · split at h
      · cases h; exact Grow.newBlk _ _
      · cases h
    · cases h
  · split at h
    · split at h
      · split at h
        · cases h; exact Grow.refl _
        · split at h
          · cases h; exact Grow.newBlk _ _
          · cases h
      · cases h
    · split at h
      · split at h
        · split at h
          · cases h; exact Grow.newBlk _ _
          · split at h
            · cases h
              exact (Grow.kill m _).trans (Grow.newBlk { m with H := m.H.set _ .dead } _)
            · cases h
        · cases h
      · cases h
    · cases h
  · split at h
    · exact hcall _ _ _ _ _ h
    · cases h
  · cases h

theorem Grow.aop {call : FuncId → List AV → Mem → Option (AV × Mem)} (hcall : ∀ f args m v m', call f args m = some (v, m') → Grow m m') {g : X → AV} {m m' : Mem} {ao : AO} {v : AV}
    (h : Slim.aop call g m ao = some (v, m')) : Grow m m' := by
  unfold Slim.aop at h
  split at h
  · cases h; exact Grow.refl _
  · split at h
    · cases h; exact Grow.refl _
    · split at h
      · cases h; exact Grow.newBlk _ _
      · exact Grow.heavy hcall h

theorem Grow.aops {call : FuncId → List AV → Mem → Option (AV × Mem)} (hcall : ∀ f args m v m', call f args m = some (v, m') → Grow m m') {tm : List AV} :
    ∀ {ops : List AOper} {loc loc' : List AV} {m m' : Mem}, Slim.aops call tm ops loc m = some (loc', m') → Grow m m'
  | [], loc, loc', m, m', h => by cases h; exact Grow.refl _
  | o :: rest, loc, loc', m, m', h => by
    unfold Slim.aops at h
    split at h
    · cases h
    · exact Grow.aops hcall h
    · split at h
      · cases h
      · rename_i h1
        exact (Grow.aop hcall h1).trans (Grow.aops hcall h)

theorem Grow.dops {call : FuncId → List AV → Mem → Option (AV × Mem)} (hcall : ∀ f args m v m', call f args m = some (v, m') → Grow m m') {tm : List AV} :
    ∀ {es : List DE} {loc loc' : List AV} {m m' : Mem}, Slim.dops call tm es loc m = some (loc', m') → Grow m m'
  | [], loc, loc', m, m', h => by cases h; exact Grow.refl _
  | e :: rest, loc, loc', m, m', h => by
    unfold Slim.dops at h
    split at h
    · cases h
    · split at h
      · exact Grow.dops hcall h
      · cases h
    · split at h
      · cases h
      · rename_i h1
        split at h
        · exact (Grow.aop hcall h1).trans (Grow.dops hcall h)
        · cases h

end Go.Proofs.Ytlocjmbfcdfjfaa.Slim
