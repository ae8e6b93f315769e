/- The slim machine: a region that draws its order. -/
import Derived.Test.YtlocjmbfcdfjfaaSlimN
namespace Go.Proofs.Ytlocjmbfcdfjfaa.Slim
open Go
set_option linter.unusedVariables false
set_option linter.unusedSimpArgs false

/-- for the regions that draw: the order in which they are told -/
abbrev Plans := List (Nat × List Nat)

/-- an operation of a region that draws: its number; whom it waits for; what it writes and reads -/
structure DItem where
  idx : Nat
  anc : List Nat
  dst : Option Tmp
  reads : List Tmp
  ao : AO
  gd : Option (X × Bool)
  again : List (Nat × AOper)
  late : Bool

def isAlloc : AO → Bool
  | .alloc _ => true
  | _ => false

def findD (t : Tmp) : List DItem → Nat → Option (Nat × DItem)
  | [], _ => none
  | it :: rest, p => if it.dst = some t then some (p, it) else findD t rest (p + 1)

def cxD (keep : List Nat) (dn : List DItem) (A : List Nat) (reads : List Tmp) : Look
  | .tmp t => if reads.contains t then
      match findD t dn 0 with
      | some (p, it) => if A.contains it.idx then some (.l p) else none
      | none => match keep.idxOf? t with
        | some s => some (.t s)
        | none => some (.c .undef)
    else none
  | .const v => (ofConst v).map .c
  | .func f => some (.c (.fn f [] []))
  | .global _ => none

def waitsFor (o : Oper) : List Nat := (o.after.toList.filter (Region.binds .any ·)).map (·.on)

def ancOf (dn : List DItem) : List Nat → Option (List Nat)
  | [] => some []
  | i :: is => match dn.find? (·.idx == i), ancOf dn is with
    | some it, some r => some ((i :: it.anc).filter (fun x => !r.contains x) ++ r)
    | _, _ => none

def readsOf (ops : Array Oper) (o : Oper) : List Tmp :=
  (match o.guard with
    | some (j, _) => ((ops[j]?).bind (·.dst)).toList
    | none => []) ++ o.op.operands.toList.filterMap fun | .tmp t => some t | _ => none

/-- the readers among those told that do not come before all that wait as this one does -/
def agains (A : List Nat) : List DItem → Nat → List (Nat × AOper)
  | [], _ => []
  | it :: rest, p => if it.ao.kind = 1 ∧ !A.contains it.idx then (p, ⟨it.ao, it.gd⟩) :: agains A rest (p + 1) else agains A rest (p + 1)

/-- all that make or write are waited for -/
def chained (A : List Nat) (dn : List DItem) : Bool := dn.all fun it => decide (it.ao.kind < 2) || A.contains it.idx

def dstFree (A : List Nat) (dn : List DItem) : Option Tmp → Bool
  | none => true
  | some d => dn.all fun it => it.dst != some d && (!it.reads.contains d || A.contains it.idx)

/-- an operation that waits for a late one waits for all that make or write before it -/
def lateFree (A : List Nat) (dn : List DItem) : Bool := chained A dn || dn.all fun it => !it.late || !A.contains it.idx

def compileDraw (P : Program) (nt : Nat) (keep : List Nat) (ops : Array Oper) : List Nat → List DItem → Option (List DItem)
  | [], dn => some dn
  | j :: js, dn =>
    match ops[j]? with
    | none => none
    | some o => match ancOf dn (waitsFor o) with
      | none => none
      | some A => match compileOp P (cxD keep dn A (readsOf ops o)) o.op, guardX ops (cxD keep dn A (readsOf ops o)) o.guard with
        | some ao, some gd =>
          if !dn.any (·.idx == j) && dstOk nt o.dst && dstFree A dn o.dst && (ao.kind == 0 || chained A dn || (isAlloc ao && gd.isNone)) && lateFree A dn then
            compileDraw P nt keep ops js (dn ++ [⟨j, A, o.dst, readsOf ops o, ao, gd, if 2 ≤ ao.kind then agains A dn 0 else [], isAlloc ao && gd.isNone && !chained A dn⟩])
          else none
        | _, _ => none

def envD : List DItem → Nat → List (Nat × Nat)
  | [], _ => []
  | it :: rest, p => match it.dst with
    | some d => (d, p) :: envD rest (p + 1)
    | none => envD rest (p + 1)


section
variable {P : Program}

structure ItemOk (P : Program) (nt : Nat) (keep : List Nat) (ops : Array Oper) (dn : List DItem) (it : DItem) (o : Oper) : Prop where
  op : ops[it.idx]? = some o
  guard : guardX ops (cxD keep dn it.anc it.reads) o.guard = some it.gd
  comp : compileOp P (cxD keep dn it.anc it.reads) o.op = some it.ao
  dst : it.dst = o.dst
  again : it.again = if 2 ≤ it.ao.kind then agains it.anc dn 0 else []
  anc : ancOf dn (waitsFor o) = some it.anc
  new : ∀ x ∈ dn, x.idx ≠ it.idx
  dok : dstOk nt o.dst = true
  free : dstFree it.anc dn it.dst = true
  chain : it.ao.kind = 0 ∨ chained it.anc dn = true ∨ it.late = true
  late : it.late = true → isAlloc it.ao = true ∧ it.gd = none
  lfree : lateFree it.anc dn = true

theorem compileDraw_ok {nt : Nat} {keep : List Nat} {ops : Array Oper} : ∀ (js : List Nat) (dn items : List DItem), compileDraw P nt keep ops js dn = some items →
    (∀ p it, dn[p]? = some it → ∃ o, ItemOk P nt keep ops (dn.take p) it o) → ∀ p it, items[p]? = some it → ∃ o, ItemOk P nt keep ops (items.take p) it o
  | [], dn, items, h, hd => by cases h; exact hd
  | j :: js, dn, items, h, hd => by
    unfold compileDraw at h
    split at h
    · cases h
    · rename_i o ho
      split at h
      · cases h
      · rename_i A hA
        split at h
        · rename_i ao gd hao hgd
          split at h
          · rename_i hok
            refine compileDraw_ok js _ items h ?_
            intro p it hp
            rw [Bool.and_eq_true, Bool.and_eq_true, Bool.and_eq_true, Bool.and_eq_true] at hok
            obtain ⟨⟨⟨⟨h2, h3⟩, h4⟩, h5⟩, h6⟩ := hok
            have h2 : dn.any (·.idx == j) = false := by simpa using h2
            by_cases hlt : p < dn.length
            · rw [List.getElem?_append_left hlt] at hp
              rw [List.take_append_of_le_length (Nat.le_of_lt hlt)]
              exact hd p it hp
            · have hpe : p = dn.length := by
                have := (List.getElem?_eq_some_iff.mp hp).1
                simp at this; omega
              subst hpe
              simp at hp
              subst hp
              refine ⟨o, ⟨ho, by simpa using hgd, by simpa using hao, rfl, ?_, ?_, ?_, h3, ?_, ?_, ?_, ?_⟩⟩
              · simp
              · simpa using hA
              · intro x hx
                simp only [List.take_left', List.take_append_of_le_length (Nat.le_refl _), List.take_length] at hx
                intro e
                have := List.any_eq_false.mp h2 x hx
                simp [e] at this
              · simpa using h4
              · simp only [List.take_left', List.take_append_of_le_length (Nat.le_refl _), List.take_length]
                rw [Bool.or_eq_true, Bool.or_eq_true] at h5
                rcases h5 with (h5 | h5) | h5
                · left; simpa using h5
                · right; left; exact h5
                · cases hch : chained A dn with
                  | true => right; left; rfl
                  | false => right; right; rw [h5]; rfl
              · simp only []
                intro hl
                rw [Bool.and_eq_true, Bool.and_eq_true] at hl
                exact ⟨hl.1.1, by simpa using hl.1.2⟩
              · simpa using h6
          · cases h
        · cases h

theorem ancOf_mem {dn : List DItem} : ∀ {is A : List Nat}, ancOf dn is = some A → ∀ i ∈ is, i ∈ A
  | [], A, h => fun x hx => by cases hx
  | i :: is, A, h => by
    unfold ancOf at h
    split at h
    · rename_i it r h1 h2
      cases h
      intro x hx
      simp only [List.mem_append, List.mem_filter, List.mem_cons]
      by_cases hr : x ∈ r
      · exact .inr hr
      · rcases List.mem_cons.mp hx with rfl | hx
        · left; exact ⟨.inl rfl, by simpa using hr⟩
        · exact .inr (ancOf_mem h2 x hx)
    · cases h

theorem ancOf_in {dn : List DItem} : ∀ {is A : List Nat}, ancOf dn is = some A → ∀ i ∈ is, ∃ it ∈ dn, it.idx = i
  | [], A, h => fun x hx => by cases hx
  | i :: is, A, h => by
    unfold ancOf at h
    split at h
    · rename_i it r h1 h2
      intro x hx
      rcases List.mem_cons.mp hx with rfl | hx
      · have := List.find?_some h1
        simp at this
        exact ⟨it, List.mem_of_find?_eq_some h1, this⟩
      · exact ancOf_in h2 x hx
    · cases h

theorem ancOf_inv {dn : List DItem} : ∀ {is A : List Nat}, ancOf dn is = some A → ∀ x ∈ A, x ∈ is ∨ ∃ it ∈ dn, it.idx ∈ is ∧ x ∈ it.anc
  | [], A, h => by cases h; intro x hx; cases hx
  | i :: is, A, h => by
    unfold ancOf at h
    split at h
    · rename_i it r h1 h2
      cases h
      intro x hx
      simp only [List.mem_append, List.mem_filter, List.mem_cons] at hx
      rcases hx with ⟨hx | hx, _⟩ | hx
      · left; simp [hx]
      · right
        refine ⟨it, List.mem_of_find?_eq_some h1, ?_, hx⟩
        have := List.find?_some h1
        simp at this
        simp [this]
      · rcases ancOf_inv h2 x hx with h3 | ⟨it', h3, h4, h5⟩
        · left; simp [h3]
        · right; exact ⟨it', h3, by simp [h4], h5⟩
    · cases h

theorem toldAnew_mem {g : X → AV} {loc : List AV} {H : List Blk} : ∀ {qs : List (Nat × AOper)}, toldAnew g loc H qs = true → ∀ q ∈ qs, Slim.wanted g q.2.guard = some false ∨ memop g H q.2.op = some ((loc[q.1]?).getD .undef)
  | [], h, q, hq => by cases hq
  | q0 :: qs, h, q, hq => by
    unfold toldAnew at h
    simp only [Bool.and_eq_true, Bool.or_eq_true, decide_eq_true_eq] at h
    rcases List.mem_cons.mp hq with rfl | hq
    · exact h.1
    · exact toldAnew_mem h.2 q hq

/-- an operation told at its place -/
def Told (call : FuncId → List AV → Mem → Option (AV × Mem)) (tm L : List AV) (mm : Nat → Mem) (p : Nat) (ao : AO) (gd : Option (X × Bool)) (again : List (Nat × AOper)) : Prop :=
  ∃ v, L[p]? = some v ∧
    ((Slim.wanted (get tm (L.take p)) gd = some true ∧ aop call (get tm (L.take p)) (mm p) ao = some (v, mm (p + 1))) ∨
     (Slim.wanted (get tm (L.take p)) gd = some false ∧ v = .tup [] ∧ mm (p + 1) = mm p)) ∧
    ∀ q ∈ again, Slim.wanted (get tm (L.take (p + 1))) q.2.guard = some false ∨ memop (get tm (L.take (p + 1))) (mm (p + 1)).H q.2.op = some (((L.take p)[q.1]?).getD .undef)

theorem dops_trace {call : FuncId → List AV → Mem → Option (AV × Mem)} {tm : List AV} : ∀ (es : List DE) (loc loc' : List AV) (m m' : Mem), dops call tm es loc m = some (loc', m') →
    ∃ mm : Nat → Mem, mm loc.length = m ∧ mm (loc.length + es.length) = m' ∧ loc'.length = loc.length + es.length ∧ loc'.take loc.length = loc ∧
      ∀ p e, es[p]? = some e → Told call tm loc' mm (loc.length + p) e.op e.guard e.again
  | [], loc, loc', m, m', h => by
    cases h
    exact ⟨fun _ => m, rfl, rfl, by simp, by simp, fun p e he => by simp at he⟩
  | e :: rest, loc, loc', m, m', h => by
    have key : ∀ (v : AV) (m1 : Mem), dops call tm rest (loc ++ [v]) m1 = some (loc', m') → toldAnew (get tm (loc ++ [v])) loc m1.H e.again = true →
        ((Slim.wanted (get tm loc) e.guard = some true ∧ aop call (get tm loc) m e.op = some (v, m1)) ∨ (Slim.wanted (get tm loc) e.guard = some false ∧ v = .tup [] ∧ m1 = m)) →
        ∃ mm : Nat → Mem, mm loc.length = m ∧ mm (loc.length + (e :: rest).length) = m' ∧ loc'.length = loc.length + (e :: rest).length ∧ loc'.take loc.length = loc ∧
          ∀ p e', (e :: rest)[p]? = some e' → Told call tm loc' mm (loc.length + p) e'.op e'.guard e'.again := by
      intro v m1 h h2 h1
      obtain ⟨mm, a1, a2, a3, a4, a5⟩ := dops_trace rest _ loc' m1 m' h
      have hlen : (loc ++ [v]).length = loc.length + 1 := by simp
      rw [hlen] at a1 a2 a3 a4 a5
      have hv : loc'[loc.length]? = some v := by
        have : (loc'.take (loc.length + 1))[loc.length]? = some v := by rw [a4]; simp
        rwa [List.getElem?_take_of_lt (by omega)] at this
      have ht : loc'.take loc.length = loc := by
        have : (loc'.take (loc.length + 1)).take loc.length = loc := by rw [a4]; simp
        rwa [List.take_take, Nat.min_eq_left (by omega)] at this
      have hne : ∀ i, loc.length + 1 ≤ i → (if i = loc.length then m else mm i) = mm i := fun i hi => by rw [if_neg (by omega)]
      refine ⟨fun i => if i = loc.length then m else mm i, by simp, ?_, by simp; omega, ht, ?_⟩
      · rw [List.length_cons]
        show (if loc.length + (rest.length + 1) = loc.length then m else mm (loc.length + (rest.length + 1))) = m'
        rw [hne _ (by omega), ← a2]
        congr 1; omega
      · intro p e' he
        cases p with
        | zero =>
          simp at he
          subst he
          unfold Told
          simp only [Nat.add_zero, if_true]
          rw [hne _ (Nat.le_refl _), a1, ht, a4]
          refine ⟨v, hv, ?_, fun q hq => toldAnew_mem h2 q hq⟩
          rcases h1 with h1 | h1
          · exact .inl h1
          · exact .inr h1
        | succ p =>
          have h5 := a5 p e' (by simpa using he)
          unfold Told at h5 ⊢
          rw [show loc.length + (p + 1) = loc.length + 1 + p by omega]
          simp only []
          rw [hne _ (by omega), hne _ (by omega)]
          exact h5
    unfold dops at h
    split at h
    · cases h
    · rename_i hw
      split at h
      · rename_i h2
        exact key _ _ h h2 (.inr ⟨hw, rfl, rfl⟩)
      · cases h
    · rename_i hw
      split at h
      · cases h
      · rename_i v m1 h1
        split at h
        · rename_i h2
          exact key v m1 h h2 (.inl ⟨hw, h1⟩)
        · cases h

theorem aop_light {call : FuncId → List AV → Mem → Option (AV × Mem)} {g : X → AV} {m m' : Mem} {ao : AO} {v : AV} (hk : ao.kind = 0) (h : aop call g m ao = some (v, m')) :
    m' = m ∧ ∀ m2, aop call g m2 ao = some (v, m2) := by
  unfold aop at *
  cases e : light g ao with
  | some u => simp only [e] at h ⊢; cases h; exact ⟨rfl, fun _ => rfl⟩
  | none =>
    simp only [e] at h
    rw [memop_none (by omega), making_none (by omega), heavy_none (by omega)] at h
    cases h

theorem light_none {g : X → AV} {ao : AO} (h : ao.kind ≠ 0) : light g ao = none := by
  cases ao <;> first | rfl | (exact absurd rfl h)

theorem aop_reader {call : FuncId → List AV → Mem → Option (AV × Mem)} {g : X → AV} {m m' : Mem} {ao : AO} {v : AV} (hk : ao.kind = 1) (h : aop call g m ao = some (v, m')) :
    m' = m ∧ memop g m.H ao = some v := by
  unfold aop at *
  rw [light_none (by omega)] at h
  cases e : memop g m.H ao with
  | some u => simp only [e] at h; cases h; exact ⟨rfl, rfl⟩
  | none =>
    simp only [e] at h
    rw [making_none (by omega), heavy_none (by omega)] at h
    cases h

theorem reader_aop {call : FuncId → List AV → Mem → Option (AV × Mem)} {g : X → AV} {m : Mem} {ao : AO} {v : AV} (hk : ao.kind = 1) (h : memop g m.H ao = some v) :
    aop call g m ao = some (v, m) := by
  unfold aop
  rw [light_none (by omega)]
  simp only [h]

theorem findD_some {t : Tmp} (dn : List DItem) : ∀ {p0 p : Nat} {it : DItem}, findD t dn p0 = some (p, it) → p0 ≤ p ∧ dn[p - p0]? = some it ∧ it.dst = some t := by
  induction dn with
  | nil => intro p0 p it h; cases h
  | cons it0 rest ih =>
    intro p0 p it h
    rw [findD] at h
    by_cases e : it0.dst = some t
    · rw [if_pos e] at h
      have h1 := Option.some.inj h
      have h2 : p0 = p := congrArg Prod.fst h1
      have h3 : it0 = it := congrArg Prod.snd h1
      subst h2 h3
      exact ⟨Nat.le_refl _, by rw [Nat.sub_self]; rfl, e⟩
    · rw [if_neg e] at h
      obtain ⟨h1, h2, h3⟩ := ih h
      refine ⟨by omega, ?_, h3⟩
      rw [show p - p0 = (p - (p0 + 1)) + 1 by omega, List.getElem?_cons_succ]
      exact h2

theorem findD_none {t : Tmp} : ∀ {dn : List DItem} {p0 : Nat}, findD t dn p0 = none → ∀ it ∈ dn, it.dst ≠ some t
  | [], p0, h, it, hi => by cases hi
  | it0 :: rest, p0, h, it, hi => by
    unfold findD at h
    split at h
    · cases h
    · rename_i e
      rcases List.mem_cons.mp hi with rfl | hi
      · exact e
      · exact findD_none h it hi

theorem agains_mem {A : List Nat} (dn : List DItem) : ∀ {p0 p : Nat} {it : DItem}, dn[p]? = some it → it.ao.kind = 1 → it.idx ∉ A → (p0 + p, ⟨it.ao, it.gd⟩) ∈ agains A dn p0 := by
  induction dn with
  | nil => intro p0 p it h; rw [List.getElem?_nil] at h; cases h
  | cons it0 rest ih =>
    intro p0 p it h hk hA
    cases p with
    | zero =>
      rw [List.getElem?_cons_zero] at h
      have h1 := Option.some.inj h
      subst h1
      rw [agains, if_pos ⟨hk, by simpa using hA⟩]
      exact List.mem_cons_self
    | succ p =>
      rw [List.getElem?_cons_succ] at h
      have := ih (p0 := p0 + 1) h hk hA
      rw [show p0 + 1 + p = p0 + (p + 1) by omega] at this
      rw [agains]
      split
      · exact List.mem_cons_of_mem _ this
      · exact this

/-- a block that is made already, though the memory does not tell of it yet -/
structure Pend (ι : Emb) (m : Mem) (w : World) (c : Nat) (zero : List AV) : Prop where
  low : c < w.heap.size
  out : ∀ (b : Nat) cs wr d, m.H[b]? = some (Blk.cells cs wr) → ι[b]? ≠ some (some (c, d))
  cells : CellsAt ι w c 0 zero true

theorem Pend.notImg {ι : Emb} {m : Mem} {w : World} {c : Nat} {zero : List AV} (h : Pend ι m w c zero) : ¬ Img ι m c := by
  rintro ⟨b, cs, d, h1, h2⟩
  exact h.out b cs true d h1 h2

theorem Pend.ext {ι ι' : Emb} {m m' : Mem} {w w' : World} {c : Nat} {zero : List AV} (R : Rel ι m w) (E : Ext ι m w ι' m' w') (G : Grow m m') (h : Pend ι m w c zero) : Pend ι' m' w' c zero := by
  refine ⟨Nat.lt_of_lt_of_le h.low E.size, ?_, h.cells.mono E.le E.shapes (E.frame c h.low h.notImg)⟩
  intro b cs wr d hb hi
  cases wr with
  | true =>
    rcases E.img c ⟨b, cs, d, hb, hi⟩ with h1 | h1
    · exact h.notImg h1
    · have := h.low; omega
  | false =>
    have h1 := G.ro b cs hb
    obtain ⟨c0, d0, h2, _⟩ := R.at' b cs false h1
    have h3 := E.le b _ h2
    rw [hi] at h3
    cases h3
    exact h.out b cs false d h1 h2

theorem Rel.more {ι : Emb} {m : Mem} {w : World} (h : Rel ι m w) (o : Obj) : Rel ι m (w.alloc o) ∧ Ext ι m w ι m (w.alloc o) := by
  have hsh := shapes_alloc w o
  refine ⟨⟨h.len, fun b c d hb => ?_, fun b cs wr hb => ?_, h.inj⟩, ⟨Emb.le_refl _, Nat.le_refl _, ?_, hsh, fun r hr => .inl hr, fun r hr _ => heap_alloc_old w o r hr, rfl, rfl, rfl⟩⟩
  · have := h.low b c d hb
    rw [World.size_alloc]; omega
  · obtain ⟨c, d, h1, h2⟩ := h.at' b cs wr hb
    exact ⟨c, d, h1, h2.mono (Emb.le_refl _) hsh (heap_alloc_old w o c (h.low b c d h1))⟩
  · rw [World.size_alloc]; omega

theorem Pend.commit {ι : Emb} {m : Mem} {w : World} {c : Nat} {zero : List AV} (R : Rel ι m w) (h : Pend ι m w c zero) :
    Emb.le ι (ι ++ [some (c, 0)]) ∧ Rel (ι ++ [some (c, 0)]) (newBlk m zero) w ∧
    (∀ {ι0 : Emb} {m0 : Mem} {w0 : World}, Ext ι0 m0 w0 ι m w → w0.heap.size ≤ c → Ext ι0 m0 w0 (ι ++ [some (c, 0)]) (newBlk m zero) w) ∧
    (∀ {c' : Nat} {zero' : List AV}, Pend ι m w c' zero' → c ≠ c' → Pend (ι ++ [some (c, 0)]) (newBlk m zero) w c' zero') := by
  have hle : Emb.le ι (ι ++ [some (c, 0)]) := fun b p hb => by
    rw [List.getElem?_append_left]; exact hb
    exact (List.getElem?_eq_some_iff.mp hb).1
  have key : ∀ b : Nat, (ι ++ [some (c, 0)])[b]? = if b < ι.length then ι[b]? else if b = ι.length then some (some (c, 0)) else none := by
    intro b
    by_cases h1 : b < ι.length
    · rw [if_pos h1, List.getElem?_append_left h1]
    · rw [if_neg h1, List.getElem?_append_right (by omega)]
      by_cases h2 : b = ι.length
      · subst h2; simp
      · rw [if_neg h2]; rw [List.getElem?_eq_none]; simp; omega
  have keyH : ∀ b : Nat, (newBlk m zero).H[b]? = if b < ι.length then m.H[b]? else if b = ι.length then some (.cells zero true) else none := by
    intro b
    simp only [newBlk]
    by_cases h1 : b < ι.length
    · rw [if_pos h1, List.getElem?_append_left (by rw [← R.len]; exact h1)]
    · rw [if_neg h1, List.getElem?_append_right (by rw [← R.len]; omega)]
      by_cases h2 : b = ι.length
      · subst h2; simp [R.len]
      · rw [if_neg h2]; rw [List.getElem?_eq_none]; simp [← R.len]; omega
  refine ⟨hle, ⟨by simp [newBlk, R.len], ?_, ?_, ?_⟩, ?_, ?_⟩
  · intro b c1 d hb
    rw [key] at hb
    split at hb
    · exact R.low b c1 d hb
    · split at hb
      · cases hb; exact h.low
      · cases hb
  · intro b cs' wr hb
    rw [keyH] at hb
    split at hb
    · obtain ⟨c1, d, h1, h2⟩ := R.at' b cs' wr hb
      exact ⟨c1, d, hle _ _ h1, h2.mono hle (Shapes.refl _) rfl⟩
    · split at hb
      · rename_i hlt heq
        cases hb
        exact ⟨c, 0, by rw [key, if_neg hlt, if_pos heq], h.cells.mono hle (Shapes.refl _) rfl⟩
      · cases hb
  · intro b b' cs₁ cs₂ wr c1 d c' d' hne hb hb' hi hi'
    rw [keyH] at hb hb'
    rw [key] at hi hi'
    by_cases h1 : b < ι.length <;> by_cases h2 : b' < ι.length
    · rw [if_pos h1] at hb hi; rw [if_pos h2] at hb' hi'
      exact R.inj b b' cs₁ cs₂ wr c1 d c' d' hne hb hb' hi hi'
    · rw [if_pos h1] at hb hi; rw [if_neg h2] at hb' hi'
      split at hi'
      · cases hi'
        intro e
        subst e
        exact h.out b cs₁ true d hb hi
      · cases hi'
    · rw [if_neg h1] at hb hi; rw [if_pos h2] at hb' hi'
      split at hi
      · cases hi
        intro e
        subst e
        exact h.out b' cs₂ wr d' hb' hi'
      · cases hi
    · rw [if_neg h1] at hb hi; rw [if_neg h2] at hb' hi'
      split at hi
      · split at hi'
        · omega
        · cases hi'
      · cases hi
  · intro ι0 m0 w0 E hc
    refine ⟨Emb.le_trans E.le hle, by simp; have := E.grow; omega, E.size, E.shapes, ?_, E.frame, E.os, E.tape, E.output⟩
    rintro r ⟨b, cs', d, hb, hi⟩
    rw [keyH] at hb
    rw [key] at hi
    split at hb
    · rename_i hlt
      rw [if_pos hlt] at hi
      exact E.img r ⟨b, cs', d, hb, hi⟩
    · rename_i hlt
      rw [if_neg hlt] at hi
      split at hi
      · cases hi; exact .inr hc
      · cases hi
  · intro c' zero' h' hne
    refine ⟨h'.low, ?_, h'.cells.mono hle (Shapes.refl _) rfl⟩
    intro b cs wr d hb hi
    rw [keyH] at hb
    rw [key] at hi
    split at hb
    · rename_i hlt
      rw [if_pos hlt] at hi
      exact h'.out b cs wr d hb hi
    · rename_i hlt
      rw [if_neg hlt] at hi
      split at hi
      · cases hi; exact hne rfl
      · cases hi

/-- the state of a region on its way -/
structure DInv (nt : Nat) (keep : List Nat) (tm : List AV) (items : List DItem) (L : List AV) (mm : Nat → Mem) (ι0 : Emb) (w0 : World) (n : Nat)
    (listed : Array Bool) (s : Nat) (pend : List (Nat × Nat)) (ι : Emb) (w : World) (a : Act) : Prop where
  size : listed.size = n
  rel : Rel ι (mm s) w
  ext : Ext ι0 (mm 0) w0 ι (mm s) w
  closed : ∀ (p : Nat) it, items[p]? = some it → listed.getD it.idx false = true → ∀ x ∈ it.anc, listed.getD x false = true
  before : ∀ (p : Nat) it, items[p]? = some it → 2 ≤ it.ao.kind → (listed.getD it.idx false = true ↔ (p < s ∨ ∃ c, (p, c) ∈ pend))
  behind : s = 0 ∨ ∃ it, items[s - 1]? = some it ∧ 2 ≤ it.ao.kind
  vals : ∀ (p : Nat) it d, items[p]? = some it → listed.getD it.idx false = true → (∀ c, (p, c) ∉ pend) → it.dst = some d → V ι w ((L[p]?).getD .undef) (a.eval (.tmp d))
  kept : ∀ t k, keep.idxOf? t = some k → (∀ (p : Nat) it, items[p]? = some it → it.dst = some t → listed.getD it.idx false = false) → V ι w ((tm[k]?).getD .undef) (a.eval (.tmp t))
  nts : nt ≤ a.tmps.size
  defers : a.defers = []
  pok : ∀ (p c : Nat), (p, c) ∈ pend → s ≤ p ∧ w0.heap.size ≤ c ∧ ∃ it zero, items[p]? = some it ∧ it.late = true ∧ it.ao = .alloc zero ∧ listed.getD it.idx false = true ∧ Pend ι (mm s) w c zero ∧
    ∀ d, it.dst = some d → a.eval (.tmp d) = .pointer (some ⟨c, 0, none⟩)
  pdis : ∀ (p c p' c' : Nat), (p, c) ∈ pend → (p', c') ∈ pend → (p = p' ↔ c = c')

theorem getD_set_self {listed : Array Bool} {i : Nat} (h : i < listed.size) : (listed.setIfInBounds i true).getD i false = true := by simp [h]

section
variable {nt : Nat} {keep : List Nat} {ops : Array Oper} {tm : List AV} {items : List DItem} {L : List AV} {mm : Nat → Mem} {ι0 : Emb} {w0 : World}
  (hok : ∀ p it, items[p]? = some it → ∃ o, ItemOk P nt keep ops (items.take p) it o)
include hok

theorem idx_inj {p q : Nat} {it it' : DItem} (hp : items[p]? = some it) (hq : items[q]? = some it') (he : it.idx = it'.idx) : p = q := by
  rcases Nat.lt_trichotomy p q with h | h | h
  · obtain ⟨o, k⟩ := hok q it' hq
    refine absurd he (k.new it ?_)
    exact List.mem_of_getElem? (i := p) (by rw [List.getElem?_take_of_lt h]; exact hp)
  · exact h
  · obtain ⟨o, k⟩ := hok p it hp
    refine absurd he.symm (k.new it' ?_)
    exact List.mem_of_getElem? (i := q) (by rw [List.getElem?_take_of_lt h]; exact hq)

theorem dst_inj {p q : Nat} {it it' : DItem} {d : Tmp} (hp : items[p]? = some it) (hq : items[q]? = some it') (h1 : it.dst = some d) (h2 : it'.dst = some d) : p = q := by
  have key : ∀ {p q : Nat} {it it' : DItem}, items[p]? = some it → items[q]? = some it' → it.dst = some d → it'.dst = some d → p < q → False := by
    intro p q it it' hp hq h1 h2 h
    obtain ⟨o, k⟩ := hok q it' hq
    have hf := k.free
    rw [h2] at hf
    simp only [dstFree, List.all_eq_true, Bool.and_eq_true, bne_iff_ne] at hf
    exact (hf it (List.mem_of_getElem? (i := p) (by rw [List.getElem?_take_of_lt h]; exact hp))).1 h1
  rcases Nat.lt_trichotomy p q with h | h | h
  · exact (key hp hq h1 h2 h).elim
  · exact h
  · exact (key hq hp h2 h1 h).elim

omit hok in
/-- whom an operation waits for is listed -/
theorem DInv.anc {listed : Array Bool} {s : Nat} {pend : List (Nat × Nat)} {ι : Emb} {w : World} {a : Act} (D : DInv nt keep tm items L mm ι0 w0 ops.size listed s pend ι w a) {p : Nat} {it : DItem} {o : Oper}
    (hp : items[p]? = some it) (k : ItemOk P nt keep ops (items.take p) it o) (hw : ∀ x ∈ waitsFor o, listed.getD x false = true) : ∀ x ∈ it.anc, listed.getD x false = true := by
  intro x hx
  rcases ancOf_inv k.anc x hx with h | ⟨it', h1, h2, h3⟩
  · exact hw x h
  · obtain ⟨q, hq⟩ := List.getElem?_of_mem h1
    have hlt : q < p := by
      have := (List.getElem?_eq_some_iff.mp hq).1
      simp at this; omega
    rw [List.getElem?_take_of_lt hlt] at hq
    exact D.closed q it' hq (hw _ h2) x h3

/-- what an operation that may come up looks at -/
theorem DInv.looks {listed : Array Bool} {s : Nat} {pend : List (Nat × Nat)} {ι : Emb} {w : World} {a : Act} (D : DInv nt keep tm items L mm ι0 w0 ops.size listed s pend ι w a) {p : Nat} {it : DItem} {o : Oper}
    (hp : items[p]? = some it) (k : ItemOk P nt keep ops (items.take p) it o) (hanc : ∀ x ∈ it.anc, listed.getD x false = true) (hun : listed.getD it.idx false = false)
    (hnp : ∀ (i : Nat) it', i < p → items[i]? = some it' → it'.idx ∈ it.anc → ∀ c, (i, c) ∉ pend) {q : Nat} (hq : p ≤ q) :
    OkX ι w (cxD keep (items.take p) it.anc it.reads) (get tm (L.take q)) a.eval := by
  intro x y hx
  cases x with
  | tmp t =>
    simp only [cxD] at hx
    split at hx
    · rename_i hr
      split at hx
      · rename_i i it' hf
        obtain ⟨_, h2, h3⟩ := findD_some _ hf
        rw [Nat.sub_zero] at h2
        have hlt : i < p := by
          have := (List.getElem?_eq_some_iff.mp h2).1
          simp at this; omega
        rw [List.getElem?_take_of_lt hlt] at h2
        split at hx
        · rename_i hA
          cases hx
          have := D.vals i it' t h2 (hanc _ (by simpa using hA)) (hnp i it' hlt h2 (by simpa using hA)) h3
          simp only [get]
          rw [List.getElem?_take_of_lt (by omega)]
          exact this
        · cases hx
      · rename_i hf
        have hnone := findD_none hf
        split at hx
        · rename_i s' hs
          cases hx
          refine D.kept t s' hs fun i it' hi hd => ?_
          rcases Nat.lt_trichotomy i p with h | h | h
          · exact absurd hd (hnone it' (List.mem_of_getElem? (i := i) (by rw [List.getElem?_take_of_lt h]; exact hi)))
          · subst h
            rw [hp] at hi
            cases hi
            exact hun
          · obtain ⟨o', k'⟩ := hok i it' hi
            have hfr := k'.free
            rw [hd] at hfr
            simp only [dstFree, List.all_eq_true, Bool.and_eq_true, Bool.or_eq_true, Bool.not_eq_true'] at hfr
            have h4 := (hfr it (List.mem_of_getElem? (i := p) (by rw [List.getElem?_take_of_lt h]; exact hp))).2
            have h5 : it.idx ∈ it'.anc := by
              rcases h4 with h4 | h4
              · rw [hr] at h4; cases h4
              · simpa using h4
            cases hl : listed.getD it'.idx false with
            | false => rfl
            | true =>
              have := D.closed i it' hi hl _ h5
              rw [hun] at this
              cases this
        · cases hx; trivial
    · cases hx
  | const v =>
    simp only [cxD, Option.map_eq_some_iff] at hx
    obtain ⟨a', ha, rfl⟩ := hx
    exact V.ofConst ha
  | func f => cases hx; exact ⟨[], [], rfl, rfl, rfl⟩
  | global g => cases hx

/-- behind an operation -/
theorem DInv.next {listed : Array Bool} {s s' : Nat} {pend : List (Nat × Nat)} {ι ι' : Emb} {w w' : World} {a : Act} (D : DInv nt keep tm items L mm ι0 w0 ops.size listed s pend ι w a) {p : Nat} {it : DItem} {o : Oper}
    (hp : items[p]? = some it) (k : ItemOk P nt keep ops (items.take p) it o) (hanc : ∀ x ∈ it.anc, listed.getD x false = true) (hun : listed.getD it.idx false = false)
    {v' : Value} (hv : V ι' w' ((L[p]?).getD .undef) v') (R : Rel ι' (mm s') w') (E : Ext ι (mm s) w ι' (mm s') w') (G : Grow (mm s) (mm s'))
    (hs : (it.ao.kind < 2 ∧ s' = s) ∨ (2 ≤ it.ao.kind ∧ s' = p + 1 ∧ s ≤ p ∧ ∀ (q : Nat) it', items[q]? = some it' → 2 ≤ it'.ao.kind → s ≤ q → p ≤ q)) :
    DInv nt keep tm items L mm ι0 w0 ops.size (listed.setIfInBounds it.idx true) s' pend ι' w' (a.put o.dst v') := by
  have hlt : it.idx < listed.size := by
    rw [D.size]
    exact (Array.getElem?_eq_some_iff.mp k.op).1
  have hput : ∀ t, o.dst ≠ some t → (a.put o.dst v').eval (.tmp t) = a.eval (.tmp t) := by
    intro t ht
    cases hd : o.dst with
    | none => rfl
    | some d => exact eval_put_other a d t v' (fun e => ht (by rw [hd, e]))
  have hlisted : ∀ x, (listed.setIfInBounds it.idx true).getD x false = true → x = it.idx ∨ listed.getD x false = true := by
    intro x hx
    by_cases h : x = it.idx
    · exact .inl h
    · rw [getD_set_ne false (fun e => h e.symm)] at hx; exact .inr hx
  have hnot : ∀ q c, (q, c) ∈ pend → q ≠ p := by
    intro q c hq e
    obtain ⟨_, _, it', zero, h1, _, _, h2, _⟩ := D.pok q c hq
    rw [e, hp] at h1
    cases h1
    rw [hun] at h2
    cases h2
  refine ⟨by simpa using D.size, R, D.ext.trans E, ?_, ?_, ?_, ?_, ?_, ?_, ?_, ?_, D.pdis⟩
  · intro q it' hq hl x hx
    rcases hlisted _ hl with h | h
    · have := idx_inj hok hq hp h
      subst this
      rw [hp] at hq; cases hq
      exact getD_set_true (hanc x hx)
    · exact getD_set_true (D.closed q it' hq h x hx)
  · intro q it' hq hk
    by_cases hqp : q = p
    · subst hqp
      rw [hp] at hq; cases hq
      rw [getD_set_self hlt]
      rcases hs with ⟨h1, _⟩ | ⟨_, h2, _⟩
      · omega
      · simp [h2]
    · have hne : it'.idx ≠ it.idx := fun e => hqp (idx_inj hok hq hp e)
      rw [getD_set_ne false (fun e => hne e.symm), D.before q it' hq hk]
      rcases hs with ⟨_, h2⟩ | ⟨h1, h2, h3, h4⟩
      · rw [h2]
      · subst h2
        constructor
        · rintro (h | h)
          · left; omega
          · exact .inr h
        · rintro (h | h)
          · left
            rcases Nat.lt_or_ge q s with h5 | h5
            · exact h5
            · have := h4 q it' hq hk h5; omega
          · exact .inr h
  · rcases hs with ⟨_, h2⟩ | ⟨h1, h2, _⟩
    · rw [h2]; exact D.behind
    · right
      subst h2
      exact ⟨it, by simpa using hp, h1⟩
  · intro q it' d hq hl hnp hd
    by_cases hqp : q = p
    · subst hqp
      rw [hp] at hq; cases hq
      have hod : o.dst = some d := by rw [← k.dst]; exact hd
      rw [hod, eval_put_self a d v' (by have := k.dok; rw [hod] at this; simp [dstOk] at this; exact Nat.lt_of_lt_of_le this D.nts)]
      exact hv
    · rcases hlisted _ hl with h | h
      · exact absurd (idx_inj hok hq hp h) hqp
      · rw [hput d (fun e => hqp (dst_inj hok hq hp hd (by rw [k.dst]; exact e)))]
        exact V.mono E.le E.shapes _ _ (D.vals q it' d hq h hnp hd)
  · intro t i hi hall
    have hnot : o.dst ≠ some t := by
      intro e
      have := hall p it hp (by rw [k.dst]; exact e)
      rw [getD_set_self hlt] at this
      cases this
    rw [hput t hnot]
    refine V.mono E.le E.shapes _ _ (D.kept t i hi fun q it' hq hd => ?_)
    cases hl : listed.getD it'.idx false with
    | false => rfl
    | true =>
      have := hall q it' hq hd
      rw [getD_set_true hl] at this
      cases this
  · have : (a.put o.dst v').tmps.size = a.tmps.size := by
      cases o.dst <;> simp [Act.put]
    rw [this]; exact D.nts
  · have : (a.put o.dst v').defers = a.defers := by
      cases o.dst <;> rfl
    rw [this]; exact D.defers
  · intro q c hq
    obtain ⟨h1, h2, it', zero, h3, h4, h5, h6, h7, h8⟩ := D.pok q c hq
    have hqp := hnot q c hq
    refine ⟨?_, h2, it', zero, h3, h4, h5, getD_set_true h6, h7.ext D.rel E G, fun d hd => ?_⟩
    · rcases hs with ⟨_, h⟩ | ⟨_, h, _, h'⟩
      · rw [h]; exact h1
      · have := h' q it' h3 (by rw [h5]; exact Nat.le_refl _) h1
        omega
    · rw [hput d (fun e => hqp (dst_inj hok h3 hp hd (by rw [k.dst]; exact e)))]
      exact h8 d hd

/-- a block made ahead of its place -/
theorem DInv.ahead {listed : Array Bool} {s : Nat} {pend : List (Nat × Nat)} {ι : Emb} {w : World} {a : Act} (D : DInv nt keep tm items L mm ι0 w0 ops.size listed s pend ι w a) {p : Nat} {it : DItem} {o : Oper}
    (hp : items[p]? = some it) (k : ItemOk P nt keep ops (items.take p) it o) (hanc : ∀ x ∈ it.anc, listed.getD x false = true) (hun : listed.getD it.idx false = false)
    {zero : List AV} (hl : it.late = true) (hz : it.ao = .alloc zero) (hsp : s ≤ p) {vs : List Value} {e : TypeId} (hvs : VL ι w zero vs) (hcell : zero.all AV.isCell = true) {v' : Value} (hv' : v' = .pointer (some ⟨w.heap.size, 0, none⟩)) :
    DInv nt keep tm items L mm ι0 w0 ops.size (listed.setIfInBounds it.idx true) s ((p, w.heap.size) :: pend) ι (w.alloc (.cells vs.toArray e)) (a.put o.dst v') := by
  obtain ⟨hr, hE⟩ := D.rel.more (.cells vs.toArray e)
  have hlt : it.idx < listed.size := by
    rw [D.size]
    exact (Array.getElem?_eq_some_iff.mp k.op).1
  have hput : ∀ t, o.dst ≠ some t → (a.put o.dst v').eval (.tmp t) = a.eval (.tmp t) := by
    intro t ht
    cases hd : o.dst with
    | none => rfl
    | some d => exact eval_put_other a d t v' (fun e => ht (by rw [hd, e]))
  have hlisted : ∀ x, (listed.setIfInBounds it.idx true).getD x false = true → x = it.idx ∨ listed.getD x false = true := by
    intro x hx
    by_cases h : x = it.idx
    · exact .inl h
    · rw [getD_set_ne false (fun e => h e.symm)] at hx; exact .inr hx
  have hnot : ∀ q c, (q, c) ∈ pend → q ≠ p := by
    intro q c hq e
    obtain ⟨_, _, it', zero, h1, _, _, h2, _⟩ := D.pok q c hq
    rw [e, hp] at h1
    cases h1
    rw [hun] at h2
    cases h2
  refine ⟨by simpa using D.size, hr, D.ext.trans hE, ?_, ?_, D.behind, ?_, ?_, ?_, ?_, ?_, ?_⟩
  · intro q it' hq hl x hx
    rcases hlisted _ hl with h | h
    · have := idx_inj hok hq hp h
      subst this
      rw [hp] at hq; cases hq
      exact getD_set_true (hanc x hx)
    · exact getD_set_true (D.closed q it' hq h x hx)
  · intro q it' hq hk
    by_cases hqp : q = p
    · subst hqp
      rw [hp] at hq; cases hq
      rw [getD_set_self hlt]
      simp
    · have hne : it'.idx ≠ it.idx := fun e => hqp (idx_inj hok hq hp e)
      rw [getD_set_ne false (fun e => hne e.symm), D.before q it' hq hk]
      constructor
      · rintro (h | ⟨c, h⟩)
        · exact .inl h
        · exact .inr ⟨c, List.mem_cons_of_mem _ h⟩
      · rintro (h | ⟨c, h⟩)
        · exact .inl h
        · rcases List.mem_cons.mp h with h | h
          · cases h; exact absurd rfl hqp
          · exact .inr ⟨c, h⟩
  · intro q it' d hq hl hnp hd
    by_cases hqp : q = p
    · subst hqp
      exact absurd List.mem_cons_self (hnp w.heap.size)
    · rcases hlisted _ hl with h | h
      · exact absurd (idx_inj hok hq hp h) hqp
      · rw [hput d (fun e => hqp (dst_inj hok hq hp hd (by rw [k.dst]; exact e)))]
        exact V.mono hE.le hE.shapes _ _ (D.vals q it' d hq h (fun c hc => hnp c (List.mem_cons_of_mem _ hc)) hd)
  · intro t i hi hall
    have hnot : o.dst ≠ some t := by
      intro e
      have := hall p it hp (by rw [k.dst]; exact e)
      rw [getD_set_self hlt] at this
      cases this
    rw [hput t hnot]
    refine V.mono hE.le hE.shapes _ _ (D.kept t i hi fun q it' hq hd => ?_)
    cases hl : listed.getD it'.idx false with
    | false => rfl
    | true =>
      have := hall q it' hq hd
      rw [getD_set_true hl] at this
      cases this
  · have : (a.put o.dst v').tmps.size = a.tmps.size := by
      cases o.dst <;> simp [Act.put]
    rw [this]; exact D.nts
  · have : (a.put o.dst v').defers = a.defers := by
      cases o.dst <;> rfl
    rw [this]; exact D.defers
  · intro q c hq
    rcases List.mem_cons.mp hq with h | hq
    · cases h
      have hnew : (w.alloc (.cells vs.toArray e)).heap[w.heap.size]? = some (.cells vs.toArray e) := heap_alloc_new _ _
      refine ⟨hsp, D.ext.size, it, zero, hp, hl, hz, getD_set_self hlt, ⟨by rw [World.size_alloc]; omega, ?_, ⟨vs, VL.mono (Emb.le_refl _) hE.shapes _ _ hvs, fun j v hj => ?_⟩, hcell, fun _ => ⟨e, vs.length, ?_, fun o ho => ?_⟩⟩, fun d hd => ?_⟩
      · intro b cs wr d hb hi
        have := D.rel.low b _ d hi
        omega
      · rw [Nat.zero_add]
        simp only [World.cell?, hnew, Option.isSome_none, Bool.false_eq_true, if_false]
        rw [List.getElem?_toArray]
        exact hj
      · unfold World.shape?; rw [hnew]; simp
      · unfold World.frozen?; simp only [hnew]
        simp
      · have hod : o.dst = some d := by rw [← k.dst]; exact hd
        rw [hod, eval_put_self a d v' (by have := k.dok; rw [hod] at this; simp [dstOk] at this; exact Nat.lt_of_lt_of_le this D.nts)]
        exact hv'
    · obtain ⟨h1, h2, it', zero', h3, h4, h5, h6, h7, h8⟩ := D.pok q c hq
      have hqp := hnot q c hq
      refine ⟨h1, h2, it', zero', h3, h4, h5, getD_set_true h6, h7.ext D.rel hE (Grow.refl _), fun d hd => ?_⟩
      rw [hput d (fun e => hqp (dst_inj hok h3 hp hd (by rw [k.dst]; exact e)))]
      exact h8 d hd
  · intro q c q' c' hq hq'
    rcases List.mem_cons.mp hq with h | hq <;> rcases List.mem_cons.mp hq' with h' | hq'
    · cases h; cases h'; simp
    · cases h
      have h1 := hnot q' c' hq'
      obtain ⟨_, _, _, _, _, _, _, _, h2, _⟩ := D.pok q' c' hq'
      have h3 := h2.low
      constructor
      · intro e; exact absurd e.symm h1
      · intro e; omega
    · cases h'
      have h1 := hnot q c hq
      obtain ⟨_, _, _, _, _, _, _, _, h2, _⟩ := D.pok q c hq
      have h3 := h2.low
      constructor
      · intro e; exact absurd e h1
      · intro e; omega
    · exact D.pdis q c q' c' hq hq'

section
variable {call : FuncId → List AV → Mem → Option (AV × Mem)}
  (htr : ∀ (p : Nat) it, items[p]? = some it → Told call tm L mm p it.ao it.gd it.again)
include htr

omit hok in
theorem mm_same {s : Nat} : ∀ {q : Nat}, s ≤ q → q ≤ items.length → (∀ (i : Nat) it, items[i]? = some it → 2 ≤ it.ao.kind → s ≤ i → q ≤ i) → mm q = mm s := by
  intro q hsq
  induction hsq with
  | refl => intros; rfl
  | @step q hsq ih =>
    intro hl hno
    have hlt : q < items.length := by omega
    obtain ⟨v, _, h2, _⟩ := htr q items[q] (List.getElem?_eq_getElem hlt)
    have hk : ¬ 2 ≤ items[q].ao.kind := fun h => by
      have := hno q items[q] (List.getElem?_eq_getElem hlt) h hsq; omega
    have h3 : mm (q + 1) = mm q := by
      rcases h2 with ⟨_, h2⟩ | ⟨_, _, h2⟩
      · by_cases h0 : items[q].ao.kind = 0
        · exact (aop_light h0 h2).1
        · exact (aop_reader (by omega) h2).1
      · exact h2
    rw [h3]
    refine ih (by omega) fun i it hi hk' hsi => ?_
    have := hno i it hi hk' hsi
    omega

/-- the memory comes to tell of a block made ahead -/
theorem DInv.commit {listed : Array Bool} {s : Nat} {pend : List (Nat × Nat)} {ι : Emb} {w : World} {a : Act} (D : DInv nt keep tm items L mm ι0 w0 ops.size listed s pend ι w a) {p c : Nat} (hpc : (p, c) ∈ pend)
    (hmin : ∀ (q : Nat) it', items[q]? = some it' → 2 ≤ it'.ao.kind → s ≤ q → p ≤ q) : ∃ ι' pend', DInv nt keep tm items L mm ι0 w0 ops.size listed (p + 1) pend' ι' w a := by
  obtain ⟨hsp, hc0, it, zero, hp, hl, hz, hli, hP, hval⟩ := D.pok p c hpc
  obtain ⟨o, k⟩ := hok p it hp
  have hple : p < items.length := (List.getElem?_eq_some_iff.mp hp).1
  have hsame : mm p = mm s := mm_same htr hsp (Nat.le_of_lt hple) hmin
  obtain ⟨v, hv, hop, _⟩ := htr p it hp
  have hgd := (k.late hl).2
  have hk2 : 2 ≤ it.ao.kind := by rw [hz]; exact Nat.le_refl _
  have hmake : v = .ptr (some ((mm s).H.length, 0)) ∧ mm (p + 1) = newBlk (mm s) zero := by
    rcases hop with ⟨_, hop⟩ | ⟨hop, _⟩
    · rw [hz, hsame] at hop
      have h2 : aop call (get tm (L.take p)) (mm s) (.alloc zero) = some (.ptr (some ((mm s).H.length, 0)), newBlk (mm s) zero) := rfl
      rw [h2] at hop
      have e := Option.some.inj hop
      exact ⟨(congrArg Prod.fst e).symm, (congrArg Prod.snd e).symm⟩
    · rw [hgd] at hop
      cases hop
  obtain ⟨rfl, hmm⟩ := hmake
  obtain ⟨c1, c2, c3, c4⟩ := hP.commit D.rel
  refine ⟨ι ++ [some (c, 0)], pend.filter (fun x => x.1 ≠ p), ⟨D.size, by rw [hmm]; exact c2, by rw [hmm]; exact c3 D.ext hc0, D.closed, ?_, ?_, ?_, ?_, D.nts, D.defers, ?_, ?_⟩⟩
  · intro q it' hq hk
    rw [D.before q it' hq hk]
    constructor
    · rintro (h | ⟨c', h⟩)
      · left; omega
      · by_cases hqp : q = p
        · left; omega
        · right; exact ⟨c', List.mem_filter.mpr ⟨h, by simpa using hqp⟩⟩
    · rintro (h | ⟨c', h⟩)
      · rcases Nat.lt_or_ge q s with h5 | h5
        · exact .inl h5
        · have h6 := hmin q it' hq hk h5
          have h7 : q = p := by omega
          subst h7
          exact .inr ⟨c, hpc⟩
      · exact .inr ⟨c', (List.mem_filter.mp h).1⟩
  · right
    exact ⟨it, by simpa using hp, hk2⟩
  · intro q it' d hq hl' hnp hd
    by_cases hqp : q = p
    · subst hqp
      rw [hp] at hq; cases hq
      rw [hv, hval d hd]
      refine ⟨c, 0, ?_, rfl⟩
      rw [← D.rel.len]
      exact emb_last _ _
    · refine V.mono c1 (Shapes.refl _) _ _ (D.vals q it' d hq hl' (fun c' hc' => hnp c' ?_) hd)
      exact List.mem_filter.mpr ⟨hc', by simpa using hqp⟩
  · intro t i hi hall
    exact V.mono c1 (Shapes.refl _) _ _ (D.kept t i hi hall)
  · intro q c' hq
    obtain ⟨h0, hne⟩ := List.mem_filter.mp hq
    have hqp : q ≠ p := by simpa using hne
    obtain ⟨h1, h2, it', zero', h3, h4, h5, h6, h7, h8⟩ := D.pok q c' h0
    have h9 := hmin q it' h3 (by rw [h5]; exact Nat.le_refl _) h1
    refine ⟨by omega, h2, it', zero', h3, h4, h5, h6, ?_, h8⟩
    rw [hmm]
    exact c4 h7 (fun e => hqp ((D.pdis p c q c' hpc h0).mpr e).symm)
  · intro q c1 q' c1' hq hq'
    exact D.pdis q c1 q' c1' (List.mem_filter.mp hq).1 (List.mem_filter.mp hq').1

/-- the memory comes to tell of all blocks made ahead, as far as all others before them are made -/
theorem DInv.catch {listed : Array Bool} {w : World} {a : Act} : ∀ (q : Nat) {s : Nat} {pend : List (Nat × Nat)} {ι : Emb}, DInv nt keep tm items L mm ι0 w0 ops.size listed s pend ι w a →
    (∀ (i : Nat) it, items[i]? = some it → 2 ≤ it.ao.kind → i < q → listed.getD it.idx false = true) →
    ∃ s' pend' ι', DInv nt keep tm items L mm ι0 w0 ops.size listed s' pend' ι' w a ∧ ∀ (i : Nat) it, items[i]? = some it → 2 ≤ it.ao.kind → i < q → i < s'
  | 0, s, pend, ι, D, _ => ⟨s, pend, ι, D, fun i it _ _ h => by omega⟩
  | q + 1, s, pend, ι, D, hall => by
    obtain ⟨s1, pend1, ι1, D1, h1⟩ := DInv.catch q D (fun i it hi hk hlt => hall i it hi hk (by omega))
    cases hq : items[q]? with
    | none =>
      refine ⟨s1, pend1, ι1, D1, fun i it hi hk hlt => ?_⟩
      rcases Nat.lt_or_ge i q with h | h
      · exact h1 i it hi hk h
      · have : i = q := by omega
        subst this
        rw [hq] at hi; cases hi
    | some it =>
      by_cases hk : 2 ≤ it.ao.kind
      · rcases (D1.before q it hq hk).mp (hall q it hq hk (by omega)) with h | ⟨c, hc⟩
        · refine ⟨s1, pend1, ι1, D1, fun i it' hi hk' hlt => ?_⟩
          rcases Nat.lt_or_ge i q with h' | h'
          · exact h1 i it' hi hk' h'
          · have : i = q := by omega
            rw [this]; exact h
        · obtain ⟨ι2, pend2, D2⟩ := DInv.commit hok htr D1 hc (fun i it' hi hk' hsi => by
            rcases Nat.lt_or_ge i q with h' | h'
            · have := h1 i it' hi hk' h'; omega
            · exact h')
          exact ⟨q + 1, pend2, ι2, D2, fun i it' _ _ hlt => hlt⟩
      · refine ⟨s1, pend1, ι1, D1, fun i it' hi hk' hlt => ?_⟩
        rcases Nat.lt_or_ge i q with h | h
        · exact h1 i it' hi hk' h
        · have : i = q := by omega
          subst this
          rw [hq] at hi; cases hi
          exact absurd hk' hk

/-- an operation that may come up -/
theorem DInv.run {Q : Exit → Act → World → Prop} (hcall : CallOk P call) (hgrow : ∀ f args m v m', call f args m = some (v, m') → Grow m m') {listed : Array Bool} {s : Nat} {pend : List (Nat × Nat)} {ι : Emb} {w : World} {a : Act} (D : DInv nt keep tm items L mm ι0 w0 ops.size listed s pend ι w a) {p : Nat} {it : DItem} {o : Oper}
    (hp : items[p]? = some it) (k : ItemOk P nt keep ops (items.take p) it o) (hw : ∀ x ∈ waitsFor o, listed.getD x false = true) (hun : listed.getD it.idx false = false)
    {K : Act → World → Prop} (hK : ∀ s' pend' ι' w' a', DInv nt keep tm items L mm ι0 w0 ops.size (listed.setIfInBounds it.idx true) s' pend' ι' w' a' → K a' w') : wpOp P ops Q it.idx K a w := by
  have hanc := D.anc hp k hw
  obtain ⟨v, hv, hop, _⟩ := htr p it hp
  have hget : (L[p]?).getD .undef = v := by rw [hv]; rfl
  have hple : p < items.length := (List.getElem?_eq_some_iff.mp hp).1
  have hchain : chained it.anc (items.take p) = true → ∀ (i : Nat) it', items[i]? = some it' → 2 ≤ it'.ao.kind → i < p → listed.getD it'.idx false = true := by
    intro h i it' hi hk' hip
    simp only [chained, List.all_eq_true, Bool.or_eq_true, decide_eq_true_eq] at h
    rcases h it' (List.mem_of_getElem? (i := i) (by rw [List.getElem?_take_of_lt hip]; exact hi)) with h1 | h1
    · omega
    · exact hanc _ (by simpa using h1)
  by_cases hall : ∀ (i : Nat) it', items[i]? = some it' → 2 ≤ it'.ao.kind → i < p → listed.getD it'.idx false = true
  · obtain ⟨s, pend, ι, D, heavies⟩ := DInv.catch hok htr p D hall
    have hnp : ∀ (i : Nat) it', i < p → items[i]? = some it' → it'.idx ∈ it.anc → ∀ c, (i, c) ∉ pend := by
      intro i it' hip hi _ c hc
      obtain ⟨h1, _, it2, zero, h2, _, h3, _⟩ := D.pok i c hc
      have := heavies i it2 h2 (by rw [h3]; exact Nat.le_refl _) hip
      omega
    have hX := D.looks hok hp k hanc hun hnp (q := p) (Nat.le_refl _)
    have behindIt : 2 ≤ it.ao.kind → s ≤ p := fun h2 => by
      rcases Nat.lt_or_ge p s with h | h
      · have := (D.before p it hp h2).mpr (.inl h)
        rw [hun] at this
        cases this
      · exact h
    have noneThere : ∀ (i : Nat) it', items[i]? = some it' → 2 ≤ it'.ao.kind → s ≤ i → p ≤ i := fun i it' hi hk' hsi => by
      rcases Nat.lt_or_ge i p with h | h
      · have := heavies i it' hi hk' h; omega
      · exact h
    unfold wpOp
    rw [k.op]
    rcases hop with ⟨hwt, hop⟩ | ⟨hwt, hvt, hmm⟩
    · have hwant : Region.wanted o (yielded ops a.tmps) = true := wanted_ok hX k.guard hwt
      simp only [hwant, if_true]
      left
      by_cases h0 : it.ao.kind = 0
      · obtain ⟨_, h2⟩ := aop_light h0 hop
        refine step_ok hcall hX D.rel o (aop_ok hX D.rel o k.comp (h2 (mm s))) fun ι' w' v' hv' R' E => ?_
        exact hK s pend ι' w' _ (D.next hok hp k hanc hun (by rw [hget]; exact hv') R' E (Grow.refl _) (.inl ⟨by omega, rfl⟩))
      · by_cases h1 : it.ao.kind = 1
        · obtain ⟨hm1, hm2⟩ := aop_reader h1 hop
          by_cases hps : s ≤ p
          · have hsame : mm p = mm s := mm_same htr hps (Nat.le_of_lt hple) noneThere
            rw [hsame] at hm2
            refine step_ok hcall hX D.rel o (aop_ok hX D.rel o k.comp (reader_aop h1 hm2)) fun ι' w' v' hv' R' E => ?_
            exact hK s pend ι' w' _ (D.next hok hp k hanc hun (by rw [hget]; exact hv') R' E (Grow.refl _) (.inl ⟨by omega, rfl⟩))
          · have hps' : p < s := by omega
            rcases D.behind with h | ⟨hit, hh, hhk⟩
            · omega
            · obtain ⟨ho, kh⟩ := hok _ _ hh
              have hne : p ≠ s - 1 := by
                intro e
                rw [← e, hp] at hh
                cases hh
                omega
              have hlh : listed.getD hit.idx false = true := (D.before _ _ hh hhk).mpr (.inl (by omega))
              have hnot : it.idx ∉ hit.anc := by
                intro e
                have := D.closed _ _ hh hlh _ e
                rw [hun] at this
                cases this
              have hin := agains_mem (A := hit.anc) (items.take (s - 1)) (p0 := 0) (p := p) (it := it) (by rw [List.getElem?_take_of_lt (by omega)]; exact hp) h1 hnot
              rw [Nat.zero_add] at hin
              obtain ⟨_, _, _, hag⟩ := htr _ _ hh
              have hag' := hag (p, ⟨it.ao, it.gd⟩) (by rw [kh.again, if_pos hhk]; exact hin)
              rw [show s - 1 + 1 = s by omega, List.getElem?_take_of_lt (by omega), hget] at hag'
              have hX2 := D.looks hok hp k hanc hun hnp (q := s) (by omega)
              rcases hag' with hag' | hag'
              · have := wanted_ok hX2 k.guard hag'
                rw [hwant] at this
                cases this
              · refine step_ok hcall hX2 D.rel o (aop_ok hX2 D.rel o k.comp (reader_aop h1 hag')) fun ι' w' v' hv' R' E => ?_
                exact hK s pend ι' w' _ (D.next hok hp k hanc hun (by rw [hget]; exact hv') R' E (Grow.refl _) (.inl ⟨by omega, rfl⟩))
        · have h2 : 2 ≤ it.ao.kind := by omega
          have hps := behindIt h2
          have hsame : mm p = mm s := mm_same htr hps (Nat.le_of_lt hple) noneThere
          rw [hsame] at hop
          have hG := Grow.aop hgrow hop
          refine step_ok hcall hX D.rel o (aop_ok hX D.rel o k.comp hop) fun ι' w' v' hv' R' E => ?_
          exact hK (p + 1) pend ι' w' _ (D.next hok hp k hanc hun (by rw [hget]; exact hv') R' E hG (.inr ⟨h2, rfl, hps, noneThere⟩))
    · have hwant : Region.wanted o (yielded ops a.tmps) = false := wanted_ok hX k.guard hwt
      simp only [hwant, Bool.false_eq_true, if_false]
      have hvu : V ι w ((L[p]?).getD .undef) undef := by rw [hget, hvt]; exact ⟨[], rfl, rfl⟩
      by_cases h2 : 2 ≤ it.ao.kind
      · have hps := behindIt h2
        have hsame : mm p = mm s := mm_same htr hps (Nat.le_of_lt hple) noneThere
        have he : mm (p + 1) = mm s := by rw [hmm, hsame]
        exact hK (p + 1) pend ι w _ (D.next hok hp k hanc hun hvu (by rw [he]; exact D.rel) (by rw [he]; exact Ext.refl _ _ _) (by rw [he]; exact Grow.refl _) (.inr ⟨h2, rfl, hps, noneThere⟩))
      · exact hK s pend ι w _ (D.next hok hp k hanc hun hvu D.rel (Ext.refl _ _ _) (Grow.refl _) (.inl ⟨by omega, rfl⟩))
  · have hnc : chained it.anc (items.take p) = false := by
      cases h : chained it.anc (items.take p) with
      | false => rfl
      | true => exact absurd (hchain h) hall
    have hnp : ∀ (i : Nat) it', i < p → items[i]? = some it' → it'.idx ∈ it.anc → ∀ c, (i, c) ∉ pend := by
      intro i it' hip hi hin c hc
      obtain ⟨_, _, it2, zero, h2, h3, _⟩ := D.pok i c hc
      rw [hi] at h2
      cases h2
      have hf := k.lfree
      unfold lateFree at hf
      rw [hnc, Bool.false_or, List.all_eq_true] at hf
      have := hf it' (List.mem_of_getElem? (i := i) (by rw [List.getElem?_take_of_lt hip]; exact hi))
      rw [h3] at this
      simp [hin] at this
    have hX := D.looks hok hp k hanc hun hnp (q := p) (Nat.le_refl _)
    unfold wpOp
    rw [k.op]
    by_cases h0 : it.ao.kind = 0
    · rcases hop with ⟨hwt, hop⟩ | ⟨hwt, hvt, hmm⟩
      · have hwant : Region.wanted o (yielded ops a.tmps) = true := wanted_ok hX k.guard hwt
        simp only [hwant, if_true]
        left
        obtain ⟨_, h2⟩ := aop_light h0 hop
        refine step_ok hcall hX D.rel o (aop_ok hX D.rel o k.comp (h2 (mm s))) fun ι' w' v' hv' R' E => ?_
        exact hK s pend ι' w' _ (D.next hok hp k hanc hun (by rw [hget]; exact hv') R' E (Grow.refl _) (.inl ⟨by omega, rfl⟩))
      · have hwant : Region.wanted o (yielded ops a.tmps) = false := wanted_ok hX k.guard hwt
        simp only [hwant, Bool.false_eq_true, if_false]
        have hvu : V ι w ((L[p]?).getD .undef) undef := by rw [hget, hvt]; exact ⟨[], rfl, rfl⟩
        exact hK s pend ι w _ (D.next hok hp k hanc hun hvu D.rel (Ext.refl _ _ _) (Grow.refl _) (.inl ⟨by omega, rfl⟩))
    · have hl : it.late = true := by
        rcases k.chain with h | h | h
        · exact absurd h h0
        · rw [hnc] at h; cases h
        · exact h
      obtain ⟨hia, hgd⟩ := k.late hl
      obtain ⟨zero, hz⟩ : ∃ zero, it.ao = .alloc zero := by
        cases hao : it.ao with
        | alloc z => exact ⟨z, rfl⟩
        | _ => rw [hao] at hia; cases hia
      have hwant : Region.wanted o (yielded ops a.tmps) = true := wanted_ok hX k.guard (b := true) (by rw [hgd]; rfl)
      simp only [hwant, if_true]
      left
      have hsp : s ≤ p := by
        rcases Nat.lt_or_ge p s with h | h
        · exfalso
          apply hall
          intro i it' hi hk' hip
          exact (D.before i it' hi hk').mpr (.inl (by omega))
        · exact h
      obtain ⟨vs, e, v', m1, m2, m3, m4⟩ := making_ok (w := w) hX o k.comp (cs := zero) (f := fun b => .ptr (some (b, 0))) (by rw [hz]; rfl)
      have hv' : v' = .pointer (some ⟨w.heap.size, 0, none⟩) := by
        obtain ⟨c, d, h1, h2⟩ := m4 [some (w.heap.size, 0)] _ 0 rfl (Shapes.refl _)
        simp at h1
        obtain ⟨rfl, rfl⟩ := h1
        exact h2
      unfold Oper.wp
      rw [m1]
      exact hK s ((p, w.heap.size) :: pend) ι _ _ (D.ahead hok hp k hanc hun hl hz hsp m2 m3 hv')

/-- whatever order is drawn -/
theorem DInv.any {Q : Exit → Act → World → Prop} (hcall : CallOk P call) (hgrow : ∀ f args m v m', call f args m = some (v, m') → Grow m m') (hcover : ∀ i, i < ops.size → ∃ it ∈ items, it.idx = i)
    (hQ : ∀ s pend ι' w' a', Rel ι' (mm items.length) w' → Ext ι0 (mm 0) w0 ι' (mm items.length) w' → (∀ p c, (p, c) ∉ pend) → DInv nt keep tm items L mm ι0 w0 ops.size (Array.replicate ops.size true) s pend ι' w' a' → Q .normal a' w') :
    ∀ (fuel : Nat) (listed : Array Bool) (s : Nat) (pend : List (Nat × Nat)) (ι : Emb) (w : World) (a : Act), listed.toList.count false ≤ fuel → DInv nt keep tm items L mm ι0 w0 ops.size listed s pend ι w a → wpAny P .any ops Q fuel listed a w := by
  have done : ∀ (listed : Array Bool) (s : Nat) (pend : List (Nat × Nat)) (ι : Emb) (w : World) (a : Act), DInv nt keep tm items L mm ι0 w0 ops.size listed s pend ι w a → Region.ready .any ops listed = [] → Q .normal a w := by
    intro listed s pend ι w a D hr
    have hall : ∀ (n : Nat) (p : Nat) it, p < n → items[p]? = some it → listed.getD it.idx false = true := by
      intro n
      induction n with
      | zero => intro p it h; omega
      | succ n ih =>
        intro p it hlt hp
        cases hl : listed.getD it.idx false with
        | true => rfl
        | false =>
          obtain ⟨o, k⟩ := hok p it hp
          have hsz : it.idx < listed.size := by rw [D.size]; exact (Array.getElem?_eq_some_iff.mp k.op).1
          have hmem : it.idx ∈ Region.ready .any ops listed := by
            rw [mem_ready]
            refine ⟨by simpa [hsz] using hl, o, k.op, fun e he hb => ?_⟩
            have hw : e.on ∈ waitsFor o := by
              unfold waitsFor
              rw [List.mem_map]
              exact ⟨e, by rw [List.mem_filter]; exact ⟨by simpa using he, hb⟩, rfl⟩
            have := ancOf_mem k.anc _ hw
            have h2 : ∃ it' ∈ items.take p, it'.idx = e.on := ancOf_in k.anc _ hw
            obtain ⟨it', h3, h4⟩ := h2
            obtain ⟨q, hq⟩ := List.getElem?_of_mem h3
            have hqp : q < p := by
              have := (List.getElem?_eq_some_iff.mp hq).1
              simp at this; omega
            rw [List.getElem?_take_of_lt hqp] at hq
            rw [← h4]
            exact ih q it' (by omega) hq
          rw [hr] at hmem
          cases hmem
    have hlisted : listed = Array.replicate ops.size true := by
      apply Array.ext
      · rw [D.size]; simp
      · intro i h1 h2
        obtain ⟨it, h3, h4⟩ := hcover i (by rw [← D.size]; exact h1)
        obtain ⟨p, hp⟩ := List.getElem?_of_mem h3
        have := hall (p + 1) p it (by omega) hp
        rw [h4] at this
        simpa [h1] using this
    obtain ⟨s, pend, ι, D, hdone⟩ := DInv.catch hok htr items.length D (fun i it hi _ _ => hall (i + 1) i it (by omega) hi)
    have hs : s ≤ items.length := by
      rcases D.behind with h | ⟨it, h, _⟩
      · omega
      · have := (List.getElem?_eq_some_iff.mp h).1; omega
    have hnone : ∀ p c, (p, c) ∉ pend := by
      intro p c hpc
      obtain ⟨h1, _, it, zero, h2, _, h3, _⟩ := D.pok p c hpc
      have := hdone p it h2 (by rw [h3]; exact Nat.le_refl _) (List.getElem?_eq_some_iff.mp h2).1
      omega
    have hsame : mm items.length = mm s := mm_same htr hs (Nat.le_refl _) fun i it hi hk hsi => by
      have h1 := hdone i it hi hk (List.getElem?_eq_some_iff.mp hi).1
      omega
    refine hQ s pend ι w a (by rw [hsame]; exact D.rel) (by rw [hsame]; exact D.ext) hnone ?_
    rw [← hlisted]
    exact D
  intro fuel
  induction fuel with
  | zero =>
    intro listed s pend ι w a hc D
    have hr : Region.ready .any ops listed = [] := by
      rw [List.eq_nil_iff_forall_not_mem]
      intro j hj
      obtain ⟨h1, o, ho, _⟩ := mem_ready.1 hj
      have hlt : j < listed.size := by rw [D.size]; exact (Array.getElem?_eq_some_iff.mp ho).1
      have : false ∈ listed.toList := by
        have h2 : listed.toList[j]? = some false := by simpa [hlt] using h1
        exact List.mem_of_getElem? h2
      have := List.count_pos_iff.mpr this
      omega
    exact ⟨hr, done listed s pend ι w a D hr⟩
  | succ fuel ih =>
    intro listed s pend ι w a hc D
    refine ⟨done listed s pend ι w a D, fun j hj => ?_⟩
    obtain ⟨h1, o, ho, hwait⟩ := mem_ready.1 hj
    have hjlt : j < ops.size := (Array.getElem?_eq_some_iff.mp ho).1
    have hlt : j < listed.size := by rw [D.size]; exact hjlt
    obtain ⟨it, h3, h4⟩ := hcover j hjlt
    obtain ⟨p, hp⟩ := List.getElem?_of_mem h3
    obtain ⟨o', k⟩ := hok p it hp
    have hoo : o' = o := by
      have := k.op
      rw [h4, ho] at this
      cases this; rfl
    subst hoo
    have hw : ∀ x ∈ waitsFor o', listed.getD x false = true := by
      intro x hx
      unfold waitsFor at hx
      rw [List.mem_map] at hx
      obtain ⟨e, he, rfl⟩ := hx
      rw [List.mem_filter] at he
      exact hwait e (by simpa using he.1) he.2
    have hun : listed.getD it.idx false = false := by rw [h4]; simpa [hlt] using h1
    have hcount : (listed.setIfInBounds j true).toList.count false ≤ fuel := by
      have h2 : listed.toList[j]? = some false := by simpa [hlt] using h1
      have hlt' : j < listed.toList.length := by simpa using hlt
      have hg : listed.toList[j] = false := by
        rw [List.getElem?_eq_getElem hlt'] at h2
        exact Option.some.inj h2
      rw [Array.toList_setIfInBounds, List.count_set hlt', hg, if_pos (by decide), if_neg (by decide)]
      omega
    have := D.run hok htr (Q := Q) hcall hgrow hp k hw hun (K := wpAny P .any ops Q fuel (listed.setIfInBounds j true)) fun s' pend' ι' w' a' D' => ih _ s' pend' ι' w' a' hcount (by rw [← h4]; exact D')
    rw [h4] at this
    exact this

end
end

theorem envD_lookup {t : Tmp} : ∀ {items : List DItem} {p0 : Nat}, (envD items p0).lookup t = (findD t items p0).map (·.1)
  | [], p0 => rfl
  | it :: rest, p0 => by
    unfold envD findD
    split
    · rename_i d e
      rw [List.lookup_cons]
      by_cases h : t = d
      · subst h
        rw [if_pos e]
        simp
      · have h1 : (t == d) = false := by simpa using h
        rw [h1, if_neg (by rw [e]; intro h2; cases h2; exact h rfl)]
        exact envD_lookup
    · rename_i e
      rw [if_neg (by rw [e]; simp)]
      exact envD_lookup

theorem draw_ok {call : FuncId → List AV → Mem → Option (AV × Mem)} (hm : P.follows .mixedOrders = true) (hcall : CallOk P call) (hgrow : ∀ f args m v m', call f args m = some (v, m') → Grow m m') {nt : Nat} {keep : List Nat} {ops : Array Oper} {order : List Nat} {items : List DItem}
    (hc : compileDraw P nt keep ops order [] = some items) (hcov : (List.range ops.size).all (fun i => items.any (·.idx == i)) = true) {tm loc : List AV} {m m' : Mem}
    (he : dops call tm (items.map fun it => ⟨it.ao, it.gd, it.again⟩) [] m = some (loc, m')) {ι : Emb} {w : World} {a : Act} (R : Rel ι m w) (I : Inv ι w nt keep tm [] [] a) {id : Nat} {Q : Exit → Act → World → Prop}
    (hQ : ∀ ι' w' a', Rel ι' m' w' → Ext ι m w ι' m' w' → Inv ι' w' nt keep tm (envD items 0) loc a' → Q .normal a' w') : (Code.region id ops true).wp P Q a w := by
  refine wp_region_any hm ?_
  obtain ⟨mm, a1, a2, a3, _, a5⟩ := dops_trace _ _ _ _ _ he
  simp only [List.length_map, List.length_nil, Nat.zero_add] at a1 a2 a3 a5
  have hok := compileDraw_ok order [] items hc (fun p it h => by simp at h)
  have htr : ∀ (p : Nat) it, items[p]? = some it → Told call tm loc mm p it.ao it.gd it.again := by
    intro p it hp
    exact a5 p ⟨it.ao, it.gd, it.again⟩ (by rw [List.getElem?_map, hp]; rfl)
  have hcover : ∀ i, i < ops.size → ∃ it ∈ items, it.idx = i := by
    intro i hi
    have := List.all_eq_true.mp hcov i (by simpa using hi)
    obtain ⟨it, h1, h2⟩ := List.any_eq_true.mp this
    exact ⟨it, h1, by simpa using h2⟩
  have hrep : ∀ i, (Array.replicate ops.size false).getD i false = false := by
    intro i
    simp [Array.getElem?_replicate]
    split <;> rfl
  refine DInv.any (call := call) (nt := nt) (keep := keep) (tm := tm) (items := items) (L := loc) (mm := mm) (ι0 := ι) (w0 := w) hok htr hcall hgrow hcover ?_ ops.size _ 0 [] ι w.drew a (by simp [List.count_replicate]) ?_
  · intro s pend ι' w' a' R' E' hnone D
    rw [a2] at R' E'
    rw [a1] at E'
    refine hQ ι' w' a' R' E' ⟨?_, ?_, D.nts, D.defers, I.len⟩
    · intro t j hl
      rw [envD_lookup, Option.map_eq_some_iff] at hl
      obtain ⟨⟨p, it⟩, hf, rfl⟩ := hl
      obtain ⟨_, h2, h3⟩ := findD_some _ hf
      rw [Nat.sub_zero] at h2
      refine ⟨by rw [a3]; exact (List.getElem?_eq_some_iff.mp h2).1, D.vals p it t h2 ?_ (fun c => hnone p c) h3⟩
      obtain ⟨o, k⟩ := hok p it h2
      have hlt := (Array.getElem?_eq_some_iff.mp k.op).1
      simp [hlt]
    · intro t s hl hs
      rw [envD_lookup, Option.map_eq_none_iff] at hl
      refine D.kept t s hs fun p it hp hd => ?_
      exact absurd hd (findD_none hl it (List.mem_of_getElem? hp))
  · refine ⟨by simp, by rw [a1]; exact R.drew, by rw [a1]; exact Ext.drew _ _ _, ?_, ?_, .inl rfl, ?_, ?_, I.size, I.defers, fun p c h => by simp at h, fun p c p' c' h => by simp at h⟩
    · intro p it _ h; rw [hrep] at h; cases h
    · intro p it _ _; rw [hrep]; simp
    · intro p it d _ h; rw [hrep] at h; cases h
    · intro t k hk _
      exact V.mono (Emb.le_refl _) (w := w) (w' := w.drew) (fun _ _ h => h) _ _ (I.kept t k rfl hk)

end
end Go.Proofs.Ytlocjmbfcdfjfaa.Slim
