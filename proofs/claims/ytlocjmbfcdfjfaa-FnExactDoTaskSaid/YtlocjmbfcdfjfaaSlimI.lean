/- The slim machine: the operations that make a block, and those that write. -/
import Derived.Test.YtlocjmbfcdfjfaaSlimH
namespace Go.Proofs.Ytlocjmbfcdfjfaa.Slim
open Go
set_option linter.unusedVariables false
set_option linter.unusedSimpArgs false

section
variable {ι : Emb} {m : Mem} {w : World}

theorem making_none {g : X → AV} {ao : AO} (h : ao.kind ≠ 2) : making g ao = none := by
  cases ao <;> first | rfl | (exact absurd rfl h)

/-- what an operation that makes a block comes to -/
def Makes (P : Program) (ι : Emb) (w : World) (ρ : Operand → Value) (o : Oper) (cs : List AV) (f : Nat → AV) : Prop :=
  ∃ (vs : List Value) (e : TypeId) (v' : Value), (execOp ρ o).run P w = .ok (.value v') (w.alloc (.cells vs.toArray e)) ∧ VL ι w cs vs ∧ cs.all AV.isCell = true ∧
    ∀ (ι' : Emb) (w' : World) (n : Nat), ι'[n]? = some (some (w.heap.size, 0)) → Shapes (w.alloc (.cells vs.toArray e)) w' → V ι' w' (f n) v'

theorem fillParts_length {g : X → AV} : ∀ {ps : List (Nat × Nat × X)} {cs out : List AV}, fillParts g cs ps = some out → out.length = cs.length
  | [], cs, out, h => by cases h; rfl
  | (off, sz, x) :: rest, cs, out, h => by
    unfold fillParts at h
    split at h
    · cases h
    · rename_i new hn
      split at h
      · rename_i hc
        rw [fillParts_length h]; unfold Slim.setRange; simp; omega
      · cases h

theorem zerosArr (z : List Value) : ∀ (n : Nat), ((Array.range (n * z.length)).map fun i => z.toArray[i % z.toArray.size]!).toList = (List.replicate n z).flatten := by
  intro n
  apply List.ext_getElem?
  intro i
  by_cases hz : z.length = 0
  · have : z = [] := by simpa using hz
    subst this
    simp
  · have hlen : ∀ n, (List.replicate n z).flatten.length = n * z.length := by intro n; simp
    by_cases hi : i < n * z.length
    · have hm : i % z.length < z.length := Nat.mod_lt _ (by omega)
      have h1 : ((Array.range (n * z.length)).map fun i => z.toArray[i % z.toArray.size]!).toList[i]? = some z[i % z.length] := by
        simp [hi, hm]
      rw [h1]
      clear h1
      induction n generalizing i with
      | zero => simp at hi
      | succ n ih =>
        simp only [List.replicate_succ, List.flatten_cons]
        by_cases hlt : i < z.length
        · rw [List.getElem?_append_left hlt]
          simp [Nat.mod_eq_of_lt hlt, hlt]
        · rw [List.getElem?_append_right (by omega)]
          have := ih (i - z.length) (by rw [Nat.add_mul] at hi; omega) (Nat.mod_lt _ (by omega))
          rw [← this]
          congr 1
          have : i % z.length = (i - z.length) % z.length := by rw [Nat.mod_eq_sub_mod (by omega)]
          simp only [this]
    · rw [List.getElem?_eq_none (by simp; omega), List.getElem?_eq_none (by rw [hlen]; omega)]

theorem alloc_shape (w : World) (vs : List Value) (e : TypeId) : (w.alloc (.cells vs.toArray e)).shape? w.heap.size = some (e, vs.length) := by
  unfold World.shape?
  rw [heap_alloc_new]
  simp

theorem making_ok {P : Program} {cx : Look} {g : X → AV} {ρ : Operand → Value} (hρ : OkX ι w cx g ρ) (o : Oper) {ao : AO} {cs : List AV} {f : Nat → AV}
    (hc : compileOp P cx o.op = some ao) (hm : making g ao = some (cs, f)) : Makes P ι w ρ o cs f := by
  obtain ⟨dst, op, ty, pos, aft, gd⟩ := o
  cases op with
  | alloc e =>
    simp only [compileOp, Option.map_eq_some_iff] at hc
    obtain ⟨zs, hz, rfl⟩ := hc
    cases hm
    obtain ⟨z, h1, h2, h3⟩ := zeroT_ok (ι := ι) (w := w) hz
    refine ⟨z.cells.toList, e, .pointer (some ⟨w.heap.size, 0, none⟩), ?_, h2, h3, fun ι' w' n hn _ => ⟨_, _, hn, rfl⟩⟩
    simp [execOp, Instr.alloc, h1, newVar, newRow]
  | box e x =>
    simp only [compileOp, Option.map_eq_some_iff] at hc
    obtain ⟨x', hx, rfl⟩ := hc
    simp only [making, Option.map_eq_some_iff] at hm
    obtain ⟨cs', hcs, he⟩ := hm
    cases he
    obtain ⟨h2, h3⟩ := (hρ _ _ hx).cells hcs
    refine ⟨(ρ x).cells.toList, e, .pointer (some ⟨w.heap.size, 0, none⟩), ?_, h2, h3, fun ι' w' n hn _ => ⟨_, _, hn, rfl⟩⟩
    simp [execOp, Instr.box, newVar, newRow]
  | buildSlice t len parts =>
    simp only [compileOp] at hc
    split at hc
    · rename_i e hu
      simp only [Option.bind_eq_bind, Option.bind_eq_some_iff] at hc
      obtain ⟨sz, hsz, zero, hz, hc⟩ := hc
      split at hc
      · rename_i hcond
        simp only [Bool.and_eq_true, decide_eq_true_eq, beq_iff_eq] at hcond
        obtain ⟨⟨hc1, hc2⟩, hc3⟩ := hcond
        simp only [Option.bind_eq_some_iff, Option.pure_def, Option.some.injEq] at hc
        obtain ⟨ps, hps, rfl⟩ := hc
        simp only [making, Option.map_eq_some_iff] at hm
        obtain ⟨out, ho, he⟩ := hm
        cases he
        obtain ⟨z, hz1, hz2, hz3⟩ := zeroT_ok (ι := ι) (w := w) hz
        have hzl : z.cells.toList.length = sz := by rw [hz2.length, hc3]
        have hzl' : z.cells.size = sz := by simpa using hzl
        have hzeros : ((Array.range (len * sz)).map fun i => z.cells[i % z.cells.size]!).toList = (List.replicate len z.cells.toList).flatten := by
          have := zerosArr z.cells.toList len
          rw [hzl] at this
          simpa using this
        obtain ⟨out', r1, r2, r3, r4⟩ := fill_ok (P := P) hρ (cells := (Array.range (len * sz)).map fun i => z.cells[i % z.cells.size]!) hps ho (by
          rw [hzeros]; exact VL.flatten hz2 len) (by
          unfold zeros
          rw [List.all_eq_true]
          intro y hy
          simp only [List.mem_flatten, List.mem_replicate] at hy
          obtain ⟨l, ⟨_, rfl⟩, hy⟩ := hy
          exact List.all_eq_true.mp hz3 y hy)
        have hlen : out'.size = len * sz := by
          have h1 := r2.length
          have h2 : (zeros len zero).length = len * sz := by unfold zeros; simp [hc3]
          simp at h1; omega
        refine ⟨out'.toList, e, .slice (some ⟨w.heap.size, 0, none⟩) len len, ?_, r2, r3, fun ι' w' n hn hs => ?_⟩
        · have hpl : (parts.map fun (i, x) => (i, ρ x)).toList = parts.toList.map fun x => (x.1, ρ x.2) := by simp
          have hex : execOp ρ ⟨dst, .buildSlice t len parts, ty, pos, aft, gd⟩ = (do pure (.value (← Instr.buildSlice t len (parts.map fun (i, x) => (i, ρ x))))) := rfl
          rw [hex]
          by_cases h0 : len * sz = 0
          · have e0 : ∀ z : Array Value, ((Array.range (len * sz)).map fun i => z[i % z.size]!) = (#[] : Array Value) := by
              intro z; rw [h0]; apply Array.ext'; simp
            rw [e0] at r1
            simp only [Instr.buildSlice, Sem.run_bind, run_underlying hu, Result.andThen_ok, run_sizeT hsz]
            rw [if_neg (by omega), if_pos h0]
            simp only [Sem.run_bind, Sem.run_pure, Result.andThen_ok, hpl, e0]
            rw [r1]
            simp [newRow]
          · simp only [Instr.buildSlice, Sem.run_bind, run_underlying hu, Result.andThen_ok, run_sizeT hsz]
            rw [if_neg (by omega), if_neg h0]
            simp only [Sem.run_bind, Sem.run_pure, Result.andThen_ok, hz1, hpl, r1]
            simp [newRow]
        · have hsh := hs _ _ (alloc_shape w out'.toList e)
          exact ⟨w.heap.size, 0, 0, len, e, _, hn, rfl, Nat.le_refl _, .inl rfl, hsh, by simp [hlen], fun q hq => by cases hq; rfl⟩
      · cases hc
    · cases hc
  | _ => exact absurd hm (by rw [making_none (fun e => by have h := kinds_ok hc; rw [e] at h; simp [opKinds] at h)]; simp)

theorem shape_cell {w : World} {c e M o : Nat} (h : w.shape? c = some (e, M)) (ho : o < M) : ∃ v, w.cell? ⟨c, o, none⟩ = some v := by
  unfold World.shape? at h
  unfold World.cell?
  split at h
  · rename_i cells el fz hh
    cases h
    rw [hh]
    exact ⟨cells[o], by simp [ho]⟩
  · cases h

theorem cell_shape {w : World} {c e M o : Nat} {v : Value} (h : w.shape? c = some (e, M)) (hv : w.cell? ⟨c, o, none⟩ = some v) : o < M := by
  unfold World.shape? at h
  unfold World.cell? at hv
  split at h
  · rename_i cells el fz hh
    cases h
    rw [hh] at hv
    simp at hv
    obtain ⟨h, _⟩ := Array.getElem?_eq_some_iff.mp hv
    exact h
  · cases h

theorem shapes_setCell (w : World) (a : Addr) (v : Value) : Shapes w (w.setCell a v) := by
  intro r s h
  unfold World.shape? at *
  unfold World.setCell
  simp only [Array.getElem?_modify]
  by_cases hr : a.block = r
  · rw [if_pos hr]
    cases hh : w.heap[r]? with
    | none => rw [hh] at h; cases h
    | some ob =>
      rw [hh] at h
      cases ob <;> simp at h ⊢
      rw [← h]
      simp
      split <;> simp
  · rw [if_neg hr]; exact h

theorem setCells_facts (c : Nat) : ∀ (vs : List Value) (x : Nat) (w : World), Shapes w (w.setCells c x vs) ∧ (∀ r, r ≠ c → (w.setCells c x vs).heap[r]? = w.heap[r]?) ∧
    (w.setCells c x vs).heap.size = w.heap.size ∧ (w.setCells c x vs).os = w.os ∧ (w.setCells c x vs).tape = w.tape ∧ (w.setCells c x vs).output = w.output
  | [], x, w => ⟨Shapes.refl w, fun _ _ => rfl, rfl, rfl, rfl, rfl⟩
  | v :: vs, x, w => by
    obtain ⟨h1, h2, h3, h4, h5, h6⟩ := setCells_facts c vs (x + 1) (w.setCell ⟨c, x, none⟩ v)
    refine ⟨(shapes_setCell w _ v).trans h1, fun r hr => ?_, ?_, h4, h5, h6⟩
    · show (((w.setCell ⟨c, x, none⟩ v).setCells c (x + 1) vs).heap[r]?) = _
      rw [h2 r hr]
      exact Go.RowKit.Below.heap_setCell w _ v r (by simpa using hr)
    · exact h3.trans (by simp)

/-- cells of a block that may be written are written -/
theorem write_ok {P : Program} {w : World} {c x e M : Nat} {vs : List Value} (hM : w.shape? c = some (e, M)) (hfree : ∀ o, o < M → w.frozen? ⟨c, o, none⟩ = false)
    (hx : vs.length = 0 ∨ x + vs.length ≤ M) (h1 : ∀ v ∈ vs, v.oneCell' = true) :
    (storeCells ⟨c, x, none⟩ vs).run P w = .ok () (w.setCells c x vs) ∧
    (∀ j v, vs[j]? = some v → (w.setCells c x vs).cell? ⟨c, x + j, none⟩ = some v) ∧
    (∀ o, o < x ∨ x + vs.length ≤ o → (w.setCells c x vs).cell? ⟨c, o, none⟩ = w.cell? ⟨c, o, none⟩) := by
  have hcell : ∀ j, j < vs.length → (w.cell? ⟨c, x + j, none⟩).isSome = true := fun j hj => by
    obtain ⟨v, hv⟩ := shape_cell hM (show x + j < M by omega)
    rw [hv]; rfl
  refine ⟨?_, fun j v hj => ?_, fun o ho => ?_⟩
  · have := run_storeCells_cells (P := P) c x vs 0 w (fun j hj => by simpa using hcell j hj) (fun j hj => by simpa using hfree (x + j) (by omega)) h1
    simpa using this
  · obtain ⟨hlt, rfl⟩ := List.getElem?_eq_some_iff.mp hj
    exact World.cell?_setCells_in c vs x w hcell j hlt
  · exact World.cell?_setCells_out c vs x w ⟨c, o, none⟩ (fun _ _ => ho)

theorem oneCells {vs : List Value} {cs : List AV} (hv : VL ι w cs vs) (hc : cs.all AV.isCell = true) : ∀ v ∈ vs, v.oneCell' = true := by
  intro v hm
  obtain ⟨j, hj⟩ := List.getElem?_of_mem hm
  obtain ⟨c, h1, h2⟩ := hv.getV j v hj
  exact V.oneCell (List.all_eq_true.mp hc c (List.mem_of_getElem? h1)) h2

/-- a store through an address -/
theorem Rel.store {P : Program} {b : Nat} {cs new : List AV} {c d o : Nat} {vs : List Value} (R : Rel ι m w) (hb : m.H[b]? = some (.cells cs true)) (hi : ι[b]? = some (some (c, d)))
    (hv : VL ι w new vs) (hc : new.all AV.isCell = true) (hpos : 0 < new.length) (hle : o + new.length ≤ cs.length) (esc : Option Nat) :
    (storeCells ⟨c, d + o, none⟩ vs).run P w = .ok () (w.setCells c (d + o) vs) ∧
    Rel ι { H := m.H.set b (.cells (Slim.setRange cs o new) true), esc } (w.setCells c (d + o) vs) ∧
    Ext ι m w ι { H := m.H.set b (.cells (Slim.setRange cs o new) true), esc } (w.setCells c (d + o) vs) := by
  obtain ⟨c', d', g, hC⟩ := R.at' b cs true hb
  rw [hi] at g
  cases g
  obtain ⟨e, M, hM, hfree⟩ := hC.free rfl
  obtain ⟨⟨us, u1, u2⟩, u3, _⟩ := hC
  have hlen := hv.length
  have hul := u1.length
  have hx : d + o + vs.length ≤ M := by
    obtain ⟨y, hy⟩ : ∃ y, us[o + vs.length - 1]? = some y := ⟨us[o + vs.length - 1]'(by omega), List.getElem?_eq_getElem (by omega)⟩
    have := cell_shape hM (u2 _ _ hy)
    omega
  obtain ⟨s1, s2, s3⟩ := write_ok (P := P) hM hfree (.inr hx) (oneCells hv hc)
  obtain ⟨f1, f2, f3, f4, f5, f6⟩ := setCells_facts c vs (d + o) w
  have hbl : b < m.H.length := (List.getElem?_eq_some_iff.mp hb).1
  have hset : ∀ b', (m.H.set b (.cells (Slim.setRange cs o new) true))[b']? = if b = b' then some (.cells (Slim.setRange cs o new) true) else m.H[b']? := by
    intro b'
    rw [List.getElem?_set]
    split
    · simp [hbl]
    · rfl
  have hothers : ∀ b' cs' wr c' d', b ≠ b' → m.H[b']? = some (.cells cs' wr) → ι[b']? = some (some (c', d')) → (w.setCells c (d + o) vs).heap[c']? = w.heap[c']? := by
    intro b' cs' wr c' d' hne h1 h2
    exact f2 c' (fun e => R.inj b b' cs cs' wr c d c' d' hne hb h1 hi h2 e.symm)
  have hall : (Slim.setRange cs o new).all AV.isCell = true := by
    unfold Slim.setRange
    simp only [List.all_append, Bool.and_eq_true]
    refine ⟨⟨List.all_eq_true.mpr fun y hy => List.all_eq_true.mp u3 y (List.mem_of_mem_take hy), hc⟩, List.all_eq_true.mpr fun y hy => List.all_eq_true.mp u3 y (List.mem_of_mem_drop hy)⟩
  refine ⟨s1, ⟨by simp [R.len], fun b' c' d' h => by rw [f3]; exact R.low b' c' d' h, fun b' cs' wr h => ?_, fun b1 b2 cs1 cs2 wr c1 d1 c2 d2 hne h1 h2 h3 h4 => ?_⟩,
    ⟨Emb.le_refl _, Nat.le_refl _, by rw [f3]; exact Nat.le_refl _, f1, fun r hr => ?_, fun r hr hn => ?_, f4, f5, f6⟩⟩
  · -- blocks
    rw [hset] at h
    split at h
    · rename_i hbb
      subst hbb
      cases h
      refine ⟨c, d, hi, ⟨us.take o ++ vs ++ us.drop (o + vs.length), VL.mono (Emb.le_refl _) f1 _ _ (u1.setRange o hv), fun j v hj => ?_⟩, hall, fun _ => ⟨e, M, f1 _ _ hM, fun q hq => ?_⟩⟩
      · by_cases hj1 : j < o
        · rw [List.append_assoc, List.getElem?_append_left (by simp; omega), List.getElem?_take, if_pos hj1] at hj
          rw [s3 (d + j) (by omega)]
          exact u2 j v hj
        · by_cases hj2 : j < o + vs.length
          · rw [List.append_assoc, List.getElem?_append_right (by simp; omega), List.getElem?_append_left (by simp; omega)] at hj
            have hto : (us.take o).length = o := by simp; omega
            rw [hto] at hj
            have := s2 (j - o) v hj
            rwa [show d + o + (j - o) = d + j by omega] at this
          · rw [List.getElem?_append_right (by simp; omega)] at hj
            have hto : (us.take o ++ vs).length = o + vs.length := by simp; omega
            rw [hto, List.getElem?_drop, show o + vs.length + (j - (o + vs.length)) = j by omega] at hj
            rw [s3 (d + j) (by omega)]
            exact u2 j v hj
      · have : ((w.setCells c (d + o) vs)).frozen? ⟨c, q, none⟩ = w.frozen? ⟨c, q, none⟩ := World.frozen?_setCells c vs (d + o) w _
        rw [this]
        exact hfree q hq
    · rename_i hne
      obtain ⟨c', d', h1, h2⟩ := R.at' b' cs' wr h
      exact ⟨c', d', h1, h2.mono (Emb.le_refl _) f1 (hothers b' cs' wr c' d' hne h h1)⟩
  · -- injectivity
    rw [hset] at h1 h2
    have back : ∀ bq csq wrq, (if b = bq then some (Blk.cells (Slim.setRange cs o new) true) else m.H[bq]?) = some (.cells csq wrq) → ∃ csq', m.H[bq]? = some (.cells csq' wrq) := by
      intro bq csq wrq hq
      split at hq
      · rename_i e; subst e; cases hq; exact ⟨cs, hb⟩
      · exact ⟨csq, hq⟩
    obtain ⟨a1, q1⟩ := back _ _ _ h1
    obtain ⟨a2, q2⟩ := back _ _ _ h2
    exact R.inj b1 b2 a1 a2 wr c1 d1 c2 d2 hne q1 q2 h3 h4
  · obtain ⟨b', cs', d', h1, h2⟩ := hr
    left
    rw [hset] at h1
    split at h1
    · rename_i e; subst e; exact ⟨b, cs, d', hb, h2⟩
    · exact ⟨b', cs', d', h1, h2⟩
  · exact f2 r (fun e => hn ⟨b, cs, d, hb, by rw [e]; exact hi⟩)

end
end Go.Proofs.Ytlocjmbfcdfjfaa.Slim
