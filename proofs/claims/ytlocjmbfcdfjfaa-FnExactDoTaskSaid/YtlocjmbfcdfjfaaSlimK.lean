/- The slim machine: the operations that write, all of them; an operation of whatever kind. -/
import Derived.Test.YtlocjmbfcdfjfaaSlimJ
namespace Go.Proofs.Ytlocjmbfcdfjfaa.Slim
open Go
set_option linter.unusedVariables false
set_option linter.unusedSimpArgs false

section
variable {ι : Emb} {m : Mem} {w : World}

/-- an operation that is no call, carried out -/
def OpDone (P : Program) (ι : Emb) (m : Mem) (w : World) (ρ : Operand → Value) (o : Oper) (v : AV) (m' : Mem) : Prop :=
  ∃ (n : Next) (w' : World) (ι' : Emb) (v' : Value), (execOp ρ o).run P w = .ok n w' ∧ (n = .value v' ∨ (n = .skip ∧ v' = undef)) ∧ V ι' w' v v' ∧ Rel ι' m' w' ∧ Ext ι m w ι' m' w'

theorem OpDone.of_does {P : Program} {ρ : Operand → Value} {o : Oper} {v : AV} (R : Rel ι m w) (h : Does P ι w ρ o v) : OpDone P ι m w ρ o v m := by
  obtain ⟨v', h1, h2⟩ := h
  exact ⟨.value v', w, ι, v', h1, .inl rfl, h2, R, Ext.refl _ _ _⟩

theorem emb_last (ι : Emb) (p : Nat × Nat) : (ι ++ [some p])[ι.length]? = some (some p) := by simp

theorem OpDone.of_makes {P : Program} {ρ : Operand → Value} {o : Oper} {cs : List AV} {f : Nat → AV} (R : Rel ι m w) (h : Makes P ι w ρ o cs f) :
    OpDone P ι m w ρ o (f m.H.length) (newBlk m cs) := by
  obtain ⟨vs, e, v', h1, h2, h3, h4⟩ := h
  obtain ⟨r1, r2⟩ := R.alloc (e := e) h2 h3 []
  rw [List.append_nil] at r1 r2
  exact ⟨.value v', _, _, v', h1, .inl rfl, h4 _ _ _ (by rw [← R.len]; exact emb_last _ _) (Shapes.refl _), r1, r2⟩

theorem len_zeroCells (z : Array Value) (n : Nat) : (Builtin.zeroCells z n).size = n * z.size := by simp [Builtin.zeroCells]

/-- where the source of an append lies -/
theorem src_ok {P : Program} {str : Bool} {sz k : Nat} {a : AV} {x : Value} {cs : List AV} (R : Rel ι m w) (hv : V ι w a x) (h : srcCells str m.H a = some (k, cs)) (hsz : cs.length = k * sz) (hstr : str = true → sz = 1) :
    ∃ news : List Value, VL ι w cs news ∧ cs.all AV.isCell = true ∧ (∀ w : World, (Builtin.lenOf x).run P w = .ok k w) ∧
      (∀ w' : World, w'.heap = w.heap → (Builtin.firstCells sz k x).run P w' = .ok news.toArray w') := by
  unfold srcCells at h
  split at h
  · split at h
    · cases h
    cases h
    obtain ⟨_, rfl⟩ := hv
    exact ⟨[], rfl, rfl, fun w => by simp [Builtin.lenOf], fun w' _ => by simp [Builtin.firstCells]⟩
  · rename_i b o sz' n cp
    split at h
    · cases h
    split at h
    · cases h
    · rename_i old hcs
      split at h
      · rename_i hle
        simp only [Option.some.injEq, Prod.mk.injEq] at h
        obtain ⟨rfl, rfl⟩ := h
        obtain ⟨c, d, xo, k', e', M, g1, rfl, g3, g4, g5, g6, g7⟩ := hv
        obtain ⟨wr, hb⟩ := cellsAt_inv hcs
        obtain ⟨c', d', g8, hC⟩ := R.at' b old wr hb
        rw [g1] at g8
        cases g8
        obtain ⟨vs, l1, l2, l3⟩ := hC.stretch o (n * sz') hle
        have hl : n * sz' = n * sz := by rw [← hsz]; simp; omega
        refine ⟨vs, l2, all_sub hC.cell _ _, fun w => by simp [Builtin.lenOf], fun w' hw' => ?_⟩
        have hld : (loadCells ⟨c, xo, none⟩ (n * sz)).run P w' = .ok vs.toArray w' := by
          rcases g4 with rfl | ⟨rfl, rfl⟩
          · have := run_loadCells_list (P := P) w' ⟨c, d + o, none⟩ vs (fun j v hj => by rw [← l3 j v hj]; simp [World.cell?, hw'])
            rwa [l1, hl] at this
          · have : vs = [] := by simpa using l1
            subst this
            simp [loadCells, loadCellsFrom]
        simp [Builtin.firstCells, hld]
      · cases h
  · rename_i s
    split at h
    case isFalse => cases h
    rename_i hst
    cases h
    have h1 := hstr hst
    subst h1
    cases hv
    refine ⟨s.data.toList.map fun b => Value.int .u8 b.toNat, VL.map_of (f := fun b : UInt8 => AV.int .u8 b.toNat) (g := fun b : UInt8 => Value.int .u8 b.toNat) _ (fun b _ => rfl), ?_, fun w => by simp [Builtin.lenOf], fun w' _ => ?_⟩
    · rw [List.all_eq_true]; intro y hy; simp only [bytesOf, List.mem_map] at hy; obtain ⟨b, _, rfl⟩ := hy; rfl
    · have hx : s.extract 0 s.size = s := ByteArray.extract_zero_size
      simp only [Builtin.firstCells, hx, Sem.run_pure]
      congr 1
      apply Array.ext'
      simp
  · cases h

theorem append_ok {P : Program} {str : Bool} {t u e : TypeId} {sz by' : Nat} {zs : List AV} (ty : TypeId) (ts : Array TypeId) (args : Array Value) (hts0 : ts[0]? = some t) (hts1 : ts[1]? = some u)
    (ht : P.underlying t = some (.slice e)) (hu : (str = false ∧ ∃ e', P.underlying u = some (.slice e')) ∨ (P.underlying u = some .string ∧ sz = 1)) (hsz : szT P e = some sz) (hby : bytesT P e = some by') (hpos : 0 < by') (hsp : 0 < sz)
    (hz : zeroT P e = some zs) (hzl : zs.length = sz) {s x : AV} {s' x' : Value} (ha0 : args[0]? = some s') (ha1 : args[1]? = some x') (R : Rel ι m w) (hs : V ι w s s') (hx : V ι w x x')
    {f : FuncId → List AV → Mem → Option (AV × Mem)} {g : X → AV} {xs xx : X} (e1 : g xs = s) (e2 : g xx = x) {v : AV} {m' : Mem}
    (h : heavy f g m (.append str sz by' xs xx) = some (v, m')) :
    ∃ (w' : World) (ι' : Emb) (v' : Value), (Builtin.append_ ts ty args).run P w = .ok v' w' ∧ V ι' w' v v' ∧ Rel ι' m' w' ∧ Ext ι m w ι' m' w' := by
  obtain ⟨z, hz1, hz2, hz3⟩ := zeroT_ok (ι := ι) (w := w) hz
  have hzs : z.cells.size = sz := by have := hz2.length; simp at this; omega
  have hu' : (∃ e', P.underlying u = some (.slice e')) ∨ P.underlying u = some .string := hu.imp And.right And.left
  have hstr' : str = true → sz = 1 := fun hq => by
    rcases hu with ⟨hf, _⟩ | ⟨_, hu⟩
    · rw [hq] at hf; cases hf
    · exact hu
  simp only [heavy, e1, e2] at h
  split at h
  · -- nil
    rename_i sz0 n0 cp0
    obtain ⟨rfl, rfl⟩ := hs
    split at h
    · rename_i k cs hsrc
      split at h
      · rename_i hk
        subst hk
        cases h
        have hcs : cs.length = 0 * sz := by
          unfold srcCells at hsrc
          split at hsrc
          · split at hsrc
            · cases hsrc
            · cases hsrc; simp
          · split at hsrc
            · cases hsrc
            split at hsrc
            · cases hsrc
            · split at hsrc
              · simp only [Option.some.injEq, Prod.mk.injEq] at hsrc
                obtain ⟨rfl, rfl⟩ := hsrc
                simp
              · cases hsrc
          · split at hsrc
            case isFalse => cases hsrc
            simp only [Option.some.injEq, Prod.mk.injEq] at hsrc
            obtain ⟨h1, rfl⟩ := hsrc
            show (List.map _ _).length = _
            rw [List.length_map, Nat.zero_mul]
            exact h1
          · cases hsrc
        obtain ⟨news, s1, s2, s3, s4⟩ := src_ok (P := P) R hx hsrc hcs hstr'
        have hn : news = [] := by have := s1.length; simp at hcs; rw [hcs] at this; simpa using this
        subst hn
        obtain ⟨A, _⟩ := run_append_gen (P := P) (w := w) ty ts args hts0 hts1 ht hu' hsz hby hpos hz1 none 0 0 x' 0 [] [] ha0 ha1 s3 s4 (fun w' _ => by simp [Builtin.firstCells])
        exact ⟨w, ι, .slice none 0 0, by rw [A (Nat.le_refl _)]; simp, ⟨rfl, rfl⟩, R, Ext.refl _ _ _⟩
      · split at h
        · rename_i hk hc
          cases h
          obtain ⟨news, s1, s2, s3, s4⟩ := src_ok (P := P) R hx hsrc hc.2 hstr'
          obtain ⟨_, B⟩ := run_append_gen (P := P) (w := w) ty ts args hts0 hts1 ht hu' hsz hby hpos hz1 none 0 0 x' k [] news ha0 ha1 s3 s4 (fun w' _ => by simp [Builtin.firstCells])
          have hfit : (0 + k) * by' ≤ 140737488355328 := by have := hc.1; unfold maxBytes at this; rw [Nat.zero_add]; omega
          have hrun := B (by omega) hfit
          have hge := grownCap_ge w (0 + k) 0 e
          generalize hcap : grownCap w (0 + k) 0 e = cap at *
          have hR := R.drew
          obtain ⟨r1, r2⟩ := hR.alloc (e := e) (VL.mono (Emb.le_refl _) (w := w) (w' := w.drew) (fun _ _ h => h) _ _ s1) s2 (Builtin.zeroCells z.cells (cap - (0 + k))).toList
          refine ⟨_, _, .slice (some ⟨w.heap.size, 0, none⟩) (0 + k) cap, ?_, ?_, r1, (Ext.drew ι m w).trans r2⟩
          · rw [hrun]
            congr 2
            congr 1
            apply Array.ext'
            simp
          · have hnl := s1.length
            refine ⟨w.heap.size, 0, 0, cap, e, _, by rw [← R.len]; exact emb_last _ _, by rw [Nat.zero_add], by omega, .inl rfl, alloc_shape w.drew _ e, ?_, fun q hq => by cases hq⟩
            simp only [List.length_append, Array.length_toList, len_zeroCells, hzs, hnl, hc.2]
            rw [Nat.zero_add, ← Nat.add_mul]
            right
            apply Nat.mul_le_mul_right
            omega
        · cases h
    · cases h
  · -- a slice in memory
    rename_i b o sz' n cap
    obtain ⟨c, d, xo, kc, e', M, g1, rfl, g3, g4, g5, g6, g7⟩ := hs
    split at h
    · rename_i old wr k cs hb hsrc
      split at h
      · rename_i hcond
        obtain ⟨rfl, hmax, hcs, hle⟩ := hcond
        obtain ⟨c', d', g8, hC⟩ := R.at' b old wr hb
        rw [g1] at g8
        cases g8
        obtain ⟨news, s1, s2, s3, s4⟩ := src_ok (P := P) R hx hsrc hcs hstr'
        obtain ⟨olds, o1, o2, o3⟩ := hC.stretch o (n * sz') hle
        have hnl := s1.length
        have hold : ∀ w' : World, w'.heap = w.heap → (Builtin.firstCells sz' n (.slice (some ⟨c, xo, none⟩) n kc)).run P w' = .ok olds.toArray w' := by
          intro w' hw'
          have hld : (loadCells ⟨c, xo, none⟩ (n * sz')).run P w' = .ok olds.toArray w' := by
            rcases g4 with rfl | ⟨rfl, rfl⟩
            · have := run_loadCells_list (P := P) w' ⟨c, d + o, none⟩ olds (fun j v hj => by rw [← o3 j v hj]; simp [World.cell?, hw'])
              rwa [o1] at this
            · have : olds = [] := by simpa using o1
              subst this
              simp [loadCells, loadCellsFrom]
          simp [Builtin.firstCells, hld]
        obtain ⟨A, B⟩ := run_append_gen (P := P) (w := w) ty ts args hts0 hts1 ht hu' hsz hby hpos hz1 (some ⟨c, xo, none⟩) n kc x' k olds news ha0 ha1 s3 s4 hold
        have hfit : (n + k) * by' ≤ 140737488355328 := by unfold maxBytes at hmax; omega
        -- where it grows
        have grow : ∀ (m₁ : Mem) (cs₁ : List AV), Rel ι m₁ w → kc < n + k → VL ι w cs₁ (olds ++ news) → cs₁.all AV.isCell = true → m₁.H.length = m.H.length →
            ∃ (w' : World) (ι' : Emb) (v' : Value), (Builtin.append_ ts ty args).run P w = .ok v' w' ∧ V ι' w' (.slice (some (m.H.length, 0)) sz' (n + k) none) v' ∧ Rel ι' (newBlk m₁ cs₁) w' ∧ Ext ι m₁ w ι' (newBlk m₁ cs₁) w' := by
          intro m₁ cs₁ R₁ hlt hv₁ hc₁ hlen₁
          have hrun := B hlt hfit
          have hge := grownCap_ge w (n + k) kc e
          generalize hcapq : grownCap w (n + k) kc e = cp at *
          obtain ⟨r1, r2⟩ := R₁.drew.alloc (e := e) (VL.mono (Emb.le_refl _) (w := w) (w' := w.drew) (fun _ _ h => h) _ _ hv₁) hc₁ (Builtin.zeroCells z.cells (cp - (n + k))).toList
          refine ⟨_, _, .slice (some ⟨w.heap.size, 0, none⟩) (n + k) cp, ?_, ?_, r1, (Ext.drew ι m₁ w).trans r2⟩
          · rw [hrun]
            congr 2
            congr 1
            apply Array.ext'
            simp
          · refine ⟨w.heap.size, 0, 0, cp, e, _, by rw [← hlen₁, ← R₁.len]; exact emb_last _ _, rfl, by omega, .inl rfl, alloc_shape w.drew _ e, ?_, fun q hq => by cases hq⟩
            simp only [List.length_append, Array.length_toList, len_zeroCells, hzs, hnl, hcs, o1]
            rw [Nat.zero_add, ← Nat.add_mul, ← Nat.add_mul]
            right
            apply Nat.mul_le_mul_right
            omega
        split at h
        · rename_i hcap
          cases h
          have hk0 := g7 0 hcap.1
          have hn0 : n = 0 := by omega
          subst hn0
          have ho0 : olds = [] := by simpa using o1
          subst ho0
          exact grow m cs R (by omega) s1 s2 rfl
        · split at h
          · rename_i hw
            subst hw
            cases h
            by_cases hfitin : n + k ≤ kc
            · -- in place
              have hx0 : news.length = 0 ∨ xo + olds.length + news.length ≤ M := by
                rw [o1, hnl, hcs]
                rcases g6 with g6 | g6
                · left
                  have : k = 0 := by omega
                  rw [this, Nat.zero_mul]
                right
                have : n * sz' + k * sz' ≤ kc * sz' := by rw [← Nat.add_mul]; exact Nat.mul_le_mul_right _ hfitin
                omega
              have hcell : ∀ j v, olds[j]? = some v → w.cell? ⟨c, xo + j, none⟩ = some v := by
                intro j v hj
                rcases g4 with rfl | ⟨rfl, _⟩
                · have := o3 j v hj
                  rwa [addr_add] at this
                · have : olds = [] := by simpa using o1
                  subst this
                  simp at hj
              obtain ⟨r0, r1, r2⟩ := Rel.inplace (P := P) R hb g1 g5 o2 hcell (all_sub hC.cell _ _) s1 s2 hx0
              refine ⟨_, _, .slice (some ⟨c, xo, none⟩) (n + k) kc, ?_, ?_, r1, r2⟩
              · rw [A hfitin]
                show ((storeCells ((⟨c, xo, none⟩ : Addr).add (n * sz')) news).run P w).andThen _ = _
                rw [addr_add, ← o1, r0]
                rfl
              · exact ⟨c, xo, xo, kc, e', M, by rw [← R.len]; exact emb_last _ _, rfl, hfitin, .inl rfl, r2.shapes _ _ g5, g6, fun q hq => by cases hq⟩
            · obtain ⟨R₁, E₁⟩ := R.kill b
              obtain ⟨w', ι', v', q1, q2, q3, q4⟩ := grow { m with H := m.H.set b .dead } ((old.drop o).take (n * sz') ++ cs) R₁ (by omega) (o2.append s1) (by rw [List.all_append, all_sub hC.cell, s2]; rfl) (by simp)
              exact ⟨w', ι', v', q1, q2, q3, E₁.trans q4⟩
          · cases h
      · cases h
    · cases h
  · cases h

theorem freeze_end (w : World) (c : Array Value) (e : TypeId) (n : Nat) : (w.alloc (.cells c e)).freeze ⟨w.heap.size, n, none⟩ 1 = w.alloc (.cells c e (n, n + 1)) := by
  simp only [World.freeze, Nat.one_ne_zero, if_false, World.alloc]
  congr 1
  apply Array.ext_getElem?
  intro i
  rw [Array.getElem?_modify, Array.getElem?_push, Array.getElem?_push]
  by_cases h : w.heap.size = i
  · subst h; simp
  · rw [if_neg h, if_neg (fun e => h e.symm), if_neg (fun e => h e.symm)]

def byteVals (s : ByteArray) : List Value := s.data.toList.map fun b => .int .u8 b.toNat

theorem byteVals_length (s : ByteArray) : (byteVals s).length = s.size := by simp [byteVals]

theorem wrap_id {l : Int} (h0 : 0 ≤ l) (h1 : l ≤ 35184372088832) : IntKind.i64.wrap l = l := by
  unfold IntKind.wrap
  simp only [IntKind.bits, IntKind.signed]
  have : l % (2 ^ 64 : Int) = l := Int.emod_eq_of_lt h0 (by omega)
  simp only [this]
  rw [if_neg]
  simp
  omega

theorem heavy_none {f : FuncId → List AV → Mem → Option (AV × Mem)} {g : X → AV} {ao : AO} (h : ao.kind ≠ 3) : heavy f g m ao = none := by
  cases ao <;> first | rfl | (exact absurd rfl h)

/-- a call -/
def OpCall (P : Program) (ι : Emb) (w : World) (ρ : Operand → Value) (o : Oper) (f : FuncId) (args : List AV) : Prop :=
  ∃ vs : List Value, VL ι w args vs ∧ ∀ fn, P.funcs[f]? = some fn → fn.body.isSome = true → fn.name ≠ "runtime.NumGoroutine" → (execOp ρ o).run P w = .ok (.enter f vs.toArray) w

theorem heavy_ok {P : Program} {f : FuncId → List AV → Mem → Option (AV × Mem)} {cx : Look} {g : X → AV} {ρ : Operand → Value} (hρ : OkX ι w cx g ρ) (R : Rel ι m w) (o : Oper) {ao : AO} {v : AV} {m' : Mem}
    (hc : compileOp P cx o.op = some ao) (hl : heavy f g m ao = some (v, m')) :
    OpDone P ι m w ρ o v m' ∨ ∃ k args, f k args m = some (v, m') ∧ OpCall P ι w ρ o k args := by
  obtain ⟨dst, op, ty, pos, aft, gd⟩ := o
  cases op with
  | store t a x =>
    left
    simp only [compileOp, Option.bind_eq_bind, Option.bind_eq_some_iff, Option.pure_def, Option.some.injEq] at hc
    obtain ⟨sz, hsz, a', ha, x', hx, rfl⟩ := hc
    simp only [heavy] at hl
    have h1 := hρ _ _ ha
    have h2 := hρ _ _ hx
    split at hl
    · rename_i b o new e1 e2
      rw [e1] at h1
      obtain ⟨n1, n2⟩ := h2.cells e2
      split at hl
      · rename_i cs hb
        split at hl
        · rename_i hcond
          obtain ⟨k1, k2, k3⟩ := hcond
          cases hl
          obtain ⟨c, d, g1, g2⟩ := h1
          have hp : 0 < new.length := by omega
          have hle : o + new.length ≤ cs.length := by omega
          obtain ⟨s1, s2, s3⟩ := R.store (P := P) hb g1 n1 n2 hp hle (if (new.all fun v => v.under (b + 1)) then m.esc else minEsc m.esc b)
          have hl2 := n1.length
          refine ⟨.skip, _, ι, undef, ?_, .inr ⟨rfl, rfl⟩, ⟨[], rfl, rfl⟩, s2, s3⟩
          have hsize : (ρ x).cells.size = sz := by simp at hl2; omega
          simp only [execOp, Instr.storeAt, g2, Instr.sureAddr, Sem.run_bind, Sem.run_pure, Result.andThen_ok, storeVar, run_sizeT hsz, hsize, ne_eq, not_true_eq_false, if_false, s1]
        · cases hl
      · cases hl
    · cases hl
  | convert src dst x =>
    left
    simp only [compileOp] at hc
    split at hc
    · simp only [Option.map_eq_some_iff] at hc
      obtain ⟨x', hx, rfl⟩ := hc
      cases hl
    · simp only [Option.map_eq_some_iff] at hc
      obtain ⟨x', hx, rfl⟩ := hc
      cases hl
    · rename_i e h1 h2
      split at hc
      · rename_i h3 h4
        simp only [Option.map_eq_some_iff] at hc
        obtain ⟨x', hx, rfl⟩ := hc
        simp only [heavy] at hl
        have hv := hρ _ _ hx
        split at hl
        · rename_i s ee; rw [ee] at hv
          split at hl
          · rename_i hmax
            cases hl
            have hcap := grownCap_ge w s.size 0 e
            generalize hcp : grownCap w s.size 0 e = cp at *
            have hnl := byteVals_length s
            have hcell : ((bytesOf s).all AV.isCell) = true := by
              rw [List.all_eq_true]; intro y hy; simp only [bytesOf, List.mem_map] at hy; obtain ⟨b, _, rfl⟩ := hy; rfl
            have hbv : VL ι w.drew (bytesOf s) (byteVals s) := VL.map_of (f := fun b : UInt8 => AV.int .u8 b.toNat) (g := fun b : UInt8 => Value.int .u8 b.toNat) _ (fun b _ => rfl)
            have hlen : (byteVals s ++ List.replicate (cp - s.size) (Value.int .u8 0)).length = cp := by
              rw [List.length_append, hnl, List.length_replicate]; omega
            obtain ⟨r1, r2⟩ := R.drew.allocF (e := e) (fz := (cp, cp + 1)) hbv hcell (List.replicate (cp - s.size) (Value.int .u8 0)) (fun o ho => by rw [hlen] at ho; simp; omega)
            refine ⟨_, _, _, .slice (some ⟨w.heap.size, 0, none⟩) s.size cp, ?_, .inl rfl, ?_, r1, (Ext.drew ι m w).trans r2⟩
            · have hnf : (Question.appendCap s.size 0 e).forced = false := rfl
              have hsh := alloc_shape w.drew (byteVals s ++ List.replicate (cp - s.size) (Value.int .u8 0)) e
              have harr : (s.data.map fun b => Value.int .u8 b.toNat) ++ Array.replicate (cp - s.size) (Value.int .u8 0) = (byteVals s ++ List.replicate (cp - s.size) (Value.int .u8 0)).toArray := by
                apply Array.ext'; simp [byteVals]
              rw [hlen] at hsh
              have hfe := freeze_end w.drew (byteVals s ++ List.replicate (cp - s.size) (Value.int .u8 0)).toArray e cp
              unfold grownCap at hcp
              simp only [execOp, V.str_inv hv, convert, Sem.run_bind, run_underlying h1, run_underlying h2, run_underlying h3, Result.andThen_ok, Conv.stringToBytes, run_choose, hnf, Bool.false_eq_true, if_false]
              simp only [World.drew_eq, newRow, Sem.run_bind, run_newObj, Result.andThen_ok, Sem.run_pure, World.alloc_eq, markStringish, run_shape]
              simp only [hcp, harr]
              simp only [World.size_drew] at hsh hfe ⊢
              rw [hsh]
              simp only [run_freeze, hfe, Result.andThen_ok, Sem.run_pure]
            · refine ⟨w.heap.size, 0, 0, cp, e, cp, by rw [← R.len]; exact emb_last _ _, rfl, hcap, .inl rfl, ?_, by omega, fun q hq => by cases hq⟩
              unfold World.shape?
              rw [show w.heap.size = w.drew.heap.size from rfl, heap_alloc_new]
              simp only [List.size_toArray, hlen]
          · cases hl
        · cases hl
      · cases hc
    · split at hc
      · simp only [Option.map_eq_some_iff] at hc
        obtain ⟨_, _, rfl⟩ := hc
        cases hl
      · cases hc
    · cases hc
  | makeSlice t l c =>
    left
    simp only [compileOp] at hc
    split at hc
    · rename_i e hu
      simp only [Option.bind_eq_bind, Option.bind_eq_some_iff] at hc
      obtain ⟨sz, hsz, by', hby, zero, hz, hc⟩ := hc
      split at hc
      · rename_i hcond
        simp only [Bool.and_eq_true, decide_eq_true_eq, beq_iff_eq] at hcond
        simp only [Option.bind_eq_some_iff, Option.pure_def, Option.some.injEq] at hc
        obtain ⟨l', hl', c', hc', rfl⟩ := hc
        simp only [heavy] at hl
        have h1 := hρ _ _ hl'
        have h2 := hρ _ _ hc'
        split at hl
        · rename_i i j e1 e2
          rw [e1] at h1; rw [e2] at h2
          split at hl
          · rename_i hb
            obtain ⟨b1, rfl, b3⟩ := hb
            cases hl
            obtain ⟨⟨c0, c1⟩, c2⟩ := hcond
            obtain ⟨z, hz1, hz2, hz3⟩ := zeroT_ok (ι := ι) (w := w) hz
            have hzl : z.cells.toList.length = sz := by rw [hz2.length, c2]
            have hb3 : i ≤ 35184372088832 := by
              unfold maxBytes at b3
              have : i * 1 ≤ i * (by' : Int) := Int.mul_le_mul_of_nonneg_left (by omega) b1
              omega
            have hwr := wrap_id b1 hb3
            cases hi : P.info? e with
            | none => simp [szT, hi] at hsz
            | some inf =>
              have hbb : inf.bytes = by' := by simpa [bytesT, hi] using hby
              have hall : (zeros i.toNat zero).all AV.isCell = true := by
                unfold zeros
                rw [List.all_eq_true]
                intro y hy
                simp only [List.mem_flatten, List.mem_replicate] at hy
                obtain ⟨l, ⟨_, rfl⟩, hy⟩ := hy
                exact List.all_eq_true.mp hz3 y hy
              obtain ⟨r1, r2⟩ := R.alloc (e := e) (VL.flatten hz2 i.toNat) hall []
              rw [List.append_nil] at r1 r2
              have hzeros := zerosArr z.cells.toList i.toNat
              rw [hzl] at hzeros
              have harr : (Array.range (i.toNat * sz)).map (fun j => z.cells[j % z.cells.size]!) = (List.replicate i.toNat z.cells.toList).flatten.toArray := by
                apply Array.ext'
                rw [← hzeros]
              refine ⟨_, _, _, .slice (some ⟨w.heap.size, 0, none⟩) i.toNat i.toNat, ?_, .inl rfl, ?_, r1, r2⟩
              · have hex : execOp ρ ⟨dst, .makeSlice t l c, ty, pos, aft, gd⟩ = (do pure (.value (← Instr.makeSlice t (ρ l) (ρ c)))) := rfl
                have ht : ¬ (i < 0 ∨ (inf.bytes : Int) * i > 2 ^ 48) := by
                  rw [hbb, Int.mul_comm]
                  unfold maxBytes at b3
                  omega
                rw [hex]
                simp only [Instr.makeSlice, Sem.run_bind, run_underlying hu, Result.andThen_ok, V.int_inv h1, V.int_inv h2, asInt, asIntOf, Sem.run_pure, run_infoT hi, hwr]
                rw [if_neg (by simp; omega)]
                simp only [Sem.run_bind, run_askRoom, Result.andThen_ok, run_sizeT hsz]
                by_cases h0 : i.toNat * sz = 0
                · rw [if_pos h0]
                  have e0 : (List.replicate i.toNat z.cells.toList).flatten = [] := by
                    apply List.eq_nil_of_length_eq_zero
                    simp only [List.length_flatten, List.map_replicate, List.sum_replicate_nat, hzl]
                    exact h0
                  have e1 : ∀ q : Array Value, (Array.range (i.toNat * sz)).map (fun j => q[j % q.size]!) = #[] := by
                    intro q; rw [h0]; apply Array.ext'; simp
                  simp only [Sem.run_bind, Sem.run_pure, Result.andThen_ok, newRow, run_newObj, e1, e0, World.alloc_eq]
                · rw [if_neg h0]
                  simp only [Sem.run_bind, hz1, Sem.run_pure, Result.andThen_ok, newRow, run_newObj, harr, World.alloc_eq]
              · refine ⟨w.heap.size, 0, 0, i.toNat, e, _, by rw [← R.len]; exact emb_last _ _, rfl, Nat.le_refl _, .inl rfl, alloc_shape w _ e, ?_, fun q hq => by cases hq; rfl⟩
                simp [hzl]
          · cases hl
        · cases hl
      · cases hc
    · cases hc
  | call c =>
    simp only [compileOp, compileCall] at hc
    split at hc
    · rename_i fo hcal
      right
      simp only [Option.bind_eq_bind, Option.bind_eq_some_iff, Option.pure_def, Option.some.injEq] at hc
      obtain ⟨x, hx, xs, hxs, rfl⟩ := hc
      simp only [heavy] at hl
      have hv := hρ _ _ hx
      split at hl
      · rename_i k first cap e
        rw [e] at hv
        obtain ⟨us, vs, q1, q2, q3⟩ := hv
        obtain ⟨ws, e1, q4⟩ := mapX_list hρ hxs
        refine ⟨k, _, hl, us ++ ws ++ vs, (q2.append q4).append q3, fun fn hf hb hn => ?_⟩
        obtain ⟨bd, hbd⟩ := Option.isSome_iff_exists.mp hb
        simp only [execOp, resolve, hcal, q1, Deferred.ofValue, pure_bind, invoke, callFunc]
        simp [hf, hbd, hn, e1]
      · cases hl
    · -- len
      split at hc
      · split at hc
        · simp only [Option.map_eq_some_iff] at hc; obtain ⟨_, _, rfl⟩ := hc; cases hl
        · simp only [Option.map_eq_some_iff] at hc; obtain ⟨_, _, rfl⟩ := hc; cases hl
        · cases hc; cases hl
        · cases hc
      · cases hc
    · -- append
      rename_i hcal
      left
      have hex : execOp ρ ⟨dst, .call c, ty, pos, aft, gd⟩ = (do pure (.value (← Builtin.append_ c.argTypes ty (c.args.map ρ)))) := by
        simp only [execOp, resolve, hcal]; rfl
      split at hc
      · rename_i t u s x ht hu hs hx
        have a0 : (c.args.map ρ)[0]? = some (ρ s) := by simp [hs]
        have a1 : (c.args.map ρ)[1]? = some (ρ x) := by simp [hx]
        split at hc
        · rename_i e e' hut huu
          simp only [Option.bind_eq_bind, Option.bind_eq_some_iff] at hc
          obtain ⟨sz, hsz, by', hby, s', hs', x', hx', hc⟩ := hc
          split at hc
          · rename_i hcond
            simp only [Bool.and_eq_true, decide_eq_true_eq, beq_iff_eq, Option.map_eq_some_iff] at hcond
            obtain ⟨⟨c1, c2⟩, zs, c3, c4⟩ := hcond
            cases hc
            obtain ⟨w', ι', v', r1, r2, r3, r4⟩ := append_ok (P := P) (u := u) ty c.argTypes (c.args.map ρ) ht hu hut (.inl ⟨rfl, e', huu⟩) hsz hby c1 c2 c3 c4 a0 a1 R (hρ _ _ hs') (hρ _ _ hx') rfl rfl hl
            exact ⟨_, w', ι', v', by rw [hex]; simp [r1], .inl rfl, r2, r3, r4⟩
          · cases hc
        · rename_i e hut huu
          simp only [Option.bind_eq_bind, Option.bind_eq_some_iff] at hc
          obtain ⟨sz, hsz, by', hby, s', hs', x', hx', hc⟩ := hc
          split at hc
          · rename_i hcond
            simp only [Bool.and_eq_true, decide_eq_true_eq, beq_iff_eq, Option.map_eq_some_iff] at hcond
            obtain ⟨⟨c1, c2⟩, zs, c3, c4⟩ := hcond
            cases hc
            subst c1; subst c2
            obtain ⟨w', ι', v', r1, r2, r3, r4⟩ := append_ok (P := P) (u := u) ty c.argTypes (c.args.map ρ) ht hu hut (.inr ⟨huu, rfl⟩) hsz hby (by omega) (by omega) c3 c4 a0 a1 R (hρ _ _ hs') (hρ _ _ hx') rfl rfl hl
            exact ⟨_, w', ι', v', by rw [hex]; simp [r1], .inl rfl, r2, r3, r4⟩
          · cases hc
        · cases hc
      · cases hc
    · split at hc
      · split at hc
        · cases hc; cases hl
        · cases hc
      · cases hc
    · split at hc
      · split at hc
        · cases hc; cases hl
        · cases hc
      · cases hc
    · cases hc
  | _ => exact absurd hl (by rw [heavy_none (fun e => by have h := kinds_ok hc; rw [e] at h; simp [opKinds] at h)]; simp)

end
end Go.Proofs.Ytlocjmbfcdfjfaa.Slim
