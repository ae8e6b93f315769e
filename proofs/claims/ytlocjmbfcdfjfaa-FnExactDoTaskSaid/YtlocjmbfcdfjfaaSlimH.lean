/- The slim machine: the operations that read memory, those that make a block, and those that write. -/
import Derived.Test.YtlocjmbfcdfjfaaSlimG
import Derived.Laws.Append
import Derived.Laws.BytesString
import Derived.Laws.BytesArg
namespace Go.Proofs.Ytlocjmbfcdfjfaa.Slim
open Go
set_option linter.unusedVariables false
set_option linter.unusedSimpArgs false

section
variable {ι : Emb} {m : Mem} {w : World}

theorem addr_add (c o j : Nat) : (⟨c, o, none⟩ : Addr).add j = ⟨c, o + j, none⟩ := by
  unfold Addr.add
  by_cases h : j = 0
  · simp [h]
  · simp [h]

theorem cellsAt_inv {H : List Blk} {b : Nat} {cs : List AV} (h : cellsAt H b = some cs) : ∃ wr, H[b]? = some (.cells cs wr) := by
  unfold cellsAt at h
  split at h
  · rename_i cs' wr e; cases h; exact ⟨wr, e⟩
  · cases h

/-- a stretch of a block, as the model reads it -/
theorem CellsAt.stretch {c d : Nat} {cs : List AV} {wr : Bool} (h : CellsAt ι w c d cs wr) (o n : Nat) (hn : o + n ≤ cs.length) :
    ∃ vs : List Value, vs.length = n ∧ VL ι w ((cs.drop o).take n) vs ∧ ∀ j v, vs[j]? = some v → w.cell? ((⟨c, d + o, none⟩ : Addr).add j) = some v := by
  obtain ⟨⟨vs, h1, h2⟩, _, _⟩ := h
  refine ⟨(vs.drop o).take n, ?_, (h1.drop o).take n, fun j v hj => ?_⟩
  · have := h1.length; simp; omega
  · rw [addr_add]
    have hj' : vs[o + j]? = some v := by
      rw [List.getElem?_take] at hj
      split at hj
      · rwa [List.getElem?_drop] at hj
      · cases hj
    have := h2 (o + j) v hj'
    rwa [← Nat.add_assoc] at this

theorem all_sub {cs : List AV} (h : cs.all AV.isCell = true) (o n : Nat) : ((cs.drop o).take n).all AV.isCell = true :=
  List.all_eq_true.mpr fun y hy => List.all_eq_true.mp h y (List.mem_of_mem_drop (List.mem_of_mem_take hy))

theorem loadAt_ok {P : Program} {t : TypeId} {agg : Bool} {sz : Nat} (R : Rel ι m w) (ha : aggT P t = some agg) (hs : szT P t = some sz) {a v : AV} {a' : Value} (hv : V ι w a a')
    (h : Slim.loadAt m.H agg sz a = some v) : ∃ v', (do loadVar t (← Instr.sureAddr a') : Sem Value).run P w = .ok v' w ∧ V ι w v v' := by
  unfold Slim.loadAt at h
  split at h
  · rename_i b o
    obtain ⟨c, d, g1, rfl⟩ := hv
    split at h
    · cases h
    · rename_i cs hcs
      obtain ⟨wr, hb⟩ := cellsAt_inv hcs
      obtain ⟨c', d', g2, hC⟩ := R.at' b cs wr hb
      rw [g1] at g2
      cases g2
      split at h
      · rename_i hag
        subst hag
        split at h
        · rename_i hle
          cases h
          obtain ⟨vs, l1, l2, l3⟩ := hC.stretch o sz hle
          have hr := run_loadCells_list (P := P) w ⟨c, d + o, none⟩ vs l3
          rw [l1] at hr
          exact ⟨.agg vs.toArray, by simp [Instr.sureAddr, loadVar, run_aggT ha, run_sizeT hs, hr], vs, rfl, l2, all_sub hC.cell _ _⟩
        · cases h
      · rename_i hag
        have hag' : agg = false := by simpa using hag
        subst hag'
        obtain ⟨⟨vs, h1, h2⟩, _, _⟩ := hC
        obtain ⟨y, h3, h4⟩ := h1.get o v h
        have hc := h2 o y h3
        exact ⟨y, by simp [Instr.sureAddr, loadVar, run_aggT ha, hc], h4⟩
  · cases h

theorem ofBytesL_inv : ∀ {cs : List AV} {bs : List UInt8} {vs : List Value}, ofBytesL cs = some bs → VL ι w cs vs → ∃ ns : List Int, vs = ns.map (Value.int .u8) ∧ bs = ns.map fun n => UInt8.ofNat n.toNat
  | [], bs, vs, h, hv => by cases h; cases hv; exact ⟨[], rfl, rfl⟩
  | c :: cs, bs, vs, h, hv => by
    unfold ofBytesL at h
    obtain ⟨y, ys, rfl, h1, h2⟩ := hv
    split at h
    · rename_i b bs' hb hbs
      cases h
      obtain ⟨ns, rfl, rfl⟩ := ofBytesL_inv hbs h2
      unfold byteOf at hb
      split at hb
      · rename_i n
        cases hb; cases h1
        exact ⟨n :: ns, rfl, rfl⟩
      · cases hb
    · cases h

theorem foldl_bytes : ∀ (ns : List Int) (s : ByteArray), ns.foldl (fun r n => r.push (UInt8.ofNat n.toNat)) s = ⟨(s.data.toList ++ ns.map fun n => UInt8.ofNat n.toNat).toArray⟩
  | [], s => by simp
  | n :: ns, s => by
    rw [List.foldl_cons, foldl_bytes ns]
    simp [ByteArray.push]

/-- which operations may read memory, make a block, or write -/
def AO.kind : AO → Nat
  | .load .. | .ofBytes _ | .sliceArr .. => 1
  | .alloc _ | .box _ | .buildSlice .. => 2
  | .store .. | .toBytes _ | .makeSlice .. | .append .. | .call .. => 3
  | _ => 0

def opKinds : Op → List Nat
  | .load .. => [1]
  | .convert .. => [0, 1, 3]
  | .slice .. => [0, 1]
  | .alloc _ | .box .. | .buildSlice .. => [2]
  | .store .. | .makeSlice .. => [3]
  | .call _ => [0, 3]
  | _ => [0]

theorem memop_none {g : X → AV} {H : List Blk} {ao : AO} (h : ao.kind ≠ 1) : memop g H ao = none := by
  cases ao <;> first | rfl | (exact absurd rfl h)

theorem call_kinds {P : Program} {cx : Look} {c : Call} {ao : AO} (hc : compileOp P cx (.call c) = some ao) : ao.kind ∈ opKinds (.call c) := by
  simp only [compileOp, compileCall] at hc
  split at hc
  · simp only [Option.bind_eq_bind, Option.bind_eq_some_iff, Option.pure_def, Option.some.injEq] at hc
    obtain ⟨_, _, _, _, rfl⟩ := hc
    simp [AO.kind, opKinds]
  · split at hc
    · split at hc
      · simp only [Option.map_eq_some_iff] at hc; obtain ⟨_, _, rfl⟩ := hc; simp [AO.kind, opKinds]
      · simp only [Option.map_eq_some_iff] at hc; obtain ⟨_, _, rfl⟩ := hc; simp [AO.kind, opKinds]
      · cases hc; simp [AO.kind, opKinds]
      · cases hc
    · cases hc
  · split at hc
    · split at hc
      · simp only [Option.bind_eq_bind, Option.bind_eq_some_iff] at hc
        obtain ⟨_, _, _, _, _, _, _, _, hc⟩ := hc
        split at hc
        · cases hc; simp [AO.kind, opKinds]
        · cases hc
      · simp only [Option.bind_eq_bind, Option.bind_eq_some_iff] at hc
        obtain ⟨_, _, _, _, _, _, _, _, hc⟩ := hc
        split at hc
        · cases hc; simp [AO.kind, opKinds]
        · cases hc
      · cases hc
    · cases hc
  · split at hc
    · split at hc
      · cases hc; simp [AO.kind, opKinds]
      · cases hc
    · cases hc
  · split at hc
    · split at hc
      · cases hc; simp [AO.kind, opKinds]
      · cases hc
    · cases hc
  · cases hc

theorem kinds_ok {P : Program} {cx : Look} {op : Op} {ao : AO} (hc : compileOp P cx op = some ao) : ao.kind ∈ opKinds op := by
  by_cases hca : ∃ c, op = .call c
  · obtain ⟨c, rfl⟩ := hca; exact call_kinds hc
  by_cases hmf : ∃ fn a b, op = .makeFunc fn a b
  · obtain ⟨fn, a, b, rfl⟩ := hmf
    cases fn <;> first
      | (cases hc; done)
      | (simp only [compileOp, Option.bind_eq_bind, Option.bind_eq_some_iff, Option.pure_def, Option.some.injEq] at hc
         obtain ⟨_, _, _, _, rfl⟩ := hc
         simp [AO.kind, opKinds])
  cases op <;> first
    | (cases hc; done)
    | (exact absurd ⟨_, _, _, rfl⟩ hmf)
    | (exact absurd ⟨_, rfl⟩ hca)
    | (simp only [compileOp] at hc
       repeat' (split at hc)
       all_goals first
         | (cases hc; done)
         | (simp only [Option.map_eq_some_iff] at hc; obtain ⟨_, _, rfl⟩ := hc; simp [AO.kind, opKinds]; done)
         | (simp only [Option.bind_eq_bind, Option.bind_eq_some_iff, Option.pure_def, Option.some.injEq] at hc
            first
              | (obtain ⟨_, _, rfl⟩ := hc; simp [AO.kind, opKinds]; done)
              | (obtain ⟨_, _, _, _, rfl⟩ := hc; simp [AO.kind, opKinds]; done)
              | (obtain ⟨_, _, _, _, _, _, rfl⟩ := hc; simp [AO.kind, opKinds]; done)
              | (obtain ⟨_, _, _, _, _, _, _, _, rfl⟩ := hc; simp [AO.kind, opKinds]; done)
              | (obtain ⟨_, _, hc⟩ := hc; split at hc
                 · simp only [Option.bind_eq_some_iff, Option.some.injEq] at hc
                   obtain ⟨_, _, rfl⟩ := hc; simp [AO.kind, opKinds]; done
                 · cases hc)
              | (obtain ⟨_, _, _, _, hc⟩ := hc; split at hc
                 · simp only [Option.bind_eq_some_iff, Option.some.injEq] at hc
                   obtain ⟨_, _, rfl⟩ := hc; simp [AO.kind, opKinds]; done
                 · cases hc)
              | (obtain ⟨_, _, _, _, _, _, hc⟩ := hc; split at hc
                 · simp only [Option.bind_eq_some_iff, Option.some.injEq] at hc
                   obtain ⟨_, _, _, _, rfl⟩ := hc; all_goals simp [AO.kind, opKinds]
                 · cases hc)
              | (obtain ⟨_, _, hc⟩ := hc; split at hc
                 · simp only [Option.bind_eq_some_iff, Option.some.injEq] at hc
                   obtain ⟨_, _, _, _, _, _, _, _, rfl⟩ := hc; simp [AO.kind, opKinds]; done
                 · cases hc)
              | (exfalso; simp at hc; done)
              | (obtain ⟨_, _, _, _, _, _, hc⟩ := hc; simp at hc; done)
              | (obtain ⟨_, _, _, _, hc⟩ := hc; simp at hc; done)))

theorem memop_ok {P : Program} {cx : Look} {g : X → AV} {ρ : Operand → Value} (hρ : OkX ι w cx g ρ) (R : Rel ι m w) (o : Oper) {ao : AO} {v : AV}
    (hc : compileOp P cx o.op = some ao) (hl : memop g m.H ao = some v) : Does P ι w ρ o v := by
  obtain ⟨dst, op, ty, pos, aft, gd⟩ := o
  cases op with
  | load t a =>
    simp only [compileOp, Option.bind_eq_bind, Option.bind_eq_some_iff, Option.pure_def, Option.some.injEq] at hc
    obtain ⟨ag, ha, n, hn, x', hx, rfl⟩ := hc
    exact doesV (Instr.loadAt t (ρ a)) rfl (loadAt_ok R ha hn (hρ _ _ hx) hl)
  | convert src dst x =>
    simp only [compileOp] at hc
    split at hc
    · simp only [Option.map_eq_some_iff] at hc
      obtain ⟨x', hx, rfl⟩ := hc
      cases hl
    · simp only [Option.map_eq_some_iff] at hc
      obtain ⟨x', hx, rfl⟩ := hc
      cases hl
    · split at hc
      · simp only [Option.map_eq_some_iff] at hc
        obtain ⟨_, _, rfl⟩ := hc
        cases hl
      · cases hc
    · rename_i e h1 h2
      split at hc
      · rename_i h3 h4
        simp only [Option.map_eq_some_iff] at hc
        obtain ⟨x', hx, rfl⟩ := hc
        simp only [memop] at hl
        have hv := hρ _ _ hx
        split at hl
        · rename_i p sz n cp ex
          rw [ex] at hv
          split at hl
          · rename_i k cs hsrc
            split at hl
            · rename_i hsz
              simp only [Option.map_eq_some_iff] at hl
              obtain ⟨bs, hbs, rfl⟩ := hl
              have hex : execOp ρ ⟨dst, .convert src dst x, ty, pos, aft, gd⟩ = (do pure (.value (← convert src dst (ρ x)))) := rfl
              cases p with
              | none =>
                obtain ⟨rfl, hxa⟩ := hv
                simp only [srcCells, Bool.false_eq_true, if_false, Option.some.injEq, Prod.mk.injEq] at hsrc
                obtain ⟨rfl, rfl⟩ := hsrc
                cases hbs
                exact doesV _ rfl ⟨.string ByteArray.empty, by rw [hxa]; simp [convert, run_underlying h1, run_underlying h2, run_underlying h3, Conv.bytesToString], rfl⟩
              | some p =>
                obtain ⟨b, o⟩ := p
                have hsz1 : sz = 1 := by
                  rcases hsz with h | h
                  · exact h
                  · cases h
                subst hsz1
                obtain ⟨c, d, xo, k', e', M, g1, hxa, g3, g4, g5, g6, g7⟩ := hv
                simp only [srcCells, Bool.false_eq_true, if_false] at hsrc
                split at hsrc
                · cases hsrc
                · rename_i cs' hcs
                  split at hsrc
                  · rename_i hle
                    simp only [Option.some.injEq, Prod.mk.injEq] at hsrc
                    obtain ⟨rfl, rfl⟩ := hsrc
                    obtain ⟨wr, hb⟩ := cellsAt_inv hcs
                    obtain ⟨c', d', g8, hC⟩ := R.at' b cs' wr hb
                    rw [g1] at g8
                    cases g8
                    obtain ⟨vs, l1, l2, l3⟩ := hC.stretch o (n * 1) hle
                    obtain ⟨ns, rfl, rfl⟩ := ofBytesL_inv hbs l2
                    have hload : (loadCells ⟨c, xo, none⟩ n).run P w = .ok (ns.map (Value.int .u8)).toArray w := by
                      rcases g4 with rfl | ⟨rfl, rfl⟩
                      · have hr := run_loadCells_list (P := P) w ⟨c, d + o, none⟩ _ l3
                        rwa [l1, Nat.mul_one] at hr
                      · have : ns = [] := by
                          have := l1; simp at this; exact this
                        subst this
                        simp [loadCells, loadCellsFrom]
                    have hbts := run_bytesToString (P := P) w ⟨c, xo, none⟩ n k' ns hload
                    refine doesV _ rfl ⟨_, ?_, rfl⟩
                    rw [hxa]
                    simp only [convert, Sem.run_bind, run_underlying h1, run_underlying h2, run_underlying h3, Result.andThen_ok, hbts, foldl_bytes]
                    rfl
                  · cases hsrc
            · cases hl
          · cases hl
        · cases hl
      · cases hc
    · cases hc
  | slice t x lo hi mx =>
    simp only [compileOp] at hc
    split at hc
    · split at hc
      · simp only [Option.bind_eq_bind, Option.bind_eq_some_iff, Option.pure_def, Option.some.injEq] at hc
        obtain ⟨_, _, _, _, _, _, rfl⟩ := hc
        cases hl
      · cases hc
    · simp only [Option.bind_eq_bind, Option.bind_eq_some_iff] at hc
      obtain ⟨_, _, hc⟩ := hc
      split at hc
      · simp only [Option.bind_eq_some_iff, Option.pure_def, Option.some.injEq] at hc
        obtain ⟨_, _, _, _, _, _, _, _, rfl⟩ := hc
        cases hl
      · cases hc
    · rename_i n e hu
      simp only [Option.bind_eq_bind, Option.bind_eq_some_iff] at hc
      obtain ⟨sz, hsz, hc⟩ := hc
      split at hc
      · rename_i hpos
        simp only [Option.bind_eq_some_iff, Option.pure_def, Option.some.injEq] at hc
        obtain ⟨x', hx, lo', hlo, hi', hhi, mx', hmx, rfl⟩ := hc
        simp only [memop] at hl
        have hv := hρ _ _ hx
        split at hl
        · rename_i b o ex
          rw [ex] at hv
          obtain ⟨c, d, g1, hxa⟩ := hv
          split at hl
          · rename_i cs h l mm hb eh el em
            split at hl
            · rename_i hcond
              obtain ⟨hmh, hne, hle⟩ := hcond
              obtain ⟨c', d', g2, hC⟩ := R.at' b cs true hb
              rw [g1] at g2
              cases g2
              obtain ⟨e', M, hsh, hfree⟩ := hC.free rfl
              have hM : d + cs.length ≤ M := by
                obtain ⟨⟨vs, h1, h2⟩, _, _⟩ := hC
                have hlen := h1.length
                obtain ⟨y, hy⟩ : ∃ y, vs[cs.length - 1]? = some y := ⟨vs[cs.length - 1]'(by omega), List.getElem?_eq_getElem (by omega)⟩
                have := h2 _ _ hy
                unfold World.cell? at this
                unfold World.shape? at hsh
                cases hh : w.heap[c]? with
                | none => simp [hh] at this
                | some ob =>
                  cases ob <;> simp [hh] at this hsh
                  rename_i cells el fz
                  obtain ⟨rfl, rfl⟩ := hsh
                  obtain ⟨this, _⟩ := Array.getElem?_eq_some_iff.mp this
                  omega
              obtain ⟨r1, r2, r3, r4⟩ := sliceVal_ok (k := n) (d := d) (xo := d + o) hl (Nat.le_refl _) g1 (.inl rfl) hsh (.inr (by omega)) (fun q hq => by cases hq; rfl)
              have hr := run_sliceBounds (P := P) (w := w) hρ (len := n) (cap := n) false hlo hhi hmx el eh (optNat_inv (cx := cx) (mx := mx) (k := n) em) r2 r3 r4 hmh
              refine doesV (Instr.sliceAt t (ρ x) (lo.map ρ) (hi.map ρ) (mx.map ρ)) rfl ⟨_, ?_, r1⟩
              rw [hxa]
              simp only [Instr.sliceAt, Sem.run_bind, run_underlying hu, Result.andThen_ok, Instr.sureAddr, Sem.run_pure, hr, run_sizeT hsz]
              congr 2
              split <;> simp
            · cases hl
          · cases hl
        · cases hl
      · cases hc
    · cases hc
  | _ => exact absurd hl (by rw [memop_none (fun e => by have h := kinds_ok hc; rw [e] at h; simp [opKinds] at h)]; simp)
end
end Go.Proofs.Ytlocjmbfcdfjfaa.Slim
