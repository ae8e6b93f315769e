/- The slim machine: what a law is handed, opened; and what is told of a law. -/
import Derived.Test.YtaikmfldjkbmmaaSlimZ6
import Derived.WalkKit
import Derived.ProofKit
import Derived.OpenShut
import Derived.Below
import Derived.Carry
import Derived.Deep.Slices
import Derived.Deep.Fields
import Derived.ChangeSame
import Derived.Lib.SmallJoins
/- The slim machine: what a law is handed, opened; and what is told of a law. -/
namespace Go.Proofs.Ytaikmfldjkbmmaa.Slim
open Go Go.Deep Go.RowKit
set_option linter.unusedVariables false
set_option linter.unusedSimpArgs false

/-- memory that is handed in: it is read alone -/
structure Opened (ι : Emb) (H : List Blk) (w : World) : Prop where
  rel : Rel ι ⟨H, none⟩ w
  ro : ∀ (b : Nat) cs, H[b]? ≠ some (.cells cs true)

/-- the variables that are read hold what they hold -/
def GlobAt (w : World) : Prop := ∀ p, p ∈ globTab → p.1 < w.heap.size ∧ ∃ cs e fz, w.heap[p.1]? = some (.cells cs e fz) ∧ p.2 cs

theorem GlobAt.no (w : World) (h : globTab = []) : GlobAt w := fun p hp => by rw [h] at hp; cases hp

theorem GlobAt.glob {w : World} (h : GlobAt w) {ι : Emb} {H : List Blk} (hro : ∀ (b : Nat) cs, H[b]? ≠ some (.cells cs true)) : Glob ι ⟨H, none⟩ w := fun p hp =>
  ⟨(h p hp).1, fun ⟨b, cs, d, hb, _⟩ => hro b cs hb, (h p hp).2⟩

theorem Opened.nil {w : World} (g : GlobAt w) : Opened [] [] w :=
  ⟨⟨⟨rfl, fun b c d h => by simp at h, fun b cs wr h => by simp at h, fun b b' cs cs' wr c d c' d' _ h => by simp at h⟩, g.glob fun b cs h => by simp at h⟩, fun b cs h => by simp at h⟩

theorem Opened.add {ι : Emb} {H : List Blk} {w : World} (O : Opened ι H w) {c d : Nat} {k : IntKind} {zs : List Int} (hc : c < w.heap.size) (h : ∀ j z, zs[j]? = some z → w.cell? ⟨c, d + j, none⟩ = some (.int k z)) :
    Opened (ι ++ [some (c, d)]) (H ++ [.cells (zs.map (AV.int k)) false]) w := by
  have hle : Emb.le ι (ι ++ [some (c, d)]) := fun b p hb => by
    rw [List.getElem?_append_left]; exact hb
    exact (List.getElem?_eq_some_iff.mp hb).1
  have hro : ∀ (b : Nat) cs, (H ++ [Blk.cells (zs.map (AV.int k)) false])[b]? ≠ some (.cells cs true) := by
    intro b cs hb
    rw [List.getElem?_append] at hb
    split at hb
    · exact O.ro b cs hb
    · have : b - H.length = 0 := by
        have := (List.getElem?_eq_some_iff.mp hb).1
        simp at this; omega
      rw [this] at hb
      simp at hb
  have hg : GlobAt w := fun p hp => ⟨(O.rel.glob p hp).1, (O.rel.glob p hp).2.2⟩
  refine ⟨⟨⟨by simp [O.rel.len], ?_, ?_, fun b b' cs cs' wr c d c' d' _ hb => absurd hb (hro b cs)⟩, hg.glob hro⟩, hro⟩
  · intro b c' d' hb
    rw [List.getElem?_append] at hb
    split at hb
    · exact O.rel.low b c' d' hb
    · have : b - ι.length = 0 := by
        have := (List.getElem?_eq_some_iff.mp hb).1
        simp at this; omega
      rw [this] at hb
      simp at hb
      rw [← hb.1]; exact hc
  · intro b cs wr hb
    have hl := O.rel.len
    simp only [] at hl
    simp only [List.getElem?_append] at hb
    split at hb
    · obtain ⟨c', d', h1, h2⟩ := O.rel.at' b cs wr hb
      refine ⟨c', d', hle _ _ h1, ?_, h2.cell, h2.free⟩
      obtain ⟨vs, v1, v2⟩ := h2.vals
      exact ⟨vs, VL.mono hle (Shapes.refl w) _ _ v1, v2⟩
    · rename_i hlt
      have h0 : b - H.length = 0 := by
        have := (List.getElem?_eq_some_iff.mp hb).1
        simp at this; omega
      have hbe : b = ι.length := by omega
      rw [h0] at hb
      simp at hb
      obtain ⟨rfl, rfl⟩ := hb
      refine ⟨c, d, by rw [hbe]; simp, ⟨zs.map (Value.int k), VL.map_of zs (fun x _ => rfl), ?_⟩, ?_, fun e => by cases e⟩
      · intro j v hj
        rw [List.getElem?_map, Option.map_eq_some_iff] at hj
        obtain ⟨z, hz, rfl⟩ := hj
        exact h j z hz
      · simp [AV.isCell]

/-- a slice of k's, nf of them an element, as it is handed in -/
def IsArg (H : List Blk) (av : AV) (k : IntKind) (nf : Nat) (es : List (List Int)) : Prop :=
  (∀ e ∈ es, e.length = nf ∧ ∀ z ∈ e, (Lit.int k z).wf = true) ∧
  ((av = nilSlice ∧ es = []) ∨ ∃ b cap, av = .slice (some (b, 0)) nf es.length (some cap) ∧ es.length ≤ cap ∧ cap ≤ maxLen ∧ H[b]? = some (.cells (es.flatten.map (AV.int k)) false))

theorem IsArg.more {H : List Blk} {av : AV} {k : IntKind} {nf : Nat} {es : List (List Int)} (h : IsArg H av k nf es) (G : List Blk) : IsArg (H ++ G) av k nf es := by
  refine ⟨h.1, ?_⟩
  rcases h.2 with h | ⟨b, cap, h1, h2, h3, h4⟩
  · exact .inl h
  · refine .inr ⟨b, cap, h1, h2, h3, ?_⟩
    rw [List.getElem?_append_left (List.getElem?_eq_some_iff.mp h4).1]
    exact h4

theorem flat_cells {w : World} {c nf : Nat} {k : IntKind} : ∀ (es : List (List Int)) (x : Nat), (∀ e ∈ es, e.length = nf) →
    (∀ i e, es[i]? = some e → ∀ j z, e[j]? = some z → w.cell? ⟨c, x + i * nf + j, none⟩ = some (.int k z)) → ∀ q z, es.flatten[q]? = some z → w.cell? ⟨c, x + q, none⟩ = some (.int k z)
  | [], x, _, _, q, z, h => by simp at h
  | e :: es, x, hl, hc, q, z, h => by
    have he := hl e (by simp)
    rw [List.flatten_cons, List.getElem?_append] at h
    split at h
    · have := hc 0 e rfl q z h
      rw [Nat.zero_mul, Nat.add_zero] at this
      exact this
    · have := flat_cells es (x + nf) (fun e' h' => hl e' (by simp [h'])) (fun i e' hi j z' hj => by
        have := hc (i + 1) e' (by simpa using hi) j z' hj
        rw [show x + nf + i * nf + j = x + (i + 1) * nf + j by rw [Nat.add_mul]; omega]
        exact this) (q - e.length) z h
      rw [show x + nf + (q - e.length) = x + q by omega] at this
      exact this

section
variable {T : Type} {enc : TypeId × Value → T} {P : Program} {w : World} {spare : Nat → Bool} {held : Bool}

/-- an element is k's alone -/
def IntsAt (enc : TypeId × Value → T) (P : Program) (w : World) (spare : Nat → Bool) (held : Bool) (k : IntKind) (e : TypeId) : Prop :=
  ∀ n cs y, DataW.trod enc P w 0 spare held n e cs = some y → ∃ zs : List Int, cs = zs.map (Value.int k) ∧ ∀ z ∈ zs, (Lit.int k z).wf = true

theorem ints_list {k : IntKind} : ∀ (cs : List Value), (∀ (i : Nat) v, cs[i]? = some v → ∃ n, v = Value.int k n ∧ (Lit.int k n).wf = true) → ∃ zs : List Int, cs = zs.map (Value.int k) ∧ ∀ z ∈ zs, (Lit.int k z).wf = true
  | [], _ => ⟨[], rfl, fun z h => by cases h⟩
  | v :: cs, h => by
    obtain ⟨n, rfl, hn⟩ := h 0 v rfl
    obtain ⟨zs, rfl, hz⟩ := ints_list cs (fun i v hi => h (i + 1) v (by simpa using hi))
    refine ⟨n :: zs, rfl, fun z hz' => ?_⟩
    rcases List.mem_cons.mp hz' with rfl | hz'
    · exact hn
    · exact hz z hz'

theorem intsAt_int {k : IntKind} {e : TypeId} (he : P.underlying e = some (.int k)) : IntsAt enc P w spare held k e := by
  intro n cs y h
  obtain ⟨z, rfl, _, hz⟩ := DataW.trod_int he h
  exact ⟨[z], rfl, fun x hx => by simp at hx; subst hx; exact hz⟩

theorem intsAt_struct {k : IntKind} {e : TypeId} {fs : Array Field} (he : P.underlying e = some (.struct fs)) (hone : oneCellFields P fs = true) (hC : P.cellsOf e = fs.size)
    (hi : ∀ (j : Nat) f, fs[j]? = some f → P.underlying f.type = some (.int k)) : IntsAt enc P w spare held k e := by
  intro n cs y h
  obtain ⟨xs, n', _, hx, hlen, hxl, hf⟩ := DataW.trod_struct he h
  refine ints_list cs fun i v hv => ?_
  have hlt : i < fs.size := by
    have := (List.getElem?_eq_some_iff.mp hv).1
    rw [← hC, ← hlen]; exact this
  have hfi : fs[i]? = some (fs[i]'hlt) := Array.getElem?_eq_getElem hlt
  obtain ⟨ho, hk⟩ := hone_of hone i _ hfi
  have h1 := hf i _ hfi
  rw [ho, hk] at h1
  have hd : (cs.drop i).take 1 = [v] := by
    have hil := (List.getElem?_eq_some_iff.mp hv).1
    rw [List.drop_eq_getElem_cons hil]
    have := (List.getElem?_eq_some_iff.mp hv).2
    rw [this]; rfl
  rw [hd] at h1
  have hxi : xs[i]? = some (xs[i]'(by omega)) := List.getElem?_eq_getElem (by omega)
  rw [hxi] at h1
  obtain ⟨z, hz, _, hzw⟩ := DataW.trod_int (hi i _ hfi) h1
  cases hz
  exact ⟨z, rfl, hzw⟩

theorem intsAt_array {k : IntKind} {e e' : TypeId} {m : Nat} (he : P.underlying e = some (.array m e')) (hC : P.cellsOf e = m) (hC' : P.cellsOf e' = 1)
    (hi : P.underlying e' = some (.int k)) : IntsAt enc P w spare held k e := by
  intro n cs y h
  obtain ⟨xs, n', _, hx, hlen, hxl, hf⟩ := DataW.trod_array he h
  refine ints_list cs fun i v hv => ?_
  have hil := (List.getElem?_eq_some_iff.mp hv).1
  have hlt : i < m := by rw [← hC, ← hlen]; exact hil
  have h1 := hf i hlt
  rw [hC', Nat.mul_one] at h1
  have hd : (cs.drop i).take 1 = [v] := by
    rw [List.drop_eq_getElem_cons hil]
    have := (List.getElem?_eq_some_iff.mp hv).2
    rw [this]; rfl
  rw [hd] at h1
  have hxi : xs[i]? = some (xs[i]'(by omega)) := List.getElem?_eq_getElem (by omega)
  rw [hxi] at h1
  obtain ⟨z, hz, _, hzw⟩ := DataW.trod_int hi h1
  cases hz
  exact ⟨z, rfl, hzw⟩

theorem addr_eq {a : Addr} (h : a.spot = none) : a = ⟨a.block, a.off, none⟩ := by cases a; simp at h; subst h; rfl

theorem has_of {r : Reach} {b0 : Nat} {t e : TypeId} {a : Addr} {len cap : Nat} (ht : P.underlying t = some (.slice e)) (hv : Cell.okWide P w r b0 t (.slice (some a) len cap)) : a.spot = none ∧ ∃ row M, w.shape? a.block = some (row, M) := by
  unfold Cell.okWide at hv
  simp only [ht] at hv
  unfold Cell.ok at hv
  simp only [ht] at hv
  obtain ⟨_, _, _, h1, row, M, h2, _⟩ := hv
  exact ⟨h1, row, M, h2⟩

theorem open_arg {ι : Emb} {H : List Blk} (O : Opened ι H w) {r : Reach} {b0 : Nat} {t e : TypeId} {k : IntKind} {nf : Nat} (ht : P.underlying t = some (.slice e)) (hC : P.cellsOf e = nf) (hpos : 0 < nf)
    (hel : IntsAt enc P w (fun _ => true) held k e) {v : Value} (hv : Cell.okWide P w r b0 t v) {fuel : Nat} {x : DataW T × List MemPlace} (h : DataW.trod enc P w 0 (fun _ => true) held fuel t [v] = some x) :
    ∃ ι2 H2 av es, Opened (ι ++ ι2) (H ++ H2) w ∧ V (ι ++ ι2) w av v ∧ IsArg (H ++ H2) av k nf es := by
  rcases Deep.open_slice ht h with ⟨h0, _⟩ | ⟨a, len, cap, m, n, D, Pl, hcs, _, hl, hm, hmm, _, hi⟩
  · cases h0
    exact ⟨[], [], nilSlice, [], by simpa using O, ⟨rfl, rfl⟩, ⟨fun e h => by simp at h, .inl ⟨rfl, rfl⟩⟩⟩
  · cases hcs
    obtain ⟨hs, row, M, hM⟩ := has_of ht hv
    simp only [if_true] at hmm
    subst hmm
    rw [hC] at hi
    have key : ∀ i, i < m → ∃ zs : List Int, zs.length = nf ∧ (∀ z ∈ zs, (Lit.int k z).wf = true) ∧ ∀ j z, zs[j]? = some z → w.cell? ⟨a.block, a.off + i * nf + j, none⟩ = some (.int k z) := by
      intro i him
      obtain ⟨cs', c1, c2⟩ := hi i him
      obtain ⟨zs, rfl, z2⟩ := hel _ _ _ c2
      obtain ⟨_, d1, d2⟩ := World.cells?_some c1
      rw [List.length_map] at d1
      refine ⟨zs, d1, z2, fun j z hj => ?_⟩
      have hjl : j < nf := by rw [← d1]; exact (List.getElem?_eq_some_iff.mp hj).1
      have := d2 j hjl
      rw [List.getElem?_map, hj] at this
      have h3 : w.cell? ((a.add (i * nf)).add j) = some (Value.int k z) := this
      rw [← h3]
      congr 1
      rw [addr_eq hs]
      unfold Addr.add
      by_cases h1 : i * nf = 0 <;> by_cases h2 : j = 0 <;> simp [h1, h2]
    have pick : ∃ f : Nat → List Int, ∀ i, i < m → (f i).length = nf ∧ (∀ z ∈ f i, (Lit.int k z).wf = true) ∧ ∀ j z, (f i)[j]? = some z → w.cell? ⟨a.block, a.off + i * nf + j, none⟩ = some (.int k z) := by
      refine ⟨fun i => if h : i < m then (key i h).choose else [], fun i him => ?_⟩
      simp only [him, dif_pos]
      exact (key i him).choose_spec
    obtain ⟨f, hf⟩ := pick
    let es := (List.range len).map f
    have hes : ∀ i e, es[i]? = some e → i < len ∧ e = f i := by
      intro i e hi
      simp only [es, List.getElem?_map, Option.map_eq_some_iff] at hi
      obtain ⟨i', h1, h2⟩ := hi
      have hlt := (List.getElem?_eq_some_iff.mp h1).1
      simp at hlt
      rw [List.getElem?_range hlt] at h1
      cases h1
      exact ⟨hlt, h2.symm⟩
    have hlen : ∀ e ∈ es, e.length = nf ∧ ∀ z ∈ e, (Lit.int k z).wf = true := by
      intro e he
      obtain ⟨i, hi⟩ := List.getElem?_of_mem he
      obtain ⟨h1, rfl⟩ := hes i e hi
      exact ⟨(hf i (by omega)).1, (hf i (by omega)).2.1⟩
    have hcells := flat_cells (w := w) (c := a.block) (k := k) es a.off (fun e he => (hlen e he).1) (fun i e hi j z hj => by
      obtain ⟨h1, rfl⟩ := hes i e hi
      exact (hf i (by omega)).2.2 j z hj)
    have hblk : a.block < w.heap.size := by
      unfold World.shape? at hM
      cases hh : w.heap[a.block]? with
      | none => rw [hh] at hM; cases hM
      | some o => exact (Array.getElem?_eq_some_iff.mp hh).1
    have O' := O.add (d := a.off) hblk hcells
    have hll : es.length = len := by simp [es]
    refine ⟨[some (a.block, a.off)], [.cells (es.flatten.map (AV.int k)) false], .slice (some (H.length, 0)) nf es.length (some m), es, O', ?_, hlen, .inr ⟨H.length, m, rfl, by omega, hm, by simp⟩⟩
    refine ⟨a.block, a.off, a.off, m, row, M, ?_, ?_, by omega, .inl rfl, hM, ?_, fun q hq => by cases hq; rfl⟩
    · have := O.rel.len
      simp only [] at this
      rw [← this]
      simp
    · rw [hll, ← addr_eq hs]
    · rcases Nat.eq_zero_or_pos m with h0 | h0
      · exact .inl h0
      · right
        obtain ⟨f1, _, f3⟩ := hf (m - 1) (by omega)
        have hz : (f (m - 1))[nf - 1]? = some ((f (m - 1))[nf - 1]'(by omega)) := List.getElem?_eq_getElem (by omega)
        have := cell_shape hM (f3 _ _ hz)
        have h2 : m * nf = (m - 1) * nf + nf := by
          conv => lhs; rw [show m = (m - 1) + 1 by omega]
          rw [Nat.add_mul, Nat.one_mul]
        omega

end

/-- what is told of a law by the evaluator -/
theorem law_told {P : Program} {T : Table} {pr : Prims} (hm : P.follows .mixedOrders = true) (hT : TableOk P T) (hpr : PrimsOk P pr) {f : FuncId} {avs : List AV} {args : List Value} {ι : Emb} {H : List Blk} {W : World}
    (O : Opened ι H W) (hv : VL ι W avs args) {m' : Mem} (hcall : call T pr f avs ⟨H, none⟩ = some (.bool true, m')) :
    Calls P f args.toArray W fun e W' => e = .returned (.bool true) ∧ Below W.heap.size W W' := by
  obtain ⟨_, h⟩ := sound hm hT hpr f avs ⟨H, none⟩ (.bool true) m' ι W args hcall O.rel hv
  refine h.mono ?_
  rintro e W' ⟨ι', v', rfl, h1, h2, h3⟩
  cases h1
  refine ⟨rfl, h3.os, h3.tape, h3.output, h3.size, fun r hr => h3.frame r hr ?_⟩
  rintro ⟨b, cs, d, hb, _⟩
  exact O.ro b cs hb

theorem noPrims_ok (P : Program) : PrimsOk P (fun _ _ _ => none) := ⟨(fun f args m v m' ι w vs h => by cases h), (fun f args m v m' h => by cases h)⟩

end Go.Proofs.Ytaikmfldjkbmmaa.Slim

/- The slim machine: structs that a law is handed, with slices among their fields. -/
namespace Go.Proofs.Ytaikmfldjkbmmaa.Slim
open Go Go.Deep Go.RowKit Go.WideShapes Go.Joins
set_option linter.unusedVariables false
set_option linter.unusedSimpArgs false

theorem emb_app (a b : Emb) : Emb.le a (a ++ b) := fun i p hb => by
  rw [List.getElem?_append_left]; exact hb
  exact (List.getElem?_eq_some_iff.mp hb).1

theorem IsArg.cell {H : List Blk} {av : AV} {k : IntKind} {nf : Nat} {es : List (List Int)} (h : IsArg H av k nf es) : av.isCell = true := by
  rcases h.2 with ⟨rfl, _⟩ | ⟨b, cap, rfl, _⟩ <;> rfl

theorem array5 {α : Type} {cs : Array α} (h : cs.size = 5) : ∃ c0 c1 c2 c3 c4, cs = #[c0, c1, c2, c3, c4] := by
  obtain ⟨l⟩ := cs
  match l, h with
  | [c0, c1, c2, c3, c4], _ => exact ⟨c0, c1, c2, c3, c4, rfl⟩

theorem array6 {α : Type} {cs : Array α} (h : cs.size = 6) : ∃ c0 c1 c2 c3 c4 c5, cs = #[c0, c1, c2, c3, c4, c5] := by
  obtain ⟨l⟩ := cs
  match l, h with
  | [c0, c1, c2, c3, c4, c5], _ => exact ⟨c0, c1, c2, c3, c4, c5, rfl⟩

theorem ints1 {k : IntKind} {c0 : Value} {zs : List Int} (h : [c0] = zs.map (Value.int k)) : ∃ z0, c0 = .int k z0 := by
  match zs, h with
  | [z0], h => simp at h; exact ⟨z0, h⟩

theorem ints2 {k : IntKind} {c0 c1 : Value} {zs : List Int} (h : [c0, c1] = zs.map (Value.int k)) : ∃ z0 z1, c0 = .int k z0 ∧ c1 = .int k z1 := by
  match zs, h with
  | [z0, z1], h => simp at h; exact ⟨z0, z1, h.1, h.2⟩

theorem ints3 {k : IntKind} {c0 c1 c2 : Value} {zs : List Int} (h : [c0, c1, c2] = zs.map (Value.int k)) : ∃ z0 z1 z2, c0 = .int k z0 ∧ c1 = .int k z1 ∧ c2 = .int k z2 := by
  match zs, h with
  | [z0, z1, z2], h => simp at h; exact ⟨z0, z1, z2, h.1, h.2.1, h.2.2⟩

section
variable {T : Type} {enc : TypeId × Value → T} {P : Program} {w : World} {spare : Nat → Bool} {held : Bool}

theorem open_cells {r : Reach} {b0 : Nat} {t : TypeId} {fs : Array Field} {v : Value} {d : DataW T} {p : List MemPlace} (hs : P.underlying t = some (.struct fs)) (hone : oneCellFields P fs = true) (hC : P.cellsOf t = fs.size)
    (hv : Value.okWide P w r b0 t v) (h : DataW.Trod enc P w 0 spare held t v d p) :
    ∃ (cs : Array Value) (n : Nat), v = .agg cs ∧ cs.size = fs.size ∧ ∀ (j : Nat) f c, fs[j]? = some f → cs[j]? = some c → ∃ y, DataW.trod enc P w 0 spare held n f.type [c] = some y := by
  obtain ⟨cs, rfl, hsz⟩ := okWide_struct hs hv
  obtain ⟨fuel, hf⟩ := h
  have hf' : DataW.trod enc P w 0 spare held fuel t cs.toList = some (d, p) := by simpa [Value.cells] using hf
  obtain ⟨xs, n', _, hx, hlen, hxl, hfs⟩ := DataW.trod_struct hs hf'
  refine ⟨cs, n', rfl, hsz.trans hC, fun j f c hj hc => ?_⟩
  have h1 := hfs j f hj
  obtain ⟨ho, hk⟩ := hone_of hone j f hj
  rw [ho, hk] at h1
  have hc' : cs.toList[j]? = some c := by simpa using hc
  have hil := (List.getElem?_eq_some_iff.mp hc').1
  have hd : (cs.toList.drop j).take 1 = [c] := by
    rw [List.drop_eq_getElem_cons hil]
    have := (List.getElem?_eq_some_iff.mp hc').2
    rw [this]; rfl
  rw [hd] at h1
  have hjl : j < fs.size := (Array.getElem?_eq_some_iff.mp hj).1
  exact ⟨_, h1.trans (List.getElem?_eq_getElem (by omega))⟩

theorem open_fields {r : Reach} {b0 : Nat} {t : TypeId} {fs : Array Field} {v : Value} {d : DataW T} {p : List MemPlace} (hs : P.underlying t = some (.struct fs))
    (hv : Value.okWide P w r b0 t v) (h : DataW.Trod enc P w 0 spare held t v d p) :
    ∃ (cs : Array Value) (n : Nat), v = .agg cs ∧ cs.size = P.cellsOf t ∧ ∀ (j : Nat) f, fs[j]? = some f → ∃ y, DataW.trod enc P w 0 spare held n f.type ((cs.toList.drop f.offset).take (P.cellsOf f.type)) = some y := by
  obtain ⟨cs, rfl, hsz⟩ := okWide_struct hs hv
  obtain ⟨fuel, hf⟩ := h
  have hf' : DataW.trod enc P w 0 spare held fuel t cs.toList = some (d, p) := by simpa [Value.cells] using hf
  obtain ⟨xs, n', _, hx, hlen, hxl, hfs⟩ := DataW.trod_struct hs hf'
  refine ⟨cs, n', rfl, hsz, fun j f hj => ?_⟩
  have hjl : j < fs.size := (Array.getElem?_eq_some_iff.mp hj).1
  exact ⟨_, (hfs j f hj).trans (List.getElem?_eq_getElem (by omega))⟩

theorem okWide_cells {r : Reach} {b0 : Nat} {t : TypeId} {fs : Array Field} {cs : Array Value} {ts : List TypeId} (hs : P.underlying t = some (.struct fs)) (hts : P.cellTypes P.depth t = some ts) (hv : Value.okWide P w r b0 t (.agg cs)) :
    ∀ (j : Nat) c u, cs[j]? = some c → ts[j]? = some u → Cell.okWide P w r b0 u c := by
  simp only [Value.okWide, hs] at hv
  obtain ⟨cs', h1, h2, ts', h3, _, h4⟩ := hv
  cases h1
  rw [hts] at h3
  cases h3
  intro j c u hc hu
  obtain ⟨u', h5, h6⟩ := h4 j c hc
  have hjl := (List.getElem?_eq_some_iff.mp hu).1
  rw [Nat.mod_eq_of_lt hjl, hu] at h5
  cases h5
  exact h6

theorem open_arr2 {r : Reach} {b0 : Nat} {k : IntKind} {t e : TypeId} {v : Value} {d : DataW T} {p : List MemPlace} (hs : P.underlying t = some (.array 2 e)) (hC : P.cellsOf t = 2) (hC' : P.cellsOf e = 1)
    (hi : P.underlying e = some (.int k)) (hv : Value.okWide P w r b0 t v) (h : DataW.Trod enc P w 0 spare held t v d p) : ∃ a0 a1 : Int, v = .agg #[.int k a0, .int k a1] := by
  simp only [Value.okWide, hs] at hv
  obtain ⟨cs, rfl, hsz, _⟩ := hv
  obtain ⟨fuel, hf⟩ := h
  have hf' : DataW.trod enc P w 0 spare held fuel t cs.toList = some (d, p) := by simpa [Value.cells] using hf
  obtain ⟨zs, hz, _⟩ := intsAt_array hs hC hC' hi _ _ _ hf'
  obtain ⟨l⟩ := cs
  simp only at hz hsz
  match l, zs, hz, (by simpa [hC] using hsz : l.length = 2) with
  | [c0, c1], [z0, z1], hz, _ =>
    simp at hz
    exact ⟨z0, z1, by rw [hz.1, hz.2]⟩

end

end Go.Proofs.Ytaikmfldjkbmmaa.Slim

/- The slim functions of this seat (printed by a program; each is checked against the program by the kernel in SlimOk). -/
namespace Go.Proofs.Ytaikmfldjkbmmaa.Slim
open Go
abbrev f_main_main : FuncId := 0
abbrev f_gosem_cut : FuncId := 1
abbrev f_gosem_cut_init : FuncId := 2
abbrev f_l_FnExactRestsOn : FuncId := 3
abbrev f_l_FnExactCanCross : FuncId := 4
abbrev f_l_FnBeams : FuncId := 5
abbrev f_l_FnConvoys : FuncId := 6
abbrev f_l_szLoadS : FuncId := 7
abbrev f_s_RestsOn : FuncId := 8
abbrev f_l_toBeam : FuncId := 9
abbrev f_l_toLoadS : FuncId := 10
abbrev f_i_RestsOn : FuncId := 11
abbrev f_l_eqLoadS : FuncId := 12
abbrev f_s_CanCross : FuncId := 13
abbrev f_i_CanCross : FuncId := 14
abbrev f_l_rBig : FuncId := 15
abbrev f_s_DrawBendTimes : FuncId := 16
abbrev f_i_BendTimes : FuncId := 17
abbrev f_s_BendTimes : FuncId := 18
abbrev f_l_rInts : FuncId := 19
abbrev f_i_ShearTimes : FuncId := 20
abbrev f_s_ShearTimes : FuncId := 21
abbrev f_i_SupportTimes : FuncId := 22
abbrev f_s_SupportTimes : FuncId := 23
abbrev f_i_GreatestBend : FuncId := 24
abbrev f_s_GreatestBend : FuncId := 25
abbrev f_s_DrawInfluenceOf : FuncId := 26
abbrev f_i_InfluenceOf : FuncId := 27
abbrev f_s_InfluenceOf : FuncId := 28
abbrev f_i_IsBeam : FuncId := 29
abbrev f_s_IsBeam : FuncId := 30
abbrev f_s_DrawBendBy : FuncId := 31
abbrev f_i_BendBy : FuncId := 32
abbrev f_s_BendBy : FuncId := 33
abbrev f_i_MirrorBeam : FuncId := 34
abbrev f_s_MirrorBeam : FuncId := 35
abbrev f_i_WeightOf : FuncId := 36
abbrev f_s_DrawWorstBend : FuncId := 37
abbrev f_i_WorstBend : FuncId := 38
abbrev f_s_WorstBend : FuncId := 39
abbrev f_s_DrawCanCross : FuncId := 40
abbrev f_i_IsConvoy : FuncId := 41
abbrev f_s_DrawOutermostPlaces : FuncId := 42
abbrev f_i_OutermostPlaces : FuncId := 43
abbrev f_s_OutermostPlaces : FuncId := 44
abbrev f_s_DrawIsConvoy : FuncId := 45
abbrev f_s_IsConvoy : FuncId := 46
abbrev f_s_DrawConvoyRow : FuncId := 47
abbrev f_i_ConvoyRow : FuncId := 48
abbrev f_s_ConvoyRow : FuncId := 49
abbrev f_l_rRow : FuncId := 50
abbrev f_s_l6On : FuncId := 51
abbrev f_s_l2Side : FuncId := 52
abbrev f_l_toLoad : FuncId := 53
abbrev f_i_isOn : FuncId := 54
abbrev f_i_Beam_rests : FuncId := 55
abbrev f_l_eqLoad : FuncId := 56
abbrev f_s_l6Beam : FuncId := 57
abbrev f_s_l6Convoy : FuncId := 58
abbrev f_s_l6At : FuncId := 59
abbrev f_i_convoyRow : FuncId := 60
abbrev f_s_DrawRestsOn : FuncId := 61
abbrev f_i_Beam_bends : FuncId := 62
abbrev f_s_l6Bends : FuncId := 63
abbrev f_i_Beam_supports : FuncId := 64
abbrev f_i_Beam_span : FuncId := 65
abbrev f_s_l6Shears : FuncId := 66
abbrev f_s_l2Moment : FuncId := 67
abbrev f_s_l1Most : FuncId := 68
abbrev f_s_l1Cur_beam : FuncId := 69
abbrev f_s_l1Cur_placeOn : FuncId := 70
abbrev f_i_isOnBeam : FuncId := 71
abbrev f_i_Beam_bendAt : FuncId := 72
abbrev f_s_l1In : FuncId := 73
abbrev f_s_l6Influence : FuncId := 74
abbrev f_i_within : FuncId := 75
abbrev f_s_l1Cur_onBeam : FuncId := 76
abbrev f_i_IsRow : FuncId := 77
abbrev f_i_weightOf : FuncId := 78
abbrev f_s_l1Cur_convoy : FuncId := 79
abbrev f_i_isWeight : FuncId := 80
abbrev f_s_l1Cur_among : FuncId := 81
abbrev f_i_standsWith : FuncId := 82
abbrev f_s_l2With : FuncId := 83
abbrev f_s_l2Row : FuncId := 84
abbrev f_slices_ContainsFunc_Si_Load_i_Load : FuncId := 85
abbrev f_i_isOn_1 : FuncId := 86
abbrev f_i_tipSide : FuncId := 87
abbrev f_i_momentAbout : FuncId := 88
abbrev f_s_l6Forces : FuncId := 89
abbrev f_s_l1Cur_one : FuncId := 90
abbrev f_s_l1Cur_pick : FuncId := 91
abbrev f_s_l1Least : FuncId := 92
abbrev f_s_l1Cur_row : FuncId := 93
abbrev f_i_IsRow_1 : FuncId := 94
abbrev f_i_isPlace : FuncId := 95
abbrev f_slices_Clone_Si_Load_i_Load : FuncId := 96
abbrev f_s_l2In : FuncId := 97
abbrev f_slices_IndexFunc_Si_Load_i_Load : FuncId := 98
abbrev f_s_l1Cur_next : FuncId := 99
abbrev f_s_l1Cur_someRow : FuncId := 100
abbrev f_runtime_boundsError_Error : FuncId := 101
abbrev f_runtime_boundsError_RuntimeError : FuncId := 102
abbrev f_runtime_errorString_Error : FuncId := 103
abbrev f_runtime_errorString_RuntimeError : FuncId := 104
abbrev f_runtime_plainError_Error : FuncId := 105
abbrev f_runtime_plainError_RuntimeError : FuncId := 106
abbrev f_runtime_errorAddressString_Error : FuncId := 107
abbrev f_runtime_errorAddressString_RuntimeError : FuncId := 108
abbrev f_runtime_TypeAssertionError_Error : FuncId := 109
abbrev f_runtime_TypeAssertionError_RuntimeError : FuncId := 110
abbrev f_runtime_PanicNilError_Error : FuncId := 111
abbrev f_runtime_PanicNilError_RuntimeError : FuncId := 112
abbrev f_internal_abi_Type_Align : FuncId := 113
abbrev f_internal_runtime_maps_unhashableTypeError_Error : FuncId := 114
abbrev f_internal_runtime_maps_unhashableTypeError_RuntimeError : FuncId := 115
abbrev f_s_l1Cur_any1 : FuncId := 116
abbrev f_internal_abi_Kind_String : FuncId := 117
def c_gosem_cut_init : ACode :=
 (.region [⟨.call (.c (.fn f_gosem_cut [] [])) [], none⟩] [])
def a_gosem_cut_init : AFun := ⟨[], 1, c_gosem_cut_init, [], 1⟩
def c_l_FnExactRestsOn : ACode :=
 (.seq (.region [⟨.box (.t 0), none⟩, ⟨.mv (.c (.bool false)), none⟩] [(2, 0), (3, 1)])
 (.seq (.region [⟨.mv (.c (.int .i64 (1048576))), none⟩] [(4, 0)])
 (.seq (.region [⟨.mv (.t 1), none⟩, ⟨.mv (.t 4), none⟩, ⟨.call (.c (.fn f_l_szLoadS [] [])) [(.l 0), (.l 1)], none⟩, ⟨.mv (.l 2), none⟩] [(4, 3)])
 (.seq (.seq (.region [⟨.mv (.t 4), none⟩, ⟨.bin 0 .lss (.l 0) (.c (.int .i64 (0))), none⟩] [(10, 1)])
 (.cond (.t 10) (.seq (.region [⟨.mv (.c (.bool true)), none⟩] [(3, 0)])
 .ret) .skip))
 (.seq (.region [⟨.load true 3 (.t 2), none⟩, ⟨.call (.c (.fn f_l_toBeam [] [])) [(.l 0)], none⟩, ⟨.mv (.t 1), none⟩, ⟨.call (.c (.fn f_l_toLoadS [] [])) [(.l 2)], none⟩, ⟨.call (.c (.fn f_s_RestsOn [] [])) [(.l 1), (.l 3)], none⟩, ⟨.mv (.l 4), none⟩, ⟨.extract 0 (.l 5), none⟩, ⟨.extract 1 (.l 5), none⟩, ⟨.mv (.l 6), none⟩, ⟨.mv (.l 7), none⟩] [(5, 8), (6, 9)])
 (.seq (.region [⟨.mv (.t 1), none⟩, ⟨.call (.c (.fn f_l_toLoadS [] [])) [(.l 0)], none⟩, ⟨.mv (.l 1), none⟩] [(7, 2)])
 (.seq (.region [⟨.load true 3 (.t 2), none⟩, ⟨.call (.c (.fn f_l_toBeam [] [])) [(.l 0)], none⟩, ⟨.mv (.t 7), none⟩, ⟨.call (.c (.fn f_i_RestsOn [] [])) [(.l 1), (.l 2)], none⟩, ⟨.mv (.l 3), none⟩, ⟨.extract 0 (.l 4), none⟩, ⟨.extract 1 (.l 4), none⟩, ⟨.mv (.l 5), none⟩, ⟨.mv (.l 6), none⟩] [(8, 7), (9, 8)])
 (.seq (.seq (.region [⟨.mv (.t 8), none⟩, ⟨.mv (.t 5), none⟩, ⟨.bin 2 .neq (.l 0) (.l 1), none⟩, ⟨.mv (.l 2), none⟩, ⟨.mv (.t 9), some ((.l 3), false)⟩, ⟨.mv (.t 6), some ((.l 3), false)⟩, ⟨.bin 2 .neq (.l 4) (.l 5), some ((.l 3), false)⟩, ⟨.pick (.l 3) (.c (.bool true)) (.l 6), none⟩] [(11, 7)])
 (.cond (.t 11) (.seq (.region [⟨.mv (.c (.bool false)), none⟩] [(3, 0)])
 .ret) .skip))
 (.seq (.seq (.region [⟨.mv (.t 7), none⟩, ⟨.mv (.t 1), none⟩, ⟨.call (.c (.fn f_l_toLoadS [] [])) [(.l 1)], none⟩, ⟨.call (.c (.fn f_l_eqLoadS [] [])) [(.l 0), (.l 2)], none⟩, ⟨.un .not (.l 3), none⟩] [(12, 4)])
 (.cond (.t 12) (.seq (.region [⟨.mv (.c (.bool false)), none⟩] [(3, 0)])
 .ret) .skip))
 (.seq (.region [⟨.mv (.c (.bool true)), none⟩] [(3, 0)])
 .ret))))))))))
def a_l_FnExactRestsOn : AFun := ⟨[0, 1, 2, 4, 5, 6, 7, 8, 9, 10, 15, 40, 45], 46, c_l_FnExactRestsOn, [.tmp 3], 1⟩
def c_l_FnExactCanCross : ACode :=
 (.seq (.region [⟨.box (.t 0), none⟩, ⟨.mv (.c (.bool false)), none⟩] [(2, 0), (3, 1)])
 (.seq (.region [⟨.mv (.c (.int .i64 (1048576))), none⟩] [(4, 0)])
 (.seq (.region [⟨.mv (.t 1), none⟩, ⟨.mv (.t 4), none⟩, ⟨.call (.c (.fn f_l_szLoadS [] [])) [(.l 0), (.l 1)], none⟩, ⟨.mv (.l 2), none⟩] [(4, 3)])
 (.seq (.seq (.region [⟨.mv (.t 4), none⟩, ⟨.bin 0 .lss (.l 0) (.c (.int .i64 (0))), none⟩] [(10, 1)])
 (.cond (.t 10) (.seq (.region [⟨.mv (.c (.bool true)), none⟩] [(3, 0)])
 .ret) .skip))
 (.seq (.region [⟨.load true 3 (.t 2), none⟩, ⟨.call (.c (.fn f_l_toBeam [] [])) [(.l 0)], none⟩, ⟨.mv (.t 1), none⟩, ⟨.call (.c (.fn f_l_toLoadS [] [])) [(.l 2)], none⟩, ⟨.call (.c (.fn f_s_CanCross [] [])) [(.l 1), (.l 3)], none⟩, ⟨.mv (.l 4), none⟩, ⟨.extract 0 (.l 5), none⟩, ⟨.extract 1 (.l 5), none⟩, ⟨.mv (.l 6), none⟩, ⟨.mv (.l 7), none⟩] [(5, 8), (6, 9)])
 (.seq (.region [⟨.mv (.t 1), none⟩, ⟨.call (.c (.fn f_l_toLoadS [] [])) [(.l 0)], none⟩, ⟨.mv (.l 1), none⟩] [(7, 2)])
 (.seq (.region [⟨.load true 3 (.t 2), none⟩, ⟨.call (.c (.fn f_l_toBeam [] [])) [(.l 0)], none⟩, ⟨.mv (.t 7), none⟩, ⟨.call (.c (.fn f_i_CanCross [] [])) [(.l 1), (.l 2)], none⟩, ⟨.mv (.l 3), none⟩, ⟨.extract 0 (.l 4), none⟩, ⟨.extract 1 (.l 4), none⟩, ⟨.mv (.l 5), none⟩, ⟨.mv (.l 6), none⟩] [(8, 7), (9, 8)])
 (.seq (.seq (.region [⟨.mv (.t 8), none⟩, ⟨.mv (.t 5), none⟩, ⟨.bin 2 .neq (.l 0) (.l 1), none⟩, ⟨.mv (.l 2), none⟩, ⟨.mv (.t 9), some ((.l 3), false)⟩, ⟨.mv (.t 6), some ((.l 3), false)⟩, ⟨.bin 2 .neq (.l 4) (.l 5), some ((.l 3), false)⟩, ⟨.pick (.l 3) (.c (.bool true)) (.l 6), none⟩] [(11, 7)])
 (.cond (.t 11) (.seq (.region [⟨.mv (.c (.bool false)), none⟩] [(3, 0)])
 .ret) .skip))
 (.seq (.seq (.region [⟨.mv (.t 7), none⟩, ⟨.mv (.t 1), none⟩, ⟨.call (.c (.fn f_l_toLoadS [] [])) [(.l 1)], none⟩, ⟨.call (.c (.fn f_l_eqLoadS [] [])) [(.l 0), (.l 2)], none⟩, ⟨.un .not (.l 3), none⟩] [(12, 4)])
 (.cond (.t 12) (.seq (.region [⟨.mv (.c (.bool false)), none⟩] [(3, 0)])
 .ret) .skip))
 (.seq (.region [⟨.mv (.c (.bool true)), none⟩] [(3, 0)])
 .ret))))))))))
def a_l_FnExactCanCross : AFun := ⟨[0, 1, 2, 4, 5, 6, 7, 8, 9, 10, 15, 40, 45], 46, c_l_FnExactCanCross, [.tmp 3], 1⟩
def w_l_FnBeams_1 : ACode :=
 (.seq (.seq (.region [⟨.mv (.t 50), none⟩, ⟨.mv (.t 3), none⟩, ⟨.len (.l 1), none⟩, ⟨.bin 0 .lss (.l 0) (.l 2), none⟩] [(68, 3)])
 (.cond (.t 68) .skip (.exit 0)))
 (.seq (.block 1 (.draw [⟨.mv (.t 49), none, []⟩, ⟨.fieldAddr 0 (.t 2), none, []⟩, ⟨.load false 1 (.l 1), none, []⟩, ⟨.mv (.t 3), none, []⟩, ⟨.mv (.t 50), none, []⟩, ⟨.indexAddrS 2 (.l 3) (.l 4), none, []⟩, ⟨.fieldAddr 0 (.l 5), none, []⟩, ⟨.load false 1 (.l 6), none, []⟩, ⟨.bin 0 .sub (.l 2) (.l 7), none, []⟩, ⟨.mv (.t 3), none, []⟩, ⟨.mv (.t 50), none, []⟩, ⟨.indexAddrS 2 (.l 9) (.l 10), none, []⟩, ⟨.fieldAddr 1 (.l 11), none, []⟩, ⟨.load false 1 (.l 12), none, []⟩, ⟨.build [.int .i64 (0), .int .i64 (0)] [(0, 1, (.l 8)), (1, 1, (.l 13))], none, []⟩, ⟨.buildSlice 2 1 [.int .i64 (0), .int .i64 (0)] [(0, 2, (.l 14))], none, []⟩, ⟨.append false 2 16 (.l 0) (.l 15), none, []⟩, ⟨.mv (.l 16), none, []⟩] [(49, 17)]))
 (.region [⟨.mv (.t 50), none⟩, ⟨.bin 0 .add (.l 0) (.c (.int .i64 (1))), none⟩, ⟨.mv (.l 1), none⟩] [(50, 2)])))
def w_l_FnBeams_2 : ACode :=
 (.seq (.seq (.region [⟨.mv (.t 54), none⟩, ⟨.mv (.t 4), none⟩, ⟨.len (.l 1), none⟩, ⟨.bin 0 .lss (.l 0) (.l 2), none⟩] [(70, 3)])
 (.cond (.t 70) .skip (.exit 2)))
 (.seq (.block 3 (.seq (.seq (.draw [⟨.mv (.t 51), none, []⟩, ⟨.fieldAddr 0 (.t 2), none, []⟩, ⟨.load false 1 (.l 1), none, []⟩, ⟨.mv (.t 54), none, []⟩, ⟨.bin 0 .sub (.l 2) (.l 3), none, []⟩, ⟨.indexAddrS 1 (.l 0) (.l 4), none, []⟩, ⟨.load false 1 (.l 5), none, []⟩, ⟨.mv (.t 4), none, []⟩, ⟨.mv (.t 54), none, []⟩, ⟨.indexAddrS 1 (.l 7) (.l 8), none, []⟩, ⟨.load false 1 (.l 9), none, []⟩, ⟨.bin 0 .neq (.l 6) (.l 10), none, []⟩, ⟨.mv (.l 11), none, []⟩, ⟨.mv (.t 54), some ((.l 12), false), []⟩, ⟨.bin 0 .gtr (.l 13) (.c (.int .i64 (0))), some ((.l 12), false), []⟩, ⟨.mv (.l 14), some ((.l 12), false), []⟩, ⟨.mv (.t 4), some ((.l 15), true), []⟩, ⟨.mv (.t 54), some ((.l 15), true), []⟩, ⟨.indexAddrS 1 (.l 16) (.l 17), some ((.l 15), true), []⟩, ⟨.load false 1 (.l 18), some ((.l 15), true), []⟩, ⟨.mv (.t 4), some ((.l 15), true), []⟩, ⟨.mv (.t 54), some ((.l 15), true), []⟩, ⟨.bin 0 .sub (.l 21) (.c (.int .i64 (1))), some ((.l 15), true), []⟩, ⟨.indexAddrS 1 (.l 20) (.l 22), some ((.l 15), true), []⟩, ⟨.load false 1 (.l 23), some ((.l 15), true), []⟩, ⟨.mv (.t 8), some ((.l 15), true), []⟩, ⟨.mv (.t 54), some ((.l 15), true), []⟩, ⟨.bin 0 .sub (.l 26) (.c (.int .i64 (1))), some ((.l 15), true), []⟩, ⟨.indexAddrS 1 (.l 25) (.l 27), some ((.l 15), true), []⟩, ⟨.load false 1 (.l 28), some ((.l 15), true), []⟩, ⟨.bin 0 .add (.l 24) (.l 29), some ((.l 15), true), []⟩, ⟨.bin 0 .neq (.l 19) (.l 30), some ((.l 15), true), []⟩, ⟨.pick (.l 15) (.l 31) (.c (.bool false)), some ((.l 12), false), []⟩, ⟨.pick (.l 12) (.c (.bool true)) (.l 32), none, []⟩, ⟨.mv (.l 33), none, []⟩, ⟨.mv (.t 4), some ((.l 34), false), []⟩, ⟨.mv (.t 54), some ((.l 34), false), []⟩, ⟨.indexAddrS 1 (.l 35) (.l 36), some ((.l 34), false), []⟩, ⟨.load false 1 (.l 37), some ((.l 34), false), []⟩, ⟨.mv (.t 22), some ((.l 34), false), []⟩, ⟨.bin 0 .gtr (.l 38) (.l 39), some ((.l 34), false), []⟩, ⟨.pick (.l 34) (.c (.bool true)) (.l 40), none, []⟩, ⟨.mv (.l 41), none, []⟩, ⟨.mv (.t 4), some ((.l 42), false), []⟩, ⟨.mv (.t 54), some ((.l 42), false), []⟩, ⟨.indexAddrS 1 (.l 43) (.l 44), some ((.l 42), false), []⟩, ⟨.load false 1 (.l 45), some ((.l 42), false), []⟩, ⟨.un .neg (.l 46), some ((.l 42), false), []⟩, ⟨.mv (.t 22), some ((.l 42), false), []⟩, ⟨.bin 0 .gtr (.l 47) (.l 48), some ((.l 42), false), []⟩, ⟨.pick (.l 42) (.c (.bool true)) (.l 49), none, []⟩] [(71, 50)])
 (.cond (.t 71) (.seq (.region [⟨.mv (.c (.bool false)), none⟩] [(1, 0)])
 .ret) .skip))
 (.seq (.seq (.region [⟨.fieldAddr 1 (.t 2), none⟩, ⟨.load false 1 (.l 0), none⟩, ⟨.bin 0 .eql (.l 1) (.c (.int .i64 (0))), none⟩, ⟨.mv (.l 2), none⟩, ⟨.fieldAddr 2 (.t 2), some ((.l 3), true)⟩, ⟨.load false 1 (.l 4), some ((.l 3), true)⟩, ⟨.fieldAddr 0 (.t 2), some ((.l 3), true)⟩, ⟨.load false 1 (.l 6), some ((.l 3), true)⟩, ⟨.bin 0 .eql (.l 5) (.l 7), some ((.l 3), true)⟩, ⟨.pick (.l 3) (.l 8) (.c (.bool false)), none⟩, ⟨.mv (.l 9), none⟩, ⟨.mv (.t 4), some ((.l 10), true)⟩, ⟨.mv (.t 54), some ((.l 10), true)⟩, ⟨.indexAddrS 1 (.l 11) (.l 12), some ((.l 10), true)⟩, ⟨.load false 1 (.l 13), some ((.l 10), true)⟩, ⟨.bin 0 .lss (.l 14) (.c (.int .i64 (0))), some ((.l 10), true)⟩, ⟨.pick (.l 10) (.l 15) (.c (.bool false)), none⟩] [(72, 16)])
 (.cond (.t 72) (.seq (.region [⟨.mv (.c (.bool false)), none⟩] [(1, 0)])
 .ret) .skip))
 (.seq (.seq (.region [⟨.mv (.t 53), none⟩, ⟨.un .not (.l 0), none⟩, ⟨.mv (.l 1), none⟩, ⟨.mv (.t 4), some ((.l 2), true)⟩, ⟨.mv (.t 54), some ((.l 2), true)⟩, ⟨.indexAddrS 1 (.l 3) (.l 4), some ((.l 2), true)⟩, ⟨.load false 1 (.l 5), some ((.l 2), true)⟩, ⟨.mv (.t 22), some ((.l 2), true)⟩, ⟨.bin 0 .eql (.l 6) (.l 7), some ((.l 2), true)⟩, ⟨.mv (.l 8), some ((.l 2), true)⟩, ⟨.mv (.t 4), some ((.l 9), false)⟩, ⟨.mv (.t 54), some ((.l 9), false)⟩, ⟨.indexAddrS 1 (.l 10) (.l 11), some ((.l 9), false)⟩, ⟨.load false 1 (.l 12), some ((.l 9), false)⟩, ⟨.un .neg (.l 13), some ((.l 9), false)⟩, ⟨.mv (.t 22), some ((.l 9), false)⟩, ⟨.bin 0 .eql (.l 14) (.l 15), some ((.l 9), false)⟩, ⟨.pick (.l 9) (.c (.bool true)) (.l 16), some ((.l 2), true)⟩, ⟨.pick (.l 2) (.l 17) (.c (.bool false)), none⟩, ⟨.mv (.l 18), none⟩, ⟨.mv (.t 54), some ((.l 19), true)⟩, ⟨.mv (.t 23), some ((.l 19), true)⟩, ⟨.bin 0 .neq (.l 20) (.l 21), some ((.l 19), true)⟩, ⟨.pick (.l 19) (.l 22) (.c (.bool false)), none⟩] [(73, 23)])
 (.cond (.t 73) (.seq (.region [⟨.mv (.c (.bool false)), none⟩] [(1, 0)])
 .ret) .skip))
 (.region [⟨.mv (.t 53), none⟩, ⟨.mv (.l 0), none⟩, ⟨.mv (.t 4), some ((.l 1), false)⟩, ⟨.mv (.t 54), some ((.l 1), false)⟩, ⟨.indexAddrS 1 (.l 2) (.l 3), some ((.l 1), false)⟩, ⟨.load false 1 (.l 4), some ((.l 1), false)⟩, ⟨.mv (.t 22), some ((.l 1), false)⟩, ⟨.bin 0 .eql (.l 5) (.l 6), some ((.l 1), false)⟩, ⟨.pick (.l 1) (.c (.bool true)) (.l 7), none⟩, ⟨.mv (.l 8), none⟩, ⟨.mv (.t 4), some ((.l 9), false)⟩, ⟨.mv (.t 54), some ((.l 9), false)⟩, ⟨.indexAddrS 1 (.l 10) (.l 11), some ((.l 9), false)⟩, ⟨.load false 1 (.l 12), some ((.l 9), false)⟩, ⟨.un .neg (.l 13), some ((.l 9), false)⟩, ⟨.mv (.t 22), some ((.l 9), false)⟩, ⟨.bin 0 .eql (.l 14) (.l 15), some ((.l 9), false)⟩, ⟨.pick (.l 9) (.c (.bool true)) (.l 16), none⟩, ⟨.mv (.l 17), none⟩] [(53, 18)])))))
 (.region [⟨.mv (.t 54), none⟩, ⟨.bin 0 .add (.l 0) (.c (.int .i64 (1))), none⟩, ⟨.mv (.l 1), none⟩] [(54, 2)])))
def c_l_FnBeams : ACode :=
 (.seq (.region [⟨.mv (.c (.bool false)), none⟩] [(1, 0)])
 (.seq (.seq (.region [⟨.mv (.t 0), none⟩, ⟨.call (.c (.fn f_l_rBig [] [])) [(.l 0)], none⟩] [(55, 1)])
 (.cond (.t 55) (.seq (.region [⟨.mv (.c (.bool true)), none⟩] [(1, 0)])
 .ret) .skip))
 (.seq (.region [⟨.mv (.t 0), none⟩, ⟨.call (.c (.fn f_s_DrawBendTimes [] [])) [(.l 0)], none⟩, ⟨.mv (.l 1), none⟩, ⟨.extract 0 (.l 2), none⟩, ⟨.extract 1 (.l 2), none⟩, ⟨.alloc [.int .i64 (0), .int .i64 (0), .int .i64 (0)], none⟩, ⟨.store 3 (.l 5) (.l 3), none⟩, ⟨.mv (.l 4), none⟩] [(2, 5), (3, 7)])
 (.seq (.region [⟨.load true 3 (.t 2), none⟩, ⟨.mv (.t 3), none⟩, ⟨.call (.c (.fn f_i_BendTimes [] [])) [(.l 0), (.l 1)], none⟩, ⟨.mv (.l 2), none⟩, ⟨.extract 0 (.l 3), none⟩, ⟨.extract 1 (.l 3), none⟩, ⟨.mv (.l 4), none⟩, ⟨.mv (.l 5), none⟩] [(4, 6), (5, 7)])
 (.seq (.seq (.region [⟨.load true 3 (.t 2), none⟩, ⟨.mv (.t 3), none⟩, ⟨.call (.c (.fn f_s_BendTimes [] [])) [(.l 0), (.l 1)], none⟩, ⟨.mv (.l 2), none⟩, ⟨.extract 0 (.l 3), none⟩, ⟨.extract 1 (.l 3), none⟩, ⟨.mv (.l 4), none⟩, ⟨.mv (.l 5), none⟩] [(6, 6), (7, 7)])
 (.seq (.region [⟨.mv (.t 5), none⟩, ⟨.mv (.t 7), none⟩, ⟨.bin 2 .neq (.l 0) (.l 1), none⟩, ⟨.mv (.l 2), none⟩, ⟨.mv (.t 4), some ((.l 3), false)⟩, ⟨.mv (.t 6), some ((.l 3), false)⟩, ⟨.call (.c (.fn f_l_rInts [] [])) [(.l 4), (.l 5)], some ((.l 3), false)⟩, ⟨.un .not (.l 6), some ((.l 3), false)⟩, ⟨.pick (.l 3) (.c (.bool true)) (.l 7), none⟩] [(56, 8)])
 (.cond (.t 56) (.seq (.region [⟨.mv (.c (.bool false)), none⟩] [(1, 0)])
 .ret) .skip)))
 (.seq (.region [⟨.load true 3 (.t 2), none⟩, ⟨.mv (.t 3), none⟩, ⟨.call (.c (.fn f_i_ShearTimes [] [])) [(.l 0), (.l 1)], none⟩, ⟨.mv (.l 2), none⟩, ⟨.extract 0 (.l 3), none⟩, ⟨.extract 1 (.l 3), none⟩, ⟨.mv (.l 4), none⟩, ⟨.mv (.l 5), none⟩] [(8, 6), (9, 7)])
 (.seq (.seq (.region [⟨.load true 3 (.t 2), none⟩, ⟨.mv (.t 3), none⟩, ⟨.call (.c (.fn f_s_ShearTimes [] [])) [(.l 0), (.l 1)], none⟩, ⟨.mv (.l 2), none⟩, ⟨.extract 0 (.l 3), none⟩, ⟨.extract 1 (.l 3), none⟩, ⟨.mv (.l 4), none⟩, ⟨.mv (.l 5), none⟩] [(10, 6), (11, 7)])
 (.seq (.region [⟨.mv (.t 9), none⟩, ⟨.mv (.t 11), none⟩, ⟨.bin 2 .neq (.l 0) (.l 1), none⟩, ⟨.mv (.l 2), none⟩, ⟨.mv (.t 9), some ((.l 3), false)⟩, ⟨.mv (.t 5), some ((.l 3), false)⟩, ⟨.bin 2 .neq (.l 4) (.l 5), some ((.l 3), false)⟩, ⟨.pick (.l 3) (.c (.bool true)) (.l 6), none⟩, ⟨.mv (.l 7), none⟩, ⟨.mv (.t 8), some ((.l 8), false)⟩, ⟨.mv (.t 10), some ((.l 8), false)⟩, ⟨.call (.c (.fn f_l_rInts [] [])) [(.l 9), (.l 10)], some ((.l 8), false)⟩, ⟨.un .not (.l 11), some ((.l 8), false)⟩, ⟨.pick (.l 8) (.c (.bool true)) (.l 12), none⟩] [(57, 13)])
 (.cond (.t 57) (.seq (.region [⟨.mv (.c (.bool false)), none⟩] [(1, 0)])
 .ret) .skip)))
 (.seq (.region [⟨.load true 3 (.t 2), none⟩, ⟨.mv (.t 3), none⟩, ⟨.call (.c (.fn f_i_SupportTimes [] [])) [(.l 0), (.l 1)], none⟩, ⟨.mv (.l 2), none⟩, ⟨.extract 0 (.l 3), none⟩, ⟨.extract 1 (.l 3), none⟩, ⟨.extract 2 (.l 3), none⟩, ⟨.mv (.l 4), none⟩, ⟨.mv (.l 5), none⟩, ⟨.mv (.l 6), none⟩] [(12, 7), (13, 8), (14, 9)])
 (.seq (.seq (.region [⟨.load true 3 (.t 2), none⟩, ⟨.mv (.t 3), none⟩, ⟨.call (.c (.fn f_s_SupportTimes [] [])) [(.l 0), (.l 1)], none⟩, ⟨.mv (.l 2), none⟩, ⟨.extract 0 (.l 3), none⟩, ⟨.extract 1 (.l 3), none⟩, ⟨.extract 2 (.l 3), none⟩, ⟨.mv (.l 4), none⟩, ⟨.mv (.l 5), none⟩, ⟨.mv (.l 6), none⟩] [(15, 7), (16, 8), (17, 9)])
 (.seq (.region [⟨.mv (.t 12), none⟩, ⟨.mv (.t 15), none⟩, ⟨.bin 0 .neq (.l 0) (.l 1), none⟩, ⟨.mv (.l 2), none⟩, ⟨.mv (.t 13), some ((.l 3), false)⟩, ⟨.mv (.t 16), some ((.l 3), false)⟩, ⟨.bin 0 .neq (.l 4) (.l 5), some ((.l 3), false)⟩, ⟨.pick (.l 3) (.c (.bool true)) (.l 6), none⟩, ⟨.mv (.l 7), none⟩, ⟨.mv (.t 14), some ((.l 8), false)⟩, ⟨.mv (.t 17), some ((.l 8), false)⟩, ⟨.bin 2 .neq (.l 9) (.l 10), some ((.l 8), false)⟩, ⟨.pick (.l 8) (.c (.bool true)) (.l 11), none⟩, ⟨.mv (.l 12), none⟩, ⟨.mv (.t 14), some ((.l 13), false)⟩, ⟨.mv (.t 5), some ((.l 13), false)⟩, ⟨.bin 2 .neq (.l 14) (.l 15), some ((.l 13), false)⟩, ⟨.pick (.l 13) (.c (.bool true)) (.l 16), none⟩] [(58, 17)])
 (.cond (.t 58) (.seq (.region [⟨.mv (.c (.bool false)), none⟩] [(1, 0)])
 .ret) .skip)))
 (.seq (.region [⟨.load true 3 (.t 2), none⟩, ⟨.mv (.t 3), none⟩, ⟨.call (.c (.fn f_i_RestsOn [] [])) [(.l 0), (.l 1)], none⟩, ⟨.mv (.l 2), none⟩, ⟨.extract 0 (.l 3), none⟩, ⟨.extract 1 (.l 3), none⟩, ⟨.mv (.l 4), none⟩, ⟨.mv (.l 5), none⟩] [(18, 6), (19, 7)])
 (.seq (.seq (.region [⟨.load true 3 (.t 2), none⟩, ⟨.mv (.t 3), none⟩, ⟨.call (.c (.fn f_s_RestsOn [] [])) [(.l 0), (.l 1)], none⟩, ⟨.mv (.l 2), none⟩, ⟨.extract 0 (.l 3), none⟩, ⟨.extract 1 (.l 3), none⟩, ⟨.mv (.l 4), none⟩, ⟨.mv (.l 5), none⟩] [(20, 6), (21, 7)])
 (.seq (.region [⟨.mv (.t 18), none⟩, ⟨.mv (.t 20), none⟩, ⟨.bin 2 .neq (.l 0) (.l 1), none⟩, ⟨.mv (.l 2), none⟩, ⟨.mv (.t 19), some ((.l 3), false)⟩, ⟨.mv (.t 21), some ((.l 3), false)⟩, ⟨.bin 2 .neq (.l 4) (.l 5), some ((.l 3), false)⟩, ⟨.pick (.l 3) (.c (.bool true)) (.l 6), none⟩, ⟨.mv (.l 7), none⟩, ⟨.mv (.t 19), some ((.l 8), false)⟩, ⟨.mv (.t 5), some ((.l 8), false)⟩, ⟨.bin 2 .neq (.l 9) (.l 10), some ((.l 8), false)⟩, ⟨.pick (.l 8) (.c (.bool true)) (.l 11), none⟩] [(59, 12)])
 (.cond (.t 59) (.seq (.region [⟨.mv (.c (.bool false)), none⟩] [(1, 0)])
 .ret) .skip)))
 (.seq (.region [⟨.load true 3 (.t 2), none⟩, ⟨.mv (.t 3), none⟩, ⟨.call (.c (.fn f_i_GreatestBend [] [])) [(.l 0), (.l 1)], none⟩, ⟨.mv (.l 2), none⟩, ⟨.extract 0 (.l 3), none⟩, ⟨.extract 1 (.l 3), none⟩, ⟨.extract 2 (.l 3), none⟩, ⟨.mv (.l 4), none⟩, ⟨.mv (.l 5), none⟩, ⟨.mv (.l 6), none⟩] [(22, 7), (23, 8), (24, 9)])
 (.seq (.seq (.region [⟨.load true 3 (.t 2), none⟩, ⟨.mv (.t 3), none⟩, ⟨.call (.c (.fn f_s_GreatestBend [] [])) [(.l 0), (.l 1)], none⟩, ⟨.mv (.l 2), none⟩, ⟨.extract 0 (.l 3), none⟩, ⟨.extract 1 (.l 3), none⟩, ⟨.extract 2 (.l 3), none⟩, ⟨.mv (.l 4), none⟩, ⟨.mv (.l 5), none⟩, ⟨.mv (.l 6), none⟩] [(25, 7), (26, 8), (27, 9)])
 (.seq (.region [⟨.mv (.t 22), none⟩, ⟨.mv (.t 25), none⟩, ⟨.bin 0 .neq (.l 0) (.l 1), none⟩, ⟨.mv (.l 2), none⟩, ⟨.mv (.t 23), some ((.l 3), false)⟩, ⟨.mv (.t 26), some ((.l 3), false)⟩, ⟨.bin 0 .neq (.l 4) (.l 5), some ((.l 3), false)⟩, ⟨.pick (.l 3) (.c (.bool true)) (.l 6), none⟩, ⟨.mv (.l 7), none⟩, ⟨.mv (.t 24), some ((.l 8), false)⟩, ⟨.mv (.t 27), some ((.l 8), false)⟩, ⟨.bin 2 .neq (.l 9) (.l 10), some ((.l 8), false)⟩, ⟨.pick (.l 8) (.c (.bool true)) (.l 11), none⟩, ⟨.mv (.l 12), none⟩, ⟨.mv (.t 24), some ((.l 13), false)⟩, ⟨.mv (.t 5), some ((.l 13), false)⟩, ⟨.bin 2 .neq (.l 14) (.l 15), some ((.l 13), false)⟩, ⟨.pick (.l 13) (.c (.bool true)) (.l 16), none⟩] [(60, 17)])
 (.cond (.t 60) (.seq (.region [⟨.mv (.c (.bool false)), none⟩] [(1, 0)])
 .ret) .skip)))
 (.seq (.region [⟨.mv (.t 0), none⟩, ⟨.call (.c (.fn f_s_DrawInfluenceOf [] [])) [(.l 0)], none⟩, ⟨.mv (.l 1), none⟩, ⟨.extract 0 (.l 2), none⟩, ⟨.extract 1 (.l 2), none⟩, ⟨.alloc [.int .i64 (0), .int .i64 (0), .int .i64 (0)], none⟩, ⟨.store 3 (.l 5) (.l 3), none⟩, ⟨.mv (.l 4), none⟩] [(28, 5), (29, 7)])
 (.seq (.region [⟨.load true 3 (.t 28), none⟩, ⟨.mv (.t 29), none⟩, ⟨.call (.c (.fn f_i_InfluenceOf [] [])) [(.l 0), (.l 1)], none⟩, ⟨.mv (.l 2), none⟩, ⟨.extract 0 (.l 3), none⟩, ⟨.extract 1 (.l 3), none⟩, ⟨.mv (.l 4), none⟩, ⟨.mv (.l 5), none⟩] [(30, 6), (31, 7)])
 (.seq (.seq (.region [⟨.load true 3 (.t 28), none⟩, ⟨.mv (.t 29), none⟩, ⟨.call (.c (.fn f_s_InfluenceOf [] [])) [(.l 0), (.l 1)], none⟩, ⟨.mv (.l 2), none⟩, ⟨.extract 0 (.l 3), none⟩, ⟨.extract 1 (.l 3), none⟩, ⟨.mv (.l 4), none⟩, ⟨.mv (.l 5), none⟩] [(32, 6), (33, 7)])
 (.seq (.draw [⟨.mv (.t 31), none, []⟩, ⟨.mv (.t 33), none, []⟩, ⟨.bin 2 .neq (.l 0) (.l 1), none, []⟩, ⟨.mv (.l 2), none, []⟩, ⟨.mv (.t 30), some ((.l 3), false), []⟩, ⟨.mv (.t 32), some ((.l 3), false), []⟩, ⟨.call (.c (.fn f_l_rInts [] [])) [(.l 4), (.l 5)], some ((.l 3), false), []⟩, ⟨.un .not (.l 6), some ((.l 3), false), []⟩, ⟨.pick (.l 3) (.c (.bool true)) (.l 7), none, []⟩, ⟨.mv (.l 8), none, []⟩, ⟨.load true 3 (.t 28), some ((.l 9), false), []⟩, ⟨.load true 3 (.t 28), some ((.l 9), false), []⟩, ⟨.call (.c (.fn f_i_IsBeam [] [])) [(.l 10)], some ((.l 9), false), [(11, ⟨.load true 3 (.t 28), some ((.l 9), false)⟩)]⟩, ⟨.call (.c (.fn f_s_IsBeam [] [])) [(.l 11)], some ((.l 9), false), []⟩, ⟨.bin 2 .neq (.l 12) (.l 13), some ((.l 9), false), []⟩, ⟨.pick (.l 9) (.c (.bool true)) (.l 14), none, []⟩] [(61, 15)])
 (.cond (.t 61) (.seq (.region [⟨.mv (.c (.bool false)), none⟩] [(1, 0)])
 .ret) .skip)))
 (.seq (.region [⟨.mv (.t 0), none⟩, ⟨.call (.c (.fn f_s_DrawBendBy [] [])) [(.l 0)], none⟩, ⟨.mv (.l 1), none⟩, ⟨.extract 0 (.l 2), none⟩, ⟨.extract 1 (.l 2), none⟩, ⟨.extract 2 (.l 2), none⟩, ⟨.alloc [.int .i64 (0), .int .i64 (0), .int .i64 (0)], none⟩, ⟨.store 3 (.l 6) (.l 3), none⟩, ⟨.mv (.l 4), none⟩, ⟨.mv (.l 5), none⟩] [(34, 6), (35, 8), (36, 9)])
 (.seq (.region [⟨.load true 3 (.t 34), none⟩, ⟨.mv (.t 35), none⟩, ⟨.mv (.t 36), none⟩, ⟨.call (.c (.fn f_i_BendBy [] [])) [(.l 0), (.l 1), (.l 2)], none⟩, ⟨.mv (.l 3), none⟩, ⟨.extract 0 (.l 4), none⟩, ⟨.extract 1 (.l 4), none⟩, ⟨.mv (.l 5), none⟩, ⟨.mv (.l 6), none⟩] [(37, 7), (38, 8)])
 (.seq (.seq (.region [⟨.load true 3 (.t 34), none⟩, ⟨.mv (.t 35), none⟩, ⟨.mv (.t 36), none⟩, ⟨.call (.c (.fn f_s_BendBy [] [])) [(.l 0), (.l 1), (.l 2)], none⟩, ⟨.mv (.l 3), none⟩, ⟨.extract 0 (.l 4), none⟩, ⟨.extract 1 (.l 4), none⟩, ⟨.mv (.l 5), none⟩, ⟨.mv (.l 6), none⟩] [(39, 7), (40, 8)])
 (.seq (.region [⟨.mv (.t 37), none⟩, ⟨.mv (.t 39), none⟩, ⟨.bin 0 .neq (.l 0) (.l 1), none⟩, ⟨.mv (.l 2), none⟩, ⟨.mv (.t 38), some ((.l 3), false)⟩, ⟨.mv (.t 40), some ((.l 3), false)⟩, ⟨.bin 2 .neq (.l 4) (.l 5), some ((.l 3), false)⟩, ⟨.pick (.l 3) (.c (.bool true)) (.l 6), none⟩] [(62, 7)])
 (.cond (.t 62) (.seq (.region [⟨.mv (.c (.bool false)), none⟩] [(1, 0)])
 .ret) .skip)))
 (.seq (.region [⟨.load true 3 (.t 2), none⟩, ⟨.call (.c (.fn f_i_MirrorBeam [] [])) [(.l 0)], none⟩, ⟨.mv (.l 1), none⟩, ⟨.extract 0 (.l 2), none⟩, ⟨.extract 1 (.l 2), none⟩, ⟨.alloc [.int .i64 (0), .int .i64 (0), .int .i64 (0)], none⟩, ⟨.store 3 (.l 5) (.l 3), none⟩, ⟨.mv (.l 4), none⟩] [(41, 5), (42, 7)])
 (.seq (.seq (.region [⟨.load true 3 (.t 2), none⟩, ⟨.call (.c (.fn f_s_MirrorBeam [] [])) [(.l 0)], none⟩, ⟨.mv (.l 1), none⟩, ⟨.extract 0 (.l 2), none⟩, ⟨.extract 1 (.l 2), none⟩, ⟨.alloc [.int .i64 (0), .int .i64 (0), .int .i64 (0)], none⟩, ⟨.store 3 (.l 5) (.l 3), none⟩, ⟨.mv (.l 4), none⟩] [(43, 5), (44, 7)])
 (.seq (.region [⟨.mv (.t 42), none⟩, ⟨.mv (.t 44), none⟩, ⟨.bin 2 .neq (.l 0) (.l 1), none⟩, ⟨.mv (.l 2), none⟩, ⟨.load true 3 (.t 41), some ((.l 3), false)⟩, ⟨.load true 3 (.t 43), some ((.l 3), false)⟩, ⟨.eqCells [0, 0, 0] true (.l 4) (.l 5), some ((.l 3), false)⟩, ⟨.pick (.l 3) (.c (.bool true)) (.l 6), none⟩, ⟨.mv (.l 7), none⟩, ⟨.mv (.t 5), some ((.l 8), false)⟩, ⟨.mv (.l 9), some ((.l 8), false)⟩, ⟨.mv (.t 42), some ((.l 10), true)⟩, ⟨.un .not (.l 11), some ((.l 10), true)⟩, ⟨.pick (.l 10) (.l 12) (.c (.bool false)), some ((.l 8), false)⟩, ⟨.pick (.l 8) (.c (.bool true)) (.l 13), none⟩] [(63, 14)])
 (.cond (.t 63) (.seq (.region [⟨.mv (.c (.bool false)), none⟩] [(1, 0)])
 .ret) .skip)))
 (.seq (.seq (.region [⟨.mv (.t 38), none⟩] [(64, 0)])
 (.cond (.t 64) (.seq (.region [⟨.load true 3 (.t 34), none⟩, ⟨.mv (.t 35), none⟩, ⟨.call (.c (.fn f_i_BendTimes [] [])) [(.l 0), (.l 1)], none⟩, ⟨.mv (.l 2), none⟩, ⟨.extract 0 (.l 3), none⟩, ⟨.extract 1 (.l 3), none⟩, ⟨.mv (.l 4), none⟩, ⟨.mv (.l 5), none⟩] [(45, 6), (46, 7)])
 (.seq (.region [⟨.mv (.t 46), none⟩, ⟨.un .not (.l 0), none⟩, ⟨.mv (.l 1), none⟩, ⟨.mv (.t 45), some ((.l 2), false)⟩, ⟨.len (.l 3), some ((.l 2), false)⟩, ⟨.fieldAddr 0 (.t 34), some ((.l 2), false)⟩, ⟨.load false 1 (.l 5), some ((.l 2), false)⟩, ⟨.bin 0 .add (.l 6) (.c (.int .i64 (1))), some ((.l 2), false)⟩, ⟨.bin 0 .neq (.l 4) (.l 7), some ((.l 2), false)⟩, ⟨.pick (.l 2) (.c (.bool true)) (.l 8), none⟩, ⟨.mv (.l 9), none⟩, ⟨.mv (.t 45), some ((.l 10), false)⟩, ⟨.mv (.t 36), some ((.l 10), false)⟩, ⟨.indexAddrS 1 (.l 11) (.l 12), some ((.l 10), false)⟩, ⟨.load false 1 (.l 13), some ((.l 10), false)⟩, ⟨.mv (.t 37), some ((.l 10), false)⟩, ⟨.bin 0 .neq (.l 14) (.l 15), some ((.l 10), false)⟩, ⟨.pick (.l 10) (.c (.bool true)) (.l 16), none⟩] [(65, 17)])
 (.cond (.t 65) (.seq (.region [⟨.mv (.c (.bool false)), none⟩] [(1, 0)])
 .ret) .skip))) .skip))
 (.seq (.seq (.region [⟨.mv (.t 5), none⟩, ⟨.un .not (.l 0), none⟩] [(66, 1)])
 (.cond (.t 66) (.seq (.region [⟨.mv (.c (.bool true)), none⟩] [(1, 0)])
 .ret) .skip))
 (.seq (.region [⟨.mv (.t 3), none⟩, ⟨.call (.c (.fn f_i_WeightOf [] [])) [(.l 0)], none⟩, ⟨.mv (.l 1), none⟩, ⟨.extract 0 (.l 2), none⟩, ⟨.extract 1 (.l 2), none⟩, ⟨.mv (.l 3), none⟩, ⟨.mv (.l 4), none⟩] [(47, 5), (48, 6)])
 (.seq (.seq (.region [⟨.mv (.t 48), none⟩, ⟨.un .not (.l 0), none⟩, ⟨.mv (.l 1), none⟩, ⟨.mv (.t 12), some ((.l 2), false)⟩, ⟨.mv (.t 13), some ((.l 2), false)⟩, ⟨.bin 0 .add (.l 3) (.l 4), some ((.l 2), false)⟩, ⟨.mv (.t 47), some ((.l 2), false)⟩, ⟨.fieldAddr 2 (.t 2), some ((.l 2), false)⟩, ⟨.load false 1 (.l 7), some ((.l 2), false)⟩, ⟨.fieldAddr 1 (.t 2), some ((.l 2), false)⟩, ⟨.load false 1 (.l 9), some ((.l 2), false)⟩, ⟨.bin 0 .sub (.l 8) (.l 10), some ((.l 2), false)⟩, ⟨.bin 0 .mul (.l 6) (.l 11), some ((.l 2), false)⟩, ⟨.bin 0 .neq (.l 5) (.l 12), some ((.l 2), false)⟩, ⟨.pick (.l 2) (.c (.bool true)) (.l 13), none⟩, ⟨.mv (.l 14), none⟩, ⟨.mv (.t 18), some ((.l 15), false)⟩, ⟨.mv (.t 12), some ((.l 15), false)⟩, ⟨.bin 0 .geq (.l 17) (.c (.int .i64 (0))), some ((.l 15), false)⟩, ⟨.mv (.l 18), some ((.l 15), false)⟩, ⟨.mv (.t 13), some ((.l 19), true)⟩, ⟨.bin 0 .geq (.l 20) (.c (.int .i64 (0))), some ((.l 19), true)⟩, ⟨.pick (.l 19) (.l 21) (.c (.bool false)), some ((.l 15), false)⟩, ⟨.bin 2 .neq (.l 16) (.l 22), some ((.l 15), false)⟩, ⟨.pick (.l 15) (.c (.bool true)) (.l 23), none⟩, ⟨.mv (.l 24), none⟩, ⟨.mv (.t 4), some ((.l 25), false)⟩, ⟨.len (.l 26), some ((.l 25), false)⟩, ⟨.fieldAddr 0 (.t 2), some ((.l 25), false)⟩, ⟨.load false 1 (.l 28), some ((.l 25), false)⟩, ⟨.bin 0 .add (.l 29) (.c (.int .i64 (1))), some ((.l 25), false)⟩, ⟨.bin 0 .neq (.l 27) (.l 30), some ((.l 25), false)⟩, ⟨.pick (.l 25) (.c (.bool true)) (.l 31), none⟩, ⟨.mv (.l 32), none⟩, ⟨.mv (.t 8), some ((.l 33), false)⟩, ⟨.len (.l 34), some ((.l 33), false)⟩, ⟨.fieldAddr 0 (.t 2), some ((.l 33), false)⟩, ⟨.load false 1 (.l 36), some ((.l 33), false)⟩, ⟨.bin 0 .neq (.l 35) (.l 37), some ((.l 33), false)⟩, ⟨.pick (.l 33) (.c (.bool true)) (.l 38), none⟩, ⟨.mv (.l 39), none⟩, ⟨.mv (.t 4), some ((.l 40), false)⟩, ⟨.indexAddrS 1 (.l 41) (.c (.int .i64 (0))), some ((.l 40), false)⟩, ⟨.load false 1 (.l 42), some ((.l 40), false)⟩, ⟨.bin 0 .neq (.l 43) (.c (.int .i64 (0))), some ((.l 40), false)⟩, ⟨.pick (.l 40) (.c (.bool true)) (.l 44), none⟩, ⟨.mv (.l 45), none⟩, ⟨.mv (.t 4), some ((.l 46), false)⟩, ⟨.fieldAddr 0 (.t 2), some ((.l 46), false)⟩, ⟨.load false 1 (.l 48), some ((.l 46), false)⟩, ⟨.indexAddrS 1 (.l 47) (.l 49), some ((.l 46), false)⟩, ⟨.load false 1 (.l 50), some ((.l 46), false)⟩, ⟨.bin 0 .neq (.l 51) (.c (.int .i64 (0))), some ((.l 46), false)⟩, ⟨.pick (.l 46) (.c (.bool true)) (.l 52), none⟩] [(67, 53)])
 (.cond (.t 67) (.seq (.region [⟨.mv (.c (.bool false)), none⟩] [(1, 0)])
 .ret) .skip))
 (.seq (.region [⟨.buildSlice 2 0 [] [], none⟩, ⟨.mv (.l 0), none⟩] [(49, 1)])
 (.seq (.seq (.region [⟨.mv (.c (.int .i64 (0))), none⟩] [(50, 0)])
 (.block 0 (.loop w_l_FnBeams_1)))
 (.seq (.region [⟨.load true 3 (.t 41), none⟩, ⟨.mv (.t 49), none⟩, ⟨.call (.c (.fn f_i_BendTimes [] [])) [(.l 0), (.l 1)], none⟩, ⟨.mv (.l 2), none⟩, ⟨.extract 0 (.l 3), none⟩, ⟨.extract 1 (.l 3), none⟩, ⟨.mv (.l 4), none⟩, ⟨.mv (.l 5), none⟩] [(51, 6), (52, 7)])
 (.seq (.seq (.region [⟨.mv (.t 52), none⟩, ⟨.un .not (.l 0), none⟩, ⟨.mv (.l 1), none⟩, ⟨.mv (.t 51), some ((.l 2), false)⟩, ⟨.len (.l 3), some ((.l 2), false)⟩, ⟨.mv (.t 4), some ((.l 2), false)⟩, ⟨.len (.l 5), some ((.l 2), false)⟩, ⟨.bin 0 .neq (.l 4) (.l 6), some ((.l 2), false)⟩, ⟨.pick (.l 2) (.c (.bool true)) (.l 7), none⟩] [(69, 8)])
 (.cond (.t 69) (.seq (.region [⟨.mv (.c (.bool false)), none⟩] [(1, 0)])
 .ret) .skip))
 (.seq (.region [⟨.mv (.c (.bool false)), none⟩] [(53, 0)])
 (.seq (.seq (.region [⟨.mv (.c (.int .i64 (0))), none⟩] [(54, 0)])
 (.block 2 (.loop w_l_FnBeams_2)))
 (.seq (.region [⟨.mv (.t 53), none⟩, ⟨.mv (.l 0), none⟩] [(1, 1)])
 .ret))))))))))))))))))))))))))))))))
def a_l_FnBeams : AFun := ⟨[0, 2, 3, 4, 5, 6, 7, 8, 9, 10, 11, 12, 13, 14, 15, 16, 17, 18, 19, 20, 21, 22, 23, 24, 25, 26, 27, 28, 29, 30, 31, 32, 33, 34, 35, 36, 37, 38, 39, 40, 41, 42, 43, 44, 45, 46, 47, 48, 49, 50, 51, 52, 53, 54, 55, 57, 83, 109, 141, 166, 198, 231, 259, 284, 285, 309, 311, 370, 375, 409, 413, 466, 483, 507], 527, c_l_FnBeams, [.tmp 1], 1⟩
def w_l_FnConvoys_1 : ACode :=
 (.seq (.seq (.region [⟨.mv (.t 35), none⟩, ⟨.fieldAddr 0 (.t 11), none⟩, ⟨.load false 1 (.l 1), none⟩, ⟨.bin 0 .leq (.l 0) (.l 2), none⟩] [(55, 3)])
 (.cond (.t 55) .skip (.exit 0)))
 (.seq (.block 1 (.seq (.region [⟨.load true 3 (.t 11), none⟩, ⟨.mv (.t 12), none⟩, ⟨.mv (.t 35), none⟩, ⟨.call (.c (.fn f_i_ConvoyRow [] [])) [(.l 0), (.l 1), (.l 2)], none⟩, ⟨.mv (.l 3), none⟩, ⟨.extract 0 (.l 4), none⟩, ⟨.extract 1 (.l 4), none⟩, ⟨.mv (.l 5), none⟩, ⟨.mv (.l 6), none⟩] [(36, 7), (37, 8)])
 (.seq (.region [⟨.load true 3 (.t 11), none⟩, ⟨.mv (.t 36), none⟩, ⟨.call (.c (.fn f_i_RestsOn [] [])) [(.l 0), (.l 1)], none⟩, ⟨.mv (.l 2), none⟩, ⟨.extract 0 (.l 3), none⟩, ⟨.extract 1 (.l 3), none⟩, ⟨.mv (.l 4), none⟩, ⟨.mv (.l 5), none⟩] [(38, 6), (39, 7)])
 (.seq (.seq (.region [⟨.mv (.t 37), none⟩, ⟨.un .not (.l 0), none⟩, ⟨.mv (.l 1), none⟩, ⟨.mv (.t 39), some ((.l 2), false)⟩, ⟨.un .not (.l 3), some ((.l 2), false)⟩, ⟨.pick (.l 2) (.c (.bool true)) (.l 4), none⟩] [(56, 5)])
 (.cond (.t 56) (.seq (.region [⟨.mv (.c (.bool false)), none⟩] [(1, 0)])
 .ret) .skip))
 (.region [⟨.mv (.t 34), none⟩, ⟨.mv (.l 0), none⟩, ⟨.mv (.t 38), some ((.l 1), true)⟩, ⟨.pick (.l 1) (.l 2) (.c (.bool false)), none⟩, ⟨.mv (.l 3), none⟩] [(34, 4)])))))
 (.region [⟨.mv (.t 35), none⟩, ⟨.bin 0 .add (.l 0) (.c (.int .i64 (1))), none⟩, ⟨.mv (.l 1), none⟩] [(35, 2)])))
def w_l_FnConvoys_2 : ACode :=
 (.seq (.seq (.region [⟨.mv (.t 40), none⟩, ⟨.fieldAddr 0 (.t 17), none⟩, ⟨.load false 1 (.l 1), none⟩, ⟨.bin 0 .leq (.l 0) (.l 2), none⟩] [(59, 3)])
 (.cond (.t 59) .skip (.exit 2)))
 (.seq (.block 3 (.seq (.draw [⟨.load true 3 (.t 17), none, []⟩, ⟨.mv (.t 18), none, []⟩, ⟨.mv (.t 40), none, []⟩, ⟨.mv (.t 19), none, []⟩, ⟨.build [.int .i64 (0), .int .i64 (0)] [(0, 1, (.l 2)), (1, 1, (.l 3))], none, []⟩, ⟨.buildSlice 2 0 [] [], none, [(0, ⟨.load true 3 (.t 17), none⟩)]⟩, ⟨.append false 2 16 (.l 5) (.l 1), none, [(0, ⟨.load true 3 (.t 17), none⟩)]⟩, ⟨.buildSlice 2 1 [.int .i64 (0), .int .i64 (0)] [(0, 2, (.l 4))], none, [(0, ⟨.load true 3 (.t 17), none⟩)]⟩, ⟨.append false 2 16 (.l 6) (.l 7), none, [(0, ⟨.load true 3 (.t 17), none⟩)]⟩, ⟨.call (.c (.fn f_i_RestsOn [] [])) [(.l 0), (.l 8)], none, []⟩, ⟨.mv (.l 9), none, []⟩, ⟨.extract 0 (.l 10), none, []⟩, ⟨.extract 1 (.l 10), none, []⟩, ⟨.mv (.l 11), none, []⟩, ⟨.mv (.l 12), none, []⟩] [(41, 13), (42, 14)])
 (.seq (.region [⟨.mv (.t 42), none⟩, ⟨.un .not (.l 0), none⟩, ⟨.mv (.l 1), none⟩, ⟨.mv (.t 41), some ((.l 2), false)⟩, ⟨.mv (.t 40), some ((.l 2), false)⟩, ⟨.mv (.t 20), some ((.l 2), false)⟩, ⟨.bin 0 .geq (.l 4) (.l 5), some ((.l 2), false)⟩, ⟨.mv (.l 6), some ((.l 2), false)⟩, ⟨.mv (.t 40), some ((.l 7), true)⟩, ⟨.mv (.t 21), some ((.l 7), true)⟩, ⟨.bin 0 .leq (.l 8) (.l 9), some ((.l 7), true)⟩, ⟨.pick (.l 7) (.l 10) (.c (.bool false)), some ((.l 2), false)⟩, ⟨.bin 2 .neq (.l 3) (.l 11), some ((.l 2), false)⟩, ⟨.pick (.l 2) (.c (.bool true)) (.l 12), none⟩] [(60, 13)])
 (.cond (.t 60) (.seq (.region [⟨.mv (.c (.bool false)), none⟩] [(1, 0)])
 .ret) .skip))))
 (.region [⟨.mv (.t 40), none⟩, ⟨.bin 0 .add (.l 0) (.c (.int .i64 (1))), none⟩, ⟨.mv (.l 1), none⟩] [(40, 2)])))
def w_l_FnConvoys_3 : ACode :=
 (.seq (.seq (.region [⟨.mv (.t 43), none⟩, ⟨.fieldAddr 0 (.t 2), none⟩, ⟨.load false 1 (.l 1), none⟩, ⟨.bin 0 .leq (.l 0) (.l 2), none⟩] [(62, 3)])
 (.cond (.t 62) .skip (.exit 4)))
 (.seq (.block 5 (.seq (.region [⟨.load true 3 (.t 2), none⟩, ⟨.mv (.t 3), none⟩, ⟨.mv (.t 43), none⟩, ⟨.call (.c (.fn f_i_ConvoyRow [] [])) [(.l 0), (.l 1), (.l 2)], none⟩, ⟨.mv (.l 3), none⟩, ⟨.extract 0 (.l 4), none⟩, ⟨.extract 1 (.l 4), none⟩, ⟨.mv (.l 5), none⟩, ⟨.mv (.l 6), none⟩] [(44, 7), (45, 8)])
 (.seq (.region [⟨.load true 3 (.t 2), none⟩, ⟨.mv (.t 44), none⟩, ⟨.mv (.t 4), none⟩, ⟨.call (.c (.fn f_i_BendBy [] [])) [(.l 0), (.l 1), (.l 2)], none⟩, ⟨.mv (.l 3), none⟩, ⟨.extract 0 (.l 4), none⟩, ⟨.extract 1 (.l 4), none⟩, ⟨.mv (.l 5), none⟩, ⟨.mv (.l 6), none⟩] [(46, 7), (47, 8)])
 (.seq (.region [⟨.mv (.t 45), none⟩, ⟨.un .not (.l 0), none⟩, ⟨.mv (.l 1), none⟩, ⟨.mv (.t 47), some ((.l 2), false)⟩, ⟨.un .not (.l 3), some ((.l 2), false)⟩, ⟨.pick (.l 2) (.c (.bool true)) (.l 4), none⟩, ⟨.mv (.l 5), none⟩, ⟨.mv (.t 46), some ((.l 6), false)⟩, ⟨.mv (.t 5), some ((.l 6), false)⟩, ⟨.bin 0 .gtr (.l 7) (.l 8), some ((.l 6), false)⟩, ⟨.pick (.l 6) (.c (.bool true)) (.l 9), none⟩, ⟨.mv (.l 10), none⟩, ⟨.mv (.t 43), some ((.l 11), false)⟩, ⟨.mv (.t 6), some ((.l 11), false)⟩, ⟨.bin 0 .lss (.l 12) (.l 13), some ((.l 11), false)⟩, ⟨.mv (.l 14), some ((.l 11), false)⟩, ⟨.mv (.t 46), some ((.l 15), true)⟩, ⟨.mv (.t 5), some ((.l 15), true)⟩, ⟨.bin 0 .eql (.l 16) (.l 17), some ((.l 15), true)⟩, ⟨.pick (.l 15) (.l 18) (.c (.bool false)), some ((.l 11), false)⟩, ⟨.pick (.l 11) (.c (.bool true)) (.l 19), none⟩, ⟨.mv (.l 20), none⟩, ⟨.mv (.t 43), some ((.l 21), false)⟩, ⟨.mv (.t 6), some ((.l 21), false)⟩, ⟨.bin 0 .eql (.l 22) (.l 23), some ((.l 21), false)⟩, ⟨.mv (.l 24), some ((.l 21), false)⟩, ⟨.mv (.t 46), some ((.l 25), true)⟩, ⟨.mv (.t 5), some ((.l 25), true)⟩, ⟨.bin 0 .neq (.l 26) (.l 27), some ((.l 25), true)⟩, ⟨.pick (.l 25) (.l 28) (.c (.bool false)), some ((.l 21), false)⟩, ⟨.pick (.l 21) (.c (.bool true)) (.l 29), none⟩] [(63, 30)])
 (.cond (.t 63) (.seq (.region [⟨.mv (.c (.bool false)), none⟩] [(1, 0)])
 .ret) .skip)))))
 (.region [⟨.mv (.t 43), none⟩, ⟨.bin 0 .add (.l 0) (.c (.int .i64 (1))), none⟩, ⟨.mv (.l 1), none⟩] [(43, 2)])))
def c_l_FnConvoys : ACode :=
 (.seq (.region [⟨.mv (.c (.bool false)), none⟩] [(1, 0)])
 (.seq (.seq (.region [⟨.mv (.t 0), none⟩, ⟨.call (.c (.fn f_l_rBig [] [])) [(.l 0)], none⟩] [(48, 1)])
 (.cond (.t 48) (.seq (.region [⟨.mv (.c (.bool true)), none⟩] [(1, 0)])
 .ret) .skip))
 (.seq (.region [⟨.mv (.t 0), none⟩, ⟨.call (.c (.fn f_s_DrawWorstBend [] [])) [(.l 0)], none⟩, ⟨.mv (.l 1), none⟩, ⟨.extract 0 (.l 2), none⟩, ⟨.extract 1 (.l 2), none⟩, ⟨.extract 2 (.l 2), none⟩, ⟨.alloc [.int .i64 (0), .int .i64 (0), .int .i64 (0)], none⟩, ⟨.store 3 (.l 6) (.l 3), none⟩, ⟨.mv (.l 4), none⟩, ⟨.mv (.l 5), none⟩] [(2, 6), (3, 8), (4, 9)])
 (.seq (.region [⟨.load true 3 (.t 2), none⟩, ⟨.mv (.t 3), none⟩, ⟨.mv (.t 4), none⟩, ⟨.call (.c (.fn f_i_WorstBend [] [])) [(.l 0), (.l 1), (.l 2)], none⟩, ⟨.mv (.l 3), none⟩, ⟨.extract 0 (.l 4), none⟩, ⟨.extract 1 (.l 4), none⟩, ⟨.extract 2 (.l 4), none⟩, ⟨.mv (.l 5), none⟩, ⟨.mv (.l 6), none⟩, ⟨.mv (.l 7), none⟩] [(5, 8), (6, 9), (7, 10)])
 (.seq (.seq (.region [⟨.load true 3 (.t 2), none⟩, ⟨.mv (.t 3), none⟩, ⟨.mv (.t 4), none⟩, ⟨.call (.c (.fn f_s_WorstBend [] [])) [(.l 0), (.l 1), (.l 2)], none⟩, ⟨.mv (.l 3), none⟩, ⟨.extract 0 (.l 4), none⟩, ⟨.extract 1 (.l 4), none⟩, ⟨.extract 2 (.l 4), none⟩, ⟨.mv (.l 5), none⟩, ⟨.mv (.l 6), none⟩, ⟨.mv (.l 7), none⟩] [(8, 8), (9, 9), (10, 10)])
 (.seq (.region [⟨.mv (.t 5), none⟩, ⟨.mv (.t 8), none⟩, ⟨.bin 0 .neq (.l 0) (.l 1), none⟩, ⟨.mv (.l 2), none⟩, ⟨.mv (.t 6), some ((.l 3), false)⟩, ⟨.mv (.t 9), some ((.l 3), false)⟩, ⟨.bin 0 .neq (.l 4) (.l 5), some ((.l 3), false)⟩, ⟨.pick (.l 3) (.c (.bool true)) (.l 6), none⟩, ⟨.mv (.l 7), none⟩, ⟨.mv (.t 7), some ((.l 8), false)⟩, ⟨.mv (.t 10), some ((.l 8), false)⟩, ⟨.bin 2 .neq (.l 9) (.l 10), some ((.l 8), false)⟩, ⟨.pick (.l 8) (.c (.bool true)) (.l 11), none⟩] [(49, 12)])
 (.cond (.t 49) (.seq (.region [⟨.mv (.c (.bool false)), none⟩] [(1, 0)])
 .ret) .skip)))
 (.seq (.region [⟨.mv (.t 0), none⟩, ⟨.call (.c (.fn f_s_DrawCanCross [] [])) [(.l 0)], none⟩, ⟨.mv (.l 1), none⟩, ⟨.extract 0 (.l 2), none⟩, ⟨.extract 1 (.l 2), none⟩, ⟨.alloc [.int .i64 (0), .int .i64 (0), .int .i64 (0)], none⟩, ⟨.store 3 (.l 5) (.l 3), none⟩, ⟨.mv (.l 4), none⟩] [(11, 5), (12, 7)])
 (.seq (.region [⟨.load true 3 (.t 11), none⟩, ⟨.mv (.t 12), none⟩, ⟨.call (.c (.fn f_i_CanCross [] [])) [(.l 0), (.l 1)], none⟩, ⟨.mv (.l 2), none⟩, ⟨.extract 0 (.l 3), none⟩, ⟨.extract 1 (.l 3), none⟩, ⟨.mv (.l 4), none⟩, ⟨.mv (.l 5), none⟩] [(13, 6), (14, 7)])
 (.seq (.seq (.region [⟨.load true 3 (.t 11), none⟩, ⟨.mv (.t 12), none⟩, ⟨.call (.c (.fn f_s_CanCross [] [])) [(.l 0), (.l 1)], none⟩, ⟨.mv (.l 2), none⟩, ⟨.extract 0 (.l 3), none⟩, ⟨.extract 1 (.l 3), none⟩, ⟨.mv (.l 4), none⟩, ⟨.mv (.l 5), none⟩] [(15, 6), (16, 7)])
 (.seq (.region [⟨.mv (.t 13), none⟩, ⟨.mv (.t 15), none⟩, ⟨.bin 2 .neq (.l 0) (.l 1), none⟩, ⟨.mv (.l 2), none⟩, ⟨.mv (.t 14), some ((.l 3), false)⟩, ⟨.mv (.t 16), some ((.l 3), false)⟩, ⟨.bin 2 .neq (.l 4) (.l 5), some ((.l 3), false)⟩, ⟨.pick (.l 3) (.c (.bool true)) (.l 6), none⟩, ⟨.mv (.l 7), none⟩, ⟨.mv (.t 14), some ((.l 8), false)⟩, ⟨.load true 3 (.t 11), some ((.l 8), false)⟩, ⟨.call (.c (.fn f_i_IsBeam [] [])) [(.l 10)], some ((.l 8), false)⟩, ⟨.mv (.l 11), some ((.l 8), false)⟩, ⟨.mv (.t 12), some ((.l 12), true)⟩, ⟨.call (.c (.fn f_i_IsConvoy [] [])) [(.l 13)], some ((.l 12), true)⟩, ⟨.pick (.l 12) (.l 14) (.c (.bool false)), some ((.l 8), false)⟩, ⟨.bin 2 .neq (.l 9) (.l 15), some ((.l 8), false)⟩, ⟨.pick (.l 8) (.c (.bool true)) (.l 16), none⟩] [(50, 17)])
 (.cond (.t 50) (.seq (.region [⟨.mv (.c (.bool false)), none⟩] [(1, 0)])
 .ret) .skip)))
 (.seq (.region [⟨.mv (.t 0), none⟩, ⟨.call (.c (.fn f_s_DrawOutermostPlaces [] [])) [(.l 0)], none⟩, ⟨.mv (.l 1), none⟩, ⟨.extract 0 (.l 2), none⟩, ⟨.extract 1 (.l 2), none⟩, ⟨.extract 2 (.l 2), none⟩, ⟨.alloc [.int .i64 (0), .int .i64 (0), .int .i64 (0)], none⟩, ⟨.store 3 (.l 6) (.l 3), none⟩, ⟨.mv (.l 4), none⟩, ⟨.mv (.l 5), none⟩] [(17, 6), (18, 8), (19, 9)])
 (.seq (.region [⟨.load true 3 (.t 17), none⟩, ⟨.mv (.t 18), none⟩, ⟨.mv (.t 19), none⟩, ⟨.call (.c (.fn f_i_OutermostPlaces [] [])) [(.l 0), (.l 1), (.l 2)], none⟩, ⟨.mv (.l 3), none⟩, ⟨.extract 0 (.l 4), none⟩, ⟨.extract 1 (.l 4), none⟩, ⟨.extract 2 (.l 4), none⟩, ⟨.mv (.l 5), none⟩, ⟨.mv (.l 6), none⟩, ⟨.mv (.l 7), none⟩] [(20, 8), (21, 9), (22, 10)])
 (.seq (.seq (.region [⟨.load true 3 (.t 17), none⟩, ⟨.mv (.t 18), none⟩, ⟨.mv (.t 19), none⟩, ⟨.call (.c (.fn f_s_OutermostPlaces [] [])) [(.l 0), (.l 1), (.l 2)], none⟩, ⟨.mv (.l 3), none⟩, ⟨.extract 0 (.l 4), none⟩, ⟨.extract 1 (.l 4), none⟩, ⟨.extract 2 (.l 4), none⟩, ⟨.mv (.l 5), none⟩, ⟨.mv (.l 6), none⟩, ⟨.mv (.l 7), none⟩] [(23, 8), (24, 9), (25, 10)])
 (.seq (.region [⟨.mv (.t 20), none⟩, ⟨.mv (.t 23), none⟩, ⟨.bin 0 .neq (.l 0) (.l 1), none⟩, ⟨.mv (.l 2), none⟩, ⟨.mv (.t 21), some ((.l 3), false)⟩, ⟨.mv (.t 24), some ((.l 3), false)⟩, ⟨.bin 0 .neq (.l 4) (.l 5), some ((.l 3), false)⟩, ⟨.pick (.l 3) (.c (.bool true)) (.l 6), none⟩, ⟨.mv (.l 7), none⟩, ⟨.mv (.t 22), some ((.l 8), false)⟩, ⟨.mv (.t 25), some ((.l 8), false)⟩, ⟨.bin 2 .neq (.l 9) (.l 10), some ((.l 8), false)⟩, ⟨.pick (.l 8) (.c (.bool true)) (.l 11), none⟩] [(51, 12)])
 (.cond (.t 51) (.seq (.region [⟨.mv (.c (.bool false)), none⟩] [(1, 0)])
 .ret) .skip)))
 (.seq (.region [⟨.mv (.t 0), none⟩, ⟨.call (.c (.fn f_s_DrawIsConvoy [] [])) [(.l 0)], none⟩, ⟨.mv (.l 1), none⟩] [(26, 2)])
 (.seq (.seq (.region [⟨.mv (.t 26), none⟩, ⟨.call (.c (.fn f_i_IsConvoy [] [])) [(.l 0)], none⟩, ⟨.mv (.t 26), none⟩, ⟨.call (.c (.fn f_s_IsConvoy [] [])) [(.l 2)], none⟩, ⟨.bin 2 .neq (.l 1) (.l 3), none⟩] [(52, 4)])
 (.cond (.t 52) (.seq (.region [⟨.mv (.c (.bool false)), none⟩] [(1, 0)])
 .ret) .skip))
 (.seq (.region [⟨.mv (.t 0), none⟩, ⟨.call (.c (.fn f_s_DrawConvoyRow [] [])) [(.l 0)], none⟩, ⟨.mv (.l 1), none⟩, ⟨.extract 0 (.l 2), none⟩, ⟨.extract 1 (.l 2), none⟩, ⟨.extract 2 (.l 2), none⟩, ⟨.alloc [.int .i64 (0), .int .i64 (0), .int .i64 (0)], none⟩, ⟨.store 3 (.l 6) (.l 3), none⟩, ⟨.mv (.l 4), none⟩, ⟨.mv (.l 5), none⟩] [(27, 6), (28, 8), (29, 9)])
 (.seq (.region [⟨.load true 3 (.t 27), none⟩, ⟨.mv (.t 28), none⟩, ⟨.mv (.t 29), none⟩, ⟨.call (.c (.fn f_i_ConvoyRow [] [])) [(.l 0), (.l 1), (.l 2)], none⟩, ⟨.mv (.l 3), none⟩, ⟨.extract 0 (.l 4), none⟩, ⟨.extract 1 (.l 4), none⟩, ⟨.mv (.l 5), none⟩, ⟨.mv (.l 6), none⟩] [(30, 7), (31, 8)])
 (.seq (.seq (.region [⟨.load true 3 (.t 27), none⟩, ⟨.mv (.t 28), none⟩, ⟨.mv (.t 29), none⟩, ⟨.call (.c (.fn f_s_ConvoyRow [] [])) [(.l 0), (.l 1), (.l 2)], none⟩, ⟨.mv (.l 3), none⟩, ⟨.extract 0 (.l 4), none⟩, ⟨.extract 1 (.l 4), none⟩, ⟨.mv (.l 5), none⟩, ⟨.mv (.l 6), none⟩] [(32, 7), (33, 8)])
 (.seq (.region [⟨.mv (.t 31), none⟩, ⟨.mv (.t 33), none⟩, ⟨.bin 2 .neq (.l 0) (.l 1), none⟩, ⟨.mv (.l 2), none⟩, ⟨.mv (.t 30), some ((.l 3), false)⟩, ⟨.mv (.t 32), some ((.l 3), false)⟩, ⟨.call (.c (.fn f_l_rRow [] [])) [(.l 4), (.l 5)], some ((.l 3), false)⟩, ⟨.un .not (.l 6), some ((.l 3), false)⟩, ⟨.pick (.l 3) (.c (.bool true)) (.l 7), none⟩] [(53, 8)])
 (.cond (.t 53) (.seq (.region [⟨.mv (.c (.bool false)), none⟩] [(1, 0)])
 .ret) .skip)))
 (.seq (.seq (.region [⟨.mv (.t 14), none⟩] [(54, 0)])
 (.cond (.t 54) (.seq (.region [⟨.mv (.c (.bool true)), none⟩] [(34, 0)])
 (.seq (.seq (.region [⟨.mv (.c (.int .i64 (0))), none⟩] [(35, 0)])
 (.block 0 (.loop w_l_FnConvoys_1)))
 (.seq (.region [⟨.mv (.t 34), none⟩, ⟨.mv (.t 13), none⟩, ⟨.bin 2 .neq (.l 0) (.l 1), none⟩] [(57, 2)])
 (.cond (.t 57) (.seq (.region [⟨.mv (.c (.bool false)), none⟩] [(1, 0)])
 .ret) .skip)))) .skip))
 (.seq (.seq (.region [⟨.mv (.t 22), none⟩] [(58, 0)])
 (.cond (.t 58) (.seq (.region [⟨.mv (.c (.int .i64 (0))), none⟩] [(40, 0)])
 (.block 2 (.loop w_l_FnConvoys_2))) .skip))
 (.seq (.seq (.region [⟨.mv (.t 7), none⟩, ⟨.un .not (.l 0), none⟩] [(61, 1)])
 (.cond (.t 61) (.seq (.region [⟨.mv (.c (.bool true)), none⟩] [(1, 0)])
 .ret) .skip))
 (.seq (.seq (.region [⟨.mv (.c (.int .i64 (0))), none⟩] [(43, 0)])
 (.block 4 (.loop w_l_FnConvoys_3)))
 (.seq (.region [⟨.mv (.c (.bool true)), none⟩] [(1, 0)])
 .ret)))))))))))))))))))))
def a_l_FnConvoys : AFun := ⟨[0, 2, 3, 4, 5, 6, 7, 8, 9, 10, 11, 12, 13, 14, 15, 16, 17, 18, 19, 20, 21, 22, 23, 24, 25, 26, 27, 28, 29, 30, 31, 32, 33, 34, 35, 36, 37, 38, 39, 40, 41, 42, 43, 44, 45, 46, 47, 48, 50, 85, 120, 155, 162, 191, 192, 196, 217, 224, 225, 229, 258, 260, 264, 311], 312, c_l_FnConvoys, [.tmp 1], 1⟩
def c_l_szLoadS : ACode :=
 (.seq (.region [⟨.mv (.c (.int .i64 (0))), none⟩] [(2, 0)])
 (.seq (.region [⟨.mv (.t 1), none⟩, ⟨.mv (.t 0), none⟩, ⟨.len (.l 1), none⟩, ⟨.bin 0 .sub (.l 0) (.l 2), none⟩, ⟨.mv (.l 3), none⟩] [(1, 4)])
 (.seq (.seq (.region [⟨.mv (.t 1), none⟩, ⟨.bin 0 .lss (.l 0) (.c (.int .i64 (0))), none⟩] [(3, 1)])
 (.cond (.t 3) (.seq (.region [⟨.mv (.c (.int .i64 (-1))), none⟩] [(2, 0)])
 .ret) .skip))
 (.seq (.region [⟨.mv (.t 1), none⟩, ⟨.mv (.l 0), none⟩] [(2, 1)])
 .ret))))
def a_l_szLoadS : AFun := ⟨[0, 1, 4, 10], 12, c_l_szLoadS, [.tmp 2], 1⟩
def c_s_RestsOn : ACode :=
 (.seq (.region [⟨.box (.t 0), none⟩, ⟨.mv (.c (.bool false)), none⟩, ⟨.mv (.c (.bool false)), none⟩] [(2, 0), (3, 1), (4, 2)])
 (.seq (.seq (.region [⟨.load true 3 (.t 2), none⟩, ⟨.mv (.t 1), none⟩, ⟨.call (.c (.fn f_s_l6On [] [])) [(.l 0), (.l 1)], none⟩, ⟨.un .not (.l 2), none⟩] [(5, 3)])
 (.cond (.t 5) (.seq (.region [⟨.mv (.c (.bool false)), none⟩, ⟨.mv (.c (.bool false)), none⟩] [(3, 0), (4, 1)])
 .ret) .skip))
 (.seq (.region [⟨.mv (.t 1), none⟩, ⟨.fieldAddr 1 (.t 2), none⟩, ⟨.load false 1 (.l 1), none⟩, ⟨.fieldAddr 2 (.t 2), none⟩, ⟨.load false 1 (.l 3), none⟩, ⟨.call (.c (.fn f_s_l2Side [] [])) [(.l 0), (.l 2), (.l 4)], none⟩, ⟨.bin 0 .eql (.l 5) (.c (.int .i64 (0))), none⟩, ⟨.mv (.l 6), none⟩, ⟨.mv (.c (.bool true)), none⟩] [(3, 7), (4, 8)])
 .ret)))
def a_s_RestsOn : AFun := ⟨[0, 1, 2, 4, 5, 9], 17, c_s_RestsOn, [.tmp 3, .tmp 4], 1⟩
def c_l_toBeam : ACode :=
 (.seq (.region [⟨.box (.t 0), none⟩, ⟨.alloc [.int .i64 (0), .int .i64 (0), .int .i64 (0)], none⟩] [(1, 0), (2, 1)])
 (.seq (.region [⟨.alloc [.int .i64 (0), .int .i64 (0), .int .i64 (0)], none⟩] [(3, 0)])
 (.seq (.region [⟨.fieldAddr 0 (.t 1), none⟩, ⟨.load false 1 (.l 0), none⟩, ⟨.fieldAddr 0 (.t 3), none⟩, ⟨.store 1 (.l 2) (.l 1), none⟩] [])
 (.seq (.region [⟨.fieldAddr 1 (.t 1), none⟩, ⟨.load false 1 (.l 0), none⟩, ⟨.fieldAddr 1 (.t 3), none⟩, ⟨.store 1 (.l 2) (.l 1), none⟩] [])
 (.seq (.region [⟨.fieldAddr 2 (.t 1), none⟩, ⟨.load false 1 (.l 0), none⟩, ⟨.fieldAddr 2 (.t 3), none⟩, ⟨.store 1 (.l 2) (.l 1), none⟩] [])
 (.seq (.region [⟨.load true 3 (.t 3), none⟩, ⟨.store 3 (.t 2) (.l 0), none⟩] [])
 .ret))))))
def a_l_toBeam : AFun := ⟨[0, 1, 2, 3], 14, c_l_toBeam, [.cell 2 true 3], 1⟩
def w_l_toLoadS_1 : ACode :=
 (.seq (.seq (.region [⟨.mv (.t 3), none⟩, ⟨.mv (.t 0), none⟩, ⟨.len (.l 1), none⟩, ⟨.bin 0 .lss (.l 0) (.l 2), none⟩] [(4, 3)])
 (.cond (.t 4) .skip (.exit 0)))
 (.seq (.block 1 (.region [⟨.mv (.t 2), none⟩, ⟨.mv (.t 3), none⟩, ⟨.mv (.t 0), none⟩, ⟨.mv (.t 3), none⟩, ⟨.indexAddrS 2 (.l 2) (.l 3), none⟩, ⟨.load true 2 (.l 4), none⟩, ⟨.call (.c (.fn f_l_toLoad [] [])) [(.l 5)], none⟩, ⟨.indexAddrS 2 (.l 0) (.l 1), none⟩, ⟨.store 2 (.l 7) (.l 6), none⟩] []))
 (.region [⟨.mv (.t 3), none⟩, ⟨.bin 0 .add (.l 0) (.c (.int .i64 (1))), none⟩, ⟨.mv (.l 1), none⟩] [(3, 2)])))
def c_l_toLoadS : ACode :=
 (.seq (.region [⟨.mv (.c (.slice none 0 0 none)), none⟩] [(1, 0)])
 (.seq (.region [⟨.mv (.t 0), none⟩, ⟨.len (.l 0), none⟩, ⟨.makeSlice 2 16 [.int .i64 (0), .int .i64 (0)] (.l 1) (.l 1), none⟩, ⟨.mv (.l 2), none⟩] [(2, 3)])
 (.seq (.seq (.region [⟨.mv (.c (.int .i64 (0))), none⟩] [(3, 0)])
 (.block 0 (.loop w_l_toLoadS_1)))
 (.seq (.region [⟨.mv (.t 2), none⟩, ⟨.mv (.l 0), none⟩] [(1, 1)])
 .ret))))
def a_l_toLoadS : AFun := ⟨[0, 2, 3, 4, 11], 23, c_l_toLoadS, [.tmp 1], 2⟩
def c_i_RestsOn : ACode :=
 (.seq (.region [⟨.box (.t 0), none⟩, ⟨.mv (.c (.bool false)), none⟩, ⟨.mv (.c (.bool false)), none⟩] [(2, 0), (3, 1), (4, 2)])
 (.seq (.seq (.region [⟨.load true 3 (.t 2), none⟩, ⟨.mv (.t 1), none⟩, ⟨.call (.c (.fn f_i_isOn [] [])) [(.l 0), (.l 1)], none⟩, ⟨.un .not (.l 2), none⟩] [(5, 3)])
 (.cond (.t 5) (.seq (.region [⟨.mv (.c (.bool false)), none⟩, ⟨.mv (.c (.bool false)), none⟩] [(3, 0), (4, 1)])
 .ret) .skip))
 (.seq (.region [⟨.load true 3 (.t 2), none⟩, ⟨.mv (.t 1), none⟩, ⟨.call (.c (.fn f_i_Beam_rests [] [])) [(.l 0), (.l 1)], none⟩, ⟨.mv (.l 2), none⟩, ⟨.mv (.c (.bool true)), none⟩] [(3, 3), (4, 4)])
 .ret)))
def a_i_RestsOn : AFun := ⟨[0, 1, 2, 4, 5, 9], 13, c_i_RestsOn, [.tmp 3, .tmp 4], 1⟩
def w_l_eqLoadS_1 : ACode :=
 (.seq (.seq (.region [⟨.mv (.t 3), none⟩, ⟨.mv (.t 0), none⟩, ⟨.len (.l 1), none⟩, ⟨.bin 0 .lss (.l 0) (.l 2), none⟩] [(5, 3)])
 (.cond (.t 5) .skip (.exit 0)))
 (.seq (.block 1 (.seq (.draw [⟨.mv (.t 0), none, []⟩, ⟨.mv (.t 3), none, []⟩, ⟨.indexAddrS 2 (.l 0) (.l 1), none, []⟩, ⟨.load true 2 (.l 2), none, []⟩, ⟨.mv (.t 1), none, []⟩, ⟨.mv (.t 3), none, []⟩, ⟨.indexAddrS 2 (.l 4) (.l 5), none, []⟩, ⟨.load true 2 (.l 6), none, []⟩, ⟨.call (.c (.fn f_l_eqLoad [] [])) [(.l 3), (.l 7)], none, []⟩, ⟨.un .not (.l 8), none, []⟩] [(6, 9)])
 (.cond (.t 6) (.seq (.region [⟨.mv (.c (.bool false)), none⟩] [(2, 0)])
 .ret) .skip)))
 (.region [⟨.mv (.t 3), none⟩, ⟨.bin 0 .add (.l 0) (.c (.int .i64 (1))), none⟩, ⟨.mv (.l 1), none⟩] [(3, 2)])))
def c_l_eqLoadS : ACode :=
 (.seq (.region [⟨.mv (.c (.bool false)), none⟩] [(2, 0)])
 (.seq (.seq (.region [⟨.mv (.t 0), none⟩, ⟨.len (.l 0), none⟩, ⟨.mv (.t 1), none⟩, ⟨.len (.l 2), none⟩, ⟨.bin 0 .neq (.l 1) (.l 3), none⟩] [(4, 4)])
 (.cond (.t 4) (.seq (.region [⟨.mv (.c (.bool false)), none⟩] [(2, 0)])
 .ret) .skip))
 (.seq (.seq (.region [⟨.mv (.c (.int .i64 (0))), none⟩] [(3, 0)])
 (.block 0 (.loop w_l_eqLoadS_1)))
 (.seq (.region [⟨.mv (.c (.bool true)), none⟩] [(2, 0)])
 .ret))))
def a_l_eqLoadS : AFun := ⟨[0, 1, 4, 5, 10, 14, 26], 27, c_l_eqLoadS, [.tmp 2], 1⟩
def w_s_CanCross_1 : ACode :=
 (.seq (.seq (.region [⟨.mv (.t 5), none⟩, ⟨.fieldAddr 0 (.t 2), none⟩, ⟨.load false 1 (.l 1), none⟩, ⟨.bin 0 .leq (.l 0) (.l 2), none⟩] [(7, 3)])
 (.cond (.t 7) .skip (.exit 0)))
 (.seq (.block 1 (.seq (.draw [⟨.mv (.t 1), none, []⟩, ⟨.mv (.t 5), none, []⟩, ⟨.fieldAddr 1 (.t 2), none, []⟩, ⟨.load false 1 (.l 2), none, []⟩, ⟨.fieldAddr 2 (.t 2), none, []⟩, ⟨.load false 1 (.l 4), none, []⟩, ⟨.call (.c (.fn f_s_l6At [] [])) [(.l 0), (.l 1)], none, [(3, ⟨.load false 1 (.l 2), none⟩), (5, ⟨.load false 1 (.l 4), none⟩)]⟩, ⟨.call (.c (.fn f_s_l2Side [] [])) [(.l 6), (.l 3), (.l 5)], none, []⟩, ⟨.bin 0 .neq (.l 7) (.c (.int .i64 (0))), none, []⟩] [(8, 8)])
 (.cond (.t 8) (.seq (.region [⟨.mv (.c (.bool false)), none⟩, ⟨.mv (.c (.bool true)), none⟩] [(3, 0), (4, 1)])
 .ret) .skip)))
 (.region [⟨.mv (.t 5), none⟩, ⟨.bin 0 .add (.l 0) (.c (.int .i64 (1))), none⟩, ⟨.mv (.l 1), none⟩] [(5, 2)])))
def c_s_CanCross : ACode :=
 (.seq (.region [⟨.box (.t 0), none⟩, ⟨.mv (.c (.bool false)), none⟩, ⟨.mv (.c (.bool false)), none⟩] [(2, 0), (3, 1), (4, 2)])
 (.seq (.seq (.region [⟨.load true 3 (.t 2), none⟩, ⟨.call (.c (.fn f_s_l6Beam [] [])) [(.l 0)], none⟩, ⟨.un .not (.l 1), none⟩, ⟨.mv (.l 2), none⟩, ⟨.mv (.t 1), some ((.l 3), false)⟩, ⟨.call (.c (.fn f_s_l6Convoy [] [])) [(.l 4)], some ((.l 3), false)⟩, ⟨.un .not (.l 5), some ((.l 3), false)⟩, ⟨.pick (.l 3) (.c (.bool true)) (.l 6), none⟩] [(6, 7)])
 (.cond (.t 6) (.seq (.region [⟨.mv (.c (.bool false)), none⟩, ⟨.mv (.c (.bool false)), none⟩] [(3, 0), (4, 1)])
 .ret) .skip))
 (.seq (.seq (.region [⟨.mv (.c (.int .i64 (0))), none⟩] [(5, 0)])
 (.block 0 (.loop w_s_CanCross_1)))
 (.seq (.region [⟨.mv (.c (.bool true)), none⟩, ⟨.mv (.c (.bool true)), none⟩] [(3, 0), (4, 1)])
 .ret))))
def a_s_CanCross : AFun := ⟨[0, 1, 2, 4, 5, 6, 14, 18, 29], 30, c_s_CanCross, [.tmp 3, .tmp 4], 1⟩
def w_i_CanCross_1 : ACode :=
 (.seq (.region [⟨.bin 0 .lss (.t 8) (.t 7), none⟩] [(9, 0)])
 (.seq (.cond (.t 9) .skip (.exit 0))
 (.seq (.block 1 (.seq (.region [⟨.mv (.t 8), none⟩, ⟨.mv (.l 0), none⟩] [(5, 1)])
 (.seq (.draw [⟨.load true 3 (.t 2), none, []⟩, ⟨.mv (.t 1), none, []⟩, ⟨.mv (.t 5), none, []⟩, ⟨.call (.c (.fn f_i_convoyRow [] [])) [(.l 1), (.l 2)], none, [(0, ⟨.load true 3 (.t 2), none⟩)]⟩, ⟨.call (.c (.fn f_i_Beam_rests [] [])) [(.l 0), (.l 3)], none, []⟩, ⟨.un .not (.l 4), none, []⟩] [(10, 5)])
 (.cond (.t 10) (.seq (.region [⟨.mv (.c (.bool false)), none⟩, ⟨.mv (.c (.bool true)), none⟩] [(3, 0), (4, 1)])
 .ret) .skip))))
 (.region [⟨.bin 0 .add (.t 8) (.c (.int .i64 (1))), none⟩, ⟨.mv (.l 0), none⟩] [(8, 1)]))))
def c_i_CanCross : ACode :=
 (.seq (.region [⟨.box (.t 0), none⟩, ⟨.mv (.c (.bool false)), none⟩, ⟨.mv (.c (.bool false)), none⟩] [(2, 0), (3, 1), (4, 2)])
 (.seq (.seq (.region [⟨.load true 3 (.t 2), none⟩, ⟨.call (.c (.fn f_i_IsBeam [] [])) [(.l 0)], none⟩, ⟨.un .not (.l 1), none⟩, ⟨.mv (.l 2), none⟩, ⟨.mv (.t 1), some ((.l 3), false)⟩, ⟨.call (.c (.fn f_i_IsConvoy [] [])) [(.l 4)], some ((.l 3), false)⟩, ⟨.un .not (.l 5), some ((.l 3), false)⟩, ⟨.pick (.l 3) (.c (.bool true)) (.l 6), none⟩] [(6, 7)])
 (.cond (.t 6) (.seq (.region [⟨.mv (.c (.bool false)), none⟩, ⟨.mv (.c (.bool false)), none⟩] [(3, 0), (4, 1)])
 .ret) .skip))
 (.seq (.seq (.region [⟨.fieldAddr 0 (.t 2), none⟩, ⟨.load false 1 (.l 0), none⟩, ⟨.bin 0 .add (.l 1) (.c (.int .i64 (1))), none⟩, ⟨.mv (.c (.int .i64 (0))), none⟩] [(7, 2), (8, 3)])
 (.block 0 (.loop w_i_CanCross_1)))
 (.seq (.region [⟨.mv (.c (.bool true)), none⟩, ⟨.mv (.c (.bool true)), none⟩] [(3, 0), (4, 1)])
 .ret))))
def a_i_CanCross : AFun := ⟨[0, 1, 2, 4, 5, 6, 14, 17, 18, 19, 26], 28, c_i_CanCross, [.tmp 3, .tmp 4], 1⟩
def c_l_rBig : ACode :=
 (.seq (.region [⟨.mv (.c (.bool false)), none⟩] [(1, 0)])
 (.seq (.region [⟨.mv (.t 0), none⟩, ⟨.len (.l 0), none⟩, ⟨.bin 0 .gtr (.l 1) (.c (.int .i64 (65536))), none⟩, ⟨.mv (.l 2), none⟩] [(1, 3)])
 .ret))
def a_l_rBig : AFun := ⟨[0, 2], 6, c_l_rBig, [.tmp 1], 1⟩
def c_s_DrawBendTimes : ACode :=
 (.seq (.region [⟨.alloc [.int .i64 (0), .int .i64 (0), .int .i64 (0)], none⟩, ⟨.mv (.c (.slice none 0 0 none)), none⟩] [(1, 0), (2, 1)])
 (.seq (.region [⟨.mv (.t 0), none⟩, ⟨.call (.c (.fn f_s_DrawRestsOn [] [])) [(.l 0)], none⟩, ⟨.extract 0 (.l 1), none⟩, ⟨.extract 1 (.l 1), none⟩, ⟨.store 3 (.t 1) (.l 2), none⟩, ⟨.mv (.l 3), none⟩] [(2, 5)])
 .ret))
def a_s_DrawBendTimes : AFun := ⟨[0, 2, 3], 8, c_s_DrawBendTimes, [.cell 1 true 3, .tmp 2], 2⟩
def c_i_BendTimes : ACode :=
 (.seq (.region [⟨.box (.t 0), none⟩, ⟨.mv (.c (.slice none 0 0 none)), none⟩, ⟨.mv (.c (.bool false)), none⟩] [(2, 0), (3, 1), (4, 2)])
 (.seq (.seq (.region [⟨.load true 3 (.t 2), none⟩, ⟨.mv (.t 1), none⟩, ⟨.call (.c (.fn f_i_isOn [] [])) [(.l 0), (.l 1)], none⟩, ⟨.un .not (.l 2), none⟩] [(5, 3)])
 (.cond (.t 5) (.seq (.region [⟨.mv (.c (.slice none 0 0 none)), none⟩, ⟨.mv (.c (.bool false)), none⟩] [(3, 0), (4, 1)])
 .ret) .skip))
 (.seq (.region [⟨.load true 3 (.t 2), none⟩, ⟨.mv (.t 1), none⟩, ⟨.call (.c (.fn f_i_Beam_bends [] [])) [(.l 0), (.l 1)], none⟩, ⟨.mv (.l 2), none⟩, ⟨.mv (.c (.bool true)), none⟩] [(3, 3), (4, 4)])
 .ret)))
def a_i_BendTimes : AFun := ⟨[0, 1, 2, 4, 5, 9], 13, c_i_BendTimes, [.tmp 3, .tmp 4], 2⟩
def c_s_BendTimes : ACode :=
 (.seq (.region [⟨.box (.t 0), none⟩, ⟨.mv (.c (.slice none 0 0 none)), none⟩, ⟨.mv (.c (.bool false)), none⟩] [(2, 0), (3, 1), (4, 2)])
 (.seq (.seq (.region [⟨.load true 3 (.t 2), none⟩, ⟨.mv (.t 1), none⟩, ⟨.call (.c (.fn f_s_l6On [] [])) [(.l 0), (.l 1)], none⟩, ⟨.un .not (.l 2), none⟩] [(5, 3)])
 (.cond (.t 5) (.seq (.region [⟨.buildSlice 1 0 [] [], none⟩, ⟨.mv (.l 0), none⟩, ⟨.mv (.c (.bool false)), none⟩] [(3, 1), (4, 2)])
 .ret) .skip))
 (.seq (.region [⟨.load true 3 (.t 2), none⟩, ⟨.mv (.t 1), none⟩, ⟨.call (.c (.fn f_s_l6Bends [] [])) [(.l 0), (.l 1)], none⟩, ⟨.mv (.l 2), none⟩, ⟨.mv (.c (.bool true)), none⟩] [(3, 3), (4, 4)])
 .ret)))
def a_s_BendTimes : AFun := ⟨[0, 1, 2, 4, 5, 9], 14, c_s_BendTimes, [.tmp 3, .tmp 4], 2⟩
def w_l_rInts_1 : ACode :=
 (.seq (.seq (.region [⟨.mv (.t 3), none⟩, ⟨.mv (.t 0), none⟩, ⟨.len (.l 1), none⟩, ⟨.bin 0 .lss (.l 0) (.l 2), none⟩] [(5, 3)])
 (.cond (.t 5) .skip (.exit 0)))
 (.seq (.block 1 (.seq (.draw [⟨.mv (.t 0), none, []⟩, ⟨.mv (.t 3), none, []⟩, ⟨.indexAddrS 1 (.l 0) (.l 1), none, []⟩, ⟨.load false 1 (.l 2), none, []⟩, ⟨.mv (.t 1), none, []⟩, ⟨.mv (.t 3), none, []⟩, ⟨.indexAddrS 1 (.l 4) (.l 5), none, []⟩, ⟨.load false 1 (.l 6), none, []⟩, ⟨.bin 0 .neq (.l 3) (.l 7), none, []⟩] [(6, 8)])
 (.cond (.t 6) (.seq (.region [⟨.mv (.c (.bool false)), none⟩] [(2, 0)])
 .ret) .skip)))
 (.region [⟨.mv (.t 3), none⟩, ⟨.bin 0 .add (.l 0) (.c (.int .i64 (1))), none⟩, ⟨.mv (.l 1), none⟩] [(3, 2)])))
def c_l_rInts : ACode :=
 (.seq (.region [⟨.mv (.c (.bool false)), none⟩] [(2, 0)])
 (.seq (.seq (.region [⟨.mv (.t 0), none⟩, ⟨.len (.l 0), none⟩, ⟨.mv (.t 1), none⟩, ⟨.len (.l 2), none⟩, ⟨.bin 0 .neq (.l 1) (.l 3), none⟩] [(4, 4)])
 (.cond (.t 4) (.seq (.region [⟨.mv (.c (.bool false)), none⟩] [(2, 0)])
 .ret) .skip))
 (.seq (.seq (.region [⟨.mv (.c (.int .i64 (0))), none⟩] [(3, 0)])
 (.block 0 (.loop w_l_rInts_1)))
 (.seq (.region [⟨.mv (.c (.bool true)), none⟩] [(2, 0)])
 .ret))))
def a_l_rInts : AFun := ⟨[0, 1, 4, 5, 10, 14, 25], 26, c_l_rInts, [.tmp 2], 1⟩
def w_i_ShearTimes_1 : ACode :=
 (.seq (.region [⟨.bin 0 .lss (.t 19) (.t 18), none⟩] [(20, 0)])
 (.seq (.cond (.t 20) .skip (.exit 2))
 (.seq (.block 3 (.seq (.region [⟨.indexAddrS 2 (.t 17) (.t 19), none⟩, ⟨.load true 2 (.l 0), none⟩, ⟨.alloc [.int .i64 (0), .int .i64 (0)], none⟩, ⟨.store 2 (.l 2) (.l 1), none⟩] [(10, 2)])
 (.seq (.region [⟨.fieldAddr 0 (.t 10), none⟩, ⟨.load false 1 (.l 0), none⟩, ⟨.mv (.t 8), none⟩, ⟨.bin 0 .leq (.l 1) (.l 2), none⟩] [(21, 3)])
 (.cond (.t 21) (.draw [⟨.mv (.t 9), none, []⟩, ⟨.load true 3 (.t 2), none, []⟩, ⟨.fieldAddr 1 (.t 10), none, []⟩, ⟨.load false 1 (.l 2), none, []⟩, ⟨.call (.c (.fn f_i_Beam_span [] [])) [(.l 1)], none, [(3, ⟨.load false 1 (.l 2), none⟩)]⟩, ⟨.bin 0 .mul (.l 4) (.l 3), none, []⟩, ⟨.bin 0 .sub (.l 0) (.l 5), none, []⟩, ⟨.mv (.l 6), none, []⟩] [(9, 7)]) .skip))))
 (.region [⟨.bin 0 .add (.t 19) (.c (.int .i64 (1))), none⟩, ⟨.mv (.l 0), none⟩] [(19, 1)]))))
def w_i_ShearTimes_2 : ACode :=
 (.seq (.region [⟨.bin 0 .lss (.t 13) (.t 12), none⟩] [(14, 0)])
 (.seq (.cond (.t 14) .skip (.exit 0))
 (.seq (.block 1 (.seq (.region [⟨.mv (.t 13), none⟩, ⟨.mv (.l 0), none⟩] [(8, 1)])
 (.seq (.region [⟨.mv (.c (.int .i64 (0))), none⟩] [(9, 0)])
 (.seq (.seq (.region [⟨.fieldAddr 1 (.t 2), none⟩, ⟨.load false 1 (.l 0), none⟩, ⟨.mv (.t 8), none⟩, ⟨.bin 0 .leq (.l 1) (.l 2), none⟩] [(15, 3)])
 (.cond (.t 15) (.region [⟨.mv (.t 9), none⟩, ⟨.mv (.t 5), none⟩, ⟨.bin 0 .add (.l 0) (.l 1), none⟩, ⟨.mv (.l 2), none⟩] [(9, 3)]) .skip))
 (.seq (.seq (.region [⟨.fieldAddr 2 (.t 2), none⟩, ⟨.load false 1 (.l 0), none⟩, ⟨.mv (.t 8), none⟩, ⟨.bin 0 .leq (.l 1) (.l 2), none⟩] [(16, 3)])
 (.cond (.t 16) (.region [⟨.mv (.t 9), none⟩, ⟨.mv (.t 6), none⟩, ⟨.bin 0 .add (.l 0) (.l 1), none⟩, ⟨.mv (.l 2), none⟩] [(9, 3)]) .skip))
 (.seq (.seq (.region [⟨.mv (.t 1), none⟩, ⟨.len (.l 0), none⟩, ⟨.mv (.c (.int .i64 (0))), none⟩] [(17, 0), (18, 1), (19, 2)])
 (.block 2 (.loop w_i_ShearTimes_1)))
 (.region [⟨.mv (.t 7), none⟩, ⟨.mv (.t 9), none⟩, ⟨.buildSlice 1 1 [.int .i64 (0)] [(0, 1, (.l 1))], none⟩, ⟨.append false 1 8 (.l 0) (.l 2), none⟩, ⟨.mv (.l 3), none⟩] [(7, 4)])))))))
 (.region [⟨.bin 0 .add (.t 13) (.c (.int .i64 (1))), none⟩, ⟨.mv (.l 0), none⟩] [(13, 1)]))))
def c_i_ShearTimes : ACode :=
 (.seq (.region [⟨.box (.t 0), none⟩, ⟨.mv (.c (.slice none 0 0 none)), none⟩, ⟨.mv (.c (.bool false)), none⟩] [(2, 0), (3, 1), (4, 2)])
 (.seq (.seq (.region [⟨.load true 3 (.t 2), none⟩, ⟨.mv (.t 1), none⟩, ⟨.call (.c (.fn f_i_isOn [] [])) [(.l 0), (.l 1)], none⟩, ⟨.un .not (.l 2), none⟩] [(11, 3)])
 (.cond (.t 11) (.seq (.region [⟨.mv (.c (.slice none 0 0 none)), none⟩, ⟨.mv (.c (.bool false)), none⟩] [(3, 0), (4, 1)])
 .ret) .skip))
 (.seq (.region [⟨.load true 3 (.t 2), none⟩, ⟨.mv (.t 1), none⟩, ⟨.call (.c (.fn f_i_Beam_supports [] [])) [(.l 0), (.l 1)], none⟩, ⟨.mv (.l 2), none⟩, ⟨.extract 0 (.l 3), none⟩, ⟨.extract 1 (.l 3), none⟩, ⟨.mv (.l 4), none⟩, ⟨.mv (.l 5), none⟩] [(5, 6), (6, 7)])
 (.seq (.region [⟨.buildSlice 1 0 [] [], none⟩, ⟨.mv (.l 0), none⟩] [(7, 1)])
 (.seq (.seq (.region [⟨.fieldAddr 0 (.t 2), none⟩, ⟨.load false 1 (.l 0), none⟩, ⟨.mv (.c (.int .i64 (0))), none⟩] [(12, 1), (13, 2)])
 (.block 0 (.loop w_i_ShearTimes_2)))
 (.seq (.region [⟨.mv (.t 7), none⟩, ⟨.mv (.l 0), none⟩, ⟨.mv (.c (.bool true)), none⟩] [(3, 1), (4, 2)])
 .ret))))))
def a_i_ShearTimes : AFun := ⟨[0, 1, 2, 4, 5, 6, 7, 8, 9, 10, 12, 16, 25, 26, 27, 32, 39, 43, 44, 45, 46, 52], 67, c_i_ShearTimes, [.tmp 3, .tmp 4], 2⟩
def c_s_ShearTimes : ACode :=
 (.seq (.region [⟨.box (.t 0), none⟩, ⟨.mv (.c (.slice none 0 0 none)), none⟩, ⟨.mv (.c (.bool false)), none⟩] [(2, 0), (3, 1), (4, 2)])
 (.seq (.seq (.region [⟨.load true 3 (.t 2), none⟩, ⟨.mv (.t 1), none⟩, ⟨.call (.c (.fn f_s_l6On [] [])) [(.l 0), (.l 1)], none⟩, ⟨.un .not (.l 2), none⟩] [(5, 3)])
 (.cond (.t 5) (.seq (.region [⟨.buildSlice 1 0 [] [], none⟩, ⟨.mv (.l 0), none⟩, ⟨.mv (.c (.bool false)), none⟩] [(3, 1), (4, 2)])
 .ret) .skip))
 (.seq (.region [⟨.load true 3 (.t 2), none⟩, ⟨.mv (.t 1), none⟩, ⟨.call (.c (.fn f_s_l6Shears [] [])) [(.l 0), (.l 1)], none⟩, ⟨.mv (.l 2), none⟩, ⟨.mv (.c (.bool true)), none⟩] [(3, 3), (4, 4)])
 .ret)))
def a_s_ShearTimes : AFun := ⟨[0, 1, 2, 4, 5, 9], 14, c_s_ShearTimes, [.tmp 3, .tmp 4], 2⟩
def c_i_SupportTimes : ACode :=
 (.seq (.region [⟨.box (.t 0), none⟩, ⟨.mv (.c (.int .i64 (0))), none⟩, ⟨.mv (.c (.int .i64 (0))), none⟩, ⟨.mv (.c (.bool false)), none⟩] [(2, 0), (3, 1), (4, 2), (5, 3)])
 (.seq (.seq (.region [⟨.load true 3 (.t 2), none⟩, ⟨.mv (.t 1), none⟩, ⟨.call (.c (.fn f_i_isOn [] [])) [(.l 0), (.l 1)], none⟩, ⟨.un .not (.l 2), none⟩] [(8, 3)])
 (.cond (.t 8) (.seq (.region [⟨.mv (.c (.int .i64 (0))), none⟩, ⟨.mv (.c (.int .i64 (0))), none⟩, ⟨.mv (.c (.bool false)), none⟩] [(3, 0), (4, 1), (5, 2)])
 .ret) .skip))
 (.seq (.region [⟨.load true 3 (.t 2), none⟩, ⟨.mv (.t 1), none⟩, ⟨.call (.c (.fn f_i_Beam_supports [] [])) [(.l 0), (.l 1)], none⟩, ⟨.mv (.l 2), none⟩, ⟨.extract 0 (.l 3), none⟩, ⟨.extract 1 (.l 3), none⟩, ⟨.mv (.l 4), none⟩, ⟨.mv (.l 5), none⟩] [(6, 6), (7, 7)])
 (.seq (.region [⟨.mv (.t 6), none⟩, ⟨.mv (.t 7), none⟩, ⟨.mv (.l 0), none⟩, ⟨.mv (.l 1), none⟩, ⟨.mv (.c (.bool true)), none⟩] [(3, 2), (4, 3), (5, 4)])
 .ret))))
def a_i_SupportTimes : AFun := ⟨[0, 1, 2, 4, 5, 6, 7, 8, 12], 21, c_i_SupportTimes, [.tmp 3, .tmp 4, .tmp 5], 1⟩
def c_s_SupportTimes : ACode :=
 (.seq (.region [⟨.box (.t 0), none⟩, ⟨.mv (.c (.int .i64 (0))), none⟩, ⟨.mv (.c (.int .i64 (0))), none⟩, ⟨.mv (.c (.bool false)), none⟩] [(2, 0), (3, 1), (4, 2), (5, 3)])
 (.seq (.seq (.region [⟨.load true 3 (.t 2), none⟩, ⟨.mv (.t 1), none⟩, ⟨.call (.c (.fn f_s_l6On [] [])) [(.l 0), (.l 1)], none⟩, ⟨.un .not (.l 2), none⟩] [(6, 3)])
 (.cond (.t 6) (.seq (.region [⟨.mv (.c (.int .i64 (0))), none⟩, ⟨.mv (.c (.int .i64 (0))), none⟩, ⟨.mv (.c (.bool false)), none⟩] [(3, 0), (4, 1), (5, 2)])
 .ret) .skip))
 (.seq (.draw [⟨.mv (.t 1), none, []⟩, ⟨.fieldAddr 2 (.t 2), none, []⟩, ⟨.load false 1 (.l 1), none, []⟩, ⟨.mv (.t 1), none, []⟩, ⟨.fieldAddr 1 (.t 2), none, []⟩, ⟨.load false 1 (.l 4), none, []⟩, ⟨.call (.c (.fn f_s_l2Moment [] [])) [(.l 0), (.l 2)], none, [(5, ⟨.load false 1 (.l 4), none⟩)]⟩, ⟨.un .neg (.l 6), none, []⟩, ⟨.call (.c (.fn f_s_l2Moment [] [])) [(.l 3), (.l 5)], none, []⟩, ⟨.mv (.l 7), none, []⟩, ⟨.mv (.l 8), none, []⟩, ⟨.mv (.c (.bool true)), none, []⟩] [(3, 9), (4, 10), (5, 11)])
 .ret)))
def a_s_SupportTimes : AFun := ⟨[0, 1, 2, 4, 5, 6, 10], 20, c_s_SupportTimes, [.tmp 3, .tmp 4, .tmp 5], 1⟩
def w_i_GreatestBend_1 : ACode :=
 (.seq (.region [⟨.bin 0 .lss (.t 14) (.t 13), none⟩] [(15, 0)])
 (.seq (.cond (.t 15) .skip (.exit 0))
 (.seq (.block 1 (.seq (.region [⟨.mv (.t 14), none⟩, ⟨.indexAddrS 1 (.t 12) (.t 14), none⟩, ⟨.load false 1 (.l 1), none⟩, ⟨.mv (.l 0), none⟩, ⟨.mv (.l 2), none⟩] [(8, 3), (9, 4)])
 (.seq (.region [⟨.mv (.t 9), none⟩, ⟨.mv (.t 9), none⟩, ⟨.un .neg (.l 1), none⟩, ⟨.max2 (.l 0) (.l 2), none⟩, ⟨.mv (.l 3), none⟩] [(10, 4)])
 (.seq (.region [⟨.mv (.t 10), none⟩, ⟨.mv (.t 6), none⟩, ⟨.bin 0 .gtr (.l 0) (.l 1), none⟩] [(16, 2)])
 (.cond (.t 16) (.region [⟨.mv (.t 10), none⟩, ⟨.mv (.t 8), none⟩, ⟨.mv (.l 0), none⟩, ⟨.mv (.l 1), none⟩] [(6, 2), (7, 3)]) .skip)))))
 (.region [⟨.bin 0 .add (.t 14) (.c (.int .i64 (1))), none⟩, ⟨.mv (.l 0), none⟩] [(14, 1)]))))
def c_i_GreatestBend : ACode :=
 (.seq (.region [⟨.box (.t 0), none⟩, ⟨.mv (.c (.int .i64 (0))), none⟩, ⟨.mv (.c (.int .i64 (0))), none⟩, ⟨.mv (.c (.bool false)), none⟩] [(2, 0), (3, 1), (4, 2), (5, 3)])
 (.seq (.seq (.region [⟨.load true 3 (.t 2), none⟩, ⟨.mv (.t 1), none⟩, ⟨.call (.c (.fn f_i_isOn [] [])) [(.l 0), (.l 1)], none⟩, ⟨.un .not (.l 2), none⟩] [(11, 3)])
 (.cond (.t 11) (.seq (.region [⟨.mv (.c (.int .i64 (0))), none⟩, ⟨.mv (.c (.int .i64 (0))), none⟩, ⟨.mv (.c (.bool false)), none⟩] [(3, 0), (4, 1), (5, 2)])
 .ret) .skip))
 (.seq (.region [⟨.mv (.c (.int .i64 (0))), none⟩, ⟨.mv (.c (.int .i64 (0))), none⟩] [(6, 0), (7, 1)])
 (.seq (.seq (.region [⟨.load true 3 (.t 2), none⟩, ⟨.mv (.t 1), none⟩, ⟨.call (.c (.fn f_i_Beam_bends [] [])) [(.l 0), (.l 1)], none⟩, ⟨.len (.l 2), none⟩, ⟨.mv (.c (.int .i64 (0))), none⟩] [(12, 2), (13, 3), (14, 4)])
 (.block 0 (.loop w_i_GreatestBend_1)))
 (.seq (.region [⟨.mv (.t 6), none⟩, ⟨.mv (.t 7), none⟩, ⟨.mv (.l 0), none⟩, ⟨.mv (.l 1), none⟩, ⟨.mv (.c (.bool true)), none⟩] [(3, 2), (4, 3), (5, 4)])
 .ret)))))
def a_i_GreatestBend : AFun := ⟨[0, 1, 2, 4, 5, 6, 7, 8, 9, 10, 11, 15, 18, 19, 20, 21, 31], 37, c_i_GreatestBend, [.tmp 3, .tmp 4, .tmp 5], 1⟩
def w_s_GreatestBend_1 : ACode :=
 (.seq (.seq (.region [⟨.mv (.t 9), none⟩, ⟨.mv (.t 6), none⟩, ⟨.len (.l 1), none⟩, ⟨.bin 0 .lss (.l 0) (.l 2), none⟩] [(12, 3)])
 (.cond (.t 12) .skip (.exit 0)))
 (.seq (.block 1 (.seq (.draw [⟨.mv (.t 6), none, []⟩, ⟨.mv (.t 9), none, []⟩, ⟨.indexAddrS 1 (.l 0) (.l 1), none, []⟩, ⟨.load false 1 (.l 2), none, []⟩, ⟨.mv (.t 6), none, []⟩, ⟨.mv (.t 9), none, []⟩, ⟨.indexAddrS 1 (.l 4) (.l 5), none, []⟩, ⟨.load false 1 (.l 6), none, []⟩, ⟨.un .neg (.l 7), none, []⟩, ⟨.call (.c (.fn f_s_l1Most [] [])) [(.l 3), (.l 8)], none, []⟩, ⟨.mv (.l 9), none, []⟩] [(10, 10)])
 (.seq (.region [⟨.mv (.t 10), none⟩, ⟨.mv (.t 7), none⟩, ⟨.bin 0 .gtr (.l 0) (.l 1), none⟩] [(13, 2)])
 (.cond (.t 13) (.seq (.region [⟨.mv (.t 10), none⟩, ⟨.mv (.l 0), none⟩] [(7, 1)])
 (.region [⟨.mv (.t 9), none⟩, ⟨.mv (.l 0), none⟩] [(8, 1)])) .skip))))
 (.region [⟨.mv (.t 9), none⟩, ⟨.bin 0 .add (.l 0) (.c (.int .i64 (1))), none⟩, ⟨.mv (.l 1), none⟩] [(9, 2)])))
def c_s_GreatestBend : ACode :=
 (.seq (.region [⟨.box (.t 0), none⟩, ⟨.mv (.c (.int .i64 (0))), none⟩, ⟨.mv (.c (.int .i64 (0))), none⟩, ⟨.mv (.c (.bool false)), none⟩] [(2, 0), (3, 1), (4, 2), (5, 3)])
 (.seq (.seq (.region [⟨.load true 3 (.t 2), none⟩, ⟨.mv (.t 1), none⟩, ⟨.call (.c (.fn f_s_l6On [] [])) [(.l 0), (.l 1)], none⟩, ⟨.un .not (.l 2), none⟩] [(11, 3)])
 (.cond (.t 11) (.seq (.region [⟨.mv (.c (.int .i64 (0))), none⟩, ⟨.mv (.c (.int .i64 (0))), none⟩, ⟨.mv (.c (.bool false)), none⟩] [(3, 0), (4, 1), (5, 2)])
 .ret) .skip))
 (.seq (.region [⟨.load true 3 (.t 2), none⟩, ⟨.mv (.t 1), none⟩, ⟨.call (.c (.fn f_s_l6Bends [] [])) [(.l 0), (.l 1)], none⟩, ⟨.mv (.l 2), none⟩, ⟨.mv (.c (.int .i64 (0))), none⟩, ⟨.mv (.c (.int .i64 (0))), none⟩] [(6, 3), (7, 4), (8, 5)])
 (.seq (.seq (.region [⟨.mv (.c (.int .i64 (0))), none⟩] [(9, 0)])
 (.block 0 (.loop w_s_GreatestBend_1)))
 (.seq (.region [⟨.mv (.t 7), none⟩, ⟨.mv (.t 8), none⟩, ⟨.mv (.l 0), none⟩, ⟨.mv (.l 1), none⟩, ⟨.mv (.c (.bool true)), none⟩] [(3, 2), (4, 3), (5, 4)])
 .ret)))))
def a_s_GreatestBend : AFun := ⟨[0, 1, 2, 4, 5, 6, 7, 8, 9, 10, 11, 15, 22, 37], 42, c_s_GreatestBend, [.tmp 3, .tmp 4, .tmp 5], 1⟩
def c_s_DrawInfluenceOf : ACode :=
 (.seq (.region [⟨.alloc [.int .i64 (0), .int .i64 (0), .int .i64 (0)], none⟩, ⟨.mv (.c (.int .i64 (0))), none⟩] [(1, 0), (2, 1)])
 (.seq (.region [⟨.mv (.t 0), none⟩, ⟨.build [.slice none 0 0 none, .int .i64 (0), .int .u64 (0)] [(0, 1, (.l 0))], none⟩, ⟨.box (.l 1), none⟩, ⟨.mv (.l 2), none⟩] [(3, 3)])
 (.seq (.region [⟨.mv (.t 3), none⟩, ⟨.call (.c (.fn f_s_l1Cur_beam [] [])) [(.l 0)], none⟩, ⟨.alloc [.int .i64 (0), .int .i64 (0), .int .i64 (0)], none⟩, ⟨.store 3 (.l 2) (.l 1), none⟩] [(4, 2)])
 (.seq (.draw [⟨.load true 3 (.t 4), none, []⟩, ⟨.mv (.t 3), none, []⟩, ⟨.load true 3 (.t 4), none, []⟩, ⟨.call (.c (.fn f_s_l1Cur_placeOn [] [])) [(.l 1), (.l 2)], none, [(0, ⟨.load true 3 (.t 4), none⟩)]⟩, ⟨.store 3 (.t 1) (.l 0), none, []⟩, ⟨.mv (.l 3), none, []⟩] [(2, 5)])
 .ret))))
def a_s_DrawInfluenceOf : AFun := ⟨[0, 2, 3, 4, 5], 15, c_s_DrawInfluenceOf, [.cell 1 true 3, .tmp 2], 1⟩
def w_i_InfluenceOf_1 : ACode :=
 (.seq (.region [⟨.bin 0 .lss (.t 9) (.t 8), none⟩] [(10, 0)])
 (.seq (.cond (.t 10) .skip (.exit 0))
 (.seq (.block 1 (.seq (.region [⟨.mv (.t 9), none⟩, ⟨.mv (.l 0), none⟩] [(6, 1)])
 (.region [⟨.mv (.t 5), none⟩, ⟨.load true 3 (.t 2), none⟩, ⟨.mv (.t 6), none⟩, ⟨.build [.int .i64 (0), .int .i64 (0)] [(0, 1, (.l 2)), (1, 1, (.c (.int .i64 (1))))], none⟩, ⟨.buildSlice 2 1 [.int .i64 (0), .int .i64 (0)] [(0, 2, (.l 3))], none⟩, ⟨.mv (.t 1), none⟩, ⟨.call (.c (.fn f_i_Beam_bendAt [] [])) [(.l 1), (.l 4), (.l 5)], none⟩, ⟨.buildSlice 1 1 [.int .i64 (0)] [(0, 1, (.l 6))], none⟩, ⟨.append false 1 8 (.l 0) (.l 7), none⟩, ⟨.mv (.l 8), none⟩] [(5, 9)])))
 (.region [⟨.bin 0 .add (.t 9) (.c (.int .i64 (1))), none⟩, ⟨.mv (.l 0), none⟩] [(9, 1)]))))
def c_i_InfluenceOf : ACode :=
 (.seq (.region [⟨.box (.t 0), none⟩, ⟨.mv (.c (.slice none 0 0 none)), none⟩, ⟨.mv (.c (.bool false)), none⟩] [(2, 0), (3, 1), (4, 2)])
 (.seq (.seq (.region [⟨.load true 3 (.t 2), none⟩, ⟨.mv (.t 1), none⟩, ⟨.call (.c (.fn f_i_isOnBeam [] [])) [(.l 0), (.l 1)], none⟩, ⟨.un .not (.l 2), none⟩] [(7, 3)])
 (.cond (.t 7) (.seq (.region [⟨.mv (.c (.slice none 0 0 none)), none⟩, ⟨.mv (.c (.bool false)), none⟩] [(3, 0), (4, 1)])
 .ret) .skip))
 (.seq (.region [⟨.buildSlice 1 0 [] [], none⟩, ⟨.mv (.l 0), none⟩] [(5, 1)])
 (.seq (.seq (.region [⟨.fieldAddr 0 (.t 2), none⟩, ⟨.load false 1 (.l 0), none⟩, ⟨.bin 0 .add (.l 1) (.c (.int .i64 (1))), none⟩, ⟨.mv (.c (.int .i64 (0))), none⟩] [(8, 2), (9, 3)])
 (.block 0 (.loop w_i_InfluenceOf_1)))
 (.seq (.region [⟨.mv (.t 5), none⟩, ⟨.mv (.l 0), none⟩, ⟨.mv (.c (.bool true)), none⟩] [(3, 1), (4, 2)])
 .ret)))))
def a_i_InfluenceOf : AFun := ⟨[0, 1, 2, 4, 5, 6, 7, 11, 15, 16, 17], 30, c_i_InfluenceOf, [.tmp 3, .tmp 4], 2⟩
def c_s_InfluenceOf : ACode :=
 (.seq (.region [⟨.box (.t 0), none⟩, ⟨.mv (.c (.slice none 0 0 none)), none⟩, ⟨.mv (.c (.bool false)), none⟩] [(2, 0), (3, 1), (4, 2)])
 (.seq (.seq (.region [⟨.load true 3 (.t 2), none⟩, ⟨.call (.c (.fn f_s_l6Beam [] [])) [(.l 0)], none⟩, ⟨.un .not (.l 1), none⟩, ⟨.mv (.l 2), none⟩, ⟨.mv (.t 1), some ((.l 3), false)⟩, ⟨.fieldAddr 0 (.t 2), some ((.l 3), false)⟩, ⟨.load false 1 (.l 5), some ((.l 3), false)⟩, ⟨.call (.c (.fn f_s_l1In [] [])) [(.l 4), (.c (.int .i64 (0))), (.l 6)], some ((.l 3), false)⟩, ⟨.un .not (.l 7), some ((.l 3), false)⟩, ⟨.pick (.l 3) (.c (.bool true)) (.l 8), none⟩] [(5, 9)])
 (.cond (.t 5) (.seq (.region [⟨.buildSlice 1 0 [] [], none⟩, ⟨.mv (.l 0), none⟩, ⟨.mv (.c (.bool false)), none⟩] [(3, 1), (4, 2)])
 .ret) .skip))
 (.seq (.region [⟨.load true 3 (.t 2), none⟩, ⟨.mv (.t 1), none⟩, ⟨.call (.c (.fn f_s_l6Influence [] [])) [(.l 0), (.l 1)], none⟩, ⟨.mv (.l 2), none⟩, ⟨.mv (.c (.bool true)), none⟩] [(3, 3), (4, 4)])
 .ret)))
def a_s_InfluenceOf : AFun := ⟨[0, 1, 2, 4, 5, 15], 20, c_s_InfluenceOf, [.tmp 3, .tmp 4], 2⟩
def c_i_IsBeam : ACode :=
 (.seq (.region [⟨.box (.t 0), none⟩, ⟨.mv (.c (.bool false)), none⟩] [(1, 0), (2, 1)])
 (.seq (.region [⟨.fieldAddr 0 (.t 1), none⟩, ⟨.load false 1 (.l 0), none⟩, ⟨.call (.c (.fn f_i_within [] [])) [(.l 1), (.c (.int .i64 (1))), (.c (.int .i64 (60)))], none⟩, ⟨.mv (.l 2), none⟩, ⟨.fieldAddr 1 (.t 1), some ((.l 3), true)⟩, ⟨.load false 1 (.l 4), some ((.l 3), true)⟩, ⟨.bin 0 .leq (.c (.int .i64 (0))) (.l 5), some ((.l 3), true)⟩, ⟨.pick (.l 3) (.l 6) (.c (.bool false)), none⟩, ⟨.mv (.l 7), none⟩, ⟨.fieldAddr 1 (.t 1), some ((.l 8), true)⟩, ⟨.load false 1 (.l 9), some ((.l 8), true)⟩, ⟨.fieldAddr 2 (.t 1), some ((.l 8), true)⟩, ⟨.load false 1 (.l 11), some ((.l 8), true)⟩, ⟨.bin 0 .lss (.l 10) (.l 12), some ((.l 8), true)⟩, ⟨.pick (.l 8) (.l 13) (.c (.bool false)), none⟩, ⟨.mv (.l 14), none⟩, ⟨.fieldAddr 2 (.t 1), some ((.l 15), true)⟩, ⟨.load false 1 (.l 16), some ((.l 15), true)⟩, ⟨.fieldAddr 0 (.t 1), some ((.l 15), true)⟩, ⟨.load false 1 (.l 18), some ((.l 15), true)⟩, ⟨.bin 0 .leq (.l 17) (.l 19), some ((.l 15), true)⟩, ⟨.pick (.l 15) (.l 20) (.c (.bool false)), none⟩, ⟨.mv (.l 21), none⟩] [(2, 22)])
 .ret))
def a_i_IsBeam : AFun := ⟨[0, 1, 2], 25, c_i_IsBeam, [.tmp 2], 1⟩
def c_s_IsBeam : ACode :=
 (.seq (.region [⟨.box (.t 0), none⟩, ⟨.mv (.c (.bool false)), none⟩] [(1, 0), (2, 1)])
 (.seq (.region [⟨.load true 3 (.t 1), none⟩, ⟨.call (.c (.fn f_s_l6Beam [] [])) [(.l 0)], none⟩, ⟨.mv (.l 1), none⟩] [(2, 2)])
 .ret))
def a_s_IsBeam : AFun := ⟨[0, 1, 2], 5, c_s_IsBeam, [.tmp 2], 1⟩
def c_s_DrawBendBy : ACode :=
 (.seq (.region [⟨.alloc [.int .i64 (0), .int .i64 (0), .int .i64 (0)], none⟩, ⟨.mv (.c (.slice none 0 0 none)), none⟩, ⟨.mv (.c (.int .i64 (0))), none⟩] [(1, 0), (2, 1), (3, 2)])
 (.seq (.region [⟨.mv (.t 0), none⟩, ⟨.build [.slice none 0 0 none, .int .i64 (0), .int .u64 (0)] [(0, 1, (.l 0))], none⟩, ⟨.box (.l 1), none⟩, ⟨.mv (.l 2), none⟩] [(4, 3)])
 (.seq (.region [⟨.mv (.t 4), none⟩, ⟨.call (.c (.fn f_s_l1Cur_beam [] [])) [(.l 0)], none⟩, ⟨.alloc [.int .i64 (0), .int .i64 (0), .int .i64 (0)], none⟩, ⟨.store 3 (.l 2) (.l 1), none⟩] [(5, 2)])
 (.seq (.region [⟨.mv (.t 4), none⟩, ⟨.load true 3 (.t 5), none⟩, ⟨.call (.c (.fn f_s_l1Cur_onBeam [] [])) [(.l 0), (.l 1)], none⟩, ⟨.mv (.l 2), none⟩] [(6, 3)])
 (.seq (.draw [⟨.load true 3 (.t 5), none, []⟩, ⟨.mv (.t 6), none, []⟩, ⟨.mv (.t 4), none, []⟩, ⟨.load true 3 (.t 5), none, []⟩, ⟨.call (.c (.fn f_s_l1Cur_placeOn [] [])) [(.l 2), (.l 3)], none, [(0, ⟨.load true 3 (.t 5), none⟩)]⟩, ⟨.store 3 (.t 1) (.l 0), none, []⟩, ⟨.mv (.l 1), none, []⟩, ⟨.mv (.l 4), none, []⟩] [(2, 6), (3, 7)])
 .ret)))))
def a_s_DrawBendBy : AFun := ⟨[0, 2, 3, 4, 5, 6, 7], 21, c_s_DrawBendBy, [.cell 1 true 3, .tmp 2, .tmp 3], 2⟩
def c_i_BendBy : ACode :=
 (.seq (.region [⟨.box (.t 0), none⟩, ⟨.mv (.c (.int .i64 (0))), none⟩, ⟨.mv (.c (.bool false)), none⟩] [(3, 0), (4, 1), (5, 2)])
 (.seq (.seq (.region [⟨.load true 3 (.t 3), none⟩, ⟨.mv (.t 1), none⟩, ⟨.call (.c (.fn f_i_isOn [] [])) [(.l 0), (.l 1)], none⟩, ⟨.un .not (.l 2), none⟩, ⟨.mv (.l 3), none⟩, ⟨.load true 3 (.t 3), some ((.l 4), false)⟩, ⟨.mv (.t 2), some ((.l 4), false)⟩, ⟨.call (.c (.fn f_i_isOnBeam [] [])) [(.l 5), (.l 6)], some ((.l 4), false)⟩, ⟨.un .not (.l 7), some ((.l 4), false)⟩, ⟨.pick (.l 4) (.c (.bool true)) (.l 8), none⟩] [(6, 9)])
 (.cond (.t 6) (.seq (.region [⟨.mv (.c (.int .i64 (0))), none⟩, ⟨.mv (.c (.bool false)), none⟩] [(4, 0), (5, 1)])
 .ret) .skip))
 (.seq (.region [⟨.load true 3 (.t 3), none⟩, ⟨.mv (.t 1), none⟩, ⟨.mv (.t 2), none⟩, ⟨.call (.c (.fn f_i_Beam_bendAt [] [])) [(.l 0), (.l 1), (.l 2)], none⟩, ⟨.mv (.l 3), none⟩, ⟨.mv (.c (.bool true)), none⟩] [(4, 4), (5, 5)])
 .ret)))
def a_i_BendBy : AFun := ⟨[0, 1, 2, 3, 6, 7, 17], 22, c_i_BendBy, [.tmp 4, .tmp 5], 1⟩
def w_s_BendBy_1 : ACode :=
 (.seq (.seq (.region [⟨.mv (.t 8), none⟩, ⟨.mv (.t 1), none⟩, ⟨.len (.l 1), none⟩, ⟨.bin 0 .lss (.l 0) (.l 2), none⟩] [(10, 3)])
 (.cond (.t 10) .skip (.exit 0)))
 (.seq (.block 1 (.draw [⟨.mv (.t 6), none, []⟩, ⟨.mv (.t 1), none, []⟩, ⟨.mv (.t 8), none, []⟩, ⟨.indexAddrS 2 (.l 1) (.l 2), none, []⟩, ⟨.fieldAddr 1 (.l 3), none, []⟩, ⟨.load false 1 (.l 4), none, []⟩, ⟨.mv (.t 7), none, []⟩, ⟨.mv (.t 1), none, []⟩, ⟨.mv (.t 8), none, []⟩, ⟨.indexAddrS 2 (.l 7) (.l 8), none, []⟩, ⟨.fieldAddr 0 (.l 9), none, []⟩, ⟨.load false 1 (.l 10), none, []⟩, ⟨.indexAddrS 1 (.l 6) (.l 11), none, []⟩, ⟨.load false 1 (.l 12), none, []⟩, ⟨.bin 0 .mul (.l 5) (.l 13), none, []⟩, ⟨.bin 0 .add (.l 0) (.l 14), none, []⟩, ⟨.mv (.l 15), none, []⟩] [(6, 16)]))
 (.region [⟨.mv (.t 8), none⟩, ⟨.bin 0 .add (.l 0) (.c (.int .i64 (1))), none⟩, ⟨.mv (.l 1), none⟩] [(8, 2)])))
def c_s_BendBy : ACode :=
 (.seq (.region [⟨.box (.t 0), none⟩, ⟨.mv (.c (.int .i64 (0))), none⟩, ⟨.mv (.c (.bool false)), none⟩] [(3, 0), (4, 1), (5, 2)])
 (.seq (.seq (.region [⟨.load true 3 (.t 3), none⟩, ⟨.mv (.t 1), none⟩, ⟨.call (.c (.fn f_s_l6On [] [])) [(.l 0), (.l 1)], none⟩, ⟨.un .not (.l 2), none⟩, ⟨.mv (.l 3), none⟩, ⟨.mv (.t 2), some ((.l 4), false)⟩, ⟨.fieldAddr 0 (.t 3), some ((.l 4), false)⟩, ⟨.load false 1 (.l 6), some ((.l 4), false)⟩, ⟨.call (.c (.fn f_s_l1In [] [])) [(.l 5), (.c (.int .i64 (0))), (.l 7)], some ((.l 4), false)⟩, ⟨.un .not (.l 8), some ((.l 4), false)⟩, ⟨.pick (.l 4) (.c (.bool true)) (.l 9), none⟩] [(9, 10)])
 (.cond (.t 9) (.seq (.region [⟨.mv (.c (.int .i64 (0))), none⟩, ⟨.mv (.c (.bool false)), none⟩] [(4, 0), (5, 1)])
 .ret) .skip))
 (.seq (.region [⟨.load true 3 (.t 3), none⟩, ⟨.mv (.t 2), none⟩, ⟨.call (.c (.fn f_s_l6Influence [] [])) [(.l 0), (.l 1)], none⟩, ⟨.mv (.c (.int .i64 (0))), none⟩, ⟨.mv (.l 2), none⟩] [(6, 3), (7, 4)])
 (.seq (.seq (.region [⟨.mv (.c (.int .i64 (0))), none⟩] [(8, 0)])
 (.block 0 (.loop w_s_BendBy_1)))
 (.seq (.region [⟨.mv (.t 6), none⟩, ⟨.mv (.l 0), none⟩, ⟨.mv (.c (.bool true)), none⟩] [(4, 1), (5, 2)])
 .ret)))))
def a_s_BendBy : AFun := ⟨[0, 1, 2, 3, 6, 7, 8, 9, 10, 21, 28], 48, c_s_BendBy, [.tmp 4, .tmp 5], 1⟩
def c_i_MirrorBeam : ACode :=
 (.seq (.region [⟨.box (.t 0), none⟩, ⟨.alloc [.int .i64 (0), .int .i64 (0), .int .i64 (0)], none⟩, ⟨.mv (.c (.bool false)), none⟩] [(1, 0), (2, 1), (3, 2)])
 (.seq (.seq (.region [⟨.load true 3 (.t 1), none⟩, ⟨.call (.c (.fn f_i_IsBeam [] [])) [(.l 0)], none⟩, ⟨.un .not (.l 1), none⟩] [(4, 2)])
 (.cond (.t 4) (.seq (.region [⟨.build [.int .i64 (0), .int .i64 (0), .int .i64 (0)] [], none⟩, ⟨.store 3 (.t 2) (.l 0), none⟩, ⟨.mv (.c (.bool false)), none⟩] [(3, 2)])
 .ret) .skip))
 (.seq (.region [⟨.fieldAddr 0 (.t 1), none⟩, ⟨.load false 1 (.l 0), none⟩, ⟨.fieldAddr 0 (.t 1), none⟩, ⟨.load false 1 (.l 2), none⟩, ⟨.fieldAddr 2 (.t 1), none⟩, ⟨.load false 1 (.l 4), none⟩, ⟨.bin 0 .sub (.l 3) (.l 5), none⟩, ⟨.fieldAddr 0 (.t 1), none⟩, ⟨.load false 1 (.l 7), none⟩, ⟨.fieldAddr 1 (.t 1), none⟩, ⟨.load false 1 (.l 9), none⟩, ⟨.bin 0 .sub (.l 8) (.l 10), none⟩, ⟨.build [.int .i64 (0), .int .i64 (0), .int .i64 (0)] [(0, 1, (.l 1)), (1, 1, (.l 6)), (2, 1, (.l 11))], none⟩, ⟨.store 3 (.t 2) (.l 12), none⟩, ⟨.mv (.c (.bool true)), none⟩] [(3, 14)])
 .ret)))
def a_i_MirrorBeam : AFun := ⟨[0, 1, 2, 3, 6], 21, c_i_MirrorBeam, [.cell 2 true 3, .tmp 3], 1⟩
def c_s_MirrorBeam : ACode :=
 (.seq (.region [⟨.box (.t 0), none⟩, ⟨.alloc [.int .i64 (0), .int .i64 (0), .int .i64 (0)], none⟩, ⟨.mv (.c (.bool false)), none⟩] [(1, 0), (2, 1), (3, 2)])
 (.seq (.seq (.region [⟨.load true 3 (.t 1), none⟩, ⟨.call (.c (.fn f_s_l6Beam [] [])) [(.l 0)], none⟩, ⟨.un .not (.l 1), none⟩] [(4, 2)])
 (.cond (.t 4) (.seq (.region [⟨.build [.int .i64 (0), .int .i64 (0), .int .i64 (0)] [], none⟩, ⟨.store 3 (.t 2) (.l 0), none⟩, ⟨.mv (.c (.bool false)), none⟩] [(3, 2)])
 .ret) .skip))
 (.seq (.region [⟨.fieldAddr 0 (.t 1), none⟩, ⟨.load false 1 (.l 0), none⟩, ⟨.fieldAddr 0 (.t 1), none⟩, ⟨.load false 1 (.l 2), none⟩, ⟨.fieldAddr 2 (.t 1), none⟩, ⟨.load false 1 (.l 4), none⟩, ⟨.bin 0 .sub (.l 3) (.l 5), none⟩, ⟨.fieldAddr 0 (.t 1), none⟩, ⟨.load false 1 (.l 7), none⟩, ⟨.fieldAddr 1 (.t 1), none⟩, ⟨.load false 1 (.l 9), none⟩, ⟨.bin 0 .sub (.l 8) (.l 10), none⟩, ⟨.build [.int .i64 (0), .int .i64 (0), .int .i64 (0)] [(0, 1, (.l 1)), (1, 1, (.l 6)), (2, 1, (.l 11))], none⟩, ⟨.store 3 (.t 2) (.l 12), none⟩, ⟨.mv (.c (.bool true)), none⟩] [(3, 14)])
 .ret)))
def a_s_MirrorBeam : AFun := ⟨[0, 1, 2, 3, 6], 21, c_s_MirrorBeam, [.cell 2 true 3, .tmp 3], 1⟩
def c_i_WeightOf : ACode :=
 (.seq (.region [⟨.mv (.c (.int .i64 (0))), none⟩, ⟨.mv (.c (.bool false)), none⟩] [(1, 0), (2, 1)])
 (.seq (.seq (.region [⟨.mv (.t 0), none⟩, ⟨.call (.c (.fn f_i_IsRow [] [])) [(.l 0)], none⟩, ⟨.un .not (.l 1), none⟩] [(3, 2)])
 (.cond (.t 3) (.seq (.region [⟨.mv (.c (.int .i64 (0))), none⟩, ⟨.mv (.c (.bool false)), none⟩] [(1, 0), (2, 1)])
 .ret) .skip))
 (.seq (.region [⟨.mv (.t 0), none⟩, ⟨.call (.c (.fn f_i_weightOf [] [])) [(.l 0)], none⟩, ⟨.mv (.l 1), none⟩, ⟨.mv (.c (.bool true)), none⟩] [(1, 2), (2, 3)])
 .ret)))
def a_i_WeightOf : AFun := ⟨[0, 2, 3, 6], 9, c_i_WeightOf, [.tmp 1, .tmp 2], 1⟩
def c_s_DrawWorstBend : ACode :=
 (.seq (.region [⟨.alloc [.int .i64 (0), .int .i64 (0), .int .i64 (0)], none⟩, ⟨.mv (.c (.slice none 0 0 none)), none⟩, ⟨.mv (.c (.int .i64 (0))), none⟩] [(1, 0), (2, 1), (3, 2)])
 (.seq (.region [⟨.mv (.t 0), none⟩, ⟨.call (.c (.fn f_s_DrawConvoyRow [] [])) [(.l 0)], none⟩, ⟨.extract 0 (.l 1), none⟩, ⟨.extract 1 (.l 1), none⟩, ⟨.extract 2 (.l 1), none⟩, ⟨.store 3 (.t 1) (.l 2), none⟩, ⟨.mv (.l 3), none⟩, ⟨.mv (.l 4), none⟩] [(2, 6), (3, 7)])
 .ret))
def a_s_DrawWorstBend : AFun := ⟨[0, 2, 3, 4], 10, c_s_DrawWorstBend, [.cell 1 true 3, .tmp 2, .tmp 3], 2⟩
def w_i_WorstBend_1 : ACode :=
 (.seq (.region [⟨.bin 0 .lss (.t 13) (.t 12), none⟩] [(14, 0)])
 (.seq (.cond (.t 14) .skip (.exit 0))
 (.seq (.block 1 (.seq (.region [⟨.mv (.t 13), none⟩, ⟨.mv (.l 0), none⟩] [(9, 1)])
 (.seq (.draw [⟨.load true 3 (.t 3), none, []⟩, ⟨.mv (.t 1), none, []⟩, ⟨.mv (.t 9), none, []⟩, ⟨.mv (.t 2), none, []⟩, ⟨.call (.c (.fn f_i_convoyRow [] [])) [(.l 1), (.l 2)], none, [(0, ⟨.load true 3 (.t 3), none⟩)]⟩, ⟨.call (.c (.fn f_i_Beam_bendAt [] [])) [(.l 0), (.l 4), (.l 3)], none, []⟩, ⟨.mv (.l 5), none, []⟩] [(10, 6)])
 (.seq (.region [⟨.mv (.t 9), none⟩, ⟨.bin 0 .eql (.l 0) (.c (.int .i64 (0))), none⟩, ⟨.mv (.l 1), none⟩, ⟨.mv (.t 10), some ((.l 2), false)⟩, ⟨.mv (.t 7), some ((.l 2), false)⟩, ⟨.bin 0 .gtr (.l 3) (.l 4), some ((.l 2), false)⟩, ⟨.pick (.l 2) (.c (.bool true)) (.l 5), none⟩] [(15, 6)])
 (.cond (.t 15) (.region [⟨.mv (.t 10), none⟩, ⟨.mv (.t 9), none⟩, ⟨.mv (.l 0), none⟩, ⟨.mv (.l 1), none⟩] [(7, 2), (8, 3)]) .skip)))))
 (.region [⟨.bin 0 .add (.t 13) (.c (.int .i64 (1))), none⟩, ⟨.mv (.l 0), none⟩] [(13, 1)]))))
def c_i_WorstBend : ACode :=
 (.seq (.region [⟨.box (.t 0), none⟩, ⟨.mv (.c (.int .i64 (0))), none⟩, ⟨.mv (.c (.int .i64 (0))), none⟩, ⟨.mv (.c (.bool false)), none⟩] [(3, 0), (4, 1), (5, 2), (6, 3)])
 (.seq (.seq (.region [⟨.load true 3 (.t 3), none⟩, ⟨.mv (.t 2), none⟩, ⟨.call (.c (.fn f_i_isOnBeam [] [])) [(.l 0), (.l 1)], none⟩, ⟨.un .not (.l 2), none⟩, ⟨.mv (.l 3), none⟩, ⟨.mv (.t 1), some ((.l 4), false)⟩, ⟨.call (.c (.fn f_i_IsConvoy [] [])) [(.l 5)], some ((.l 4), false)⟩, ⟨.un .not (.l 6), some ((.l 4), false)⟩, ⟨.pick (.l 4) (.c (.bool true)) (.l 7), none⟩] [(11, 8)])
 (.cond (.t 11) (.seq (.region [⟨.mv (.c (.int .i64 (0))), none⟩, ⟨.mv (.c (.int .i64 (0))), none⟩, ⟨.mv (.c (.bool false)), none⟩] [(4, 0), (5, 1), (6, 2)])
 .ret) .skip))
 (.seq (.region [⟨.mv (.c (.int .i64 (0))), none⟩, ⟨.mv (.c (.int .i64 (0))), none⟩] [(7, 0), (8, 1)])
 (.seq (.seq (.region [⟨.fieldAddr 0 (.t 3), none⟩, ⟨.load false 1 (.l 0), none⟩, ⟨.bin 0 .add (.l 1) (.c (.int .i64 (1))), none⟩, ⟨.mv (.c (.int .i64 (0))), none⟩] [(12, 2), (13, 3)])
 (.block 0 (.loop w_i_WorstBend_1)))
 (.seq (.region [⟨.mv (.t 7), none⟩, ⟨.mv (.t 8), none⟩, ⟨.mv (.l 0), none⟩, ⟨.mv (.l 1), none⟩, ⟨.mv (.c (.bool true)), none⟩] [(4, 2), (5, 3), (6, 4)])
 .ret)))))
def a_i_WorstBend : AFun := ⟨[0, 1, 2, 3, 6, 7, 8, 9, 10, 11, 12, 21, 24, 25, 26, 40], 46, c_i_WorstBend, [.tmp 4, .tmp 5, .tmp 6], 1⟩
def w_s_WorstBend_1 : ACode :=
 (.seq (.seq (.region [⟨.mv (.t 9), none⟩, ⟨.fieldAddr 0 (.t 3), none⟩, ⟨.load false 1 (.l 1), none⟩, ⟨.bin 0 .leq (.l 0) (.l 2), none⟩] [(12, 3)])
 (.cond (.t 12) .skip (.exit 0)))
 (.seq (.block 1 (.seq (.draw [⟨.load true 3 (.t 3), none, []⟩, ⟨.mv (.t 1), none, []⟩, ⟨.mv (.t 9), none, []⟩, ⟨.mv (.t 2), none, []⟩, ⟨.call (.c (.fn f_s_l6At [] [])) [(.l 1), (.l 2)], none, [(0, ⟨.load true 3 (.t 3), none⟩)]⟩, ⟨.call (.c (.fn f_s_l6Bends [] [])) [(.l 0), (.l 4)], none, []⟩, ⟨.indexAddrS 1 (.l 5) (.l 3), none, []⟩, ⟨.load false 1 (.l 6), none, []⟩, ⟨.mv (.l 7), none, []⟩] [(10, 8)])
 (.seq (.region [⟨.mv (.t 8), none⟩, ⟨.bin 0 .lss (.l 0) (.c (.int .i64 (0))), none⟩, ⟨.mv (.l 1), none⟩, ⟨.mv (.t 10), some ((.l 2), false)⟩, ⟨.mv (.t 7), some ((.l 2), false)⟩, ⟨.bin 0 .gtr (.l 3) (.l 4), some ((.l 2), false)⟩, ⟨.pick (.l 2) (.c (.bool true)) (.l 5), none⟩] [(13, 6)])
 (.cond (.t 13) (.seq (.region [⟨.mv (.t 10), none⟩, ⟨.mv (.l 0), none⟩] [(7, 1)])
 (.region [⟨.mv (.t 9), none⟩, ⟨.mv (.l 0), none⟩] [(8, 1)])) .skip))))
 (.region [⟨.mv (.t 9), none⟩, ⟨.bin 0 .add (.l 0) (.c (.int .i64 (1))), none⟩, ⟨.mv (.l 1), none⟩] [(9, 2)])))
def c_s_WorstBend : ACode :=
 (.seq (.region [⟨.box (.t 0), none⟩, ⟨.mv (.c (.int .i64 (0))), none⟩, ⟨.mv (.c (.int .i64 (0))), none⟩, ⟨.mv (.c (.bool false)), none⟩] [(3, 0), (4, 1), (5, 2), (6, 3)])
 (.seq (.seq (.region [⟨.load true 3 (.t 3), none⟩, ⟨.call (.c (.fn f_s_l6Beam [] [])) [(.l 0)], none⟩, ⟨.un .not (.l 1), none⟩, ⟨.mv (.l 2), none⟩, ⟨.mv (.t 1), some ((.l 3), false)⟩, ⟨.call (.c (.fn f_s_l6Convoy [] [])) [(.l 4)], some ((.l 3), false)⟩, ⟨.un .not (.l 5), some ((.l 3), false)⟩, ⟨.pick (.l 3) (.c (.bool true)) (.l 6), none⟩, ⟨.mv (.l 7), none⟩, ⟨.mv (.t 2), some ((.l 8), false)⟩, ⟨.fieldAddr 0 (.t 3), some ((.l 8), false)⟩, ⟨.load false 1 (.l 10), some ((.l 8), false)⟩, ⟨.call (.c (.fn f_s_l1In [] [])) [(.l 9), (.c (.int .i64 (0))), (.l 11)], some ((.l 8), false)⟩, ⟨.un .not (.l 12), some ((.l 8), false)⟩, ⟨.pick (.l 8) (.c (.bool true)) (.l 13), none⟩] [(11, 14)])
 (.cond (.t 11) (.seq (.region [⟨.mv (.c (.int .i64 (0))), none⟩, ⟨.mv (.c (.int .i64 (0))), none⟩, ⟨.mv (.c (.bool false)), none⟩] [(4, 0), (5, 1), (6, 2)])
 .ret) .skip))
 (.seq (.region [⟨.mv (.c (.int .i64 (0))), none⟩, ⟨.mv (.c (.int .i64 (-1))), none⟩] [(7, 0), (8, 1)])
 (.seq (.seq (.region [⟨.mv (.c (.int .i64 (0))), none⟩] [(9, 0)])
 (.block 0 (.loop w_s_WorstBend_1)))
 (.seq (.region [⟨.mv (.t 7), none⟩, ⟨.mv (.t 8), none⟩, ⟨.mv (.l 0), none⟩, ⟨.mv (.l 1), none⟩, ⟨.mv (.c (.bool true)), none⟩] [(4, 2), (5, 3), (6, 4)])
 .ret)))))
def a_s_WorstBend : AFun := ⟨[0, 1, 2, 3, 6, 7, 8, 9, 10, 11, 12, 27, 31, 48], 53, c_s_WorstBend, [.tmp 4, .tmp 5, .tmp 6], 1⟩
def c_s_DrawCanCross : ACode :=
 (.seq (.region [⟨.alloc [.int .i64 (0), .int .i64 (0), .int .i64 (0)], none⟩, ⟨.mv (.c (.slice none 0 0 none)), none⟩] [(1, 0), (2, 1)])
 (.seq (.region [⟨.mv (.t 0), none⟩, ⟨.build [.slice none 0 0 none, .int .i64 (0), .int .u64 (0)] [(0, 1, (.l 0))], none⟩, ⟨.box (.l 1), none⟩, ⟨.mv (.l 2), none⟩] [(3, 3)])
 (.seq (.region [⟨.mv (.t 3), none⟩, ⟨.call (.c (.fn f_s_l1Cur_beam [] [])) [(.l 0)], none⟩, ⟨.mv (.t 3), none⟩, ⟨.call (.c (.fn f_s_l1Cur_convoy [] [])) [(.l 2)], none⟩, ⟨.store 3 (.t 1) (.l 1), none⟩, ⟨.mv (.l 3), none⟩] [(2, 5)])
 .ret)))
def a_s_DrawCanCross : AFun := ⟨[0, 2, 3, 4], 12, c_s_DrawCanCross, [.cell 1 true 3, .tmp 2], 2⟩
def w_i_IsConvoy_1 : ACode :=
 (.seq (.region [⟨.bin 0 .lss (.t 6) (.t 5), none⟩] [(7, 0)])
 (.seq (.cond (.t 7) .skip (.exit 0))
 (.seq (.block 1 (.seq (.region [⟨.mv (.t 6), none⟩, ⟨.indexAddrS 2 (.t 4) (.t 6), none⟩, ⟨.load true 2 (.l 1), none⟩, ⟨.alloc [.int .i64 (0), .int .i64 (0)], none⟩, ⟨.mv (.l 0), none⟩, ⟨.store 2 (.l 3) (.l 2), none⟩] [(2, 4), (3, 3)])
 (.seq (.draw [⟨.fieldAddr 0 (.t 3), none, []⟩, ⟨.load false 1 (.l 0), none, []⟩, ⟨.call (.c (.fn f_i_within [] [])) [(.l 1), (.c (.int .i64 (0))), (.c (.int .i64 (20)))], none, []⟩, ⟨.un .not (.l 2), none, []⟩, ⟨.mv (.l 3), none, []⟩, ⟨.fieldAddr 1 (.t 3), some ((.l 4), false), []⟩, ⟨.load false 1 (.l 5), some ((.l 4), false), []⟩, ⟨.call (.c (.fn f_i_isWeight [] [])) [(.l 6)], some ((.l 4), false), []⟩, ⟨.un .not (.l 7), some ((.l 4), false), []⟩, ⟨.pick (.l 4) (.c (.bool true)) (.l 8), none, []⟩, ⟨.mv (.l 9), none, []⟩, ⟨.mv (.t 2), some ((.l 10), false), []⟩, ⟨.bin 0 .eql (.l 11) (.c (.int .i64 (0))), some ((.l 10), false), []⟩, ⟨.mv (.l 12), some ((.l 10), false), []⟩, ⟨.fieldAddr 0 (.t 3), some ((.l 13), true), []⟩, ⟨.load false 1 (.l 14), some ((.l 13), true), []⟩, ⟨.bin 0 .neq (.l 15) (.c (.int .i64 (0))), some ((.l 13), true), []⟩, ⟨.pick (.l 13) (.l 16) (.c (.bool false)), some ((.l 10), false), []⟩, ⟨.pick (.l 10) (.c (.bool true)) (.l 17), none, []⟩, ⟨.mv (.l 18), none, []⟩, ⟨.mv (.t 2), some ((.l 19), false), []⟩, ⟨.bin 0 .gtr (.l 20) (.c (.int .i64 (0))), some ((.l 19), false), []⟩, ⟨.mv (.l 21), some ((.l 19), false), []⟩, ⟨.fieldAddr 0 (.t 3), some ((.l 22), true), []⟩, ⟨.load false 1 (.l 23), some ((.l 22), true), []⟩, ⟨.mv (.t 0), some ((.l 22), true), []⟩, ⟨.mv (.t 2), some ((.l 22), true), []⟩, ⟨.bin 0 .sub (.l 26) (.c (.int .i64 (1))), some ((.l 22), true), []⟩, ⟨.indexAddrS 2 (.l 25) (.l 27), some ((.l 22), true), []⟩, ⟨.fieldAddr 0 (.l 28), some ((.l 22), true), []⟩, ⟨.load false 1 (.l 29), some ((.l 22), true), []⟩, ⟨.bin 0 .lss (.l 24) (.l 30), some ((.l 22), true), []⟩, ⟨.pick (.l 22) (.l 31) (.c (.bool false)), some ((.l 19), false), []⟩, ⟨.pick (.l 19) (.c (.bool true)) (.l 32), none, []⟩] [(8, 33)])
 (.cond (.t 8) (.seq (.region [⟨.mv (.c (.bool false)), none⟩] [(1, 0)])
 .ret) .skip))))
 (.region [⟨.bin 0 .add (.t 6) (.c (.int .i64 (1))), none⟩, ⟨.mv (.l 0), none⟩] [(6, 1)]))))
def c_i_IsConvoy : ACode :=
 (.seq (.region [⟨.mv (.c (.bool false)), none⟩] [(1, 0)])
 (.seq (.seq (.region [⟨.mv (.t 0), none⟩, ⟨.len (.l 0), none⟩, ⟨.mv (.c (.int .i64 (0))), none⟩] [(4, 0), (5, 1), (6, 2)])
 (.block 0 (.loop w_i_IsConvoy_1)))
 (.seq (.region [⟨.mv (.t 0), none⟩, ⟨.len (.l 0), none⟩, ⟨.call (.c (.fn f_i_within [] [])) [(.l 1), (.c (.int .i64 (1))), (.c (.int .i64 (6)))], none⟩, ⟨.mv (.l 2), none⟩] [(1, 3)])
 .ret)))
def a_i_IsConvoy : AFun := ⟨[0, 2, 3, 4, 5, 6, 7, 8, 45], 50, c_i_IsConvoy, [.tmp 1], 1⟩
def c_s_DrawOutermostPlaces : ACode :=
 (.seq (.region [⟨.alloc [.int .i64 (0), .int .i64 (0), .int .i64 (0)], none⟩, ⟨.mv (.c (.slice none 0 0 none)), none⟩, ⟨.mv (.c (.int .i64 (0))), none⟩] [(1, 0), (2, 1), (3, 2)])
 (.seq (.region [⟨.mv (.t 0), none⟩, ⟨.build [.slice none 0 0 none, .int .i64 (0), .int .u64 (0)] [(0, 1, (.l 0))], none⟩, ⟨.box (.l 1), none⟩, ⟨.mv (.l 2), none⟩] [(4, 3)])
 (.seq (.region [⟨.mv (.t 4), none⟩, ⟨.call (.c (.fn f_s_l1Cur_beam [] [])) [(.l 0)], none⟩, ⟨.alloc [.int .i64 (0), .int .i64 (0), .int .i64 (0)], none⟩, ⟨.store 3 (.l 2) (.l 1), none⟩] [(5, 2)])
 (.seq (.region [⟨.mv (.t 4), none⟩, ⟨.load true 3 (.t 5), none⟩, ⟨.call (.c (.fn f_s_l1Cur_onBeam [] [])) [(.l 0), (.l 1)], none⟩, ⟨.mv (.l 2), none⟩] [(6, 3)])
 (.seq (.draw [⟨.load true 3 (.t 5), none, []⟩, ⟨.mv (.t 6), none, []⟩, ⟨.mv (.t 4), none, []⟩, ⟨.buildSlice 1 7 [.int .i64 (0), .int .i64 (0), .int .i64 (0), .int .i64 (0), .int .i64 (0), .int .i64 (0), .int .i64 (0)] [(0, 1, (.c (.int .i64 (1)))), (1, 1, (.c (.int .i64 (3)))), (2, 1, (.c (.int .i64 (10)))), (3, 1, (.c (.int .i64 (40)))), (4, 1, (.c (.int .i64 (99)))), (5, 1, (.c (.int .i64 (100)))), (6, 1, (.c (.int .i64 (0))))], none, [(0, ⟨.load true 3 (.t 5), none⟩)]⟩, ⟨.call (.c (.fn f_s_l1Cur_among [] [])) [(.l 2), (.l 3)], none, [(0, ⟨.load true 3 (.t 5), none⟩)]⟩, ⟨.store 3 (.t 1) (.l 0), none, []⟩, ⟨.mv (.l 1), none, []⟩, ⟨.mv (.l 4), none, []⟩] [(2, 6), (3, 7)])
 .ret)))))
def a_s_DrawOutermostPlaces : AFun := ⟨[0, 2, 3, 4, 5, 6, 7], 21, c_s_DrawOutermostPlaces, [.cell 1 true 3, .tmp 2, .tmp 3], 2⟩
def w_i_OutermostPlaces_1 : ACode :=
 (.seq (.region [⟨.bin 0 .lss (.t 12) (.t 11), none⟩] [(13, 0)])
 (.seq (.cond (.t 13) .skip (.exit 0))
 (.seq (.block 1 (.seq (.region [⟨.mv (.t 12), none⟩, ⟨.mv (.l 0), none⟩] [(9, 1)])
 (.seq (.region [⟨.mv (.t 1), none⟩, ⟨.fieldAddr 1 (.t 3), none⟩, ⟨.load false 1 (.l 1), none⟩, ⟨.fieldAddr 2 (.t 3), none⟩, ⟨.load false 1 (.l 3), none⟩, ⟨.mv (.t 9), none⟩, ⟨.mv (.t 2), none⟩, ⟨.call (.c (.fn f_i_standsWith [] [])) [(.l 0), (.l 2), (.l 4), (.l 5), (.l 6)], none⟩] [(14, 7)])
 (.cond (.t 14) (.seq (.seq (.region [⟨.mv (.t 7), none⟩, ⟨.bin 0 .lss (.l 0) (.c (.int .i64 (0))), none⟩] [(15, 1)])
 (.cond (.t 15) (.region [⟨.mv (.t 9), none⟩, ⟨.mv (.l 0), none⟩] [(7, 1)]) .skip))
 (.region [⟨.mv (.t 9), none⟩, ⟨.mv (.l 0), none⟩] [(8, 1)])) .skip))))
 (.region [⟨.bin 0 .add (.t 12) (.c (.int .i64 (1))), none⟩, ⟨.mv (.l 0), none⟩] [(12, 1)]))))
def c_i_OutermostPlaces : ACode :=
 (.seq (.region [⟨.box (.t 0), none⟩, ⟨.mv (.c (.int .i64 (0))), none⟩, ⟨.mv (.c (.int .i64 (0))), none⟩, ⟨.mv (.c (.bool false)), none⟩] [(3, 0), (4, 1), (5, 2), (6, 3)])
 (.seq (.seq (.region [⟨.load true 3 (.t 3), none⟩, ⟨.mv (.t 1), none⟩, ⟨.call (.c (.fn f_i_isOn [] [])) [(.l 0), (.l 1)], none⟩, ⟨.un .not (.l 2), none⟩, ⟨.mv (.l 3), none⟩, ⟨.mv (.t 1), some ((.l 4), false)⟩, ⟨.len (.l 5), some ((.l 4), false)⟩, ⟨.bin 0 .eql (.l 6) (.c (.int .i64 (12))), some ((.l 4), false)⟩, ⟨.pick (.l 4) (.c (.bool true)) (.l 7), none⟩, ⟨.mv (.l 8), none⟩, ⟨.mv (.t 2), some ((.l 9), false)⟩, ⟨.call (.c (.fn f_i_isWeight [] [])) [(.l 10)], some ((.l 9), false)⟩, ⟨.un .not (.l 11), some ((.l 9), false)⟩, ⟨.pick (.l 9) (.c (.bool true)) (.l 12), none⟩] [(10, 13)])
 (.cond (.t 10) (.seq (.region [⟨.mv (.c (.int .i64 (0))), none⟩, ⟨.mv (.c (.int .i64 (0))), none⟩, ⟨.mv (.c (.bool false)), none⟩] [(4, 0), (5, 1), (6, 2)])
 .ret) .skip))
 (.seq (.region [⟨.mv (.c (.int .i64 (-1))), none⟩, ⟨.mv (.c (.int .i64 (-1))), none⟩] [(7, 0), (8, 1)])
 (.seq (.seq (.region [⟨.fieldAddr 0 (.t 3), none⟩, ⟨.load false 1 (.l 0), none⟩, ⟨.bin 0 .add (.l 1) (.c (.int .i64 (1))), none⟩, ⟨.mv (.c (.int .i64 (0))), none⟩] [(11, 2), (12, 3)])
 (.block 0 (.loop w_i_OutermostPlaces_1)))
 (.seq (.seq (.region [⟨.mv (.t 7), none⟩, ⟨.bin 0 .lss (.l 0) (.c (.int .i64 (0))), none⟩] [(16, 1)])
 (.cond (.t 16) (.seq (.region [⟨.mv (.c (.int .i64 (0))), none⟩, ⟨.mv (.c (.int .i64 (0))), none⟩, ⟨.mv (.c (.bool false)), none⟩] [(4, 0), (5, 1), (6, 2)])
 .ret) .skip))
 (.seq (.region [⟨.mv (.t 7), none⟩, ⟨.mv (.t 8), none⟩, ⟨.mv (.l 0), none⟩, ⟨.mv (.l 1), none⟩, ⟨.mv (.c (.bool true)), none⟩] [(4, 2), (5, 3), (6, 4)])
 .ret))))))
def a_i_OutermostPlaces : AFun := ⟨[0, 1, 2, 3, 6, 7, 8, 9, 10, 11, 25, 28, 29, 30, 39, 41, 46], 49, c_i_OutermostPlaces, [.tmp 4, .tmp 5, .tmp 6], 1⟩
def w_s_OutermostPlaces_1 : ACode :=
 (.seq (.seq (.region [⟨.mv (.t 9), none⟩, ⟨.fieldAddr 0 (.t 3), none⟩, ⟨.load false 1 (.l 1), none⟩, ⟨.bin 0 .leq (.l 0) (.l 2), none⟩] [(11, 3)])
 (.cond (.t 11) .skip (.exit 0)))
 (.seq (.block 1 (.seq (.draw [⟨.mv (.t 1), none, []⟩, ⟨.mv (.t 9), none, []⟩, ⟨.mv (.t 2), none, []⟩, ⟨.fieldAddr 1 (.t 3), none, []⟩, ⟨.load false 1 (.l 3), none, []⟩, ⟨.fieldAddr 2 (.t 3), none, []⟩, ⟨.load false 1 (.l 5), none, []⟩, ⟨.call (.c (.fn f_s_l2With [] [])) [(.l 0), (.l 1), (.l 2)], none, [(4, ⟨.load false 1 (.l 3), none⟩), (6, ⟨.load false 1 (.l 5), none⟩)]⟩, ⟨.call (.c (.fn f_s_l2Side [] [])) [(.l 7), (.l 4), (.l 6)], none, []⟩, ⟨.bin 0 .eql (.l 8) (.c (.int .i64 (0))), none, []⟩] [(12, 9)])
 (.cond (.t 12) (.seq (.seq (.region [⟨.mv (.t 7), none⟩, ⟨.bin 0 .lss (.l 0) (.c (.int .i64 (0))), none⟩] [(13, 1)])
 (.cond (.t 13) (.region [⟨.mv (.t 9), none⟩, ⟨.mv (.l 0), none⟩] [(7, 1)]) .skip))
 (.region [⟨.mv (.t 9), none⟩, ⟨.mv (.l 0), none⟩] [(8, 1)])) .skip)))
 (.region [⟨.mv (.t 9), none⟩, ⟨.bin 0 .add (.l 0) (.c (.int .i64 (1))), none⟩, ⟨.mv (.l 1), none⟩] [(9, 2)])))
def c_s_OutermostPlaces : ACode :=
 (.seq (.region [⟨.box (.t 0), none⟩, ⟨.mv (.c (.int .i64 (0))), none⟩, ⟨.mv (.c (.int .i64 (0))), none⟩, ⟨.mv (.c (.bool false)), none⟩] [(3, 0), (4, 1), (5, 2), (6, 3)])
 (.seq (.seq (.region [⟨.load true 3 (.t 3), none⟩, ⟨.mv (.t 1), none⟩, ⟨.call (.c (.fn f_s_l6On [] [])) [(.l 0), (.l 1)], none⟩, ⟨.un .not (.l 2), none⟩, ⟨.mv (.l 3), none⟩, ⟨.mv (.t 1), some ((.l 4), false)⟩, ⟨.len (.l 5), some ((.l 4), false)⟩, ⟨.bin 0 .eql (.l 6) (.c (.int .i64 (12))), some ((.l 4), false)⟩, ⟨.pick (.l 4) (.c (.bool true)) (.l 7), none⟩, ⟨.mv (.l 8), none⟩, ⟨.mv (.t 2), some ((.l 9), false)⟩, ⟨.call (.c (.fn f_s_l1In [] [])) [(.l 10), (.c (.int .i64 (1))), (.c (.int .i64 (99)))], some ((.l 9), false)⟩, ⟨.un .not (.l 11), some ((.l 9), false)⟩, ⟨.pick (.l 9) (.c (.bool true)) (.l 12), none⟩] [(10, 13)])
 (.cond (.t 10) (.seq (.region [⟨.mv (.c (.int .i64 (0))), none⟩, ⟨.mv (.c (.int .i64 (0))), none⟩, ⟨.mv (.c (.bool false)), none⟩] [(4, 0), (5, 1), (6, 2)])
 .ret) .skip))
 (.seq (.region [⟨.mv (.c (.int .i64 (-1))), none⟩, ⟨.mv (.c (.int .i64 (-1))), none⟩] [(7, 0), (8, 1)])
 (.seq (.seq (.region [⟨.mv (.c (.int .i64 (0))), none⟩] [(9, 0)])
 (.block 0 (.loop w_s_OutermostPlaces_1)))
 (.seq (.seq (.region [⟨.mv (.t 7), none⟩, ⟨.bin 0 .lss (.l 0) (.c (.int .i64 (0))), none⟩] [(14, 1)])
 (.cond (.t 14) (.seq (.region [⟨.mv (.c (.int .i64 (0))), none⟩, ⟨.mv (.c (.int .i64 (0))), none⟩, ⟨.mv (.c (.bool false)), none⟩] [(4, 0), (5, 1), (6, 2)])
 .ret) .skip))
 (.seq (.region [⟨.mv (.t 7), none⟩, ⟨.mv (.t 8), none⟩, ⟨.mv (.l 0), none⟩, ⟨.mv (.l 1), none⟩, ⟨.mv (.c (.bool true)), none⟩] [(4, 2), (5, 3), (6, 4)])
 .ret))))))
def a_s_OutermostPlaces : AFun := ⟨[0, 1, 2, 3, 6, 7, 8, 9, 10, 11, 25, 29, 41, 43, 47], 50, c_s_OutermostPlaces, [.tmp 4, .tmp 5, .tmp 6], 1⟩
def c_s_DrawIsConvoy : ACode :=
 (.seq (.region [⟨.mv (.c (.slice none 0 0 none)), none⟩] [(1, 0)])
 (.seq (.region [⟨.mv (.t 0), none⟩, ⟨.build [.slice none 0 0 none, .int .i64 (0), .int .u64 (0)] [(0, 1, (.l 0))], none⟩, ⟨.box (.l 1), none⟩, ⟨.mv (.l 2), none⟩] [(2, 3)])
 (.seq (.region [⟨.mv (.t 2), none⟩, ⟨.call (.c (.fn f_s_l1Cur_convoy [] [])) [(.l 0)], none⟩, ⟨.mv (.l 1), none⟩] [(1, 2)])
 .ret)))
def a_s_DrawIsConvoy : AFun := ⟨[0, 2, 3], 9, c_s_DrawIsConvoy, [.tmp 1], 2⟩
def c_s_IsConvoy : ACode :=
 (.seq (.region [⟨.mv (.c (.bool false)), none⟩] [(1, 0)])
 (.seq (.region [⟨.mv (.t 0), none⟩, ⟨.call (.c (.fn f_s_l6Convoy [] [])) [(.l 0)], none⟩, ⟨.mv (.l 1), none⟩] [(1, 2)])
 .ret))
def a_s_IsConvoy : AFun := ⟨[0, 2], 5, c_s_IsConvoy, [.tmp 1], 1⟩
def c_s_DrawConvoyRow : ACode :=
 (.seq (.region [⟨.alloc [.int .i64 (0), .int .i64 (0), .int .i64 (0)], none⟩, ⟨.mv (.c (.slice none 0 0 none)), none⟩, ⟨.mv (.c (.int .i64 (0))), none⟩] [(1, 0), (2, 1), (3, 2)])
 (.seq (.region [⟨.mv (.t 0), none⟩, ⟨.build [.slice none 0 0 none, .int .i64 (0), .int .u64 (0)] [(0, 1, (.l 0))], none⟩, ⟨.box (.l 1), none⟩, ⟨.mv (.l 2), none⟩] [(4, 3)])
 (.seq (.region [⟨.mv (.t 4), none⟩, ⟨.call (.c (.fn f_s_l1Cur_beam [] [])) [(.l 0)], none⟩, ⟨.alloc [.int .i64 (0), .int .i64 (0), .int .i64 (0)], none⟩, ⟨.store 3 (.l 2) (.l 1), none⟩] [(5, 2)])
 (.seq (.region [⟨.mv (.t 4), none⟩, ⟨.call (.c (.fn f_s_l1Cur_convoy [] [])) [(.l 0)], none⟩, ⟨.mv (.l 1), none⟩] [(6, 2)])
 (.seq (.draw [⟨.load true 3 (.t 5), none, []⟩, ⟨.mv (.t 6), none, []⟩, ⟨.mv (.t 4), none, []⟩, ⟨.load true 3 (.t 5), none, []⟩, ⟨.call (.c (.fn f_s_l1Cur_placeOn [] [])) [(.l 2), (.l 3)], none, [(0, ⟨.load true 3 (.t 5), none⟩)]⟩, ⟨.store 3 (.t 1) (.l 0), none, []⟩, ⟨.mv (.l 1), none, []⟩, ⟨.mv (.l 4), none, []⟩] [(2, 6), (3, 7)])
 .ret)))))
def a_s_DrawConvoyRow : AFun := ⟨[0, 2, 3, 4, 5, 6, 7], 20, c_s_DrawConvoyRow, [.cell 1 true 3, .tmp 2, .tmp 3], 2⟩
def c_i_ConvoyRow : ACode :=
 (.seq (.region [⟨.box (.t 0), none⟩, ⟨.mv (.c (.slice none 0 0 none)), none⟩, ⟨.mv (.c (.bool false)), none⟩] [(3, 0), (4, 1), (5, 2)])
 (.seq (.seq (.region [⟨.load true 3 (.t 3), none⟩, ⟨.mv (.t 2), none⟩, ⟨.call (.c (.fn f_i_isOnBeam [] [])) [(.l 0), (.l 1)], none⟩, ⟨.un .not (.l 2), none⟩, ⟨.mv (.l 3), none⟩, ⟨.mv (.t 1), some ((.l 4), false)⟩, ⟨.call (.c (.fn f_i_IsConvoy [] [])) [(.l 5)], some ((.l 4), false)⟩, ⟨.un .not (.l 6), some ((.l 4), false)⟩, ⟨.pick (.l 4) (.c (.bool true)) (.l 7), none⟩] [(6, 8)])
 (.cond (.t 6) (.seq (.region [⟨.mv (.c (.slice none 0 0 none)), none⟩, ⟨.mv (.c (.bool false)), none⟩] [(4, 0), (5, 1)])
 .ret) .skip))
 (.seq (.region [⟨.mv (.t 1), none⟩, ⟨.mv (.t 2), none⟩, ⟨.call (.c (.fn f_i_convoyRow [] [])) [(.l 0), (.l 1)], none⟩, ⟨.mv (.l 2), none⟩, ⟨.mv (.c (.bool true)), none⟩] [(4, 3), (5, 4)])
 .ret)))
def a_i_ConvoyRow : AFun := ⟨[0, 1, 2, 3, 6, 7, 16], 20, c_i_ConvoyRow, [.tmp 4, .tmp 5], 2⟩
def c_s_ConvoyRow : ACode :=
 (.seq (.region [⟨.box (.t 0), none⟩, ⟨.mv (.c (.slice none 0 0 none)), none⟩, ⟨.mv (.c (.bool false)), none⟩] [(3, 0), (4, 1), (5, 2)])
 (.seq (.seq (.region [⟨.load true 3 (.t 3), none⟩, ⟨.call (.c (.fn f_s_l6Beam [] [])) [(.l 0)], none⟩, ⟨.un .not (.l 1), none⟩, ⟨.mv (.l 2), none⟩, ⟨.mv (.t 1), some ((.l 3), false)⟩, ⟨.call (.c (.fn f_s_l6Convoy [] [])) [(.l 4)], some ((.l 3), false)⟩, ⟨.un .not (.l 5), some ((.l 3), false)⟩, ⟨.pick (.l 3) (.c (.bool true)) (.l 6), none⟩, ⟨.mv (.l 7), none⟩, ⟨.mv (.t 2), some ((.l 8), false)⟩, ⟨.fieldAddr 0 (.t 3), some ((.l 8), false)⟩, ⟨.load false 1 (.l 10), some ((.l 8), false)⟩, ⟨.call (.c (.fn f_s_l1In [] [])) [(.l 9), (.c (.int .i64 (0))), (.l 11)], some ((.l 8), false)⟩, ⟨.un .not (.l 12), some ((.l 8), false)⟩, ⟨.pick (.l 8) (.c (.bool true)) (.l 13), none⟩] [(6, 14)])
 (.cond (.t 6) (.seq (.region [⟨.buildSlice 2 0 [] [], none⟩, ⟨.mv (.l 0), none⟩, ⟨.mv (.c (.bool false)), none⟩] [(4, 1), (5, 2)])
 .ret) .skip))
 (.seq (.region [⟨.mv (.t 1), none⟩, ⟨.mv (.t 2), none⟩, ⟨.call (.c (.fn f_s_l6At [] [])) [(.l 0), (.l 1)], none⟩, ⟨.mv (.l 2), none⟩, ⟨.mv (.c (.bool true)), none⟩] [(4, 3), (5, 4)])
 .ret)))
def a_s_ConvoyRow : AFun := ⟨[0, 1, 2, 3, 6, 7, 22], 27, c_s_ConvoyRow, [.tmp 4, .tmp 5], 2⟩
def w_l_rRow_1 : ACode :=
 (.seq (.seq (.region [⟨.mv (.t 3), none⟩, ⟨.mv (.t 0), none⟩, ⟨.len (.l 1), none⟩, ⟨.bin 0 .lss (.l 0) (.l 2), none⟩] [(5, 3)])
 (.cond (.t 5) .skip (.exit 0)))
 (.seq (.block 1 (.seq (.draw [⟨.mv (.t 0), none, []⟩, ⟨.mv (.t 3), none, []⟩, ⟨.indexAddrS 2 (.l 0) (.l 1), none, []⟩, ⟨.load true 2 (.l 2), none, []⟩, ⟨.mv (.t 1), none, []⟩, ⟨.mv (.t 3), none, []⟩, ⟨.indexAddrS 2 (.l 4) (.l 5), none, []⟩, ⟨.load true 2 (.l 6), none, []⟩, ⟨.eqCells [0, 0] true (.l 3) (.l 7), none, []⟩] [(6, 8)])
 (.cond (.t 6) (.seq (.region [⟨.mv (.c (.bool false)), none⟩] [(2, 0)])
 .ret) .skip)))
 (.region [⟨.mv (.t 3), none⟩, ⟨.bin 0 .add (.l 0) (.c (.int .i64 (1))), none⟩, ⟨.mv (.l 1), none⟩] [(3, 2)])))
def c_l_rRow : ACode :=
 (.seq (.region [⟨.mv (.c (.bool false)), none⟩] [(2, 0)])
 (.seq (.seq (.region [⟨.mv (.t 0), none⟩, ⟨.len (.l 0), none⟩, ⟨.mv (.t 1), none⟩, ⟨.len (.l 2), none⟩, ⟨.bin 0 .neq (.l 1) (.l 3), none⟩] [(4, 4)])
 (.cond (.t 4) (.seq (.region [⟨.mv (.c (.bool false)), none⟩] [(2, 0)])
 .ret) .skip))
 (.seq (.seq (.region [⟨.mv (.c (.int .i64 (0))), none⟩] [(3, 0)])
 (.block 0 (.loop w_l_rRow_1)))
 (.seq (.region [⟨.mv (.c (.bool true)), none⟩] [(2, 0)])
 .ret))))
def a_l_rRow : AFun := ⟨[0, 1, 4, 5, 10, 14, 25], 26, c_l_rRow, [.tmp 2], 1⟩
def w_s_l6On_1 : ACode :=
 (.seq (.seq (.region [⟨.mv (.t 4), none⟩, ⟨.mv (.t 1), none⟩, ⟨.len (.l 1), none⟩, ⟨.bin 0 .lss (.l 0) (.l 2), none⟩] [(6, 3)])
 (.cond (.t 6) .skip (.exit 0)))
 (.seq (.block 1 (.seq (.draw [⟨.mv (.t 1), none, []⟩, ⟨.mv (.t 4), none, []⟩, ⟨.indexAddrS 2 (.l 0) (.l 1), none, []⟩, ⟨.fieldAddr 0 (.l 2), none, []⟩, ⟨.load false 1 (.l 3), none, []⟩, ⟨.fieldAddr 0 (.t 2), none, []⟩, ⟨.load false 1 (.l 5), none, []⟩, ⟨.bin 0 .gtr (.l 4) (.l 6), none, []⟩] [(7, 7)])
 (.cond (.t 7) (.seq (.region [⟨.mv (.c (.bool false)), none⟩] [(3, 0)])
 .ret) .skip)))
 (.region [⟨.mv (.t 4), none⟩, ⟨.bin 0 .add (.l 0) (.c (.int .i64 (1))), none⟩, ⟨.mv (.l 1), none⟩] [(4, 2)])))
def c_s_l6On : ACode :=
 (.seq (.region [⟨.box (.t 0), none⟩, ⟨.mv (.c (.bool false)), none⟩] [(2, 0), (3, 1)])
 (.seq (.seq (.region [⟨.load true 3 (.t 2), none⟩, ⟨.call (.c (.fn f_s_l6Beam [] [])) [(.l 0)], none⟩, ⟨.un .not (.l 1), none⟩, ⟨.mv (.l 2), none⟩, ⟨.mv (.t 1), some ((.l 3), false)⟩, ⟨.call (.c (.fn f_s_l2Row [] [])) [(.l 4)], some ((.l 3), false)⟩, ⟨.un .not (.l 5), some ((.l 3), false)⟩, ⟨.pick (.l 3) (.c (.bool true)) (.l 6), none⟩] [(5, 7)])
 (.cond (.t 5) (.seq (.region [⟨.mv (.c (.bool false)), none⟩] [(3, 0)])
 .ret) .skip))
 (.seq (.seq (.region [⟨.mv (.c (.int .i64 (0))), none⟩] [(4, 0)])
 (.block 0 (.loop w_s_l6On_1)))
 (.seq (.region [⟨.mv (.c (.bool true)), none⟩] [(3, 0)])
 .ret))))
def a_s_l6On : AFun := ⟨[0, 1, 2, 4, 5, 13, 17, 27], 28, c_s_l6On, [.tmp 3], 1⟩
def c_s_l2Side : ACode :=
 (.seq (.region [⟨.mv (.c (.int .i64 (0))), none⟩] [(3, 0)])
 (.seq (.seq (.region [⟨.mv (.t 0), none⟩, ⟨.mv (.t 1), none⟩, ⟨.call (.c (.fn f_s_l2Moment [] [])) [(.l 0), (.l 1)], none⟩, ⟨.bin 0 .lss (.l 2) (.c (.int .i64 (0))), none⟩] [(4, 3)])
 (.cond (.t 4) (.seq (.region [⟨.mv (.c (.int .i64 (-1))), none⟩] [(3, 0)])
 .ret) .skip))
 (.seq (.seq (.region [⟨.mv (.t 0), none⟩, ⟨.mv (.t 2), none⟩, ⟨.call (.c (.fn f_s_l2Moment [] [])) [(.l 0), (.l 1)], none⟩, ⟨.bin 0 .gtr (.l 2) (.c (.int .i64 (0))), none⟩] [(5, 3)])
 (.cond (.t 5) (.seq (.region [⟨.mv (.c (.int .i64 (1))), none⟩] [(3, 0)])
 .ret) .skip))
 (.seq (.region [⟨.mv (.c (.int .i64 (0))), none⟩] [(3, 0)])
 .ret))))
def a_s_l2Side : AFun := ⟨[0, 1, 2, 6, 10, 14], 15, c_s_l2Side, [.tmp 3], 1⟩
def c_l_toLoad : ACode :=
 (.seq (.region [⟨.box (.t 0), none⟩, ⟨.alloc [.int .i64 (0), .int .i64 (0)], none⟩] [(1, 0), (2, 1)])
 (.seq (.region [⟨.alloc [.int .i64 (0), .int .i64 (0)], none⟩] [(3, 0)])
 (.seq (.region [⟨.fieldAddr 0 (.t 1), none⟩, ⟨.load false 1 (.l 0), none⟩, ⟨.fieldAddr 0 (.t 3), none⟩, ⟨.store 1 (.l 2) (.l 1), none⟩] [])
 (.seq (.region [⟨.fieldAddr 1 (.t 1), none⟩, ⟨.load false 1 (.l 0), none⟩, ⟨.fieldAddr 1 (.t 3), none⟩, ⟨.store 1 (.l 2) (.l 1), none⟩] [])
 (.seq (.region [⟨.load true 2 (.t 3), none⟩, ⟨.store 2 (.t 2) (.l 0), none⟩] [])
 .ret)))))
def a_l_toLoad : AFun := ⟨[0, 1, 2, 3], 11, c_l_toLoad, [.cell 2 true 2], 1⟩
def c_i_isOn : ACode :=
 (.seq (.region [⟨.box (.t 0), none⟩, ⟨.mv (.c (.bool false)), none⟩] [(2, 0), (3, 1)])
 (.seq (.region [⟨.load true 3 (.t 2), none⟩, ⟨.call (.c (.fn f_i_IsBeam [] [])) [(.l 0)], none⟩, ⟨.mv (.l 1), none⟩, ⟨.mv (.t 1), some ((.l 2), true)⟩, ⟨.call (.c (.fn f_i_IsRow [] [])) [(.l 3)], some ((.l 2), true)⟩, ⟨.pick (.l 2) (.l 4) (.c (.bool false)), none⟩, ⟨.mv (.l 5), none⟩, ⟨.mv (.t 1), some ((.l 6), true)⟩, ⟨.makeFunc f_i_isOn_1 [] [(.t 2)], some ((.l 6), true)⟩, ⟨.call (.c (.fn f_slices_ContainsFunc_Si_Load_i_Load [] [])) [(.l 7), (.l 8)], some ((.l 6), true)⟩, ⟨.un .not (.l 9), some ((.l 6), true)⟩, ⟨.pick (.l 6) (.l 10) (.c (.bool false)), none⟩, ⟨.mv (.l 11), none⟩] [(3, 12)])
 .ret))
def a_i_isOn : AFun := ⟨[0, 1, 2, 4], 17, c_i_isOn, [.tmp 3], 1⟩
def c_i_Beam_rests : ACode :=
 (.seq (.region [⟨.box (.t 0), none⟩, ⟨.mv (.c (.bool false)), none⟩] [(2, 0), (3, 1)])
 (.seq (.region [⟨.mv (.t 1), none⟩, ⟨.fieldAddr 1 (.t 2), none⟩, ⟨.load false 1 (.l 1), none⟩, ⟨.fieldAddr 2 (.t 2), none⟩, ⟨.load false 1 (.l 3), none⟩, ⟨.call (.c (.fn f_i_tipSide [] [])) [(.l 0), (.l 2), (.l 4)], none⟩, ⟨.bin 0 .eql (.l 5) (.c (.int .i64 (0))), none⟩, ⟨.mv (.l 6), none⟩] [(3, 7)])
 .ret))
def a_i_Beam_rests : AFun := ⟨[0, 1, 2, 4], 12, c_i_Beam_rests, [.tmp 3], 1⟩
def c_l_eqLoad : ACode :=
 (.seq (.region [⟨.box (.t 0), none⟩, ⟨.box (.t 1), none⟩, ⟨.mv (.c (.bool false)), none⟩] [(2, 0), (3, 1), (4, 2)])
 (.seq (.seq (.region [⟨.fieldAddr 0 (.t 2), none⟩, ⟨.load false 1 (.l 0), none⟩, ⟨.fieldAddr 0 (.t 3), none⟩, ⟨.load false 1 (.l 2), none⟩, ⟨.bin 0 .neq (.l 1) (.l 3), none⟩] [(5, 4)])
 (.cond (.t 5) (.seq (.region [⟨.mv (.c (.bool false)), none⟩] [(4, 0)])
 .ret) .skip))
 (.seq (.seq (.region [⟨.fieldAddr 1 (.t 2), none⟩, ⟨.load false 1 (.l 0), none⟩, ⟨.fieldAddr 1 (.t 3), none⟩, ⟨.load false 1 (.l 2), none⟩, ⟨.bin 0 .neq (.l 1) (.l 3), none⟩] [(6, 4)])
 (.cond (.t 6) (.seq (.region [⟨.mv (.c (.bool false)), none⟩] [(4, 0)])
 .ret) .skip))
 (.seq (.region [⟨.mv (.c (.bool true)), none⟩] [(4, 0)])
 .ret))))
def a_l_eqLoad : AFun := ⟨[0, 1, 2, 3, 4, 9, 14], 15, c_l_eqLoad, [.tmp 4], 1⟩
def c_s_l6Beam : ACode :=
 (.seq (.region [⟨.box (.t 0), none⟩, ⟨.mv (.c (.bool false)), none⟩] [(1, 0), (2, 1)])
 (.seq (.region [⟨.fieldAddr 0 (.t 1), none⟩, ⟨.load false 1 (.l 0), none⟩, ⟨.call (.c (.fn f_s_l1In [] [])) [(.l 1), (.c (.int .i64 (1))), (.c (.int .i64 (60)))], none⟩, ⟨.mv (.l 2), none⟩, ⟨.fieldAddr 1 (.t 1), some ((.l 3), true)⟩, ⟨.load false 1 (.l 4), some ((.l 3), true)⟩, ⟨.fieldAddr 0 (.t 1), some ((.l 3), true)⟩, ⟨.load false 1 (.l 6), some ((.l 3), true)⟩, ⟨.bin 0 .sub (.l 7) (.c (.int .i64 (1))), some ((.l 3), true)⟩, ⟨.call (.c (.fn f_s_l1In [] [])) [(.l 5), (.c (.int .i64 (0))), (.l 8)], some ((.l 3), true)⟩, ⟨.pick (.l 3) (.l 9) (.c (.bool false)), none⟩, ⟨.mv (.l 10), none⟩, ⟨.fieldAddr 2 (.t 1), some ((.l 11), true)⟩, ⟨.load false 1 (.l 12), some ((.l 11), true)⟩, ⟨.fieldAddr 1 (.t 1), some ((.l 11), true)⟩, ⟨.load false 1 (.l 14), some ((.l 11), true)⟩, ⟨.bin 0 .add (.l 15) (.c (.int .i64 (1))), some ((.l 11), true)⟩, ⟨.fieldAddr 0 (.t 1), some ((.l 11), true)⟩, ⟨.load false 1 (.l 17), some ((.l 11), true)⟩, ⟨.call (.c (.fn f_s_l1In [] [])) [(.l 13), (.l 16), (.l 18)], some ((.l 11), true)⟩, ⟨.pick (.l 11) (.l 19) (.c (.bool false)), none⟩, ⟨.mv (.l 20), none⟩] [(2, 21)])
 .ret))
def a_s_l6Beam : AFun := ⟨[0, 1, 2], 24, c_s_l6Beam, [.tmp 2], 1⟩
def w_s_l6Convoy_1 : ACode :=
 (.seq (.seq (.region [⟨.mv (.t 2), none⟩, ⟨.mv (.t 0), none⟩, ⟨.len (.l 1), none⟩, ⟨.bin 0 .lss (.l 0) (.l 2), none⟩] [(3, 3)])
 (.cond (.t 3) .skip (.exit 0)))
 (.seq (.block 1 (.seq (.draw [⟨.mv (.t 0), none, []⟩, ⟨.mv (.t 2), none, []⟩, ⟨.indexAddrS 2 (.l 0) (.l 1), none, []⟩, ⟨.fieldAddr 0 (.l 2), none, []⟩, ⟨.load false 1 (.l 3), none, []⟩, ⟨.call (.c (.fn f_s_l1In [] [])) [(.l 4), (.c (.int .i64 (0))), (.c (.int .i64 (20)))], none, []⟩, ⟨.un .not (.l 5), none, []⟩, ⟨.mv (.l 6), none, []⟩, ⟨.mv (.t 0), some ((.l 7), false), []⟩, ⟨.mv (.t 2), some ((.l 7), false), []⟩, ⟨.indexAddrS 2 (.l 8) (.l 9), some ((.l 7), false), []⟩, ⟨.fieldAddr 1 (.l 10), some ((.l 7), false), []⟩, ⟨.load false 1 (.l 11), some ((.l 7), false), []⟩, ⟨.call (.c (.fn f_s_l1In [] [])) [(.l 12), (.c (.int .i64 (1))), (.c (.int .i64 (99)))], some ((.l 7), false), []⟩, ⟨.un .not (.l 13), some ((.l 7), false), []⟩, ⟨.pick (.l 7) (.c (.bool true)) (.l 14), none, []⟩, ⟨.mv (.l 15), none, []⟩, ⟨.mv (.t 2), some ((.l 16), false), []⟩, ⟨.bin 0 .gtr (.l 17) (.c (.int .i64 (0))), some ((.l 16), false), []⟩, ⟨.mv (.l 18), some ((.l 16), false), []⟩, ⟨.mv (.t 0), some ((.l 19), true), []⟩, ⟨.mv (.t 2), some ((.l 19), true), []⟩, ⟨.bin 0 .sub (.l 21) (.c (.int .i64 (1))), some ((.l 19), true), []⟩, ⟨.indexAddrS 2 (.l 20) (.l 22), some ((.l 19), true), []⟩, ⟨.fieldAddr 0 (.l 23), some ((.l 19), true), []⟩, ⟨.load false 1 (.l 24), some ((.l 19), true), []⟩, ⟨.mv (.t 0), some ((.l 19), true), []⟩, ⟨.mv (.t 2), some ((.l 19), true), []⟩, ⟨.indexAddrS 2 (.l 26) (.l 27), some ((.l 19), true), []⟩, ⟨.fieldAddr 0 (.l 28), some ((.l 19), true), []⟩, ⟨.load false 1 (.l 29), some ((.l 19), true), []⟩, ⟨.bin 0 .gtr (.l 25) (.l 30), some ((.l 19), true), []⟩, ⟨.pick (.l 19) (.l 31) (.c (.bool false)), some ((.l 16), false), []⟩, ⟨.pick (.l 16) (.c (.bool true)) (.l 32), none, []⟩] [(4, 33)])
 (.cond (.t 4) (.seq (.region [⟨.mv (.c (.bool false)), none⟩] [(1, 0)])
 .ret) .skip)))
 (.region [⟨.mv (.t 2), none⟩, ⟨.bin 0 .add (.l 0) (.c (.int .i64 (1))), none⟩, ⟨.mv (.l 1), none⟩] [(2, 2)])))
def c_s_l6Convoy : ACode :=
 (.seq (.region [⟨.mv (.c (.bool false)), none⟩] [(1, 0)])
 (.seq (.seq (.region [⟨.mv (.c (.int .i64 (0))), none⟩] [(2, 0)])
 (.block 0 (.loop w_s_l6Convoy_1)))
 (.seq (.region [⟨.mv (.t 0), none⟩, ⟨.len (.l 0), none⟩, ⟨.call (.c (.fn f_s_l1In [] [])) [(.l 1), (.c (.int .i64 (1))), (.c (.int .i64 (6)))], none⟩, ⟨.mv (.l 2), none⟩, ⟨.mv (.t 0), some ((.l 3), true)⟩, ⟨.indexAddrS 2 (.l 4) (.c (.int .i64 (0))), some ((.l 3), true)⟩, ⟨.fieldAddr 0 (.l 5), some ((.l 3), true)⟩, ⟨.load false 1 (.l 6), some ((.l 3), true)⟩, ⟨.bin 0 .eql (.l 7) (.c (.int .i64 (0))), some ((.l 3), true)⟩, ⟨.pick (.l 3) (.l 8) (.c (.bool false)), none⟩, ⟨.mv (.l 9), none⟩] [(1, 10)])
 .ret)))
def a_s_l6Convoy : AFun := ⟨[0, 2, 3, 7, 43], 54, c_s_l6Convoy, [.tmp 1], 1⟩
def w_s_l6At_1 : ACode :=
 (.seq (.seq (.region [⟨.mv (.t 4), none⟩, ⟨.mv (.t 0), none⟩, ⟨.len (.l 1), none⟩, ⟨.bin 0 .lss (.l 0) (.l 2), none⟩] [(5, 3)])
 (.cond (.t 5) .skip (.exit 0)))
 (.seq (.block 1 (.seq (.region [⟨.mv (.t 0), none⟩, ⟨.mv (.t 4), none⟩, ⟨.indexAddrS 2 (.l 0) (.l 1), none⟩, ⟨.fieldAddr 0 (.l 2), none⟩, ⟨.load false 1 (.l 3), none⟩, ⟨.mv (.t 1), none⟩, ⟨.bin 0 .leq (.l 4) (.l 5), none⟩] [(6, 6)])
 (.cond (.t 6) (.draw [⟨.mv (.t 3), none, []⟩, ⟨.mv (.t 1), none, []⟩, ⟨.mv (.t 0), none, []⟩, ⟨.mv (.t 4), none, []⟩, ⟨.indexAddrS 2 (.l 2) (.l 3), none, []⟩, ⟨.fieldAddr 0 (.l 4), none, []⟩, ⟨.load false 1 (.l 5), none, []⟩, ⟨.bin 0 .sub (.l 1) (.l 6), none, []⟩, ⟨.mv (.t 0), none, []⟩, ⟨.mv (.t 4), none, []⟩, ⟨.indexAddrS 2 (.l 8) (.l 9), none, []⟩, ⟨.fieldAddr 1 (.l 10), none, []⟩, ⟨.load false 1 (.l 11), none, []⟩, ⟨.build [.int .i64 (0), .int .i64 (0)] [(0, 1, (.l 7)), (1, 1, (.l 12))], none, []⟩, ⟨.buildSlice 2 1 [.int .i64 (0), .int .i64 (0)] [(0, 2, (.l 13))], none, []⟩, ⟨.append false 2 16 (.l 0) (.l 14), none, []⟩, ⟨.mv (.l 15), none, []⟩] [(3, 16)]) .skip)))
 (.region [⟨.mv (.t 4), none⟩, ⟨.bin 0 .add (.l 0) (.c (.int .i64 (1))), none⟩, ⟨.mv (.l 1), none⟩] [(4, 2)])))
def c_s_l6At : ACode :=
 (.seq (.region [⟨.mv (.c (.slice none 0 0 none)), none⟩] [(2, 0)])
 (.seq (.region [⟨.buildSlice 2 0 [] [], none⟩, ⟨.mv (.l 0), none⟩] [(3, 1)])
 (.seq (.seq (.region [⟨.mv (.c (.int .i64 (0))), none⟩] [(4, 0)])
 (.block 0 (.loop w_s_l6At_1)))
 (.seq (.region [⟨.mv (.t 3), none⟩, ⟨.mv (.l 0), none⟩] [(2, 1)])
 .ret))))
def a_s_l6At : AFun := ⟨[0, 1, 4, 5, 6, 11, 20], 38, c_s_l6At, [.tmp 2], 2⟩
def w_i_convoyRow_1 : ACode :=
 (.seq (.region [⟨.bin 0 .lss (.t 7) (.t 6), none⟩] [(8, 0)])
 (.seq (.cond (.t 8) .skip (.exit 0))
 (.seq (.block 1 (.seq (.region [⟨.indexAddrS 2 (.t 5) (.t 7), none⟩, ⟨.load true 2 (.l 0), none⟩, ⟨.alloc [.int .i64 (0), .int .i64 (0)], none⟩, ⟨.store 2 (.l 2) (.l 1), none⟩] [(4, 2)])
 (.seq (.region [⟨.fieldAddr 0 (.t 4), none⟩, ⟨.load false 1 (.l 0), none⟩, ⟨.mv (.t 1), none⟩, ⟨.bin 0 .leq (.l 1) (.l 2), none⟩] [(9, 3)])
 (.cond (.t 9) (.region [⟨.mv (.t 3), none⟩, ⟨.mv (.t 1), none⟩, ⟨.fieldAddr 0 (.t 4), none⟩, ⟨.load false 1 (.l 2), none⟩, ⟨.bin 0 .sub (.l 1) (.l 3), none⟩, ⟨.fieldAddr 1 (.t 4), none⟩, ⟨.load false 1 (.l 5), none⟩, ⟨.build [.int .i64 (0), .int .i64 (0)] [(0, 1, (.l 4)), (1, 1, (.l 6))], none⟩, ⟨.buildSlice 2 1 [.int .i64 (0), .int .i64 (0)] [(0, 2, (.l 7))], none⟩, ⟨.append false 2 16 (.l 0) (.l 8), none⟩, ⟨.mv (.l 9), none⟩] [(3, 10)]) .skip))))
 (.region [⟨.bin 0 .add (.t 7) (.c (.int .i64 (1))), none⟩, ⟨.mv (.l 0), none⟩] [(7, 1)]))))
def c_i_convoyRow : ACode :=
 (.seq (.region [⟨.mv (.c (.slice none 0 0 none)), none⟩] [(2, 0)])
 (.seq (.region [⟨.buildSlice 2 0 [] [], none⟩, ⟨.mv (.l 0), none⟩] [(3, 1)])
 (.seq (.seq (.region [⟨.mv (.t 0), none⟩, ⟨.len (.l 0), none⟩, ⟨.mv (.c (.int .i64 (0))), none⟩] [(5, 0), (6, 1), (7, 2)])
 (.block 0 (.loop w_i_convoyRow_1)))
 (.seq (.region [⟨.mv (.t 3), none⟩, ⟨.mv (.l 0), none⟩] [(2, 1)])
 .ret))))
def a_i_convoyRow : AFun := ⟨[0, 1, 4, 5, 7, 9, 10, 11, 12, 18], 31, c_i_convoyRow, [.tmp 2], 2⟩
def c_s_DrawRestsOn : ACode :=
 (.seq (.region [⟨.alloc [.int .i64 (0), .int .i64 (0), .int .i64 (0)], none⟩, ⟨.mv (.c (.slice none 0 0 none)), none⟩] [(1, 0), (2, 1)])
 (.seq (.region [⟨.mv (.t 0), none⟩, ⟨.build [.slice none 0 0 none, .int .i64 (0), .int .u64 (0)] [(0, 1, (.l 0))], none⟩, ⟨.box (.l 1), none⟩, ⟨.mv (.l 2), none⟩] [(3, 3)])
 (.seq (.region [⟨.mv (.t 3), none⟩, ⟨.call (.c (.fn f_s_l1Cur_beam [] [])) [(.l 0)], none⟩, ⟨.alloc [.int .i64 (0), .int .i64 (0), .int .i64 (0)], none⟩, ⟨.store 3 (.l 2) (.l 1), none⟩] [(4, 2)])
 (.seq (.draw [⟨.load true 3 (.t 4), none, []⟩, ⟨.mv (.t 3), none, []⟩, ⟨.load true 3 (.t 4), none, []⟩, ⟨.call (.c (.fn f_s_l1Cur_onBeam [] [])) [(.l 1), (.l 2)], none, [(0, ⟨.load true 3 (.t 4), none⟩)]⟩, ⟨.store 3 (.t 1) (.l 0), none, []⟩, ⟨.mv (.l 3), none, []⟩] [(2, 5)])
 .ret))))
def a_s_DrawRestsOn : AFun := ⟨[0, 2, 3, 4, 5], 15, c_s_DrawRestsOn, [.cell 1 true 3, .tmp 2], 2⟩
def w_i_Beam_bends_1 : ACode :=
 (.seq (.region [⟨.bin 0 .lss (.t 7) (.t 6), none⟩] [(8, 0)])
 (.seq (.cond (.t 8) .skip (.exit 0))
 (.seq (.block 1 (.seq (.region [⟨.mv (.t 7), none⟩, ⟨.mv (.l 0), none⟩] [(5, 1)])
 (.region [⟨.mv (.t 4), none⟩, ⟨.load true 3 (.t 2), none⟩, ⟨.mv (.t 1), none⟩, ⟨.mv (.t 5), none⟩, ⟨.call (.c (.fn f_i_Beam_bendAt [] [])) [(.l 1), (.l 2), (.l 3)], none⟩, ⟨.buildSlice 1 1 [.int .i64 (0)] [(0, 1, (.l 4))], none⟩, ⟨.append false 1 8 (.l 0) (.l 5), none⟩, ⟨.mv (.l 6), none⟩] [(4, 7)])))
 (.region [⟨.bin 0 .add (.t 7) (.c (.int .i64 (1))), none⟩, ⟨.mv (.l 0), none⟩] [(7, 1)]))))
def c_i_Beam_bends : ACode :=
 (.seq (.region [⟨.box (.t 0), none⟩, ⟨.mv (.c (.slice none 0 0 none)), none⟩] [(2, 0), (3, 1)])
 (.seq (.region [⟨.buildSlice 1 0 [] [], none⟩, ⟨.mv (.l 0), none⟩] [(4, 1)])
 (.seq (.seq (.region [⟨.fieldAddr 0 (.t 2), none⟩, ⟨.load false 1 (.l 0), none⟩, ⟨.bin 0 .add (.l 1) (.c (.int .i64 (1))), none⟩, ⟨.mv (.c (.int .i64 (0))), none⟩] [(6, 2), (7, 3)])
 (.block 0 (.loop w_i_Beam_bends_1)))
 (.seq (.region [⟨.mv (.t 4), none⟩, ⟨.mv (.l 0), none⟩] [(3, 1)])
 .ret))))
def a_i_Beam_bends : AFun := ⟨[0, 1, 2, 4, 5, 6, 10, 11, 12], 23, c_i_Beam_bends, [.tmp 3], 2⟩
def w_s_l6Bends_1 : ACode :=
 (.seq (.seq (.region [⟨.mv (.t 6), none⟩, ⟨.mv (.t 5), none⟩, ⟨.len (.l 1), none⟩, ⟨.bin 0 .lss (.l 0) (.l 2), none⟩] [(7, 3)])
 (.cond (.t 7) .skip (.exit 0)))
 (.seq (.block 1 (.draw [⟨.mv (.t 4), none, []⟩, ⟨.mv (.t 4), none, []⟩, ⟨.mv (.t 6), none, []⟩, ⟨.indexAddrS 1 (.l 1) (.l 2), none, []⟩, ⟨.load false 1 (.l 3), none, []⟩, ⟨.mv (.t 5), none, []⟩, ⟨.mv (.t 6), none, []⟩, ⟨.indexAddrS 1 (.l 5) (.l 6), none, []⟩, ⟨.load false 1 (.l 7), none, []⟩, ⟨.bin 0 .add (.l 4) (.l 8), none, []⟩, ⟨.buildSlice 1 1 [.int .i64 (0)] [(0, 1, (.l 9))], none, []⟩, ⟨.append false 1 8 (.l 0) (.l 10), none, []⟩, ⟨.mv (.l 11), none, []⟩] [(4, 12)]))
 (.region [⟨.mv (.t 6), none⟩, ⟨.bin 0 .add (.l 0) (.c (.int .i64 (1))), none⟩, ⟨.mv (.l 1), none⟩] [(6, 2)])))
def c_s_l6Bends : ACode :=
 (.seq (.region [⟨.box (.t 0), none⟩, ⟨.mv (.c (.slice none 0 0 none)), none⟩] [(2, 0), (3, 1)])
 (.seq (.region [⟨.buildSlice 1 1 [.int .i64 (0)] [(0, 1, (.c (.int .i64 (0))))], none⟩, ⟨.load true 3 (.t 2), none⟩, ⟨.mv (.t 1), none⟩, ⟨.call (.c (.fn f_s_l6Shears [] [])) [(.l 1), (.l 2)], none⟩, ⟨.mv (.l 0), none⟩, ⟨.mv (.l 3), none⟩] [(4, 4), (5, 5)])
 (.seq (.seq (.region [⟨.mv (.c (.int .i64 (0))), none⟩] [(6, 0)])
 (.block 0 (.loop w_s_l6Bends_1)))
 (.seq (.region [⟨.mv (.t 4), none⟩, ⟨.mv (.l 0), none⟩] [(3, 1)])
 .ret))))
def a_s_l6Bends : AFun := ⟨[0, 1, 2, 4, 5, 6, 7, 15], 31, c_s_l6Bends, [.tmp 3], 2⟩
def c_i_Beam_supports : ACode :=
 (.seq (.region [⟨.box (.t 0), none⟩, ⟨.mv (.c (.int .i64 (0))), none⟩, ⟨.mv (.c (.int .i64 (0))), none⟩] [(2, 0), (3, 1), (4, 2)])
 (.seq (.draw [⟨.mv (.t 1), none, []⟩, ⟨.fieldAddr 2 (.t 2), none, []⟩, ⟨.load false 1 (.l 1), none, []⟩, ⟨.mv (.t 1), none, []⟩, ⟨.fieldAddr 1 (.t 2), none, []⟩, ⟨.load false 1 (.l 4), none, []⟩, ⟨.call (.c (.fn f_i_momentAbout [] [])) [(.l 0), (.l 2)], none, [(5, ⟨.load false 1 (.l 4), none⟩)]⟩, ⟨.un .neg (.l 6), none, []⟩, ⟨.call (.c (.fn f_i_momentAbout [] [])) [(.l 3), (.l 5)], none, []⟩, ⟨.mv (.l 7), none, []⟩, ⟨.mv (.l 8), none, []⟩] [(3, 9), (4, 10)])
 .ret))
def a_i_Beam_supports : AFun := ⟨[0, 1, 2, 4, 5], 15, c_i_Beam_supports, [.tmp 3, .tmp 4], 1⟩
def c_i_Beam_span : ACode :=
 (.seq (.region [⟨.box (.t 0), none⟩, ⟨.mv (.c (.int .i64 (0))), none⟩] [(1, 0), (2, 1)])
 (.seq (.region [⟨.fieldAddr 2 (.t 1), none⟩, ⟨.load false 1 (.l 0), none⟩, ⟨.fieldAddr 1 (.t 1), none⟩, ⟨.load false 1 (.l 2), none⟩, ⟨.bin 0 .sub (.l 1) (.l 3), none⟩, ⟨.mv (.l 4), none⟩] [(2, 5)])
 .ret))
def a_i_Beam_span : AFun := ⟨[0, 1, 2], 8, c_i_Beam_span, [.tmp 2], 1⟩
def w_s_l6Shears_1 : ACode :=
 (.seq (.seq (.region [⟨.mv (.t 7), none⟩, ⟨.fieldAddr 0 (.t 2), none⟩, ⟨.load false 1 (.l 1), none⟩, ⟨.bin 0 .lss (.l 0) (.l 2), none⟩] [(8, 3)])
 (.cond (.t 8) .skip (.exit 0)))
 (.seq (.block 1 (.seq (.region [⟨.mv (.t 5), none⟩, ⟨.mv (.t 6), none⟩, ⟨.mv (.t 7), none⟩, ⟨.indexAddrS 1 (.l 1) (.l 2), none⟩, ⟨.load false 1 (.l 3), none⟩, ⟨.bin 0 .add (.l 0) (.l 4), none⟩, ⟨.mv (.l 5), none⟩] [(5, 6)])
 (.region [⟨.mv (.t 4), none⟩, ⟨.mv (.t 5), none⟩, ⟨.buildSlice 1 1 [.int .i64 (0)] [(0, 1, (.l 1))], none⟩, ⟨.append false 1 8 (.l 0) (.l 2), none⟩, ⟨.mv (.l 3), none⟩] [(4, 4)])))
 (.region [⟨.mv (.t 7), none⟩, ⟨.bin 0 .add (.l 0) (.c (.int .i64 (1))), none⟩, ⟨.mv (.l 1), none⟩] [(7, 2)])))
def c_s_l6Shears : ACode :=
 (.seq (.region [⟨.box (.t 0), none⟩, ⟨.mv (.c (.slice none 0 0 none)), none⟩] [(2, 0), (3, 1)])
 (.seq (.region [⟨.buildSlice 1 0 [] [], none⟩, ⟨.load true 3 (.t 2), none⟩, ⟨.mv (.t 1), none⟩, ⟨.call (.c (.fn f_s_l6Forces [] [])) [(.l 1), (.l 2)], none⟩, ⟨.mv (.l 0), none⟩, ⟨.mv (.c (.int .i64 (0))), none⟩, ⟨.mv (.l 3), none⟩] [(4, 4), (5, 5), (6, 6)])
 (.seq (.seq (.region [⟨.mv (.c (.int .i64 (0))), none⟩] [(7, 0)])
 (.block 0 (.loop w_s_l6Shears_1)))
 (.seq (.region [⟨.mv (.t 4), none⟩, ⟨.mv (.l 0), none⟩] [(3, 1)])
 .ret))))
def a_s_l6Shears : AFun := ⟨[0, 1, 2, 4, 5, 6, 7, 8, 16], 30, c_s_l6Shears, [.tmp 3], 2⟩
def w_s_l2Moment_1 : ACode :=
 (.seq (.seq (.region [⟨.mv (.t 4), none⟩, ⟨.mv (.t 0), none⟩, ⟨.len (.l 1), none⟩, ⟨.bin 0 .lss (.l 0) (.l 2), none⟩] [(5, 3)])
 (.cond (.t 5) .skip (.exit 0)))
 (.seq (.block 1 (.draw [⟨.mv (.t 3), none, []⟩, ⟨.mv (.t 0), none, []⟩, ⟨.mv (.t 4), none, []⟩, ⟨.indexAddrS 2 (.l 1) (.l 2), none, []⟩, ⟨.fieldAddr 1 (.l 3), none, []⟩, ⟨.load false 1 (.l 4), none, []⟩, ⟨.mv (.t 0), none, []⟩, ⟨.mv (.t 4), none, []⟩, ⟨.indexAddrS 2 (.l 6) (.l 7), none, []⟩, ⟨.fieldAddr 0 (.l 8), none, []⟩, ⟨.load false 1 (.l 9), none, []⟩, ⟨.mv (.t 1), none, []⟩, ⟨.bin 0 .sub (.l 10) (.l 11), none, []⟩, ⟨.bin 0 .mul (.l 5) (.l 12), none, []⟩, ⟨.bin 0 .add (.l 0) (.l 13), none, []⟩, ⟨.mv (.l 14), none, []⟩] [(3, 15)]))
 (.region [⟨.mv (.t 4), none⟩, ⟨.bin 0 .add (.l 0) (.c (.int .i64 (1))), none⟩, ⟨.mv (.l 1), none⟩] [(4, 2)])))
def c_s_l2Moment : ACode :=
 (.seq (.region [⟨.mv (.c (.int .i64 (0))), none⟩] [(2, 0)])
 (.seq (.region [⟨.mv (.c (.int .i64 (0))), none⟩] [(3, 0)])
 (.seq (.seq (.region [⟨.mv (.c (.int .i64 (0))), none⟩] [(4, 0)])
 (.block 0 (.loop w_s_l2Moment_1)))
 (.seq (.region [⟨.mv (.t 3), none⟩, ⟨.mv (.l 0), none⟩] [(2, 1)])
 .ret))))
def a_s_l2Moment : AFun := ⟨[0, 1, 4, 5, 6, 10], 29, c_s_l2Moment, [.tmp 2], 1⟩
def c_s_l1Most : ACode :=
 (.seq (.region [⟨.mv (.c (.int .i64 (0))), none⟩] [(2, 0)])
 (.seq (.seq (.region [⟨.mv (.t 0), none⟩, ⟨.mv (.t 1), none⟩, ⟨.bin 0 .gtr (.l 0) (.l 1), none⟩] [(3, 2)])
 (.cond (.t 3) (.seq (.region [⟨.mv (.t 0), none⟩, ⟨.mv (.l 0), none⟩] [(2, 1)])
 .ret) .skip))
 (.seq (.region [⟨.mv (.t 1), none⟩, ⟨.mv (.l 0), none⟩] [(2, 1)])
 .ret)))
def a_s_l1Most : AFun := ⟨[0, 1, 4, 7], 10, c_s_l1Most, [.tmp 2], 1⟩
def c_s_l1Cur_beam : ACode :=
 (.seq (.region [⟨.alloc [.int .i64 (0), .int .i64 (0), .int .i64 (0)], none⟩] [(1, 0)])
 (.seq (.region [⟨.mv (.t 0), none⟩, ⟨.buildSlice 1 8 [.int .i64 (0), .int .i64 (0), .int .i64 (0), .int .i64 (0), .int .i64 (0), .int .i64 (0), .int .i64 (0), .int .i64 (0)] [(0, 1, (.c (.int .i64 (8)))), (1, 1, (.c (.int .i64 (10)))), (2, 1, (.c (.int .i64 (6)))), (3, 1, (.c (.int .i64 (4)))), (4, 1, (.c (.int .i64 (12)))), (5, 1, (.c (.int .i64 (1)))), (6, 1, (.c (.int .i64 (20)))), (7, 1, (.c (.int .i64 (60))))], none⟩, ⟨.call (.c (.fn f_s_l1Cur_among [] [])) [(.l 0), (.l 1)], none⟩, ⟨.mv (.l 2), none⟩] [(2, 3)])
 (.seq (.region [⟨.mv (.t 2), none⟩, ⟨.mv (.t 2), none⟩, ⟨.build [.int .i64 (0), .int .i64 (0), .int .i64 (0)] [(0, 1, (.l 0)), (1, 1, (.c (.int .i64 (0)))), (2, 1, (.l 1))], none⟩, ⟨.alloc [.int .i64 (0), .int .i64 (0), .int .i64 (0)], none⟩, ⟨.store 3 (.l 3) (.l 2), none⟩] [(3, 3)])
 (.seq (.seq (.region [⟨.mv (.t 0), none⟩, ⟨.call (.c (.fn f_s_l1Cur_one [] [])) [(.l 0), (.c (.int .i64 (2)))], none⟩] [(4, 1)])
 (.cond (.t 4) (.seq (.region [⟨.mv (.t 0), none⟩, ⟨.mv (.t 2), none⟩, ⟨.call (.c (.fn f_s_l1Cur_pick [] [])) [(.l 0), (.l 1)], none⟩, ⟨.fieldAddr 1 (.t 3), none⟩, ⟨.store 1 (.l 3) (.l 2), none⟩] [])
 (.draw [⟨.fieldAddr 1 (.t 3), none, []⟩, ⟨.load false 1 (.l 0), none, []⟩, ⟨.bin 0 .add (.l 1) (.c (.int .i64 (1))), none, []⟩, ⟨.mv (.t 0), none, []⟩, ⟨.mv (.t 2), none, []⟩, ⟨.fieldAddr 1 (.t 3), none, []⟩, ⟨.load false 1 (.l 5), none, []⟩, ⟨.bin 0 .sub (.l 4) (.l 6), none, []⟩, ⟨.call (.c (.fn f_s_l1Cur_pick [] [])) [(.l 3), (.l 7)], none, [(1, ⟨.load false 1 (.l 0), none⟩)]⟩, ⟨.bin 0 .add (.l 2) (.l 8), none, []⟩, ⟨.fieldAddr 2 (.t 3), none, []⟩, ⟨.store 1 (.l 10) (.l 9), none, []⟩] [])) .skip))
 (.seq (.seq (.region [⟨.mv (.t 0), none⟩, ⟨.call (.c (.fn f_s_l1Cur_pick [] [])) [(.l 0), (.c (.int .i64 (50)))], none⟩] [(5, 1)])
 (.block 0 (.seq (.region [⟨.bin 0 .eql (.t 5) (.c (.int .i64 (0))), none⟩, ⟨.mv (.l 0), none⟩] [(6, 1)])
 (.cond (.t 6) (.region [⟨.mv (.t 0), none⟩, ⟨.buildSlice 1 3 [.int .i64 (0), .int .i64 (0), .int .i64 (0)] [(0, 1, (.c (.int .i64 (0)))), (1, 1, (.c (.int .i64 (61)))), (2, 1, (.c (.int .i64 (-1))))], none⟩, ⟨.call (.c (.fn f_s_l1Cur_among [] [])) [(.l 0), (.l 1)], none⟩, ⟨.fieldAddr 0 (.t 3), none⟩, ⟨.store 1 (.l 3) (.l 2), none⟩] []) (.seq (.region [⟨.bin 0 .eql (.t 5) (.c (.int .i64 (1))), none⟩, ⟨.mv (.l 0), none⟩] [(7, 1)])
 (.cond (.t 7) (.region [⟨.mv (.t 0), none⟩, ⟨.fieldAddr 2 (.t 3), none⟩, ⟨.load false 1 (.l 1), none⟩, ⟨.fieldAddr 2 (.t 3), none⟩, ⟨.load false 1 (.l 3), none⟩, ⟨.bin 0 .add (.l 4) (.c (.int .i64 (1))), none⟩, ⟨.buildSlice 1 3 [.int .i64 (0), .int .i64 (0), .int .i64 (0)] [(0, 1, (.c (.int .i64 (-1)))), (1, 1, (.l 2)), (2, 1, (.l 5))], none⟩, ⟨.call (.c (.fn f_s_l1Cur_among [] [])) [(.l 0), (.l 6)], none⟩, ⟨.fieldAddr 1 (.t 3), none⟩, ⟨.store 1 (.l 8) (.l 7), none⟩] []) (.seq (.region [⟨.bin 0 .eql (.t 5) (.c (.int .i64 (2))), none⟩, ⟨.mv (.l 0), none⟩] [(8, 1)])
 (.cond (.t 8) (.region [⟨.mv (.t 0), none⟩, ⟨.fieldAddr 0 (.t 3), none⟩, ⟨.load false 1 (.l 1), none⟩, ⟨.bin 0 .add (.l 2) (.c (.int .i64 (1))), none⟩, ⟨.buildSlice 1 3 [.int .i64 (0), .int .i64 (0), .int .i64 (0)] [(0, 1, (.l 3)), (1, 1, (.c (.int .i64 (0)))), (2, 1, (.c (.int .i64 (4611686018427387904))))], none⟩, ⟨.call (.c (.fn f_s_l1Cur_among [] [])) [(.l 0), (.l 4)], none⟩, ⟨.fieldAddr 2 (.t 3), none⟩, ⟨.store 1 (.l 6) (.l 5), none⟩] []) .skip))))))))
 (.seq (.region [⟨.load true 3 (.t 3), none⟩, ⟨.store 3 (.t 1) (.l 0), none⟩] [])
 .ret))))))
def a_s_l1Cur_beam : AFun := ⟨[0, 2, 3, 4, 12, 29, 30, 36, 47], 57, c_s_l1Cur_beam, [.cell 1 true 3], 1⟩
def c_s_l1Cur_placeOn : ACode :=
 (.seq (.region [⟨.box (.t 1), none⟩, ⟨.mv (.c (.int .i64 (0))), none⟩] [(2, 0), (3, 1)])
 (.seq (.seq (.region [⟨.mv (.t 0), none⟩, ⟨.call (.c (.fn f_s_l1Cur_one [] [])) [(.l 0), (.c (.int .i64 (24)))], none⟩] [(4, 1)])
 (.cond (.t 4) (.seq (.region [⟨.mv (.t 0), none⟩, ⟨.fieldAddr 0 (.t 2), none⟩, ⟨.load false 1 (.l 1), none⟩, ⟨.fieldAddr 0 (.t 2), none⟩, ⟨.load false 1 (.l 3), none⟩, ⟨.bin 0 .add (.l 4) (.c (.int .i64 (1))), none⟩, ⟨.buildSlice 1 4 [.int .i64 (0), .int .i64 (0), .int .i64 (0), .int .i64 (0)] [(0, 1, (.c (.int .i64 (-1)))), (1, 1, (.l 2)), (2, 1, (.l 5)), (3, 1, (.c (.int .i64 (4611686018427387904))))], none⟩, ⟨.call (.c (.fn f_s_l1Cur_among [] [])) [(.l 0), (.l 6)], none⟩, ⟨.mv (.l 7), none⟩] [(3, 8)])
 .ret) .skip))
 (.seq (.region [⟨.mv (.t 0), none⟩, ⟨.fieldAddr 0 (.t 2), none⟩, ⟨.load false 1 (.l 1), none⟩, ⟨.call (.c (.fn f_s_l1Least [] [])) [(.l 2), (.c (.int .i64 (60)))], none⟩, ⟨.call (.c (.fn f_s_l1Most [] [])) [(.l 3), (.c (.int .i64 (0)))], none⟩, ⟨.bin 0 .add (.l 4) (.c (.int .i64 (1))), none⟩, ⟨.call (.c (.fn f_s_l1Cur_pick [] [])) [(.l 0), (.l 5)], none⟩, ⟨.mv (.l 6), none⟩] [(3, 7)])
 .ret)))
def a_s_l1Cur_placeOn : AFun := ⟨[0, 1, 3, 4, 6], 22, c_s_l1Cur_placeOn, [.tmp 3], 1⟩
def c_i_isOnBeam : ACode :=
 (.seq (.region [⟨.box (.t 0), none⟩, ⟨.mv (.c (.bool false)), none⟩] [(2, 0), (3, 1)])
 (.seq (.region [⟨.load true 3 (.t 2), none⟩, ⟨.call (.c (.fn f_i_IsBeam [] [])) [(.l 0)], none⟩, ⟨.mv (.l 1), none⟩, ⟨.mv (.t 1), some ((.l 2), true)⟩, ⟨.fieldAddr 0 (.t 2), some ((.l 2), true)⟩, ⟨.load false 1 (.l 4), some ((.l 2), true)⟩, ⟨.call (.c (.fn f_i_within [] [])) [(.l 3), (.c (.int .i64 (0))), (.l 5)], some ((.l 2), true)⟩, ⟨.pick (.l 2) (.l 6) (.c (.bool false)), none⟩, ⟨.mv (.l 7), none⟩] [(3, 8)])
 .ret))
def a_i_isOnBeam : AFun := ⟨[0, 1, 2, 4], 13, c_i_isOnBeam, [.tmp 3], 1⟩
def w_i_Beam_bendAt_1 : ACode :=
 (.seq (.region [⟨.bin 0 .lss (.t 11) (.t 10), none⟩] [(12, 0)])
 (.seq (.cond (.t 12) .skip (.exit 0))
 (.seq (.block 1 (.seq (.region [⟨.indexAddrS 2 (.t 9) (.t 11), none⟩, ⟨.load true 2 (.l 0), none⟩, ⟨.alloc [.int .i64 (0), .int .i64 (0)], none⟩, ⟨.store 2 (.l 2) (.l 1), none⟩] [(8, 2)])
 (.draw [⟨.mv (.t 7), none, []⟩, ⟨.load true 3 (.t 3), none, []⟩, ⟨.fieldAddr 1 (.t 8), none, []⟩, ⟨.load false 1 (.l 2), none, []⟩, ⟨.mv (.t 2), none, []⟩, ⟨.fieldAddr 0 (.t 8), none, []⟩, ⟨.load false 1 (.l 5), none, []⟩, ⟨.bin 0 .sub (.l 4) (.l 6), none, []⟩, ⟨.max2 (.l 7) (.c (.int .i64 (0))), none, []⟩, ⟨.call (.c (.fn f_i_Beam_span [] [])) [(.l 1)], none, [(3, ⟨.load false 1 (.l 2), none⟩), (6, ⟨.load false 1 (.l 5), none⟩)]⟩, ⟨.bin 0 .mul (.l 9) (.l 3), none, []⟩, ⟨.bin 0 .mul (.l 10) (.l 8), none, []⟩, ⟨.bin 0 .sub (.l 0) (.l 11), none, []⟩, ⟨.mv (.l 12), none, []⟩] [(7, 13)])))
 (.region [⟨.bin 0 .add (.t 11) (.c (.int .i64 (1))), none⟩, ⟨.mv (.l 0), none⟩] [(11, 1)]))))
def c_i_Beam_bendAt : ACode :=
 (.seq (.region [⟨.box (.t 0), none⟩, ⟨.mv (.c (.int .i64 (0))), none⟩] [(3, 0), (4, 1)])
 (.seq (.region [⟨.load true 3 (.t 3), none⟩, ⟨.mv (.t 1), none⟩, ⟨.call (.c (.fn f_i_Beam_supports [] [])) [(.l 0), (.l 1)], none⟩, ⟨.mv (.l 2), none⟩, ⟨.extract 0 (.l 3), none⟩, ⟨.extract 1 (.l 3), none⟩, ⟨.mv (.l 4), none⟩, ⟨.mv (.l 5), none⟩] [(5, 6), (6, 7)])
 (.seq (.region [⟨.mv (.t 5), none⟩, ⟨.mv (.t 2), none⟩, ⟨.fieldAddr 1 (.t 3), none⟩, ⟨.load false 1 (.l 2), none⟩, ⟨.bin 0 .sub (.l 1) (.l 3), none⟩, ⟨.max2 (.l 4) (.c (.int .i64 (0))), none⟩, ⟨.bin 0 .mul (.l 0) (.l 5), none⟩, ⟨.mv (.t 6), none⟩, ⟨.mv (.t 2), none⟩, ⟨.fieldAddr 2 (.t 3), none⟩, ⟨.load false 1 (.l 9), none⟩, ⟨.bin 0 .sub (.l 8) (.l 10), none⟩, ⟨.max2 (.l 11) (.c (.int .i64 (0))), none⟩, ⟨.bin 0 .mul (.l 7) (.l 12), none⟩, ⟨.bin 0 .add (.l 6) (.l 13), none⟩, ⟨.mv (.l 14), none⟩] [(7, 15)])
 (.seq (.seq (.region [⟨.mv (.t 1), none⟩, ⟨.len (.l 0), none⟩, ⟨.mv (.c (.int .i64 (0))), none⟩] [(9, 0), (10, 1), (11, 2)])
 (.block 0 (.loop w_i_Beam_bendAt_1)))
 (.seq (.region [⟨.mv (.t 7), none⟩, ⟨.mv (.l 0), none⟩] [(4, 1)])
 .ret)))))
def a_i_Beam_bendAt : AFun := ⟨[0, 1, 2, 3, 6, 7, 8, 9, 11, 33, 34, 35, 36], 54, c_i_Beam_bendAt, [.tmp 4], 1⟩
def c_s_l1In : ACode :=
 (.seq (.region [⟨.mv (.c (.bool false)), none⟩] [(3, 0)])
 (.seq (.region [⟨.mv (.t 0), none⟩, ⟨.mv (.t 1), none⟩, ⟨.bin 0 .geq (.l 0) (.l 1), none⟩, ⟨.mv (.l 2), none⟩, ⟨.mv (.t 0), some ((.l 3), true)⟩, ⟨.mv (.t 2), some ((.l 3), true)⟩, ⟨.bin 0 .leq (.l 4) (.l 5), some ((.l 3), true)⟩, ⟨.pick (.l 3) (.l 6) (.c (.bool false)), none⟩, ⟨.mv (.l 7), none⟩] [(3, 8)])
 .ret))
def a_s_l1In : AFun := ⟨[0, 1, 2, 6], 15, c_s_l1In, [.tmp 3], 1⟩
def w_s_l6Influence_1 : ACode :=
 (.seq (.seq (.region [⟨.mv (.t 5), none⟩, ⟨.fieldAddr 0 (.t 2), none⟩, ⟨.load false 1 (.l 1), none⟩, ⟨.bin 0 .leq (.l 0) (.l 2), none⟩] [(6, 3)])
 (.cond (.t 6) .skip (.exit 0)))
 (.seq (.block 1 (.region [⟨.mv (.t 4), none⟩, ⟨.load true 3 (.t 2), none⟩, ⟨.mv (.t 5), none⟩, ⟨.build [.int .i64 (0), .int .i64 (0)] [(0, 1, (.l 2)), (1, 1, (.c (.int .i64 (1))))], none⟩, ⟨.buildSlice 2 1 [.int .i64 (0), .int .i64 (0)] [(0, 2, (.l 3))], none⟩, ⟨.call (.c (.fn f_s_l6Bends [] [])) [(.l 1), (.l 4)], none⟩, ⟨.mv (.t 1), none⟩, ⟨.indexAddrS 1 (.l 5) (.l 6), none⟩, ⟨.load false 1 (.l 7), none⟩, ⟨.buildSlice 1 1 [.int .i64 (0)] [(0, 1, (.l 8))], none⟩, ⟨.append false 1 8 (.l 0) (.l 9), none⟩, ⟨.mv (.l 10), none⟩] [(4, 11)]))
 (.region [⟨.mv (.t 5), none⟩, ⟨.bin 0 .add (.l 0) (.c (.int .i64 (1))), none⟩, ⟨.mv (.l 1), none⟩] [(5, 2)])))
def c_s_l6Influence : ACode :=
 (.seq (.region [⟨.box (.t 0), none⟩, ⟨.mv (.c (.slice none 0 0 none)), none⟩] [(2, 0), (3, 1)])
 (.seq (.region [⟨.buildSlice 1 0 [] [], none⟩, ⟨.mv (.l 0), none⟩] [(4, 1)])
 (.seq (.seq (.region [⟨.mv (.c (.int .i64 (0))), none⟩] [(5, 0)])
 (.block 0 (.loop w_s_l6Influence_1)))
 (.seq (.region [⟨.mv (.t 4), none⟩, ⟨.mv (.l 0), none⟩] [(3, 1)])
 .ret))))
def a_s_l6Influence : AFun := ⟨[0, 1, 2, 4, 5, 6, 11], 26, c_s_l6Influence, [.tmp 3], 2⟩
def c_i_within : ACode :=
 (.seq (.region [⟨.mv (.c (.bool false)), none⟩] [(3, 0)])
 (.seq (.region [⟨.mv (.t 0), none⟩, ⟨.mv (.t 1), none⟩, ⟨.bin 0 .geq (.l 0) (.l 1), none⟩, ⟨.mv (.l 2), none⟩, ⟨.mv (.t 0), some ((.l 3), true)⟩, ⟨.mv (.t 2), some ((.l 3), true)⟩, ⟨.bin 0 .leq (.l 4) (.l 5), some ((.l 3), true)⟩, ⟨.pick (.l 3) (.l 6) (.c (.bool false)), none⟩, ⟨.mv (.l 7), none⟩] [(3, 8)])
 .ret))
def a_i_within : AFun := ⟨[0, 1, 2, 6], 15, c_i_within, [.tmp 3], 1⟩
def w_s_l1Cur_onBeam_1 : ACode :=
 (.seq (.seq (.region [⟨.mv (.t 5), none⟩, ⟨.mv (.t 4), none⟩, ⟨.len (.l 1), none⟩, ⟨.bin 0 .lss (.l 0) (.l 2), none⟩] [(7, 3)])
 (.cond (.t 7) .skip (.exit 0)))
 (.seq (.block 1 (.draw [⟨.mv (.t 4), none, []⟩, ⟨.mv (.t 5), none, []⟩, ⟨.mv (.t 4), none, []⟩, ⟨.mv (.t 5), none, []⟩, ⟨.indexAddrS 2 (.l 2) (.l 3), none, []⟩, ⟨.fieldAddr 0 (.l 4), none, []⟩, ⟨.load false 1 (.l 5), none, []⟩, ⟨.fieldAddr 0 (.t 2), none, []⟩, ⟨.load false 1 (.l 7), none, []⟩, ⟨.bin 0 .add (.l 8) (.c (.int .i64 (1))), none, []⟩, ⟨.bin 0 .rem (.l 6) (.l 9), none, []⟩, ⟨.indexAddrS 2 (.l 0) (.l 1), none, []⟩, ⟨.fieldAddr 0 (.l 11), none, []⟩, ⟨.store 1 (.l 12) (.l 10), none, []⟩] []))
 (.region [⟨.mv (.t 5), none⟩, ⟨.bin 0 .add (.l 0) (.c (.int .i64 (1))), none⟩, ⟨.mv (.l 1), none⟩] [(5, 2)])))
def c_s_l1Cur_onBeam : ACode :=
 (.seq (.region [⟨.box (.t 1), none⟩, ⟨.mv (.c (.slice none 0 0 none)), none⟩] [(2, 0), (3, 1)])
 (.seq (.region [⟨.mv (.t 0), none⟩, ⟨.call (.c (.fn f_s_l1Cur_row [] [])) [(.l 0)], none⟩, ⟨.mv (.l 1), none⟩] [(4, 2)])
 (.seq (.seq (.region [⟨.load true 3 (.t 2), none⟩, ⟨.call (.c (.fn f_s_l6Beam [] [])) [(.l 0)], none⟩, ⟨.mv (.l 1), none⟩, ⟨.mv (.t 4), some ((.l 2), true)⟩, ⟨.call (.c (.fn f_s_l2Row [] [])) [(.l 3)], some ((.l 2), true)⟩, ⟨.pick (.l 2) (.l 4) (.c (.bool false)), none⟩, ⟨.mv (.l 5), none⟩, ⟨.mv (.t 0), some ((.l 6), true)⟩, ⟨.call (.c (.fn f_s_l1Cur_one [] [])) [(.l 7), (.c (.int .i64 (16)))], some ((.l 6), true)⟩, ⟨.un .not (.l 8), some ((.l 6), true)⟩, ⟨.pick (.l 6) (.l 9) (.c (.bool false)), none⟩] [(6, 10)])
 (.cond (.t 6) (.seq (.region [⟨.mv (.c (.int .i64 (0))), none⟩] [(5, 0)])
 (.block 0 (.loop w_s_l1Cur_onBeam_1))) .skip))
 (.seq (.region [⟨.mv (.t 4), none⟩, ⟨.mv (.l 0), none⟩] [(3, 1)])
 .ret))))
def a_s_l1Cur_onBeam : AFun := ⟨[0, 1, 3, 4, 5, 6, 19, 23], 40, c_s_l1Cur_onBeam, [.tmp 3], 2⟩
def c_i_IsRow : ACode :=
 (.seq (.region [⟨.mv (.c (.bool false)), none⟩] [(1, 0)])
 (.seq (.seq (.region [⟨.mv (.t 0), none⟩, ⟨.len (.l 0), none⟩, ⟨.bin 0 .gtr (.l 1) (.c (.int .i64 (12))), none⟩] [(2, 2)])
 (.cond (.t 2) (.seq (.region [⟨.mv (.c (.bool false)), none⟩] [(1, 0)])
 .ret) .skip))
 (.seq (.region [⟨.mv (.t 0), none⟩, ⟨.call (.c (.fn f_slices_ContainsFunc_Si_Load_i_Load [] [])) [(.l 0), (.c (.fn f_i_IsRow_1 [] []))], none⟩, ⟨.un .not (.l 1), none⟩, ⟨.mv (.l 2), none⟩] [(1, 3)])
 .ret)))
def a_i_IsRow : AFun := ⟨[0, 2, 5], 9, c_i_IsRow, [.tmp 1], 1⟩
def w_i_weightOf_1 : ACode :=
 (.seq (.region [⟨.bin 0 .lss (.t 6) (.t 5), none⟩] [(7, 0)])
 (.seq (.cond (.t 7) .skip (.exit 0))
 (.seq (.block 1 (.seq (.region [⟨.indexAddrS 2 (.t 4) (.t 6), none⟩, ⟨.load true 2 (.l 0), none⟩, ⟨.alloc [.int .i64 (0), .int .i64 (0)], none⟩, ⟨.store 2 (.l 2) (.l 1), none⟩] [(3, 2)])
 (.region [⟨.mv (.t 2), none⟩, ⟨.fieldAddr 1 (.t 3), none⟩, ⟨.load false 1 (.l 1), none⟩, ⟨.bin 0 .add (.l 0) (.l 2), none⟩, ⟨.mv (.l 3), none⟩] [(2, 4)])))
 (.region [⟨.bin 0 .add (.t 6) (.c (.int .i64 (1))), none⟩, ⟨.mv (.l 0), none⟩] [(6, 1)]))))
def c_i_weightOf : ACode :=
 (.seq (.region [⟨.mv (.c (.int .i64 (0))), none⟩] [(1, 0)])
 (.seq (.region [⟨.mv (.c (.int .i64 (0))), none⟩] [(2, 0)])
 (.seq (.seq (.region [⟨.mv (.t 0), none⟩, ⟨.len (.l 0), none⟩, ⟨.mv (.c (.int .i64 (0))), none⟩] [(4, 0), (5, 1), (6, 2)])
 (.block 0 (.loop w_i_weightOf_1)))
 (.seq (.region [⟨.mv (.t 2), none⟩, ⟨.mv (.l 0), none⟩] [(1, 1)])
 .ret))))
def a_i_weightOf : AFun := ⟨[0, 2, 3, 5, 6, 7, 8, 9], 18, c_i_weightOf, [.tmp 1], 1⟩
def w_s_l1Cur_convoy_1 : ACode :=
 (.seq (.seq (.region [⟨.mv (.t 4), none⟩, ⟨.bin 0 .gtr (.l 0) (.c (.int .i64 (0))), none⟩] [(5, 1)])
 (.cond (.t 5) .skip (.exit 0)))
 (.seq (.block 1 (.seq (.region [⟨.mv (.t 2), none⟩, ⟨.mv (.t 3), none⟩, ⟨.mv (.t 0), none⟩, ⟨.mv (.t 0), none⟩, ⟨.buildSlice 1 3 [.int .i64 (0), .int .i64 (0), .int .i64 (0)] [(0, 1, (.c (.int .i64 (3)))), (1, 1, (.c (.int .i64 (9)))), (2, 1, (.c (.int .i64 (30))))], none⟩, ⟨.call (.c (.fn f_s_l1Cur_among [] [])) [(.l 3), (.l 4)], none⟩, ⟨.call (.c (.fn f_s_l1Cur_pick [] [])) [(.l 2), (.l 5)], none⟩, ⟨.bin 0 .add (.c (.int .i64 (1))) (.l 6), none⟩, ⟨.build [.int .i64 (0), .int .i64 (0)] [(0, 1, (.l 1)), (1, 1, (.l 7))], none⟩, ⟨.buildSlice 2 1 [.int .i64 (0), .int .i64 (0)] [(0, 2, (.l 8))], none⟩, ⟨.append false 2 16 (.l 0) (.l 9), none⟩, ⟨.mv (.l 10), none⟩] [(2, 11)])
 (.region [⟨.mv (.t 3), none⟩, ⟨.mv (.t 0), none⟩, ⟨.call (.c (.fn f_s_l1Cur_pick [] [])) [(.l 1), (.c (.int .i64 (4)))], none⟩, ⟨.bin 0 .add (.l 0) (.l 2), none⟩, ⟨.mv (.l 3), none⟩] [(3, 4)])))
 (.region [⟨.mv (.t 4), none⟩, ⟨.bin 0 .sub (.l 0) (.c (.int .i64 (1))), none⟩, ⟨.mv (.l 1), none⟩] [(4, 2)])))
def w_s_l1Cur_convoy_2 : ACode :=
 (.seq (.seq (.region [⟨.mv (.t 2), none⟩, ⟨.len (.l 0), none⟩, ⟨.bin 0 .lss (.l 1) (.c (.int .i64 (7))), none⟩] [(11, 2)])
 (.cond (.t 11) .skip (.exit 3)))
 (.block 4 (.region [⟨.mv (.t 2), none⟩, ⟨.mv (.t 3), none⟩, ⟨.build [.int .i64 (0), .int .i64 (0)] [(0, 1, (.l 1)), (1, 1, (.c (.int .i64 (1))))], none⟩, ⟨.buildSlice 2 1 [.int .i64 (0), .int .i64 (0)] [(0, 2, (.l 2))], none⟩, ⟨.append false 2 16 (.l 0) (.l 3), none⟩, ⟨.mv (.l 4), none⟩] [(2, 5)])))
def c_s_l1Cur_convoy : ACode :=
 (.seq (.region [⟨.mv (.c (.slice none 0 0 none)), none⟩] [(1, 0)])
 (.seq (.region [⟨.buildSlice 2 0 [] [], none⟩, ⟨.mv (.l 0), none⟩, ⟨.mv (.c (.int .i64 (0))), none⟩] [(2, 1), (3, 2)])
 (.seq (.seq (.region [⟨.mv (.t 0), none⟩, ⟨.buildSlice 1 5 [.int .i64 (0), .int .i64 (0), .int .i64 (0), .int .i64 (0), .int .i64 (0)] [(0, 1, (.c (.int .i64 (2)))), (1, 1, (.c (.int .i64 (3)))), (2, 1, (.c (.int .i64 (1)))), (3, 1, (.c (.int .i64 (4)))), (4, 1, (.c (.int .i64 (6))))], none⟩, ⟨.call (.c (.fn f_s_l1Cur_among [] [])) [(.l 0), (.l 1)], none⟩, ⟨.mv (.l 2), none⟩] [(4, 3)])
 (.block 0 (.loop w_s_l1Cur_convoy_1)))
 (.seq (.seq (.region [⟨.mv (.t 0), none⟩, ⟨.call (.c (.fn f_s_l1Cur_pick [] [])) [(.l 0), (.c (.int .i64 (40)))], none⟩] [(6, 1)])
 (.block 2 (.seq (.region [⟨.bin 0 .eql (.t 6) (.c (.int .i64 (0))), none⟩, ⟨.mv (.l 0), none⟩] [(7, 1)])
 (.cond (.t 7) (.region [⟨.mv (.t 2), none⟩, ⟨.mv (.t 0), none⟩, ⟨.buildSlice 1 2 [.int .i64 (0), .int .i64 (0)] [(0, 1, (.c (.int .i64 (1)))), (1, 1, (.c (.int .i64 (-1))))], none⟩, ⟨.call (.c (.fn f_s_l1Cur_among [] [])) [(.l 1), (.l 2)], none⟩, ⟨.indexAddrS 2 (.l 0) (.c (.int .i64 (0))), none⟩, ⟨.fieldAddr 0 (.l 4), none⟩, ⟨.store 1 (.l 5) (.l 3), none⟩] []) (.seq (.region [⟨.bin 0 .eql (.t 6) (.c (.int .i64 (1))), none⟩, ⟨.mv (.l 0), none⟩] [(8, 1)])
 (.cond (.t 8) (.region [⟨.mv (.t 2), none⟩, ⟨.mv (.t 2), none⟩, ⟨.len (.l 1), none⟩, ⟨.bin 0 .sub (.l 2) (.c (.int .i64 (1))), none⟩, ⟨.mv (.t 0), none⟩, ⟨.buildSlice 1 3 [.int .i64 (0), .int .i64 (0), .int .i64 (0)] [(0, 1, (.c (.int .i64 (20)))), (1, 1, (.c (.int .i64 (21)))), (2, 1, (.c (.int .i64 (-1))))], none⟩, ⟨.call (.c (.fn f_s_l1Cur_among [] [])) [(.l 4), (.l 5)], none⟩, ⟨.indexAddrS 2 (.l 0) (.l 3), none⟩, ⟨.fieldAddr 0 (.l 7), none⟩, ⟨.store 1 (.l 8) (.l 6), none⟩] []) (.seq (.region [⟨.bin 0 .eql (.t 6) (.c (.int .i64 (2))), none⟩, ⟨.mv (.l 0), none⟩] [(9, 1)])
 (.cond (.t 9) (.region [⟨.mv (.t 2), none⟩, ⟨.mv (.t 0), none⟩, ⟨.buildSlice 1 3 [.int .i64 (0), .int .i64 (0), .int .i64 (0)] [(0, 1, (.c (.int .i64 (0)))), (1, 1, (.c (.int .i64 (99)))), (2, 1, (.c (.int .i64 (100))))], none⟩, ⟨.call (.c (.fn f_s_l1Cur_among [] [])) [(.l 1), (.l 2)], none⟩, ⟨.indexAddrS 2 (.l 0) (.c (.int .i64 (0))), none⟩, ⟨.fieldAddr 1 (.l 4), none⟩, ⟨.store 1 (.l 5) (.l 3), none⟩] []) (.seq (.region [⟨.bin 0 .eql (.t 6) (.c (.int .i64 (3))), none⟩, ⟨.mv (.l 0), none⟩] [(10, 1)])
 (.cond (.t 10) (.block 3 (.loop w_s_l1Cur_convoy_2)) (.seq (.region [⟨.bin 0 .eql (.t 6) (.c (.int .i64 (4))), none⟩, ⟨.mv (.l 0), none⟩] [(12, 1)])
 (.cond (.t 12) (.region [⟨.buildSlice 2 0 [] [], none⟩, ⟨.mv (.l 0), none⟩] [(2, 1)]) .skip))))))))))))
 (.seq (.region [⟨.mv (.t 2), none⟩, ⟨.mv (.l 0), none⟩] [(1, 1)])
 .ret)))))
def a_s_l1Cur_convoy : AFun := ⟨[0, 2, 3, 4, 5, 11, 30, 31, 39, 50, 58, 62, 68], 72, c_s_l1Cur_convoy, [.tmp 1], 2⟩
def c_i_isWeight : ACode :=
 (.seq (.region [⟨.mv (.c (.bool false)), none⟩] [(1, 0)])
 (.seq (.region [⟨.mv (.t 0), none⟩, ⟨.call (.c (.fn f_i_within [] [])) [(.l 0), (.c (.int .i64 (1))), (.c (.int .i64 (99)))], none⟩, ⟨.mv (.l 1), none⟩] [(1, 2)])
 .ret))
def a_i_isWeight : AFun := ⟨[0, 2], 5, c_i_isWeight, [.tmp 1], 1⟩
def c_s_l1Cur_among : ACode :=
 (.seq (.region [⟨.mv (.c (.int .i64 (0))), none⟩] [(2, 0)])
 (.seq (.region [⟨.mv (.t 1), none⟩, ⟨.mv (.t 0), none⟩, ⟨.mv (.t 1), none⟩, ⟨.len (.l 2), none⟩, ⟨.call (.c (.fn f_s_l1Cur_pick [] [])) [(.l 1), (.l 3)], none⟩, ⟨.indexAddrS 1 (.l 0) (.l 4), none⟩, ⟨.load false 1 (.l 5), none⟩, ⟨.mv (.l 6), none⟩] [(2, 7)])
 .ret))
def a_s_l1Cur_among : AFun := ⟨[0, 1, 4], 12, c_s_l1Cur_among, [.tmp 2], 1⟩
def c_i_standsWith : ACode :=
 (.seq (.region [⟨.mv (.c (.bool false)), none⟩] [(5, 0)])
 (.seq (.region [⟨.mv (.t 0), none⟩, ⟨.call (.c (.fn f_slices_Clone_Si_Load_i_Load [] [])) [(.l 0)], none⟩, ⟨.mv (.t 3), none⟩, ⟨.mv (.t 4), none⟩, ⟨.build [.int .i64 (0), .int .i64 (0)] [(0, 1, (.l 2)), (1, 1, (.l 3))], none⟩, ⟨.buildSlice 2 1 [.int .i64 (0), .int .i64 (0)] [(0, 2, (.l 4))], none⟩, ⟨.append false 2 16 (.l 1) (.l 5), none⟩, ⟨.mv (.t 1), none⟩, ⟨.mv (.t 2), none⟩, ⟨.call (.c (.fn f_i_tipSide [] [])) [(.l 6), (.l 7), (.l 8)], none⟩, ⟨.bin 0 .eql (.l 9) (.c (.int .i64 (0))), none⟩, ⟨.mv (.l 10), none⟩] [(5, 11)])
 .ret))
def a_i_standsWith : AFun := ⟨[0, 1, 2, 3, 4, 10], 22, c_i_standsWith, [.tmp 5], 1⟩
def c_s_l2With : ACode :=
 (.seq (.region [⟨.mv (.c (.slice none 0 0 none)), none⟩] [(3, 0)])
 (.seq (.region [⟨.buildSlice 2 0 [] [], none⟩, ⟨.mv (.t 0), none⟩, ⟨.append false 2 16 (.l 0) (.l 1), none⟩, ⟨.mv (.t 1), none⟩, ⟨.mv (.t 2), none⟩, ⟨.build [.int .i64 (0), .int .i64 (0)] [(0, 1, (.l 3)), (1, 1, (.l 4))], none⟩, ⟨.buildSlice 2 1 [.int .i64 (0), .int .i64 (0)] [(0, 2, (.l 5))], none⟩, ⟨.append false 2 16 (.l 2) (.l 6), none⟩, ⟨.mv (.l 7), none⟩] [(3, 8)])
 .ret))
def a_s_l2With : AFun := ⟨[0, 1, 2, 6], 15, c_s_l2With, [.tmp 3], 2⟩
def w_s_l2Row_1 : ACode :=
 (.seq (.seq (.region [⟨.mv (.t 2), none⟩, ⟨.mv (.t 0), none⟩, ⟨.len (.l 1), none⟩, ⟨.bin 0 .lss (.l 0) (.l 2), none⟩, ⟨.mv (.l 3), none⟩, ⟨.mv (.t 2), some ((.l 4), true)⟩, ⟨.bin 0 .leq (.l 5) (.c (.int .i64 (12))), some ((.l 4), true)⟩, ⟨.pick (.l 4) (.l 6) (.c (.bool false)), none⟩] [(3, 7)])
 (.cond (.t 3) .skip (.exit 0)))
 (.seq (.block 1 (.seq (.region [⟨.mv (.t 0), none⟩, ⟨.mv (.t 2), none⟩, ⟨.indexAddrS 2 (.l 0) (.l 1), none⟩, ⟨.fieldAddr 0 (.l 2), none⟩, ⟨.load false 1 (.l 3), none⟩, ⟨.call (.c (.fn f_s_l2In [] [])) [(.l 4)], none⟩, ⟨.un .not (.l 5), none⟩, ⟨.mv (.l 6), none⟩, ⟨.mv (.t 0), some ((.l 7), false)⟩, ⟨.mv (.t 2), some ((.l 7), false)⟩, ⟨.indexAddrS 2 (.l 8) (.l 9), some ((.l 7), false)⟩, ⟨.fieldAddr 1 (.l 10), some ((.l 7), false)⟩, ⟨.load false 1 (.l 11), some ((.l 7), false)⟩, ⟨.call (.c (.fn f_s_l1In [] [])) [(.l 12), (.c (.int .i64 (1))), (.c (.int .i64 (99)))], some ((.l 7), false)⟩, ⟨.un .not (.l 13), some ((.l 7), false)⟩, ⟨.pick (.l 7) (.c (.bool true)) (.l 14), none⟩] [(4, 15)])
 (.cond (.t 4) (.seq (.region [⟨.mv (.c (.bool false)), none⟩] [(1, 0)])
 .ret) .skip)))
 (.region [⟨.mv (.t 2), none⟩, ⟨.bin 0 .add (.l 0) (.c (.int .i64 (1))), none⟩, ⟨.mv (.l 1), none⟩] [(2, 2)])))
def c_s_l2Row : ACode :=
 (.seq (.region [⟨.mv (.c (.bool false)), none⟩] [(1, 0)])
 (.seq (.seq (.region [⟨.mv (.c (.int .i64 (0))), none⟩] [(2, 0)])
 (.block 0 (.loop w_s_l2Row_1)))
 (.seq (.region [⟨.mv (.t 0), none⟩, ⟨.len (.l 0), none⟩, ⟨.bin 0 .leq (.l 1) (.c (.int .i64 (12))), none⟩, ⟨.mv (.l 2), none⟩] [(1, 3)])
 .ret)))
def a_s_l2Row : AFun := ⟨[0, 2, 3, 11, 29], 33, c_s_l2Row, [.tmp 1], 1⟩
def c_slices_ContainsFunc_Si_Load_i_Load : ACode :=
 (.seq (.region [⟨.mv (.c (.bool false)), none⟩] [(2, 0)])
 (.seq (.region [⟨.mv (.t 0), none⟩, ⟨.mv (.t 1), none⟩, ⟨.call (.c (.fn f_slices_IndexFunc_Si_Load_i_Load [] [])) [(.l 0), (.l 1)], none⟩, ⟨.bin 0 .geq (.l 2) (.c (.int .i64 (0))), none⟩, ⟨.mv (.l 3), none⟩] [(2, 4)])
 .ret))
def a_slices_ContainsFunc_Si_Load_i_Load : AFun := ⟨[0, 1, 4], 9, c_slices_ContainsFunc_Si_Load_i_Load, [.tmp 2], 1⟩
def c_i_isOn_1 : ACode :=
 (.seq (.region [⟨.box (.t 0), none⟩, ⟨.mv (.c (.bool false)), none⟩] [(2, 0), (3, 1)])
 (.seq (.region [⟨.fieldAddr 0 (.t 2), none⟩, ⟨.load false 1 (.l 0), none⟩, ⟨.fieldAddr 0 (.t 1), none⟩, ⟨.load false 1 (.l 2), none⟩, ⟨.bin 0 .gtr (.l 1) (.l 3), none⟩, ⟨.mv (.l 4), none⟩] [(3, 5)])
 .ret))
def a_i_isOn_1 : AFun := ⟨[0, 1, 2, 3], 9, c_i_isOn_1, [.tmp 3], 1⟩
def c_i_tipSide : ACode :=
 (.seq (.region [⟨.mv (.c (.int .i64 (0))), none⟩] [(3, 0)])
 (.seq (.block 0 (.seq (.region [⟨.mv (.t 0), none⟩, ⟨.mv (.t 1), none⟩, ⟨.call (.c (.fn f_i_momentAbout [] [])) [(.l 0), (.l 1)], none⟩, ⟨.bin 0 .lss (.l 2) (.c (.int .i64 (0))), none⟩, ⟨.mv (.l 3), none⟩] [(4, 4)])
 (.cond (.t 4) (.seq (.region [⟨.mv (.c (.int .i64 (-1))), none⟩] [(3, 0)])
 .ret) (.seq (.region [⟨.mv (.t 0), none⟩, ⟨.mv (.t 2), none⟩, ⟨.call (.c (.fn f_i_momentAbout [] [])) [(.l 0), (.l 1)], none⟩, ⟨.bin 0 .gtr (.l 2) (.c (.int .i64 (0))), none⟩, ⟨.mv (.l 3), none⟩] [(5, 4)])
 (.cond (.t 5) (.seq (.region [⟨.mv (.c (.int .i64 (1))), none⟩] [(3, 0)])
 .ret) .skip)))))
 (.seq (.region [⟨.mv (.c (.int .i64 (0))), none⟩] [(3, 0)])
 .ret)))
def a_i_tipSide : AFun := ⟨[0, 1, 2, 6, 7, 12], 17, c_i_tipSide, [.tmp 3], 1⟩
def w_i_momentAbout_1 : ACode :=
 (.seq (.region [⟨.bin 0 .lss (.t 7) (.t 6), none⟩] [(8, 0)])
 (.seq (.cond (.t 8) .skip (.exit 0))
 (.seq (.block 1 (.seq (.region [⟨.indexAddrS 2 (.t 5) (.t 7), none⟩, ⟨.load true 2 (.l 0), none⟩, ⟨.alloc [.int .i64 (0), .int .i64 (0)], none⟩, ⟨.store 2 (.l 2) (.l 1), none⟩] [(4, 2)])
 (.region [⟨.mv (.t 3), none⟩, ⟨.fieldAddr 1 (.t 4), none⟩, ⟨.load false 1 (.l 1), none⟩, ⟨.fieldAddr 0 (.t 4), none⟩, ⟨.load false 1 (.l 3), none⟩, ⟨.mv (.t 1), none⟩, ⟨.bin 0 .sub (.l 4) (.l 5), none⟩, ⟨.bin 0 .mul (.l 2) (.l 6), none⟩, ⟨.bin 0 .add (.l 0) (.l 7), none⟩, ⟨.mv (.l 8), none⟩] [(3, 9)])))
 (.region [⟨.bin 0 .add (.t 7) (.c (.int .i64 (1))), none⟩, ⟨.mv (.l 0), none⟩] [(7, 1)]))))
def c_i_momentAbout : ACode :=
 (.seq (.region [⟨.mv (.c (.int .i64 (0))), none⟩] [(2, 0)])
 (.seq (.region [⟨.mv (.c (.int .i64 (0))), none⟩] [(3, 0)])
 (.seq (.seq (.region [⟨.mv (.t 0), none⟩, ⟨.len (.l 0), none⟩, ⟨.mv (.c (.int .i64 (0))), none⟩] [(5, 0), (6, 1), (7, 2)])
 (.block 0 (.loop w_i_momentAbout_1)))
 (.seq (.region [⟨.mv (.t 3), none⟩, ⟨.mv (.l 0), none⟩] [(2, 1)])
 .ret))))
def a_i_momentAbout : AFun := ⟨[0, 1, 4, 5, 7, 8, 9, 10, 11], 25, c_i_momentAbout, [.tmp 2], 1⟩
def w_s_l6Forces_1 : ACode :=
 (.seq (.seq (.region [⟨.mv (.t 5), none⟩, ⟨.mv (.t 1), none⟩, ⟨.len (.l 1), none⟩, ⟨.bin 0 .lss (.l 0) (.l 2), none⟩] [(6, 3)])
 (.cond (.t 6) .skip (.exit 0)))
 (.seq (.block 1 (.draw [⟨.mv (.t 4), none, []⟩, ⟨.mv (.t 1), none, []⟩, ⟨.mv (.t 5), none, []⟩, ⟨.indexAddrS 2 (.l 1) (.l 2), none, []⟩, ⟨.fieldAddr 0 (.l 3), none, []⟩, ⟨.load false 1 (.l 4), none, []⟩, ⟨.mv (.t 4), none, []⟩, ⟨.mv (.t 1), none, []⟩, ⟨.mv (.t 5), none, []⟩, ⟨.indexAddrS 2 (.l 7) (.l 8), none, []⟩, ⟨.fieldAddr 0 (.l 9), none, []⟩, ⟨.load false 1 (.l 10), none, []⟩, ⟨.indexAddrS 1 (.l 6) (.l 11), none, []⟩, ⟨.load false 1 (.l 12), none, []⟩, ⟨.fieldAddr 2 (.t 2), none, []⟩, ⟨.load false 1 (.l 14), none, []⟩, ⟨.fieldAddr 1 (.t 2), none, []⟩, ⟨.load false 1 (.l 16), none, []⟩, ⟨.bin 0 .sub (.l 15) (.l 17), none, []⟩, ⟨.mv (.t 1), none, []⟩, ⟨.mv (.t 5), none, []⟩, ⟨.indexAddrS 2 (.l 19) (.l 20), none, []⟩, ⟨.fieldAddr 1 (.l 21), none, []⟩, ⟨.load false 1 (.l 22), none, []⟩, ⟨.bin 0 .mul (.l 18) (.l 23), none, []⟩, ⟨.bin 0 .sub (.l 13) (.l 24), none, []⟩, ⟨.indexAddrS 1 (.l 0) (.l 5), none, []⟩, ⟨.store 1 (.l 26) (.l 25), none, []⟩] []))
 (.region [⟨.mv (.t 5), none⟩, ⟨.bin 0 .add (.l 0) (.c (.int .i64 (1))), none⟩, ⟨.mv (.l 1), none⟩] [(5, 2)])))
def c_s_l6Forces : ACode :=
 (.seq (.region [⟨.box (.t 0), none⟩, ⟨.mv (.c (.slice none 0 0 none)), none⟩] [(2, 0), (3, 1)])
 (.seq (.region [⟨.fieldAddr 0 (.t 2), none⟩, ⟨.load false 1 (.l 0), none⟩, ⟨.bin 0 .add (.l 1) (.c (.int .i64 (1))), none⟩, ⟨.makeSlice 1 8 [.int .i64 (0)] (.l 2) (.l 2), none⟩, ⟨.mv (.l 3), none⟩] [(4, 4)])
 (.seq (.draw [⟨.mv (.t 4), none, []⟩, ⟨.fieldAddr 1 (.t 2), none, []⟩, ⟨.load false 1 (.l 1), none, []⟩, ⟨.mv (.t 1), none, []⟩, ⟨.fieldAddr 2 (.t 2), none, []⟩, ⟨.load false 1 (.l 4), none, []⟩, ⟨.call (.c (.fn f_s_l2Moment [] [])) [(.l 3), (.l 5)], none, [(2, ⟨.load false 1 (.l 1), none⟩)]⟩, ⟨.un .neg (.l 6), none, []⟩, ⟨.indexAddrS 1 (.l 0) (.l 2), none, []⟩, ⟨.store 1 (.l 8) (.l 7), none, []⟩] [])
 (.seq (.draw [⟨.mv (.t 4), none, []⟩, ⟨.fieldAddr 2 (.t 2), none, []⟩, ⟨.load false 1 (.l 1), none, []⟩, ⟨.mv (.t 1), none, []⟩, ⟨.fieldAddr 1 (.t 2), none, []⟩, ⟨.load false 1 (.l 4), none, []⟩, ⟨.call (.c (.fn f_s_l2Moment [] [])) [(.l 3), (.l 5)], none, [(2, ⟨.load false 1 (.l 1), none⟩)]⟩, ⟨.indexAddrS 1 (.l 0) (.l 2), none, []⟩, ⟨.store 1 (.l 7) (.l 6), none, []⟩] [])
 (.seq (.seq (.region [⟨.mv (.c (.int .i64 (0))), none⟩] [(5, 0)])
 (.block 0 (.loop w_s_l6Forces_1)))
 (.seq (.region [⟨.mv (.t 4), none⟩, ⟨.mv (.l 0), none⟩] [(3, 1)])
 .ret))))))
def a_s_l6Forces : AFun := ⟨[0, 1, 2, 4, 5, 6, 31], 62, c_s_l6Forces, [.tmp 3], 2⟩
def c_s_l1Cur_one : ACode :=
 (.seq (.region [⟨.mv (.c (.bool false)), none⟩] [(2, 0)])
 (.seq (.region [⟨.mv (.t 0), none⟩, ⟨.mv (.t 1), none⟩, ⟨.call (.c (.fn f_s_l1Cur_pick [] [])) [(.l 0), (.l 1)], none⟩, ⟨.bin 0 .eql (.l 2) (.c (.int .i64 (0))), none⟩, ⟨.mv (.l 3), none⟩] [(2, 4)])
 .ret))
def a_s_l1Cur_one : AFun := ⟨[0, 1, 4], 9, c_s_l1Cur_one, [.tmp 2], 1⟩
def c_s_l1Cur_pick : ACode :=
 (.seq (.region [⟨.mv (.c (.int .i64 (0))), none⟩] [(2, 0)])
 (.seq (.seq (.region [⟨.mv (.t 1), none⟩, ⟨.bin 0 .leq (.l 0) (.c (.int .i64 (1))), none⟩] [(4, 1)])
 (.cond (.t 4) (.seq (.region [⟨.mv (.c (.int .i64 (0))), none⟩] [(2, 0)])
 .ret) .skip))
 (.seq (.region [⟨.mv (.t 0), none⟩, ⟨.call (.c (.fn f_s_l1Cur_next [] [])) [(.l 0)], none⟩, ⟨.mv (.l 1), none⟩] [(3, 2)])
 (.seq (.seq (.region [⟨.mv (.t 1), none⟩, ⟨.bin 0 .gtr (.l 0) (.c (.int .i64 (200))), none⟩] [(5, 1)])
 (.cond (.t 5) (.region [⟨.mv (.t 3), none⟩, ⟨.bin 0 .mul (.l 0) (.c (.int .i64 (256))), none⟩, ⟨.mv (.t 0), none⟩, ⟨.call (.c (.fn f_s_l1Cur_next [] [])) [(.l 2)], none⟩, ⟨.bin 0 .add (.l 1) (.l 3), none⟩, ⟨.mv (.l 4), none⟩] [(3, 5)]) .skip))
 (.seq (.region [⟨.mv (.t 3), none⟩, ⟨.mv (.t 1), none⟩, ⟨.bin 0 .rem (.l 0) (.l 1), none⟩, ⟨.mv (.l 2), none⟩] [(2, 3)])
 .ret)))))
def a_s_l1Cur_pick : AFun := ⟨[0, 1, 4, 5, 7, 11], 20, c_s_l1Cur_pick, [.tmp 2], 1⟩
def c_s_l1Least : ACode :=
 (.seq (.region [⟨.mv (.c (.int .i64 (0))), none⟩] [(2, 0)])
 (.seq (.seq (.region [⟨.mv (.t 0), none⟩, ⟨.mv (.t 1), none⟩, ⟨.bin 0 .lss (.l 0) (.l 1), none⟩] [(3, 2)])
 (.cond (.t 3) (.seq (.region [⟨.mv (.t 0), none⟩, ⟨.mv (.l 0), none⟩] [(2, 1)])
 .ret) .skip))
 (.seq (.region [⟨.mv (.t 1), none⟩, ⟨.mv (.l 0), none⟩] [(2, 1)])
 .ret)))
def a_s_l1Least : AFun := ⟨[0, 1, 4, 7], 10, c_s_l1Least, [.tmp 2], 1⟩
def c_s_l1Cur_row : ACode :=
 (.seq (.region [⟨.mv (.c (.slice none 0 0 none)), none⟩] [(1, 0)])
 (.seq (.region [⟨.mv (.t 0), none⟩, ⟨.call (.c (.fn f_s_l1Cur_someRow [] [])) [(.l 0), (.c (.int .i64 (12)))], none⟩, ⟨.mv (.l 1), none⟩] [(1, 2)])
 .ret))
def a_s_l1Cur_row : AFun := ⟨[0, 2], 5, c_s_l1Cur_row, [.tmp 1], 2⟩
def c_i_IsRow_1 : ACode :=
 (.seq (.region [⟨.box (.t 0), none⟩, ⟨.mv (.c (.bool false)), none⟩] [(1, 0), (2, 1)])
 (.seq (.region [⟨.fieldAddr 0 (.t 1), none⟩, ⟨.load false 1 (.l 0), none⟩, ⟨.call (.c (.fn f_i_isPlace [] [])) [(.l 1)], none⟩, ⟨.un .not (.l 2), none⟩, ⟨.mv (.l 3), none⟩, ⟨.fieldAddr 1 (.t 1), some ((.l 4), false)⟩, ⟨.load false 1 (.l 5), some ((.l 4), false)⟩, ⟨.call (.c (.fn f_i_isWeight [] [])) [(.l 6)], some ((.l 4), false)⟩, ⟨.un .not (.l 7), some ((.l 4), false)⟩, ⟨.pick (.l 4) (.c (.bool true)) (.l 8), none⟩, ⟨.mv (.l 9), none⟩] [(2, 10)])
 .ret))
def a_i_IsRow_1 : AFun := ⟨[0, 1, 2], 13, c_i_IsRow_1, [.tmp 2], 1⟩
def c_i_isPlace : ACode :=
 (.seq (.region [⟨.mv (.c (.bool false)), none⟩] [(1, 0)])
 (.seq (.region [⟨.mv (.t 0), none⟩, ⟨.call (.c (.fn f_i_within [] [])) [(.l 0), (.c (.int .i64 (0))), (.c (.int .i64 (60)))], none⟩, ⟨.mv (.l 1), none⟩] [(1, 2)])
 .ret))
def a_i_isPlace : AFun := ⟨[0, 2], 5, c_i_isPlace, [.tmp 1], 1⟩
def c_slices_Clone_Si_Load_i_Load : ACode :=
 (.seq (.region [⟨.mv (.c (.slice none 0 0 none)), none⟩] [(1, 0)])
 (.seq (.seq (.region [⟨.mv (.t 0), none⟩, ⟨.bin 3 .eql (.l 0) (.c (.slice none 0 0 none)), none⟩] [(2, 1)])
 (.cond (.t 2) (.seq (.region [⟨.mv (.c (.slice none 0 0 none)), none⟩] [(1, 0)])
 .ret) .skip))
 (.seq (.region [⟨.buildSlice 2 0 [] [], none⟩, ⟨.mv (.t 0), none⟩, ⟨.append false 2 16 (.l 0) (.l 1), none⟩, ⟨.mv (.l 2), none⟩] [(1, 3)])
 .ret)))
def a_slices_Clone_Si_Load_i_Load : AFun := ⟨[0, 2, 4], 8, c_slices_Clone_Si_Load_i_Load, [.tmp 1], 2⟩
def c_s_l2In : ACode :=
 (.seq (.region [⟨.mv (.c (.bool false)), none⟩] [(1, 0)])
 (.seq (.region [⟨.mv (.t 0), none⟩, ⟨.call (.c (.fn f_s_l1In [] [])) [(.l 0), (.c (.int .i64 (0))), (.c (.int .i64 (60)))], none⟩, ⟨.mv (.l 1), none⟩] [(1, 2)])
 .ret))
def a_s_l2In : AFun := ⟨[0, 2], 5, c_s_l2In, [.tmp 1], 1⟩
def w_slices_IndexFunc_Si_Load_i_Load_1 : ACode :=
 (.seq (.region [⟨.bin 0 .lss (.t 5) (.t 4), none⟩] [(6, 0)])
 (.seq (.cond (.t 6) .skip (.exit 0))
 (.seq (.block 1 (.seq (.region [⟨.mv (.t 5), none⟩, ⟨.mv (.l 0), none⟩] [(3, 1)])
 (.seq (.region [⟨.mv (.t 1), none⟩, ⟨.mv (.t 0), none⟩, ⟨.mv (.t 3), none⟩, ⟨.indexAddrS 2 (.l 1) (.l 2), none⟩, ⟨.load true 2 (.l 3), none⟩, ⟨.call (.l 0) [(.l 4)], none⟩] [(7, 5)])
 (.cond (.t 7) (.seq (.region [⟨.mv (.t 3), none⟩, ⟨.mv (.l 0), none⟩] [(2, 1)])
 .ret) .skip))))
 (.region [⟨.bin 0 .add (.t 5) (.c (.int .i64 (1))), none⟩, ⟨.mv (.l 0), none⟩] [(5, 1)]))))
def c_slices_IndexFunc_Si_Load_i_Load : ACode :=
 (.seq (.region [⟨.mv (.c (.int .i64 (0))), none⟩] [(2, 0)])
 (.seq (.seq (.region [⟨.mv (.t 0), none⟩, ⟨.len (.l 0), none⟩, ⟨.mv (.c (.int .i64 (0))), none⟩] [(4, 1), (5, 2)])
 (.block 0 (.loop w_slices_IndexFunc_Si_Load_i_Load_1)))
 (.seq (.region [⟨.mv (.c (.int .i64 (-1))), none⟩] [(2, 0)])
 .ret)))
def a_slices_IndexFunc_Si_Load_i_Load : AFun := ⟨[0, 1, 4, 5, 7, 8, 9, 16], 19, c_slices_IndexFunc_Si_Load_i_Load, [.tmp 2], 1⟩
def c_s_l1Cur_next : ACode :=
 (.seq (.region [⟨.mv (.c (.int .i64 (0))), none⟩] [(1, 0)])
 (.seq (.region [⟨.mv (.c (.int .i64 (0))), none⟩] [(2, 0)])
 (.seq (.seq (.draw [⟨.mv (.t 0), none, []⟩, ⟨.nilCheck (.l 0), none, []⟩, ⟨.fieldAddr 1 (.l 1), none, []⟩, ⟨.load false 1 (.l 2), none, []⟩, ⟨.mv (.t 0), none, []⟩, ⟨.nilCheck (.l 4), none, []⟩, ⟨.fieldAddr 0 (.l 5), none, []⟩, ⟨.load false 1 (.l 6), none, []⟩, ⟨.len (.l 7), none, []⟩, ⟨.bin 0 .lss (.l 3) (.l 8), none, []⟩] [(3, 9)])
 (.cond (.t 3) (.draw [⟨.mv (.t 0), none, []⟩, ⟨.nilCheck (.l 0), none, []⟩, ⟨.fieldAddr 0 (.l 1), none, []⟩, ⟨.load false 1 (.l 2), none, []⟩, ⟨.mv (.t 0), none, []⟩, ⟨.nilCheck (.l 4), none, []⟩, ⟨.fieldAddr 1 (.l 5), none, []⟩, ⟨.load false 1 (.l 6), none, []⟩, ⟨.indexAddrS 1 (.l 3) (.l 7), none, []⟩, ⟨.load false 1 (.l 8), none, []⟩, ⟨.conv .i64 (.l 9), none, []⟩, ⟨.mv (.l 10), none, []⟩] [(2, 11)]) .skip))
 (.seq (.region [⟨.mv (.t 0), none⟩, ⟨.nilCheck (.l 0), none⟩, ⟨.fieldAddr 1 (.l 1), none⟩, ⟨.load false 1 (.l 2), none⟩, ⟨.bin 0 .add (.l 3) (.c (.int .i64 (1))), none⟩, ⟨.nilCheck (.l 0), none⟩, ⟨.fieldAddr 1 (.l 5), none⟩, ⟨.store 1 (.l 6) (.l 4), none⟩] [])
 (.seq (.region [⟨.mv (.t 0), none⟩, ⟨.mv (.t 0), none⟩, ⟨.nilCheck (.l 1), none⟩, ⟨.fieldAddr 2 (.l 2), none⟩, ⟨.load false 1 (.l 3), none⟩, ⟨.bin 0 .mul (.l 4) (.c (.int .u64 (6364136223846793005))), none⟩, ⟨.mv (.t 2), none⟩, ⟨.conv .u64 (.l 6), none⟩, ⟨.bin 0 .add (.l 5) (.l 7), none⟩, ⟨.bin 0 .add (.l 8) (.c (.int .u64 (462197))), none⟩, ⟨.nilCheck (.l 0), none⟩, ⟨.fieldAddr 2 (.l 10), none⟩, ⟨.store 1 (.l 11) (.l 9), none⟩] [])
 (.seq (.seq (.draw [⟨.mv (.t 0), none, []⟩, ⟨.nilCheck (.l 0), none, []⟩, ⟨.fieldAddr 1 (.l 1), none, []⟩, ⟨.load false 1 (.l 2), none, []⟩, ⟨.mv (.t 0), none, []⟩, ⟨.nilCheck (.l 4), none, []⟩, ⟨.fieldAddr 0 (.l 5), none, []⟩, ⟨.load false 1 (.l 6), none, []⟩, ⟨.len (.l 7), none, []⟩, ⟨.bin 0 .leq (.l 3) (.l 8), none, []⟩] [(4, 9)])
 (.cond (.t 4) (.seq (.region [⟨.mv (.t 2), none⟩, ⟨.mv (.l 0), none⟩] [(1, 1)])
 .ret) .skip))
 (.seq (.region [⟨.mv (.t 0), none⟩, ⟨.nilCheck (.l 0), none⟩, ⟨.fieldAddr 2 (.l 1), none⟩, ⟨.load false 1 (.l 2), none⟩, ⟨.bin 0 .shr (.l 3) (.c (.int .u64 (40))), none⟩, ⟨.bin 0 .and (.l 4) (.c (.int .u64 (255))), none⟩, ⟨.conv .i64 (.l 5), none⟩, ⟨.mv (.l 6), none⟩] [(1, 7)])
 .ret)))))))
def a_s_l1Cur_next : AFun := ⟨[0, 2, 3, 13, 53], 62, c_s_l1Cur_next, [.tmp 1], 1⟩
def w_s_l1Cur_someRow_1 : ACode :=
 (.seq (.seq (.region [⟨.mv (.t 4), none⟩, ⟨.bin 0 .gtr (.l 0) (.c (.int .i64 (0))), none⟩] [(6, 1)])
 (.cond (.t 6) .skip (.exit 0)))
 (.seq (.block 1 (.region [⟨.mv (.t 3), none⟩, ⟨.mv (.t 0), none⟩, ⟨.mv (.t 0), none⟩, ⟨.buildSlice 1 4 [.int .i64 (0), .int .i64 (0), .int .i64 (0), .int .i64 (0)] [(0, 1, (.c (.int .i64 (11)))), (1, 1, (.c (.int .i64 (11)))), (2, 1, (.c (.int .i64 (21)))), (3, 1, (.c (.int .i64 (61))))], none⟩, ⟨.call (.c (.fn f_s_l1Cur_among [] [])) [(.l 2), (.l 3)], none⟩, ⟨.call (.c (.fn f_s_l1Cur_pick [] [])) [(.l 1), (.l 4)], none⟩, ⟨.mv (.t 0), none⟩, ⟨.mv (.t 0), none⟩, ⟨.buildSlice 1 3 [.int .i64 (0), .int .i64 (0), .int .i64 (0)] [(0, 1, (.c (.int .i64 (3)))), (1, 1, (.c (.int .i64 (9)))), (2, 1, (.c (.int .i64 (30))))], none⟩, ⟨.call (.c (.fn f_s_l1Cur_among [] [])) [(.l 7), (.l 8)], none⟩, ⟨.call (.c (.fn f_s_l1Cur_pick [] [])) [(.l 6), (.l 9)], none⟩, ⟨.bin 0 .add (.c (.int .i64 (1))) (.l 10), none⟩, ⟨.build [.int .i64 (0), .int .i64 (0)] [(0, 1, (.l 5)), (1, 1, (.l 11))], none⟩, ⟨.buildSlice 2 1 [.int .i64 (0), .int .i64 (0)] [(0, 2, (.l 12))], none⟩, ⟨.append false 2 16 (.l 0) (.l 13), none⟩, ⟨.mv (.l 14), none⟩] [(3, 15)]))
 (.region [⟨.mv (.t 4), none⟩, ⟨.bin 0 .sub (.l 0) (.c (.int .i64 (1))), none⟩, ⟨.mv (.l 1), none⟩] [(4, 2)])))
def w_s_l1Cur_someRow_2 : ACode :=
 (.seq (.seq (.region [⟨.mv (.t 3), none⟩, ⟨.len (.l 0), none⟩, ⟨.bin 0 .lss (.l 1) (.c (.int .i64 (13))), none⟩] [(12, 2)])
 (.cond (.t 12) .skip (.exit 3)))
 (.block 4 (.region [⟨.mv (.t 3), none⟩, ⟨.build [.int .i64 (0), .int .i64 (0)] [(0, 1, (.c (.int .i64 (5)))), (1, 1, (.c (.int .i64 (1))))], none⟩, ⟨.buildSlice 2 1 [.int .i64 (0), .int .i64 (0)] [(0, 2, (.l 1))], none⟩, ⟨.append false 2 16 (.l 0) (.l 2), none⟩, ⟨.mv (.l 3), none⟩] [(3, 4)])))
def c_s_l1Cur_someRow : ACode :=
 (.seq (.region [⟨.mv (.c (.slice none 0 0 none)), none⟩] [(2, 0)])
 (.seq (.region [⟨.buildSlice 2 0 [] [], none⟩, ⟨.mv (.l 0), none⟩] [(3, 1)])
 (.seq (.seq (.region [⟨.mv (.t 0), none⟩, ⟨.buildSlice 1 7 [.int .i64 (0), .int .i64 (0), .int .i64 (0), .int .i64 (0), .int .i64 (0), .int .i64 (0), .int .i64 (0)] [(0, 1, (.c (.int .i64 (3)))), (1, 1, (.c (.int .i64 (2)))), (2, 1, (.c (.int .i64 (4)))), (3, 1, (.c (.int .i64 (1)))), (4, 1, (.c (.int .i64 (0)))), (5, 1, (.c (.int .i64 (6)))), (6, 1, (.c (.int .i64 (12))))], none⟩, ⟨.call (.c (.fn f_s_l1Cur_among [] [])) [(.l 0), (.l 1)], none⟩, ⟨.mv (.t 1), none⟩, ⟨.call (.c (.fn f_s_l1Least [] [])) [(.l 2), (.l 3)], none⟩, ⟨.mv (.l 4), none⟩] [(4, 5)])
 (.block 0 (.loop w_s_l1Cur_someRow_1)))
 (.seq (.seq (.region [⟨.mv (.t 3), none⟩, ⟨.len (.l 0), none⟩, ⟨.mv (.l 1), none⟩] [(5, 2)])
 (.seq (.region [⟨.mv (.t 5), none⟩, ⟨.bin 0 .gtr (.l 0) (.c (.int .i64 (0))), none⟩] [(7, 1)])
 (.cond (.t 7) (.seq (.region [⟨.mv (.t 0), none⟩, ⟨.call (.c (.fn f_s_l1Cur_pick [] [])) [(.l 0), (.c (.int .i64 (60)))], none⟩] [(8, 1)])
 (.block 2 (.seq (.region [⟨.bin 0 .eql (.t 8) (.c (.int .i64 (0))), none⟩, ⟨.mv (.l 0), none⟩] [(9, 1)])
 (.cond (.t 9) (.region [⟨.mv (.t 3), none⟩, ⟨.mv (.t 0), none⟩, ⟨.mv (.t 5), none⟩, ⟨.call (.c (.fn f_s_l1Cur_pick [] [])) [(.l 1), (.l 2)], none⟩, ⟨.mv (.t 0), none⟩, ⟨.buildSlice 1 4 [.int .i64 (0), .int .i64 (0), .int .i64 (0), .int .i64 (0)] [(0, 1, (.c (.int .i64 (-1)))), (1, 1, (.c (.int .i64 (60)))), (2, 1, (.c (.int .i64 (61)))), (3, 1, (.c (.int .i64 (4611686018427387904))))], none⟩, ⟨.call (.c (.fn f_s_l1Cur_among [] [])) [(.l 4), (.l 5)], none⟩, ⟨.indexAddrS 2 (.l 0) (.l 3), none⟩, ⟨.fieldAddr 0 (.l 7), none⟩, ⟨.store 1 (.l 8) (.l 6), none⟩] []) (.seq (.region [⟨.bin 0 .eql (.t 8) (.c (.int .i64 (1))), none⟩, ⟨.mv (.l 0), none⟩] [(10, 1)])
 (.cond (.t 10) (.region [⟨.mv (.t 3), none⟩, ⟨.mv (.t 0), none⟩, ⟨.mv (.t 5), none⟩, ⟨.call (.c (.fn f_s_l1Cur_pick [] [])) [(.l 1), (.l 2)], none⟩, ⟨.mv (.t 0), none⟩, ⟨.buildSlice 1 4 [.int .i64 (0), .int .i64 (0), .int .i64 (0), .int .i64 (0)] [(0, 1, (.c (.int .i64 (0)))), (1, 1, (.c (.int .i64 (99)))), (2, 1, (.c (.int .i64 (100)))), (3, 1, (.c (.int .i64 (-1))))], none⟩, ⟨.call (.c (.fn f_s_l1Cur_among [] [])) [(.l 4), (.l 5)], none⟩, ⟨.indexAddrS 2 (.l 0) (.l 3), none⟩, ⟨.fieldAddr 1 (.l 7), none⟩, ⟨.store 1 (.l 8) (.l 6), none⟩] []) (.seq (.region [⟨.bin 0 .eql (.t 8) (.c (.int .i64 (2))), none⟩, ⟨.mv (.l 0), none⟩] [(11, 1)])
 (.cond (.t 11) (.block 3 (.loop w_s_l1Cur_someRow_2)) .skip)))))))) .skip)))
 (.seq (.region [⟨.mv (.t 3), none⟩, ⟨.mv (.l 0), none⟩] [(2, 1)])
 .ret)))))
def a_s_l1Cur_someRow : AFun := ⟨[0, 1, 4, 5, 6, 7, 15, 36, 38, 39, 50, 61, 65], 71, c_s_l1Cur_someRow, [.tmp 2], 2⟩
def tab : List (FuncId × AFun) :=
 [(f_gosem_cut_init, a_gosem_cut_init), (f_l_FnExactRestsOn, a_l_FnExactRestsOn), (f_l_FnExactCanCross, a_l_FnExactCanCross), (f_l_FnBeams, a_l_FnBeams), (f_l_FnConvoys, a_l_FnConvoys), (f_l_szLoadS, a_l_szLoadS), (f_s_RestsOn, a_s_RestsOn), (f_l_toBeam, a_l_toBeam), (f_l_toLoadS, a_l_toLoadS), (f_i_RestsOn, a_i_RestsOn), (f_l_eqLoadS, a_l_eqLoadS), (f_s_CanCross, a_s_CanCross), (f_i_CanCross, a_i_CanCross), (f_l_rBig, a_l_rBig), (f_s_DrawBendTimes, a_s_DrawBendTimes), (f_i_BendTimes, a_i_BendTimes), (f_s_BendTimes, a_s_BendTimes), (f_l_rInts, a_l_rInts), (f_i_ShearTimes, a_i_ShearTimes), (f_s_ShearTimes, a_s_ShearTimes), (f_i_SupportTimes, a_i_SupportTimes), (f_s_SupportTimes, a_s_SupportTimes), (f_i_GreatestBend, a_i_GreatestBend), (f_s_GreatestBend, a_s_GreatestBend), (f_s_DrawInfluenceOf, a_s_DrawInfluenceOf), (f_i_InfluenceOf, a_i_InfluenceOf), (f_s_InfluenceOf, a_s_InfluenceOf), (f_i_IsBeam, a_i_IsBeam), (f_s_IsBeam, a_s_IsBeam), (f_s_DrawBendBy, a_s_DrawBendBy), (f_i_BendBy, a_i_BendBy), (f_s_BendBy, a_s_BendBy), (f_i_MirrorBeam, a_i_MirrorBeam), (f_s_MirrorBeam, a_s_MirrorBeam), (f_i_WeightOf, a_i_WeightOf), (f_s_DrawWorstBend, a_s_DrawWorstBend), (f_i_WorstBend, a_i_WorstBend), (f_s_WorstBend, a_s_WorstBend), (f_s_DrawCanCross, a_s_DrawCanCross), (f_i_IsConvoy, a_i_IsConvoy), (f_s_DrawOutermostPlaces, a_s_DrawOutermostPlaces), (f_i_OutermostPlaces, a_i_OutermostPlaces), (f_s_OutermostPlaces, a_s_OutermostPlaces), (f_s_DrawIsConvoy, a_s_DrawIsConvoy), (f_s_IsConvoy, a_s_IsConvoy), (f_s_DrawConvoyRow, a_s_DrawConvoyRow), (f_i_ConvoyRow, a_i_ConvoyRow), (f_s_ConvoyRow, a_s_ConvoyRow), (f_l_rRow, a_l_rRow), (f_s_l6On, a_s_l6On), (f_s_l2Side, a_s_l2Side), (f_l_toLoad, a_l_toLoad), (f_i_isOn, a_i_isOn), (f_i_Beam_rests, a_i_Beam_rests), (f_l_eqLoad, a_l_eqLoad), (f_s_l6Beam, a_s_l6Beam), (f_s_l6Convoy, a_s_l6Convoy), (f_s_l6At, a_s_l6At), (f_i_convoyRow, a_i_convoyRow), (f_s_DrawRestsOn, a_s_DrawRestsOn), (f_i_Beam_bends, a_i_Beam_bends), (f_s_l6Bends, a_s_l6Bends), (f_i_Beam_supports, a_i_Beam_supports), (f_i_Beam_span, a_i_Beam_span), (f_s_l6Shears, a_s_l6Shears), (f_s_l2Moment, a_s_l2Moment), (f_s_l1Most, a_s_l1Most), (f_s_l1Cur_beam, a_s_l1Cur_beam), (f_s_l1Cur_placeOn, a_s_l1Cur_placeOn), (f_i_isOnBeam, a_i_isOnBeam), (f_i_Beam_bendAt, a_i_Beam_bendAt), (f_s_l1In, a_s_l1In), (f_s_l6Influence, a_s_l6Influence), (f_i_within, a_i_within), (f_s_l1Cur_onBeam, a_s_l1Cur_onBeam), (f_i_IsRow, a_i_IsRow), (f_i_weightOf, a_i_weightOf), (f_s_l1Cur_convoy, a_s_l1Cur_convoy), (f_i_isWeight, a_i_isWeight), (f_s_l1Cur_among, a_s_l1Cur_among), (f_i_standsWith, a_i_standsWith), (f_s_l2With, a_s_l2With), (f_s_l2Row, a_s_l2Row), (f_slices_ContainsFunc_Si_Load_i_Load, a_slices_ContainsFunc_Si_Load_i_Load), (f_i_isOn_1, a_i_isOn_1), (f_i_tipSide, a_i_tipSide), (f_i_momentAbout, a_i_momentAbout), (f_s_l6Forces, a_s_l6Forces), (f_s_l1Cur_one, a_s_l1Cur_one), (f_s_l1Cur_pick, a_s_l1Cur_pick), (f_s_l1Least, a_s_l1Least), (f_s_l1Cur_row, a_s_l1Cur_row), (f_i_IsRow_1, a_i_IsRow_1), (f_i_isPlace, a_i_isPlace), (f_slices_Clone_Si_Load_i_Load, a_slices_Clone_Si_Load_i_Load), (f_s_l2In, a_s_l2In), (f_slices_IndexFunc_Si_Load_i_Load, a_slices_IndexFunc_Si_Load_i_Load), (f_s_l1Cur_next, a_s_l1Cur_next), (f_s_l1Cur_someRow, a_s_l1Cur_someRow)]
def T : Table := fun f => tab.lookup f
theorem t_gosem_cut_init : T f_gosem_cut_init = some a_gosem_cut_init := rfl
theorem t_l_FnExactRestsOn : T f_l_FnExactRestsOn = some a_l_FnExactRestsOn := rfl
theorem t_l_FnExactCanCross : T f_l_FnExactCanCross = some a_l_FnExactCanCross := rfl
theorem t_l_FnBeams : T f_l_FnBeams = some a_l_FnBeams := rfl
theorem t_l_FnConvoys : T f_l_FnConvoys = some a_l_FnConvoys := rfl
theorem t_l_szLoadS : T f_l_szLoadS = some a_l_szLoadS := rfl
theorem t_s_RestsOn : T f_s_RestsOn = some a_s_RestsOn := rfl
theorem t_l_toBeam : T f_l_toBeam = some a_l_toBeam := rfl
theorem t_l_toLoadS : T f_l_toLoadS = some a_l_toLoadS := rfl
theorem t_i_RestsOn : T f_i_RestsOn = some a_i_RestsOn := rfl
theorem t_l_eqLoadS : T f_l_eqLoadS = some a_l_eqLoadS := rfl
theorem t_s_CanCross : T f_s_CanCross = some a_s_CanCross := rfl
theorem t_i_CanCross : T f_i_CanCross = some a_i_CanCross := rfl
theorem t_l_rBig : T f_l_rBig = some a_l_rBig := rfl
theorem t_s_DrawBendTimes : T f_s_DrawBendTimes = some a_s_DrawBendTimes := rfl
theorem t_i_BendTimes : T f_i_BendTimes = some a_i_BendTimes := rfl
theorem t_s_BendTimes : T f_s_BendTimes = some a_s_BendTimes := rfl
theorem t_l_rInts : T f_l_rInts = some a_l_rInts := rfl
theorem t_i_ShearTimes : T f_i_ShearTimes = some a_i_ShearTimes := rfl
theorem t_s_ShearTimes : T f_s_ShearTimes = some a_s_ShearTimes := rfl
theorem t_i_SupportTimes : T f_i_SupportTimes = some a_i_SupportTimes := rfl
theorem t_s_SupportTimes : T f_s_SupportTimes = some a_s_SupportTimes := rfl
theorem t_i_GreatestBend : T f_i_GreatestBend = some a_i_GreatestBend := rfl
theorem t_s_GreatestBend : T f_s_GreatestBend = some a_s_GreatestBend := rfl
theorem t_s_DrawInfluenceOf : T f_s_DrawInfluenceOf = some a_s_DrawInfluenceOf := rfl
theorem t_i_InfluenceOf : T f_i_InfluenceOf = some a_i_InfluenceOf := rfl
theorem t_s_InfluenceOf : T f_s_InfluenceOf = some a_s_InfluenceOf := rfl
theorem t_i_IsBeam : T f_i_IsBeam = some a_i_IsBeam := rfl
theorem t_s_IsBeam : T f_s_IsBeam = some a_s_IsBeam := rfl
theorem t_s_DrawBendBy : T f_s_DrawBendBy = some a_s_DrawBendBy := rfl
theorem t_i_BendBy : T f_i_BendBy = some a_i_BendBy := rfl
theorem t_s_BendBy : T f_s_BendBy = some a_s_BendBy := rfl
theorem t_i_MirrorBeam : T f_i_MirrorBeam = some a_i_MirrorBeam := rfl
theorem t_s_MirrorBeam : T f_s_MirrorBeam = some a_s_MirrorBeam := rfl
theorem t_i_WeightOf : T f_i_WeightOf = some a_i_WeightOf := rfl
theorem t_s_DrawWorstBend : T f_s_DrawWorstBend = some a_s_DrawWorstBend := rfl
theorem t_i_WorstBend : T f_i_WorstBend = some a_i_WorstBend := rfl
theorem t_s_WorstBend : T f_s_WorstBend = some a_s_WorstBend := rfl
theorem t_s_DrawCanCross : T f_s_DrawCanCross = some a_s_DrawCanCross := rfl
theorem t_i_IsConvoy : T f_i_IsConvoy = some a_i_IsConvoy := rfl
theorem t_s_DrawOutermostPlaces : T f_s_DrawOutermostPlaces = some a_s_DrawOutermostPlaces := rfl
theorem t_i_OutermostPlaces : T f_i_OutermostPlaces = some a_i_OutermostPlaces := rfl
theorem t_s_OutermostPlaces : T f_s_OutermostPlaces = some a_s_OutermostPlaces := rfl
theorem t_s_DrawIsConvoy : T f_s_DrawIsConvoy = some a_s_DrawIsConvoy := rfl
theorem t_s_IsConvoy : T f_s_IsConvoy = some a_s_IsConvoy := rfl
theorem t_s_DrawConvoyRow : T f_s_DrawConvoyRow = some a_s_DrawConvoyRow := rfl
theorem t_i_ConvoyRow : T f_i_ConvoyRow = some a_i_ConvoyRow := rfl
theorem t_s_ConvoyRow : T f_s_ConvoyRow = some a_s_ConvoyRow := rfl
theorem t_l_rRow : T f_l_rRow = some a_l_rRow := rfl
theorem t_s_l6On : T f_s_l6On = some a_s_l6On := rfl
theorem t_s_l2Side : T f_s_l2Side = some a_s_l2Side := rfl
theorem t_l_toLoad : T f_l_toLoad = some a_l_toLoad := rfl
theorem t_i_isOn : T f_i_isOn = some a_i_isOn := rfl
theorem t_i_Beam_rests : T f_i_Beam_rests = some a_i_Beam_rests := rfl
theorem t_l_eqLoad : T f_l_eqLoad = some a_l_eqLoad := rfl
theorem t_s_l6Beam : T f_s_l6Beam = some a_s_l6Beam := rfl
theorem t_s_l6Convoy : T f_s_l6Convoy = some a_s_l6Convoy := rfl
theorem t_s_l6At : T f_s_l6At = some a_s_l6At := rfl
theorem t_i_convoyRow : T f_i_convoyRow = some a_i_convoyRow := rfl
theorem t_s_DrawRestsOn : T f_s_DrawRestsOn = some a_s_DrawRestsOn := rfl
theorem t_i_Beam_bends : T f_i_Beam_bends = some a_i_Beam_bends := rfl
theorem t_s_l6Bends : T f_s_l6Bends = some a_s_l6Bends := rfl
theorem t_i_Beam_supports : T f_i_Beam_supports = some a_i_Beam_supports := rfl
theorem t_i_Beam_span : T f_i_Beam_span = some a_i_Beam_span := rfl
theorem t_s_l6Shears : T f_s_l6Shears = some a_s_l6Shears := rfl
theorem t_s_l2Moment : T f_s_l2Moment = some a_s_l2Moment := rfl
theorem t_s_l1Most : T f_s_l1Most = some a_s_l1Most := rfl
theorem t_s_l1Cur_beam : T f_s_l1Cur_beam = some a_s_l1Cur_beam := rfl
theorem t_s_l1Cur_placeOn : T f_s_l1Cur_placeOn = some a_s_l1Cur_placeOn := rfl
theorem t_i_isOnBeam : T f_i_isOnBeam = some a_i_isOnBeam := rfl
theorem t_i_Beam_bendAt : T f_i_Beam_bendAt = some a_i_Beam_bendAt := rfl
theorem t_s_l1In : T f_s_l1In = some a_s_l1In := rfl
theorem t_s_l6Influence : T f_s_l6Influence = some a_s_l6Influence := rfl
theorem t_i_within : T f_i_within = some a_i_within := rfl
theorem t_s_l1Cur_onBeam : T f_s_l1Cur_onBeam = some a_s_l1Cur_onBeam := rfl
theorem t_i_IsRow : T f_i_IsRow = some a_i_IsRow := rfl
theorem t_i_weightOf : T f_i_weightOf = some a_i_weightOf := rfl
theorem t_s_l1Cur_convoy : T f_s_l1Cur_convoy = some a_s_l1Cur_convoy := rfl
theorem t_i_isWeight : T f_i_isWeight = some a_i_isWeight := rfl
theorem t_s_l1Cur_among : T f_s_l1Cur_among = some a_s_l1Cur_among := rfl
theorem t_i_standsWith : T f_i_standsWith = some a_i_standsWith := rfl
theorem t_s_l2With : T f_s_l2With = some a_s_l2With := rfl
theorem t_s_l2Row : T f_s_l2Row = some a_s_l2Row := rfl
theorem t_slices_ContainsFunc_Si_Load_i_Load : T f_slices_ContainsFunc_Si_Load_i_Load = some a_slices_ContainsFunc_Si_Load_i_Load := rfl
theorem t_i_isOn_1 : T f_i_isOn_1 = some a_i_isOn_1 := rfl
theorem t_i_tipSide : T f_i_tipSide = some a_i_tipSide := rfl
theorem t_i_momentAbout : T f_i_momentAbout = some a_i_momentAbout := rfl
theorem t_s_l6Forces : T f_s_l6Forces = some a_s_l6Forces := rfl
theorem t_s_l1Cur_one : T f_s_l1Cur_one = some a_s_l1Cur_one := rfl
theorem t_s_l1Cur_pick : T f_s_l1Cur_pick = some a_s_l1Cur_pick := rfl
theorem t_s_l1Least : T f_s_l1Least = some a_s_l1Least := rfl
theorem t_s_l1Cur_row : T f_s_l1Cur_row = some a_s_l1Cur_row := rfl
theorem t_i_IsRow_1 : T f_i_IsRow_1 = some a_i_IsRow_1 := rfl
theorem t_i_isPlace : T f_i_isPlace = some a_i_isPlace := rfl
theorem t_slices_Clone_Si_Load_i_Load : T f_slices_Clone_Si_Load_i_Load = some a_slices_Clone_Si_Load_i_Load := rfl
theorem t_s_l2In : T f_s_l2In = some a_s_l2In := rfl
theorem t_slices_IndexFunc_Si_Load_i_Load : T f_slices_IndexFunc_Si_Load_i_Load = some a_slices_IndexFunc_Si_Load_i_Load := rfl
theorem t_s_l1Cur_next : T f_s_l1Cur_next = some a_s_l1Cur_next := rfl
theorem t_s_l1Cur_someRow : T f_s_l1Cur_someRow = some a_s_l1Cur_someRow := rfl
end Go.Proofs.Ytaikmfldjkbmmaa.Slim
