/- The slim machine: structs that a law is handed, with slices among their fields. -/
import Derived.Test.YtlocjmbfcdfjfaaSlimW
namespace Go.Proofs.Ytlocjmbfcdfjfaa.Slim
open Go Go.Deep Go.RowKit Go.WideShapes Go.Joins
set_option linter.unusedVariables false
set_option linter.unusedSimpArgs false

theorem emb_app (a b : Emb) : Emb.le a (a ++ b) := fun i p hb => by
  rw [List.getElem?_append_left]; exact hb
  exact (List.getElem?_eq_some_iff.mp hb).1

theorem IsArg.cell {H : List Blk} {av : AV} {k : IntKind} {nf : Nat} {es : List (List Int)} (h : IsArg H av k nf es) : av.isCell = true := by
  rcases h.2 with ⟨rfl, _⟩ | ⟨b, cap, rfl, _⟩ <;> rfl

theorem array5 {α : Type} {cs : Array α} (h : cs.size = 5) : ∃ c0 c1 c2 c3 c4, cs = #[c0, c1, c2, c3, c4] := by
  obtain ⟨l⟩ := cs
  match l, h with
  | [c0, c1, c2, c3, c4], _ => exact ⟨c0, c1, c2, c3, c4, rfl⟩

theorem array6 {α : Type} {cs : Array α} (h : cs.size = 6) : ∃ c0 c1 c2 c3 c4 c5, cs = #[c0, c1, c2, c3, c4, c5] := by
  obtain ⟨l⟩ := cs
  match l, h with
  | [c0, c1, c2, c3, c4, c5], _ => exact ⟨c0, c1, c2, c3, c4, c5, rfl⟩

theorem ints1 {k : IntKind} {c0 : Value} {zs : List Int} (h : [c0] = zs.map (Value.int k)) : ∃ z0, c0 = .int k z0 := by
  match zs, h with
  | [z0], h => simp at h; exact ⟨z0, h⟩

theorem ints2 {k : IntKind} {c0 c1 : Value} {zs : List Int} (h : [c0, c1] = zs.map (Value.int k)) : ∃ z0 z1, c0 = .int k z0 ∧ c1 = .int k z1 := by
  match zs, h with
  | [z0, z1], h => simp at h; exact ⟨z0, z1, h.1, h.2⟩

theorem ints3 {k : IntKind} {c0 c1 c2 : Value} {zs : List Int} (h : [c0, c1, c2] = zs.map (Value.int k)) : ∃ z0 z1 z2, c0 = .int k z0 ∧ c1 = .int k z1 ∧ c2 = .int k z2 := by
  match zs, h with
  | [z0, z1, z2], h => simp at h; exact ⟨z0, z1, z2, h.1, h.2.1, h.2.2⟩

section
variable {T : Type} {enc : TypeId × Value → T} {P : Program} {w : World} {spare : Nat → Bool} {held : Bool}

theorem open_cells {r : Reach} {b0 : Nat} {t : TypeId} {fs : Array Field} {v : Value} {d : DataW T} {p : List MemPlace} (hs : P.underlying t = some (.struct fs)) (hone : oneCellFields P fs = true) (hC : P.cellsOf t = fs.size)
    (hv : Value.okWide P w r b0 t v) (h : DataW.Trod enc P w 0 spare held t v d p) :
    ∃ (cs : Array Value) (n : Nat), v = .agg cs ∧ cs.size = fs.size ∧ ∀ (j : Nat) f c, fs[j]? = some f → cs[j]? = some c → ∃ y, DataW.trod enc P w 0 spare held n f.type [c] = some y := by
  obtain ⟨cs, rfl, hsz⟩ := okWide_struct hs hv
  obtain ⟨fuel, hf⟩ := h
  have hf' : DataW.trod enc P w 0 spare held fuel t cs.toList = some (d, p) := by simpa [Value.cells] using hf
  obtain ⟨xs, n', _, hx, hlen, hxl, hfs⟩ := DataW.trod_struct hs hf'
  refine ⟨cs, n', rfl, hsz.trans hC, fun j f c hj hc => ?_⟩
  have h1 := hfs j f hj
  obtain ⟨ho, hk⟩ := hone_of hone j f hj
  rw [ho, hk] at h1
  have hc' : cs.toList[j]? = some c := by simpa using hc
  have hil := (List.getElem?_eq_some_iff.mp hc').1
  have hd : (cs.toList.drop j).take 1 = [c] := by
    rw [List.drop_eq_getElem_cons hil]
    have := (List.getElem?_eq_some_iff.mp hc').2
    rw [this]; rfl
  rw [hd] at h1
  have hjl : j < fs.size := (Array.getElem?_eq_some_iff.mp hj).1
  exact ⟨_, h1.trans (List.getElem?_eq_getElem (by omega))⟩

theorem open_fields {r : Reach} {b0 : Nat} {t : TypeId} {fs : Array Field} {v : Value} {d : DataW T} {p : List MemPlace} (hs : P.underlying t = some (.struct fs))
    (hv : Value.okWide P w r b0 t v) (h : DataW.Trod enc P w 0 spare held t v d p) :
    ∃ (cs : Array Value) (n : Nat), v = .agg cs ∧ cs.size = P.cellsOf t ∧ ∀ (j : Nat) f, fs[j]? = some f → ∃ y, DataW.trod enc P w 0 spare held n f.type ((cs.toList.drop f.offset).take (P.cellsOf f.type)) = some y := by
  obtain ⟨cs, rfl, hsz⟩ := okWide_struct hs hv
  obtain ⟨fuel, hf⟩ := h
  have hf' : DataW.trod enc P w 0 spare held fuel t cs.toList = some (d, p) := by simpa [Value.cells] using hf
  obtain ⟨xs, n', _, hx, hlen, hxl, hfs⟩ := DataW.trod_struct hs hf'
  refine ⟨cs, n', rfl, hsz, fun j f hj => ?_⟩
  have hjl : j < fs.size := (Array.getElem?_eq_some_iff.mp hj).1
  exact ⟨_, (hfs j f hj).trans (List.getElem?_eq_getElem (by omega))⟩

theorem okWide_cells {r : Reach} {b0 : Nat} {t : TypeId} {fs : Array Field} {cs : Array Value} {ts : List TypeId} (hs : P.underlying t = some (.struct fs)) (hts : P.cellTypes P.depth t = some ts) (hv : Value.okWide P w r b0 t (.agg cs)) :
    ∀ (j : Nat) c u, cs[j]? = some c → ts[j]? = some u → Cell.okWide P w r b0 u c := by
  simp only [Value.okWide, hs] at hv
  obtain ⟨cs', h1, h2, ts', h3, _, h4⟩ := hv
  cases h1
  rw [hts] at h3
  cases h3
  intro j c u hc hu
  obtain ⟨u', h5, h6⟩ := h4 j c hc
  have hjl := (List.getElem?_eq_some_iff.mp hu).1
  rw [Nat.mod_eq_of_lt hjl, hu] at h5
  cases h5
  exact h6

theorem open_arr2 {r : Reach} {b0 : Nat} {k : IntKind} {t e : TypeId} {v : Value} {d : DataW T} {p : List MemPlace} (hs : P.underlying t = some (.array 2 e)) (hC : P.cellsOf t = 2) (hC' : P.cellsOf e = 1)
    (hi : P.underlying e = some (.int k)) (hv : Value.okWide P w r b0 t v) (h : DataW.Trod enc P w 0 spare held t v d p) : ∃ a0 a1 : Int, v = .agg #[.int k a0, .int k a1] := by
  simp only [Value.okWide, hs] at hv
  obtain ⟨cs, rfl, hsz, _⟩ := hv
  obtain ⟨fuel, hf⟩ := h
  have hf' : DataW.trod enc P w 0 spare held fuel t cs.toList = some (d, p) := by simpa [Value.cells] using hf
  obtain ⟨zs, hz, _⟩ := intsAt_array hs hC hC' hi _ _ _ hf'
  obtain ⟨l⟩ := cs
  simp only at hz hsz
  match l, zs, hz, (by simpa [hC] using hsz : l.length = 2) with
  | [c0, c1], [z0, z1], hz, _ =>
    simp at hz
    exact ⟨z0, z1, by rw [hz.1, hz.2]⟩

end

end Go.Proofs.Ytlocjmbfcdfjfaa.Slim
