/- The slim machine: each operation that reads no memory does in the model what the slim one says. -/
import Derived.Test.YtlocjmbfcdfjfaaSlimC
namespace Go.Proofs.Ytlocjmbfcdfjfaa.Slim
open Go
set_option linter.unusedVariables false

theorem run_sizeT {P : Program} {t : TypeId} {n : Nat} (h : szT P t = some n) (w : World) : (sizeOf t).run P w = .ok n w := by
  unfold szT at h
  cases hi : P.info? t with
  | none => simp [hi] at h
  | some i => simp [hi] at h; subst h; simp [sizeOf, typeInfo, hi]

theorem run_aggT {P : Program} {t : TypeId} {b : Bool} (h : aggT P t = some b) (w : World) : (isAgg t).run P w = .ok b w := by
  unfold aggT at h
  cases hu : P.underlying t with
  | none => simp [hu] at h
  | some d =>
    simp only [hu] at h
    cases d <;> (simp at h; subst h; simp [isAgg, run_underlying hu])

theorem run_infoT {P : Program} {t : TypeId} {i : TypeInfo} (h : P.info? t = some i) (w : World) : (typeInfo t).run P w = .ok i w := by simp [typeInfo, h]

section
variable {ι : Emb} {w : World}

theorem V.ofCell : ∀ {v : Value} {a : AV}, Slim.ofCell v = some a → V ι w a v ∧ a.isCell = true := by
  intro v a h
  unfold Slim.ofCell at h
  split at h <;> first | (cases h; exact ⟨rfl, rfl⟩) | (cases h; exact ⟨⟨rfl, rfl⟩, rfl⟩) | cases h

theorem VL.ofCells : ∀ {v : List Value} {a : List AV}, Slim.ofCells v = some a → VL ι w a v ∧ a.all AV.isCell = true
  | [], a, h => by cases h; exact ⟨rfl, rfl⟩
  | v :: vs, a, h => by
    unfold Slim.ofCells at h
    split at h
    · rename_i a' as h1 h2
      cases h
      obtain ⟨p, q⟩ := V.ofCell (ι := ι) (w := w) h1
      obtain ⟨r, s⟩ := VL.ofCells h2
      exact ⟨⟨v, vs, rfl, p, r⟩, by simp [q]; simpa using s⟩
    · cases h

theorem V.ofConst {v : Value} {a : AV} (h : Slim.ofConst v = some a) : V ι w a v := by
  unfold Slim.ofConst at h
  split at h
  · rename_i cs
    simp only [Option.map_eq_some_iff] at h
    obtain ⟨l, h1, rfl⟩ := h
    obtain ⟨p, q⟩ := VL.ofCells (ι := ι) (w := w) h1
    exact ⟨cs.toList, by simp, p, q⟩
  · exact (V.ofCell h).1

theorem V.cells {a : AV} {v : Value} {cs : List AV} (h : V ι w a v) (hc : cellsOf a = some cs) : VL ι w cs v.cells.toList ∧ cs.all AV.isCell = true := by
  cases a with
  | undef => cases hc
  | tup => cases hc
  | agg l => cases hc; obtain ⟨xs, rfl, h1, h2⟩ := h; exact ⟨by simpa [Value.cells] using h1, h2⟩
  | bool => cases hc; cases h; exact ⟨⟨_, _, rfl, rfl, rfl⟩, rfl⟩
  | int => cases hc; cases h; exact ⟨⟨_, _, rfl, rfl, rfl⟩, rfl⟩
  | str => cases hc; cases h; exact ⟨⟨_, _, rfl, rfl, rfl⟩, rfl⟩
  | ptr p =>
    cases hc
    have h1 := V.oneCell (c := .ptr p) rfl h
    refine ⟨⟨v, [], ?_, h, rfl⟩, rfl⟩
    cases v <;> simp_all [Value.cells, Value.oneCell']
  | slice p =>
    cases hc
    rename_i sz n cap
    have h1 := V.oneCell (c := .slice p sz n cap) rfl h
    refine ⟨⟨v, [], ?_, h, rfl⟩, rfl⟩
    cases v <;> simp_all [Value.cells, Value.oneCell']
  | fn f x y =>
    cases hc
    have h1 := V.oneCell (c := .fn f x y) rfl h
    refine ⟨⟨v, [], ?_, h, rfl⟩, rfl⟩
    cases v <;> simp_all [Value.cells, Value.oneCell']
  | nilfn => cases hc; cases h; exact ⟨⟨_, _, rfl, rfl, rfl⟩, rfl⟩
  | map p =>
    cases hc
    have h1 := V.oneCell (c := .map p) rfl h
    refine ⟨⟨v, [], ?_, h, rfl⟩, rfl⟩
    cases v <;> simp_all [Value.cells, Value.oneCell']
  | nilif => cases hc; cases h; exact ⟨⟨_, _, rfl, rfl, rfl⟩, rfl⟩
  | someif =>
    cases hc
    have h1 := V.oneCell (c := .someif) rfl h
    refine ⟨⟨v, [], ?_, h, rfl⟩, rfl⟩
    cases v <;> simp_all [Value.cells, Value.oneCell']

theorem V.int_inv {k : IntKind} {n : Int} {v : Value} (h : V ι w (.int k n) v) : v = .int k n := h
theorem V.bool_inv {b : Bool} {v : Value} (h : V ι w (.bool b) v) : v = .bool b := h
theorem V.str_inv {s : ByteArray} {v : Value} (h : V ι w (.str s) v) : v = .string s := h

/-- the operands -/
def OkX (ι : Emb) (w : World) (cx : Look) (g : X → AV) (ρ : Operand → Value) : Prop := ∀ o x, cx o = some x → V ι w (g x) (ρ o)

theorem OkX.map {cx : Look} {g : X → AV} {ρ : Operand → Value} (h : OkX ι w cx g ρ) : ∀ {os : List Operand} {xs : List X}, mapX cx os = some xs → VL ι w (xs.map g) (os.map ρ)
  | [], xs, e => by cases e; rfl
  | o :: os, xs, e => by
    unfold mapX at e
    split at e
    · rename_i x xs' h1 h2
      cases e
      exact ⟨_, _, rfl, h _ _ h1, OkX.map h h2⟩
    · cases e

/-- the bounds of a slice expression -/
theorem natOf_inv {a : AV} {v : Value} {n : Nat} (h : V ι w a v) (hn : natOf a = some n) : ∃ k, v = .int k n := by
  unfold natOf at hn
  split at hn
  · rename_i k i
    split at hn
    · cases hn; cases h; exact ⟨k, by rw [Int.toNat_of_nonneg (by assumption)]⟩
    · cases hn
  · cases hn

theorem run_sliceBound {P : Program} {k : IntKind} {n y : Nat} (hy : n ≤ y) (code : BoundsCode) : (Instr.sliceBound (.int k n) y code).run P w = .ok n w := by
  simp [Instr.sliceBound, asIntOf, hy]

theorem run_sliceBounds {P : Program} {cx : Look} {g : X → AV} {ρ : Operand → Value} (hρ : OkX ι w cx g ρ) {lo hi mx : Option Operand} {lo' hi' mx' : Option X} {len cap l h m : Nat} (isS : Bool)
    (hlo : optX cx lo = some lo') (hhi : optX cx hi = some hi') (hmx : optX cx mx = some mx') (el : bound g lo' 0 = some l) (eh : bound g hi' len = some h)
    (em : bound g mx' cap = some m) (h1 : l ≤ h) (h2 : h ≤ m) (h3 : m ≤ cap) (h4 : mx' = none ∨ hi' ≠ none) :
    (Instr.sliceBounds isS len cap (lo.map ρ) (hi.map ρ) (mx.map ρ)).run P w = .ok (l, h, m) w := by
  have B : ∀ {x : Option Operand} {x' : Option X} {d n : Nat}, optX cx x = some x' → bound g x' d = some n → (x = none ∧ x' = none ∧ n = d) ∨ ∃ o k, x = some o ∧ ρ o = .int k n := by
    intro x x' d n hx hn
    cases x with
    | none => cases hx; cases hn; exact .inl ⟨rfl, rfl, rfl⟩
    | some o =>
      simp only [optX, Option.map_eq_some_iff] at hx
      obtain ⟨y, hy, rfl⟩ := hx
      obtain ⟨k, hk⟩ := natOf_inv (hρ _ _ hy) hn
      exact .inr ⟨o, k, rfl, hk⟩
  unfold Instr.sliceBounds
  have Bl := B hlo el
  have Bh := B hhi eh
  have Bm := B hmx em
  rcases Bm with ⟨rfl, rfl, rfl⟩ | ⟨om, km, rfl, hm⟩ <;> rcases Bh with ⟨rfl, rfl, rfl⟩ | ⟨oh, kh, rfl, hh⟩ <;> rcases Bl with ⟨rfl, rfl, rfl⟩ | ⟨ol, kl, rfl, hl⟩
  all_goals first
    | (exfalso; rcases h4 with h4 | h4 <;> simp_all [optX] <;> (simp only [optX, Option.map_eq_some_iff] at hmx; obtain ⟨_, _, e⟩ := hmx; cases e))
    | simp [*, run_sliceBound]

end
end Go.Proofs.Ytlocjmbfcdfjfaa.Slim
