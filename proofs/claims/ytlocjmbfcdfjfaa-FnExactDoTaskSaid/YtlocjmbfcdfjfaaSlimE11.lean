/- Slices of numbers. -/
import Derived.Test.YtlocjmbfcdfjfaaSlimE7
namespace Go.Proofs.Ytlocjmbfcdfjfaa.Slim

open Go

set_option linter.unusedSimpArgs false

set_option linter.unusedVariables false

variable {pr : Prims} {H : List Blk} {e : Option Nat}

abbrev encI (ls : List Int) : List AV := ls.map (AV.int .i64)

abbrev slI (b n : Nat) (c : Option Nat) : AV := .slice (some (b, 0)) 1 n c

theorem part_encI {ls : List Int} {i : Nat} {x : Int} (sz : Nat) (h : ls[i]? = some x) : part false (encI ls) i sz = some (.int .i64 x) := by
  rw [part_false, List.getElem?_map, h]; rfl

theorem under_encI (n : Nat) : ∀ ls : List Int, ((encI ls).all fun c => c.under n) = true
  | [] => rfl
  | l :: ls => by simp [encI, AV.under]

theorem zeros_encI : ∀ n, zeros n [.int .i64 0] = encI (List.replicate n 0)
  | 0 => rfl
  | n + 1 => by
    have := zeros_encI n
    unfold zeros encI at *
    simp only [List.replicate_succ, List.flatten_cons, List.map_cons, List.cons_append, List.nil_append, this]

theorem setRange_encI {X : List Int} {i : Nat} {a : Int} (h : i < X.length) : setRange (encI X) i [.int .i64 a] = encI (X.set i a) := by
  induction X generalizing i with
  | nil => simp at h
  | cons x X ih =>
    cases i with
    | zero => simp [encI, setRange]
    | succ i =>
      have := ih (i := i) (by simpa using h)
      simp only [encI, List.map_cons, List.set_cons_succ] at *
      rw [setRange_k, this]

theorem take_set_succ' {X ls : List Int} {i : Nat} (hi : i < ls.length) (hX : X.length = ls.length) (h : X.take i = ls.take i) : (X.set i ls[i]).take (i + 1) = ls.take (i + 1) := by
  rw [List.take_succ_eq_append_getElem (by rw [List.length_set]; omega), List.take_succ_eq_append_getElem hi]
  rw [List.take_set_of_le (Nat.le_refl _), h]
  simp

/-- a slice of numbers, as a law is handed it -/
def ArgI (H : List Blk) (av : AV) (ls : List Int) : Prop :=
  ∃ p sz c, av = .slice p sz ls.length c ∧ ls.length ≤ maxLen ∧ (ls ≠ [] → sz = 1 ∧ ∃ b, p = some (b, 0) ∧ cellsAt H b = some (encI ls))

theorem ArgI.more {av : AV} {ls : List Int} (h : ArgI H av ls) (G : List Blk) : ArgI (H ++ G) av ls := by
  obtain ⟨p, sz, c, h1, h2, h3⟩ := h
  refine ⟨p, sz, c, h1, h2, fun hne => ?_⟩
  obtain ⟨h4, b, h5, h6⟩ := h3 hne
  exact ⟨h4, b, h5, cells_mono h6 G⟩

theorem ints_of : ∀ (es : List (List Int)), (∀ e ∈ es, e.length = 1) → ∃ ls : List Int, es.flatten = ls ∧ ls.length = es.length
  | [], _ => ⟨[], rfl, rfl⟩
  | e :: es, h => by
    obtain ⟨ls, h1, h2⟩ := ints_of es (fun e' h' => h e' (by simp [h']))
    have h0 := h e (by simp)
    match e, h0 with
    | [x], _ => exact ⟨x :: ls, by simp [h1], by simp [h2]⟩

theorem argI_of {av : AV} {es : List (List Int)} (h : IsArg H av .i64 1 es) : ∃ ls, ArgI H av ls := by
  obtain ⟨h1, h2⟩ := h
  rcases h2 with ⟨rfl, rfl⟩ | ⟨b, cap, rfl, h3, h4, h5⟩
  · exact ⟨[], none, 0, none, rfl, Nat.zero_le _, fun h => absurd rfl h⟩
  · obtain ⟨ls, h6, h7⟩ := ints_of es (fun e he => (h1 e he).1)
    refine ⟨ls, some (b, 0), 1, some cap, by rw [h7], by omega, fun _ => ⟨rfl, b, rfl, ?_⟩⟩
    unfold cellsAt
    rw [h5, h6]

end Go.Proofs.Ytlocjmbfcdfjfaa.Slim
