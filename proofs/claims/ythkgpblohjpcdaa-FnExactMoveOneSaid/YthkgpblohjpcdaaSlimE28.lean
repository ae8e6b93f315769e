/- Stages of a chain: what is valid, copies, marks. -/
import Derived.Test.YthkgpblohjpcdaaSlimE21
namespace Go.Proofs.Ythkgpblohjpcdaa.Slim

open Go

set_option linter.unusedSimpArgs false

set_option linter.unusedVariables false

variable {pr : Prims} {H : List Blk} {e : Option Nat}

def ratioOk (x : Int) : Bool := decide (1 ≤ x) && decide (x ≤ 24)

/-- a stage: its kind and its two numbers -/
abbrev Sg := Int × Int × Int

def stageOk (s : Sg) : Bool :=
  if s.1 = 1 then ratioOk s.2.1 && ratioOk s.2.2 else if s.1 = 3 then ratioOk s.2.1 && ratioOk s.2.2 else if s.1 = 2 then ratioOk s.2.1 && decide (s.2.2 = 0)
  else if s.1 = 4 then (ratioOk s.2.1 && ratioOk s.2.2) && decide (s.2.2 ≤ s.2.1) else if s.1 = 5 then (ratioOk s.2.1 && ratioOk s.2.2) && decide (s.2.2 < s.2.1) else false

abbrev sgV (s : Sg) : AV := .agg [.int .i64 s.1, .int .i64 s.2.1, .int .i64 s.2.2]

def encS : List Sg → List AV
  | [] => []
  | s :: ss => .int .i64 s.1 :: .int .i64 s.2.1 :: .int .i64 s.2.2 :: encS ss

theorem encS_length : ∀ ss : List Sg, (encS ss).length = ss.length * 3
  | [] => rfl
  | s :: ss => by simp [encS, encS_length ss]; omega

theorem part_encS {ss : List Sg} {i : Nat} {s : Sg} (h : ss[i]? = some s) : part true (encS ss) (i * 3) 3 = some (.agg [.int .i64 s.1, .int .i64 s.2.1, .int .i64 s.2.2]) := by
  induction ss generalizing i with
  | nil => simp at h
  | cons a ss ih =>
    cases i with
    | zero => simp at h; subst h; simp [encS, part]
    | succ i =>
      simp at h
      rw [show (i + 1) * 3 = i * 3 + 1 + 1 + 1 by omega, encS, part_tk, part_tk, part_tk]
      exact ih h

theorem setRange_encS {X : List Sg} {i : Nat} {k a b : Int} (h : i < X.length) : setRange (encS X) (i * 3) [.int .i64 k, .int .i64 a, .int .i64 b] = encS (X.set i (k, a, b)) := by
  induction X generalizing i with
  | nil => simp at h
  | cons x X ih =>
    cases i with
    | zero => simp [encS, setRange]
    | succ i =>
      rw [show (i + 1) * 3 = i * 3 + 1 + 1 + 1 by omega, encS, setRange_k, setRange_k, setRange_k, ih (by simpa using h)]
      rfl

theorem under_encS (n : Nat) : ∀ ss : List Sg, ((encS ss).all fun c => c.under n) = true
  | [] => rfl
  | s :: ss => by simp [encS, AV.under, under_encS n ss]

theorem zeros_encS : ∀ n, zeros n [.int .i64 0, .int .i64 0, .int .i64 0] = encS (List.replicate n (0, 0, 0))
  | 0 => rfl
  | n + 1 => by
    have := zeros_encS n
    unfold zeros at *
    simp only [List.replicate_succ, List.flatten_cons, encS, List.cons_append, List.nil_append, this]

theorem take_set_succS {X ss : List Sg} {i : Nat} (hi : i < ss.length) (hX : X.length = ss.length) (h : X.take i = ss.take i) : (X.set i ss[i]).take (i + 1) = ss.take (i + 1) := by
  rw [List.take_succ_eq_append_getElem (by rw [List.length_set]; omega), List.take_succ_eq_append_getElem hi]
  rw [List.take_set_of_le (Nat.le_refl _), h]
  simp

abbrev slS (b n : Nat) (c : Option Nat) : AV := .slice (some (b, 0)) 3 n c

/-- a slice of stages, as a law is handed it -/
def ArgS (H : List Blk) (av : AV) (ss : List Sg) : Prop :=
  ∃ p sz c, av = .slice p sz ss.length c ∧ ss.length ≤ maxLen ∧ (ss ≠ [] → sz = 3 ∧ ∃ b, p = some (b, 0) ∧ cellsAt H b = some (encS ss))

theorem ArgS.more {av : AV} {ss : List Sg} (h : ArgS H av ss) (G : List Blk) : ArgS (H ++ G) av ss := by
  obtain ⟨p, sz, c, h1, h2, h3⟩ := h
  refine ⟨p, sz, c, h1, h2, fun hne => ?_⟩
  obtain ⟨h4, b, h5, h6⟩ := h3 hne
  exact ⟨h4, b, h5, cells_mono h6 G⟩

theorem stages_of : ∀ (es : List (List Int)), (∀ e ∈ es, e.length = 3) → ∃ ss : List Sg, es.flatten.map (AV.int .i64) = encS ss ∧ ss.length = es.length
  | [], _ => ⟨[], rfl, rfl⟩
  | e :: es, h => by
    obtain ⟨ss, h1, h2⟩ := stages_of es (fun e' h' => h e' (by simp [h']))
    have h0 := h e (by simp)
    match e, h0 with
    | [x, y, z], _ => exact ⟨(x, y, z) :: ss, by simp [encS, h1], by simp [h2]⟩

theorem argS_of {av : AV} {es : List (List Int)} (h : IsArg H av .i64 3 es) : ∃ ss, ArgS H av ss := by
  obtain ⟨h1, h2⟩ := h
  rcases h2 with ⟨rfl, rfl⟩ | ⟨b, cap, rfl, h3, h4, h5⟩
  · exact ⟨[], none, 0, none, rfl, Nat.zero_le _, fun h => absurd rfl h⟩
  · obtain ⟨ss, h6, h7⟩ := stages_of es (fun e he => (h1 e he).1)
    refine ⟨ss, some (b, 0), 3, some cap, by rw [h7], by omega, fun _ => ⟨rfl, b, rfl, ?_⟩⟩
    unfold cellsAt
    rw [h5, h6]

def chainOk (ls : List Sg) : Bool := ls.all stageOk && decide (ls.length ≤ 5)

end Go.Proofs.Ythkgpblohjpcdaa.Slim
