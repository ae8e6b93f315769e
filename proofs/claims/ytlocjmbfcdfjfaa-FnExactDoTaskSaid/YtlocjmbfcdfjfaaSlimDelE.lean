/- What slices.Delete is told to do. -/
import Derived.Test.YtlocjmbfcdfjfaaSlimFns
import Derived.Test.YtlocjmbfcdfjfaaSlimDel
namespace Go.Proofs.Ytlocjmbfcdfjfaa.Slim
open Go
set_option linter.unusedVariables false

def prDel (sz : Nat) (args : List AV) (m : Mem) : Option (AV × Mem) := match args with
  | [.slice (some (b, 0)) sz' n cap, .int .i64 i, .int .i64 j] => (match m.H[b]? with
    | some (.cells cs true) => if sz' = sz ∧ cs.length = n * sz ∧ 0 ≤ i ∧ i < (n : Int) ∧ j = i + 1 then
        some (.slice (some (m.H.length + 1, 0)) sz (n - 1) none, ⟨m.H.set b .dead ++ [.dead, .cells (cs.take (i.toNat * sz) ++ cs.drop ((i.toNat + 1) * sz)) true], m.esc⟩) else none
    | _ => none)
  | _ => none

theorem prDel_told {sz : Nat} {args : List AV} {m m' : Mem} {v : AV} (h : prDel sz args m = some (v, m')) : ∃ (b n i : Nat) (cap : Option Nat) (cs : List AV), args = [.slice (some (b, 0)) sz n cap, .int .i64 i, .int .i64 (i + 1 : Nat)] ∧
    m.H[b]? = some (.cells cs true) ∧ cs.length = n * sz ∧ i < n ∧ v = .slice (some (m.H.length + 1, 0)) sz (n - 1) none ∧ m' = ⟨m.H.set b .dead ++ [.dead, .cells (cs.take (i * sz) ++ cs.drop ((i + 1) * sz)) true], m.esc⟩ := by
  unfold prDel at h
  split at h
  · rename_i b sz' n cap i j
    split at h
    · rename_i cs hb
      split at h
      · rename_i hc
        obtain ⟨rfl, h1, h2, h3, rfl⟩ := hc
        cases h
        obtain ⟨k, rfl⟩ : ∃ k : Nat, i = k := ⟨i.toNat, by omega⟩
        exact ⟨b, n, k, cap, cs, by simp, hb, h1, by omega, rfl, by simp⟩
      · cases h
    · cases h
  · cases h

theorem prDel_at {sz : Nat} {L : List Blk} {e : Option Nat} {b n i : Nat} {cap : Option Nat} {cs : List AV} (h1 : L[b]? = some (.cells cs true)) (h2 : cs.length = n * sz) (h3 : i < n) :
    prDel sz [.slice (some (b, 0)) sz n cap, .int .i64 i, .int .i64 (i + 1 : Nat)] ⟨L, e⟩ = some (.slice (some (L.length + 1, 0)) sz (n - 1) none, ⟨L.set b .dead ++ [.dead, .cells (cs.take (i * sz) ++ cs.drop ((i + 1) * sz)) true], e⟩) := by
  unfold prDel
  simp only [h1]
  rw [if_pos ⟨trivial, h2, by omega, by omega, by omega⟩]
  simp

theorem prDel_grow {sz : Nat} {args : List AV} {m m' : Mem} {v : AV} (h : prDel sz args m = some (v, m')) : Grow m m' := by
  obtain ⟨b, n, i, cap, cs, rfl, hb, hcs, hi, rfl, rfl⟩ := prDel_told h
  have hbl : b < m.H.length := (List.getElem?_eq_some_iff.mp hb).1
  have key : ∀ (x : Nat) cs' wr', (m.H.set b .dead ++ [.dead, Blk.cells (cs.take (i * sz) ++ cs.drop ((i + 1) * sz)) true])[x]? = some (.cells cs' wr') → (x < m.H.length ∧ m.H[x]? = some (.cells cs' wr')) ∨ (m.H.length ≤ x ∧ wr' = true) := by
    intro x cs' wr' hx
    rcases Nat.lt_or_ge x m.H.length with hl | hl
    · rw [List.getElem?_append_left (by simpa using hl), List.getElem?_set] at hx
      split at hx
      · cases hx
      · exact .inl ⟨hl, hx⟩
    · rw [List.getElem?_append_right (by simpa using hl)] at hx
      refine .inr ⟨hl, ?_⟩
      match hq : x - (m.H.set b .dead).length, hx with
      | 0, hx => simp at hx
      | 1, hx => simp at hx; exact hx.2
      | q + 2, hx => simp at hx
  refine ⟨by simp, fun _ h => h, fun x hx _ => ?_, fun x cs' hx => ?_⟩
  · intro cs' wr' hc
    rcases key x cs' wr' hc with ⟨_, h2⟩ | ⟨h1, _⟩
    · exact ⟨cs', wr', h2, fun c hc => .inl hc⟩
    · omega
  · rcases key x cs' false hx with ⟨_, h2⟩ | ⟨_, h2⟩
    · exact h2
    · cases h2

/-- slices.Delete, at one element -/
def HasDelete (pr : Prims) : Prop := (∀ (L : List Blk) (e : Option Nat) (b n i : Nat) (cap : Option Nat) (cs : List AV), L[b]? = some (.cells cs true) → cs.length = n * 2 → i < n → call T pr f_slices_Delete_Si_Load_i_Load [.slice (some (b, 0)) 2 n cap, .int .i64 i, .int .i64 (i + 1 : Nat)] ⟨L, e⟩ = some (.slice (some (L.length + 1, 0)) 2 (n - 1) none, ⟨L.set b .dead ++ [.dead, .cells (cs.take (i * 2) ++ cs.drop ((i + 1) * 2)) true], e⟩)) ∧ (∀ (L : List Blk) (e : Option Nat) (b n i : Nat) (cap : Option Nat) (cs : List AV), L[b]? = some (.cells cs true) → cs.length = n * 3 → i < n → call T pr f_slices_Delete_Si_Stage_i_Stage [.slice (some (b, 0)) 3 n cap, .int .i64 i, .int .i64 (i + 1 : Nat)] ⟨L, e⟩ = some (.slice (some (L.length + 1, 0)) 3 (n - 1) none, ⟨L.set b .dead ++ [.dead, .cells (cs.take (i * 3) ++ cs.drop ((i + 1) * 3)) true], e⟩))

end Go.Proofs.Ytlocjmbfcdfjfaa.Slim
