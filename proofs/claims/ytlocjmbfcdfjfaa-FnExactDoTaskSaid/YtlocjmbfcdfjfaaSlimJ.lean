/- The slim machine: append, make, a string's bytes. -/
import Derived.Test.YtlocjmbfcdfjfaaSlimI
namespace Go.Proofs.Ytlocjmbfcdfjfaa.Slim
open Go
set_option linter.unusedVariables false
set_option linter.unusedSimpArgs false

section
variable {ι : Emb} {m : Mem} {w : World}

theorem Rel.kill (R : Rel ι m w) (b : Nat) : Rel ι { m with H := m.H.set b .dead } w ∧ Ext ι m w ι { m with H := m.H.set b .dead } w := by
  have hset : ∀ (b' : Nat) cs wr, (m.H.set b .dead)[b']? = some (Blk.cells cs wr) → m.H[b']? = some (Blk.cells cs wr) := by
    intro b' cs wr h
    rw [List.getElem?_set] at h
    split at h
    · split at h <;> cases h
    · exact h
  refine ⟨⟨by simp [R.len], R.low, fun b' cs wr h => R.at' b' cs wr (hset _ _ _ h), fun b1 b2 cs1 cs2 wr c d c' d' hne h1 h2 => R.inj b1 b2 cs1 cs2 wr c d c' d' hne (hset _ _ _ h1) (hset _ _ _ h2)⟩,
    ⟨Emb.le_refl _, Nat.le_refl _, Nat.le_refl _, Shapes.refl _, fun r hr => ?_, fun _ _ _ => rfl, rfl, rfl, rfl⟩⟩
  obtain ⟨b', cs', d', h1, h2⟩ := hr
  exact .inl ⟨b', cs', d', hset _ _ _ h1, h2⟩

/-- a block's end is written on: the block is given up, and a new one lies in its place -/
theorem Rel.inplace {P : Program} {b : Nat} {old cs : List AV} {new : List AV} {c d x e M : Nat} {us vs : List Value} (R : Rel ι m w) (hb : m.H[b]? = some (.cells old true))
    (hi : ι[b]? = some (some (c, d))) (hM : w.shape? c = some (e, M)) (hu : VL ι w cs us) (hcell : ∀ j v, us[j]? = some v → w.cell? ⟨c, x + j, none⟩ = some v) (hcs : cs.all AV.isCell = true)
    (hv : VL ι w new vs) (hc : new.all AV.isCell = true) (hx : vs.length = 0 ∨ x + us.length + vs.length ≤ M) :
    (storeCells ⟨c, x + us.length, none⟩ vs).run P w = .ok () (w.setCells c (x + us.length) vs) ∧
    Rel (ι ++ [some (c, x)]) { m with H := m.H.set b .dead ++ [.cells (cs ++ new) true] } (w.setCells c (x + us.length) vs) ∧
    Ext ι m w (ι ++ [some (c, x)]) { m with H := m.H.set b .dead ++ [.cells (cs ++ new) true] } (w.setCells c (x + us.length) vs) := by
  obtain ⟨c', d', g, hC⟩ := R.at' b old true hb
  rw [hi] at g
  cases g
  obtain ⟨e', M', hM', hfree⟩ := hC.free rfl
  rw [hM] at hM'
  cases hM'
  obtain ⟨s1, s2, s3⟩ := write_ok (P := P) hM hfree hx (oneCells hv hc)
  obtain ⟨f1, f2, f3, f4, f5, f6⟩ := setCells_facts c vs (x + us.length) w
  have hbl : b < m.H.length := (List.getElem?_eq_some_iff.mp hb).1
  have hle : Emb.le ι (ι ++ [some (c, x)]) := fun b p hb => by
    rw [List.getElem?_append_left]; exact hb
    exact (List.getElem?_eq_some_iff.mp hb).1
  have key : ∀ b' : Nat, (ι ++ [some (c, x)])[b']? = if b' < ι.length then ι[b']? else if b' = ι.length then some (some (c, x)) else none := by
    intro b'
    by_cases h1 : b' < ι.length
    · rw [if_pos h1, List.getElem?_append_left h1]
    · rw [if_neg h1, List.getElem?_append_right (by omega)]
      by_cases h2 : b' = ι.length
      · subst h2; simp
      · rw [if_neg h2]; rw [List.getElem?_eq_none]; simp; omega
  have keyH : ∀ b' : Nat, (m.H.set b .dead ++ [.cells (cs ++ new) true])[b']? = if b' < ι.length then (if b = b' then some .dead else m.H[b']?) else if b' = ι.length then some (.cells (cs ++ new) true) else none := by
    intro b'
    by_cases h1 : b' < ι.length
    · rw [if_pos h1, List.getElem?_append_left (by simp; rw [← R.len]; exact h1), List.getElem?_set]
      split
      · simp [hbl]
      · rfl
    · rw [if_neg h1, List.getElem?_append_right (by simp; rw [← R.len]; omega)]
      by_cases h2 : b' = ι.length
      · subst h2; simp [R.len]
      · rw [if_neg h2]; rw [List.getElem?_eq_none]; simp [← R.len]; omega
  have hclt : c < w.heap.size := R.low b c d hi
  refine ⟨s1, ⟨?_, ?_, ?_, ?_⟩, ⟨hle, ?_, ?_, f1, ?_, ?_, f4, f5, f6⟩⟩
  · simp [R.len]
  · intro b' c' d' hb'
    rw [key] at hb'
    rw [f3]
    split at hb'
    · exact R.low b' c' d' hb'
    · split at hb'
      · cases hb'; exact hclt
      · cases hb'
  · intro b' cs' wr hb'
    simp only [] at hb'
    rw [keyH] at hb'
    split at hb'
    · rename_i hlt
      split at hb'
      · cases hb'
      · rename_i hne
        obtain ⟨c', d', h1, h2⟩ := R.at' b' cs' wr hb'
        exact ⟨c', d', hle _ _ h1, h2.mono hle f1 (f2 c' (fun e => R.inj b b' old cs' wr c d c' d' hne hb hb' hi h1 e.symm))⟩
    · split at hb'
      · rename_i hlt heq
        cases hb'
        refine ⟨c, x, by rw [key, if_neg hlt, if_pos heq], ⟨us ++ vs, VL.mono hle f1 _ _ (hu.append hv), fun j v hj => ?_⟩, by rw [List.all_append, hcs, hc]; rfl, fun _ => ⟨e, M, f1 _ _ hM, fun q hq => ?_⟩⟩
        · by_cases hj1 : j < us.length
          · rw [List.getElem?_append_left hj1] at hj
            rw [s3 (x + j) (by omega)]
            exact hcell j v hj
          · rw [List.getElem?_append_right (by omega)] at hj
            have := s2 (j - us.length) v hj
            rwa [show x + us.length + (j - us.length) = x + j by omega] at this
        · rw [World.frozen?_setCells c vs (x + us.length) w _]
          exact hfree q hq
      · cases hb'
  · intro b1 b2 cs1 cs2 wr c1 d1 c2 d2 hne h1 h2 h3 h4
    simp only [] at h1 h2
    rw [keyH] at h1 h2
    rw [key] at h3 h4
    by_cases l1 : b1 < ι.length <;> by_cases l2 : b2 < ι.length
    · rw [if_pos l1] at h1 h3; rw [if_pos l2] at h2 h4
      split at h1
      · cases h1
      · split at h2
        · cases h2
        · exact R.inj b1 b2 cs1 cs2 wr c1 d1 c2 d2 hne h1 h2 h3 h4
    · rw [if_pos l1] at h1 h3; rw [if_neg l2] at h2 h4
      split at h1
      · cases h1
      · rename_i hbb
        split at h4
        · cases h4
          exact fun e => R.inj b b1 old cs1 true c d c1 d1 hbb hb h1 hi h3 e.symm
        · cases h4
    · rw [if_neg l1] at h1 h3; rw [if_pos l2] at h2 h4
      split at h3
      · split at h2
        · cases h2
        · rename_i hbb
          cases h3
          exact R.inj b b2 old cs2 wr c d c2 d2 hbb hb h2 hi h4
      · cases h3
    · rw [if_neg l1] at h3; rw [if_neg l2] at h4
      split at h3
      · split at h4
        · omega
        · cases h4
      · cases h3
  · simp
  · rw [f3]; exact Nat.le_refl _
  · rintro r ⟨b', cs', d', h1, h2⟩
    simp only [] at h1
    rw [keyH] at h1
    rw [key] at h2
    left
    split at h1
    · rename_i hlt
      rw [if_pos hlt] at h2
      split at h1
      · cases h1
      · exact ⟨b', cs', d', h1, h2⟩
    · rename_i hlt
      rw [if_neg hlt] at h2
      split at h2
      · cases h2; exact ⟨b, old, d, hb, hi⟩
      · cases h2
  · intro r hr hn
    exact f2 r (fun e => hn ⟨b, old, d, hb, by rw [e]; exact hi⟩)

theorem grownCap_ge (w : World) (need old : Nat) (e : TypeId) : need ≤ grownCap w need old e := by
  show need ≤ need + _
  omega

/-- what append comes to in the model -/
theorem run_append_gen {P : Program} {t u e : TypeId} {sz by' : Nat} {z : Value} (ty : TypeId) (ts : Array TypeId) (args : Array Value) (hts0 : ts[0]? = some t) (hts1 : ts[1]? = some u)
    (ht : P.underlying t = some (.slice e)) (hu : (∃ e', P.underlying u = some (.slice e')) ∨ P.underlying u = some .string) (hsz : szT P e = some sz) (hby : bytesT P e = some by') (hpos : 0 < by')
    (hz : ∀ w : World, (zeroValue e).run P w = .ok z w) (base : Option Addr) (sLen sCap : Nat) (x : Value) (k : Nat) (olds news : List Value) (ha0 : args[0]? = some (.slice base sLen sCap)) (ha1 : args[1]? = some x)
    (hlen : ∀ w : World, (Builtin.lenOf x).run P w = .ok k w) (hsrc : ∀ w' : World, w'.heap = w.heap → (Builtin.firstCells sz k x).run P w' = .ok news.toArray w')
    (hold : ∀ w' : World, w'.heap = w.heap → (Builtin.firstCells sz sLen (.slice base sLen sCap)).run P w' = .ok olds.toArray w') :
    (sLen + k ≤ sCap → (Builtin.append_ ts ty args).run P w = ((match base with | some a => storeCells (a.add (sLen * sz)) news | none => pure ()).run P w).andThen fun _ w' => .ok (.slice base (sLen + k) sCap) w') ∧
    (sCap < sLen + k → (sLen + k) * by' ≤ 140737488355328 → (Builtin.append_ ts ty args).run P w =
      .ok (.slice (some ⟨w.heap.size, 0, none⟩) (sLen + k) (grownCap w (sLen + k) sCap e))
        (w.drew.alloc (.cells (olds.toArray ++ news.toArray ++ Builtin.zeroCells z.cells (grownCap w (sLen + k) sCap e - (sLen + k))) e))) := by
  cases hi : P.info? e with
  | none => simp [szT, hi] at hsz
  | some i =>
    have hs : i.size = sz := by simpa [szT, hi] using hsz
    have hb : i.bytes = by' := by simpa [bytesT, hi] using hby
    have hzs : (do pure ((← underlying u) matches .int _) : Sem Bool).run P w = .ok false w := by
      rcases hu with ⟨e', hu⟩ | hu <;> simp [run_underlying hu]
    have hzs' : ∀ (w : World), ((underlying u).run P w).andThen (fun a w => (Sem.run P (pure (a matches .int _) : Sem Bool) w)) = .ok false w := by
      intro w
      rcases hu with ⟨e', hu⟩ | hu <;> simp [run_underlying hu]
    refine ⟨fun hc => ?_, fun hg hfit => ?_⟩
    · have h1 := hsrc w rfl
      rcases hu with ⟨e', hu⟩ | hu <;>
      · simp only [Builtin.append_, hts0, hts1, ha0, ha1, Sem.run_bind, run_underlying ht, run_underlying hu, Result.andThen_ok, run_sizeT hsz, Sem.run_pure, Bool.false_eq_true, if_false, hlen, hc, if_true, Bool.not_false, h1]
        cases base with
        | none => simp
        | some a => simp
    · have hg' : ¬ (sLen + k ≤ sCap) := by omega
      have h63' : ¬ (9223372036854775807 < ((sLen + k : Nat) : Int)) := by
        have : (sLen + k) * 1 ≤ (sLen + k) * by' := Nat.mul_le_mul_left _ hpos
        omega
      have h48' : ¬ (281474976710656 < Builtin.nextslicecap (sLen + k) sCap * i.bytes) := by
        have := growslice_fits (bytes := by') hg hfit
        rw [hb]; omega
      have h1 := hsrc w.drew rfl
      have h2 := hold w.drew rfl
      have hnf : (Question.appendCap (sLen + k) sCap e).forced = false := rfl
      rcases hu with ⟨e', hu⟩ | hu <;>
      · simp only [Builtin.append_, hts0, hts1, ha0, ha1, Sem.run_bind, run_underlying ht, run_underlying hu, Result.andThen_ok, run_sizeT hsz, Sem.run_pure, Bool.false_eq_true, if_false, hlen, hg', run_infoT hi, hz]
        have h0 : ¬ (i.bytes = 0) := by omega
        simp [h0, h48', Question.forced, h1, h2, newRow, grownCap, run_infoT hi, hz]
        try (congr 2; apply Array.ext'; simp)
end
end Go.Proofs.Ytlocjmbfcdfjfaa.Slim
