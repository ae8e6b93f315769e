/- The slim machine: what is kept of a call's memory. -/
import Derived.Test.YtlocjmbfcdfjfaaSlimM
namespace Go.Proofs.Ytlocjmbfcdfjfaa.Slim
open Go
set_option linter.unusedVariables false
set_option linter.unusedSimpArgs false

mutual
theorem V.under {ι : Emb} {w : World} : ∀ (a : AV) (v : Value), V ι w a v → a.under ι.length = true
  | .undef, _, _ => rfl
  | .bool _, _, _ => rfl
  | .int _ _, _, _ => rfl
  | .str _, _, _ => rfl
  | .agg cs, v, ⟨xs, _, h, _⟩ => VL.under cs xs h
  | .tup vs, v, ⟨xs, _, h⟩ => VL.under vs xs h
  | .ptr none, _, _ => rfl
  | .ptr (some (b, o)), v, ⟨c, d, h, _⟩ => by simp [AV.under]; exact (List.getElem?_eq_some_iff.mp h).1
  | .slice none _ _ _, _, _ => rfl
  | .slice (some (b, o)) sz n cap, v, ⟨c, d, x, k, e, m, h1, _⟩ => by simp [AV.under]; exact (List.getElem?_eq_some_iff.mp h1).1
  | .fn f a b, v, ⟨xs, ys, _, h, k⟩ => by simp only [AV.under, Bool.and_eq_true]; exact ⟨VL.under a xs h, VL.under b ys k⟩
  | .nilfn, _, _ => rfl
  | .map none, _, _ => rfl
  | .map (some b), v, ⟨c, d, h, _⟩ => by simp [AV.under]; exact (List.getElem?_eq_some_iff.mp h).1
  | .nilif, _, _ => rfl
  | .someif, _, _ => rfl
theorem VL.under {ι : Emb} {w : World} : ∀ (a : List AV) (v : List Value), VL ι w a v → AV.under.go ι.length a = true
  | [], _, _ => rfl
  | c :: cs, xs, ⟨y, ys, _, h, k⟩ => by simp only [AV.under.go, Bool.and_eq_true]; exact ⟨V.under c y h, VL.under cs ys k⟩
end

mutual
/-- a value that names low blocks alone needs no more than their places; and its blocks may be numbered anew -/
theorem V.sub {ι ι' : Emb} {w : World} {n : Nat} (hi : ∀ (b : Nat) p, b < n → ι[b]? = some (some p) → ι'[b]? = some (some p)) : ∀ (a : AV) (v : Value), a.under n = true → V ι w a v → V ι' w a v
  | .undef, _, _, _ => trivial
  | .bool _, _, _, h => h
  | .int _ _, _, _, h => h
  | .str _, _, _, h => h
  | .agg cs, v, u, ⟨xs, e, h, c⟩ => ⟨xs, e, VL.sub hi cs xs u h, c⟩
  | .tup vs, v, u, ⟨xs, e, h⟩ => ⟨xs, e, VL.sub hi vs xs u h⟩
  | .ptr none, _, _, h => h
  | .ptr (some (b, o)), v, u, ⟨c, d, h, e⟩ => ⟨c, d, hi b _ (by simpa [AV.under] using u) h, e⟩
  | .slice none _ _ _, _, _, h => h
  | .slice (some (b, o)) sz k cap, v, u, ⟨c, d, x, q, e, m, h1, h2⟩ => ⟨c, d, x, q, e, m, hi b _ (by simpa [AV.under] using u) h1, h2⟩
  | .fn f a b, v, u, ⟨xs, ys, e, h, k⟩ => by
    simp only [AV.under, Bool.and_eq_true] at u
    exact ⟨xs, ys, e, VL.sub hi a xs u.1 h, VL.sub hi b ys u.2 k⟩
  | .nilfn, _, _, h => h
  | .map none, _, _, h => h
  | .map (some b), v, u, ⟨c, d, h, e⟩ => ⟨c, d, hi b _ (by simpa [AV.under] using u) h, e⟩
  | .nilif, _, _, h => h
  | .someif, _, _, h => h
theorem VL.sub {ι ι' : Emb} {w : World} {n : Nat} (hi : ∀ (b : Nat) p, b < n → ι[b]? = some (some p) → ι'[b]? = some (some p)) : ∀ (a : List AV) (v : List Value), AV.under.go n a = true → VL ι w a v → VL ι' w a v
  | [], _, _, h => h
  | c :: cs, xs, u, ⟨y, ys, e, h, k⟩ => by
    simp only [AV.under.go, Bool.and_eq_true] at u
    exact ⟨y, ys, e, V.sub hi c y u.1 h, VL.sub hi cs ys u.2 k⟩
end

mutual
theorem V.rename {ι ι' : Emb} {w : World} {lim : Nat} {f : Nat → Nat} {rs : List Nat} (h1 : ∀ (b : Nat) p, b < lim → ι[b]? = some (some p) → ι'[f b]? = some (some p))
    (h2 : ∀ (b : Nat) p, b ∈ rs → ι[b]? = some (some p) → ι'[f b]? = some (some p)) : ∀ (a : AV) (v : Value), (∀ b ∈ a.roots lim, b ∈ rs) → V ι w a v → V ι' w (a.rename f) v
  | .undef, _, _, _ => trivial
  | .bool _, _, _, h => h
  | .int _ _, _, _, h => h
  | .str _, _, _, h => h
  | .agg cs, v, u, ⟨xs, e, h, c⟩ => by
    refine ⟨xs, e, VL.rename h1 h2 cs xs u h, ?_⟩
    have : ∀ l : List AV, l.all AV.isCell = true → (AV.rename.go f l).all AV.isCell = true := by
      intro l
      induction l with
      | nil => intro h; rfl
      | cons x l ih =>
        intro h
        simp only [List.all_cons, Bool.and_eq_true] at h
        simp only [AV.rename.go, List.all_cons, Bool.and_eq_true]
        refine ⟨?_, ih h.2⟩
        cases x with
        | ptr p => cases p <;> rfl
        | slice p => cases p <;> rfl
        | map p => cases p <;> rfl
        | _ => first | rfl | exact h.1
    exact this cs c
  | .tup vs, v, u, ⟨xs, e, h⟩ => ⟨xs, e, VL.rename h1 h2 vs xs u h⟩
  | .ptr none, _, _, h => h
  | .ptr (some (b, o)), v, u, ⟨c, d, h, e⟩ => by
    by_cases hb : b < lim
    · exact ⟨c, d, h1 b _ hb h, e⟩
    · exact ⟨c, d, h2 b _ (u b (by simp [AV.roots, hb])) h, e⟩
  | .slice none _ _ _, _, _, h => h
  | .slice (some (b, o)) sz k cap, v, u, ⟨c, d, x, q, e, m, g1, g2⟩ => by
    by_cases hb : b < lim
    · exact ⟨c, d, x, q, e, m, h1 b _ hb g1, g2⟩
    · exact ⟨c, d, x, q, e, m, h2 b _ (u b (by simp [AV.roots, hb])) g1, g2⟩
  | .fn k a b, v, u, ⟨xs, ys, e, h, q⟩ =>
    ⟨xs, ys, e, VL.rename h1 h2 a xs (fun x hx => u x (by simp only [AV.roots, List.mem_append]; exact .inl hx)) h, VL.rename h1 h2 b ys (fun x hx => u x (by simp only [AV.roots, List.mem_append]; exact .inr hx)) q⟩
  | .nilfn, _, _, h => h
  | .map none, _, _, h => h
  | .map (some b), v, u, ⟨c, d, h, e⟩ => by
    by_cases hb : b < lim
    · exact ⟨c, d, h1 b _ hb h, e⟩
    · exact ⟨c, d, h2 b _ (u b (by simp [AV.roots, hb])) h, e⟩
  | .nilif, _, _, h => h
  | .someif, _, _, h => h
theorem VL.rename {ι ι' : Emb} {w : World} {lim : Nat} {f : Nat → Nat} {rs : List Nat} (h1 : ∀ (b : Nat) p, b < lim → ι[b]? = some (some p) → ι'[f b]? = some (some p))
    (h2 : ∀ (b : Nat) p, b ∈ rs → ι[b]? = some (some p) → ι'[f b]? = some (some p)) : ∀ (a : List AV) (v : List Value), (∀ b ∈ AV.roots.go lim a, b ∈ rs) → VL ι w a v → VL ι' w (AV.rename.go f a) v
  | [], _, _, h => h
  | c :: cs, xs, u, ⟨y, ys, e, h, k⟩ => by
    simp only [AV.roots.go, List.mem_append] at u
    exact ⟨y, ys, e, V.rename h1 h2 c y (fun b hb => u b (.inl hb)) h, VL.rename h1 h2 cs ys (fun b hb => u b (.inr hb)) k⟩
end

theorem go_under {n : Nat} : ∀ {cs : List AV}, AV.under.go n cs = true ↔ cs.all (fun c => c.under n) = true
  | [] => by simp [AV.under.go]
  | c :: cs => by simp only [AV.under.go, List.all_cons, Bool.and_eq_true]; rw [go_under (cs := cs)]

mutual
theorem AV.under_le {n k : Nat} (h : n ≤ k) : ∀ (a : AV), a.under n = true → a.under k = true
  | .undef, _ => rfl
  | .bool _, _ => rfl
  | .int _ _, _ => rfl
  | .str _, _ => rfl
  | .agg cs, u => AV.go_le h cs u
  | .tup vs, u => AV.go_le h vs u
  | .ptr none, _ => rfl
  | .ptr (some (b, o)), u => by simp [AV.under] at *; omega
  | .slice none _ _ _, _ => rfl
  | .slice (some (b, o)) sz q cap, u => by simp [AV.under] at *; omega
  | .fn f a b, u => by simp only [AV.under, Bool.and_eq_true] at *; exact ⟨AV.go_le h a u.1, AV.go_le h b u.2⟩
  | .nilfn, _ => rfl
  | .map none, _ => rfl
  | .map (some b), u => by simp [AV.under] at *; omega
  | .nilif, _ => rfl
  | .someif, _ => rfl
theorem AV.go_le {n k : Nat} (h : n ≤ k) : ∀ (a : List AV), AV.under.go n a = true → AV.under.go k a = true
  | [], _ => rfl
  | c :: cs, u => by simp only [AV.under.go, Bool.and_eq_true] at *; exact ⟨AV.under_le h c u.1, AV.go_le h cs u.2⟩
end

theorem mem_dedup : ∀ {l : List Nat} {b : Nat}, b ∈ dedup l ↔ b ∈ l
  | [], b => by simp [dedup]
  | x :: xs, b => by
    simp only [dedup, List.mem_cons, List.mem_filter, ne_eq, decide_eq_true_eq, decide_not, Bool.not_eq_true', decide_eq_false_iff_not]
    rw [mem_dedup (l := xs)]
    by_cases h : b = x
    · simp [h]
    · simp [h]

theorem nodup_dedup : ∀ (l : List Nat), (dedup l).Nodup
  | [] => by simp [dedup]
  | x :: xs => by
    simp only [dedup, List.nodup_cons, List.mem_filter]
    refine ⟨by simp, ?_⟩
    exact (nodup_dedup xs).filter _

theorem roots_ge {lim : Nat} : ∀ (a : AV), ∀ b ∈ a.roots lim, lim ≤ b := by
  intro a
  induction a using AV.rec (motive_2 := fun l => ∀ b ∈ AV.roots.go lim l, lim ≤ b) with
  | ptr p =>
    intro b hb
    cases p with
    | none => cases hb
    | some p => obtain ⟨c, o⟩ := p; simp only [AV.roots] at hb; split at hb <;> simp_all
  | slice p =>
    intro b hb
    cases p with
    | none => cases hb
    | some p => obtain ⟨c, o⟩ := p; simp only [AV.roots] at hb; split at hb <;> simp_all
  | map p =>
    intro b hb
    cases p with
    | none => cases hb
    | some p => simp only [AV.roots] at hb; split at hb <;> simp_all
  | agg cs ih => exact ih
  | tup cs ih => exact ih
  | fn f a b ih1 ih2 =>
    intro x hx
    simp only [AV.roots, List.mem_append] at hx
    rcases hx with h | h
    · exact ih1 x h
    · exact ih2 x h
  | nil => rename_i b hb; cases hb
  | cons c cs ih1 ih2 =>
    rename_i b hb
    simp only [AV.roots.go, List.mem_append] at hb
    rcases hb with h | h
    · exact ih1 b h
    · exact ih2 b h
  | _ => intro b hb; cases hb

theorem clean_below {lim : Nat} {e : Option Nat} (h : clean lim e = true) {b : Nat} (hb : b < lim) : belowEsc b e := by
  intro k hk
  subst hk
  simp [clean] at h
  omega

theorem nodup_inj : ∀ {l : List Nat}, l.Nodup → ∀ {i j : Nat} (hi : i < l.length) (hj : j < l.length), l[i] = l[j] → i = j
  | [], _, i, j, hi, _, _ => by simp at hi
  | x :: xs, h, 0, 0, _, _, _ => rfl
  | x :: xs, h, 0, j + 1, _, hj, e => by
    simp at e
    exact absurd (e ▸ List.getElem_mem _) (List.nodup_cons.mp h).1
  | x :: xs, h, i + 1, 0, hi, _, e => by
    simp at e
    exact absurd (e ▸ List.getElem_mem _) (List.nodup_cons.mp h).1
  | x :: xs, h, i + 1, j + 1, hi, hj, e => by
    simp at e
    rw [nodup_inj (List.nodup_cons.mp h).2 (by simpa using hi) (by simpa using hj) e]

/-- cutting the memory back to what was there, with blocks of our choice behind it -/
theorem Rel.cut {ι ι₁ : Emb} {m m₁ : Mem} {w w₁ : World} (R : Rel ι m w) (R₁ : Rel ι₁ m₁ w₁) (E : Ext ι m w ι₁ m₁ w₁) (G : Grow { m with esc := none } m₁) (hcl : clean m.H.length m₁.esc = true)
    (rs : List Nat) (hrs : ∀ b ∈ rs, m.H.length ≤ b) (hnd : rs.Nodup) (hfl : ∀ b ∈ rs, flatBlk m.H.length m₁.H[b]? = true) (esc : Option Nat) :
    Rel (ι₁.take m.H.length ++ rs.map fun b => (ι₁[b]?).getD none) { H := m₁.H.take m.H.length ++ rs.map (fun b => (m₁.H[b]?).getD .dead), esc } w₁ ∧
    Ext ι m w (ι₁.take m.H.length ++ rs.map fun b => (ι₁[b]?).getD none) { H := m₁.H.take m.H.length ++ rs.map (fun b => (m₁.H[b]?).getD .dead), esc } w₁ := by
  have hsz : m.H.length ≤ m₁.H.length := G.size
  have hl1 : ι₁.length = m₁.H.length := R₁.len
  have htl : (ι₁.take m.H.length).length = m.H.length := by simp; omega
  have htH : (m₁.H.take m.H.length).length = m.H.length := by simp; omega
  -- the new numbers
  have keyι : ∀ b : Nat, (ι₁.take m.H.length ++ rs.map fun b => (ι₁[b]?).getD none)[b]? = if b < m.H.length then ι₁[b]? else (rs[b - m.H.length]?).map fun b => (ι₁[b]?).getD none := by
    intro b
    by_cases h : b < m.H.length
    · rw [if_pos h, List.getElem?_append_left (by omega), List.getElem?_take, if_pos h]
    · rw [if_neg h, List.getElem?_append_right (by omega), htl, List.getElem?_map]
  have keyH : ∀ b : Nat, (m₁.H.take m.H.length ++ rs.map fun b => (m₁.H[b]?).getD .dead)[b]? = if b < m.H.length then m₁.H[b]? else (rs[b - m.H.length]?).map fun b => (m₁.H[b]?).getD .dead := by
    intro b
    by_cases h : b < m.H.length
    · rw [if_pos h, List.getElem?_append_left (by omega), List.getElem?_take, if_pos h]
    · rw [if_neg h, List.getElem?_append_right (by omega), htH, List.getElem?_map]
  -- where a block comes from
  have src : ∀ (b : Nat) cs wr, (m₁.H.take m.H.length ++ rs.map fun b => (m₁.H[b]?).getD .dead)[b]? = some (Blk.cells cs wr) → ∃ b', (b' = b ∧ b < m.H.length ∨ m.H.length ≤ b ∧ rs[b - m.H.length]? = some b') ∧ m₁.H[b']? = some (.cells cs wr) ∧
      (ι₁.take m.H.length ++ rs.map fun b => (ι₁[b]?).getD none)[b]? = some ((ι₁[b']?).getD none) ∧ cs.all (fun c => c.under m.H.length) = true := by
    intro b cs wr h
    rw [keyH] at h
    split at h
    · rename_i hlt
      refine ⟨b, .inl ⟨rfl, hlt⟩, h, ?_, ?_⟩
      · rw [keyι, if_pos hlt]
        have : b < ι₁.length := by omega
        rw [List.getElem?_eq_getElem this]; rfl
      · rw [List.all_eq_true]
        intro c hc
        obtain ⟨cs0, wr0, h0, h1⟩ := G.old b hlt (clean_below hcl hlt) cs wr h
        rcases h1 c hc with h2 | h2
        · obtain ⟨c', d', _, hC⟩ := R.at' b cs0 wr0 h0
          obtain ⟨vs, hv, _⟩ := hC.vals
          obtain ⟨j, hj⟩ := List.getElem?_of_mem h2
          obtain ⟨y, _, hy⟩ := hv.get j c hj
          have := V.under c y hy
          rwa [R.len] at this
        · exact AV.under_le (by omega) c h2
    · rename_i hge
      simp only [Option.map_eq_some_iff] at h
      obtain ⟨b', hb', he⟩ := h
      have hm := List.mem_of_getElem? hb'
      have hf := hfl b' hm
      cases hq : m₁.H[b']? with
      | none => rw [hq] at he; cases he
      | some bk =>
        rw [hq] at he hf
        simp at he
        subst he
        refine ⟨b', .inr ⟨by omega, hb'⟩, hq, ?_, hf⟩
        rw [keyι, if_neg hge, hb']
        rfl
  have hle : ∀ (b : Nat) p, b < m.H.length → ι₁[b]? = some (some p) → (ι₁.take m.H.length ++ rs.map fun b => (ι₁[b]?).getD none)[b]? = some (some p) := by
    intro b p hb h
    rw [keyι, if_pos hb]; exact h
  refine ⟨⟨?_, ?_, ?_, ?_⟩, ⟨?_, ?_, E.size, E.shapes, ?_, E.frame, E.os, E.tape, E.output⟩⟩
  · simp; omega
  · intro b c d h
    rw [keyι] at h
    split at h
    · exact R₁.low b c d h
    · simp only [Option.map_eq_some_iff] at h
      obtain ⟨b', _, h⟩ := h
      cases hq : ι₁[b']? with
      | none => rw [hq] at h; cases h
      | some q => rw [hq] at h; simp at h; subst h; exact R₁.low b' c d hq
  · intro b cs wr h
    obtain ⟨b', h1, h2, h3, h4⟩ := src b cs wr h
    obtain ⟨c, d, h5, hC⟩ := R₁.at' b' cs wr h2
    rw [h5] at h3
    refine ⟨c, d, h3, ?_⟩
    obtain ⟨⟨vs, v1, v2⟩, v3, v4⟩ := hC
    exact ⟨⟨vs, VL.sub hle cs vs (go_under.mpr h4) v1, v2⟩, v3, v4⟩
  · intro b1 b2 cs1 cs2 wr c1 d1 c2 d2 hne h1 h2 h3 h4
    obtain ⟨e1, p1, p2, p3, _⟩ := src b1 cs1 true h1
    obtain ⟨e2, q1, q2, q3, _⟩ := src b2 cs2 wr h2
    have hee : e1 ≠ e2 := by
      intro e
      subst e
      rcases p1 with ⟨rfl, l1⟩ | ⟨l1, r1⟩ <;> rcases q1 with ⟨h, l2⟩ | ⟨l2, r2⟩
      · exact hne h
      · have := hrs _ (List.mem_of_getElem? r2); omega
      · have := hrs _ (List.mem_of_getElem? r1); omega
      · have h5 := (List.getElem?_eq_some_iff.mp r1)
        have h6 := (List.getElem?_eq_some_iff.mp r2)
        obtain ⟨i1, e1'⟩ := h5
        obtain ⟨i2, e2'⟩ := h6
        have := nodup_inj hnd i1 i2 (by rw [e1', e2'])
        omega
    rw [h3] at p3
    rw [h4] at q3
    have g1 : ι₁[e1]? = some (some (c1, d1)) := by
      cases hq : ι₁[e1]? with
      | none => rw [hq] at p3; cases p3
      | some x => rw [hq] at p3; simpa using p3.symm
    have g2 : ι₁[e2]? = some (some (c2, d2)) := by
      cases hq : ι₁[e2]? with
      | none => rw [hq] at q3; cases q3
      | some x => rw [hq] at q3; simpa using q3.symm
    exact R₁.inj e1 e2 cs1 cs2 wr c1 d1 c2 d2 hee p2 q2 g1 g2
  · intro b p h
    have hb : b < m.H.length := by rw [← R.len]; exact (List.getElem?_eq_some_iff.mp h).1
    exact hle b p hb (E.le b p h)
  · simp; rw [R.len]; omega
  · rintro r ⟨b, cs, d, h1, h2⟩
    obtain ⟨b', _, p2, p3, _⟩ := src b cs true h1
    apply E.img
    refine ⟨b', cs, d, p2, ?_⟩
    rw [h2] at p3
    cases hq : ι₁[b']? with
    | none => rw [hq] at p3; cases p3
    | some x => rw [hq] at p3; simpa using p3.symm

theorem idxOf_get : ∀ (rs : List Nat) (b : Nat), b ∈ rs → rs[rs.idxOf b]? = some b := by
  intro rs b h
  have := List.idxOf_lt_length_of_mem h
  rw [List.getElem?_eq_getElem this]
  simp

theorem finish_ok {ι ι₁ : Emb} {m m₁ : Mem} {w w₁ : World} (R : Rel ι m w) (R₁ : Rel ι₁ m₁ w₁) (E : Ext ι m w ι₁ m₁ w₁) (G : Grow { m with esc := none } m₁) {mode : Nat} {v v₂ : AV} {m₂ : Mem} {v' : Value}
    (hv : V ι₁ w₁ v v') (h : finish mode m.H.length m.esc v m₁ = some (v₂, m₂)) : ∃ ι₂, V ι₂ w₁ v₂ v' ∧ Rel ι₂ m₂ w₁ ∧ Ext ι m w ι₂ m₂ w₁ := by
  unfold finish at h
  split at h
  · cases h
    exact ⟨ι₁, hv, ⟨R₁.len, R₁.low, R₁.at', R₁.inj⟩, ⟨E.le, E.grow, E.size, E.shapes, E.img, E.frame, E.os, E.tape, E.output⟩⟩
  · split at h
    · rename_i hc
      cases h
      obtain ⟨c1, c2⟩ := R.cut R₁ E G hc.2 [] (fun b hb => by cases hb) List.nodup_nil (fun b hb => by cases hb) m.esc
      simp only [List.map_nil, List.append_nil] at c1 c2
      refine ⟨_, V.sub (fun b p hb h => ?_) v v' hc.1 hv, c1, c2⟩
      rw [List.getElem?_take, if_pos hb]; exact h
    · cases h
  · simp only [] at h
    split at h
    · rename_i hc
      cases h
      have hrs : ∀ b ∈ dedup (v.roots m.H.length), m.H.length ≤ b := fun b hb => roots_ge v b (mem_dedup.mp hb)
      obtain ⟨c1, c2⟩ := R.cut R₁ E G hc.1 (dedup (v.roots m.H.length)) hrs (nodup_dedup _) (fun b hb => List.all_eq_true.mp hc.2 b hb) m.esc
      have hsz : m.H.length ≤ m₁.H.length := G.size
      have hl1 : ι₁.length = m₁.H.length := R₁.len
      refine ⟨_, V.rename (lim := m.H.length) (rs := dedup (v.roots m.H.length)) (fun b p hb h => ?_) (fun b p hb h => ?_) v v' (fun b hb => mem_dedup.mpr hb) hv, c1, c2⟩
      · rw [renum, if_pos hb, List.getElem?_append_left (by simp; omega), List.getElem?_take, if_pos hb]; exact h
      · have hge := hrs b hb
        rw [renum, if_neg (by omega), List.getElem?_append_right (by simp; omega)]
        have : (ι₁.take m.H.length).length = m.H.length := by simp; omega
        rw [this, Nat.add_sub_cancel_left, List.getElem?_map, idxOf_get _ _ hb]
        simp [h]
    · cases h

theorem Grow.finish {m m₁ m₂ : Mem} (G : Grow { m with esc := none } m₁) {mode : Nat} {v v₂ : AV} (h : Slim.finish mode m.H.length m.esc v m₁ = some (v₂, m₂)) : Grow m m₂ := by
  have hsz : m.H.length ≤ m₁.H.length := G.size
  have cut : ∀ (more : List Blk), (∀ (b : Nat) cs, more[b]? ≠ some (.cells cs false)) → clean m.H.length m₁.esc = true → Grow m { H := m₁.H.take m.H.length ++ more, esc := m.esc } := by
    intro more hmore hcl
    refine ⟨by simp; omega, fun b hb => hb, fun b hb _ => ?_, fun b cs hb => ?_⟩
    rotate_left
    · simp only [] at hb
      rcases Nat.lt_or_ge b m.H.length with h1 | h1
      · rw [List.getElem?_append_left (by simp; omega), List.getElem?_take, if_pos h1] at hb
        exact G.ro b cs hb
      · rw [List.getElem?_append_right (by simp; omega)] at hb
        exact absurd hb (hmore _ _)
    intro cs' wr' hc
    simp only [] at hc
    rw [List.getElem?_append_left (by simp; omega), List.getElem?_take, if_pos hb] at hc
    exact G.old b hb (clean_below hcl hb) cs' wr' hc
  unfold Slim.finish at h
  split at h
  · cases h
    refine ⟨hsz, fun b hb => ?_, fun b hb he => ?_, fun b cs hb => G.ro b cs hb⟩
    · cases h2 : m₁.esc with
      | none => rw [h2] at hb; exact hb
      | some e => rw [h2] at hb; exact (belowEsc_min hb).1
    · have : belowEsc b m₁.esc := by
        cases h2 : m₁.esc with
        | none => intro k hk; cases hk
        | some e =>
          simp only [h2] at he
          intro k hk
          cases hk
          exact (belowEsc_min he).2
      exact G.old b hb this
  · split at h
    · rename_i hc
      cases h
      have := cut [] (fun b cs h => by simp at h) hc.2
      rwa [List.append_nil] at this
    · cases h
  · simp only [] at h
    split at h
    · rename_i hc
      cases h
      refine cut _ (fun b cs hb => ?_) hc.1
      rw [List.getElem?_map, Option.map_eq_some_iff] at hb
      obtain ⟨x, hx, h2⟩ := hb
      have hge := roots_ge v x (mem_dedup.mp (List.mem_of_getElem? hx))
      cases h3 : m₁.H[x]? with
      | none => rw [h3] at h2; cases h2
      | some B =>
        rw [h3] at h2
        have h4 := G.ro x cs (by rw [h3]; exact congrArg some h2)
        have := (List.getElem?_eq_some_iff.mp h4).1
        simp only [] at this
        omega
    · cases h

end Go.Proofs.Ytlocjmbfcdfjfaa.Slim
