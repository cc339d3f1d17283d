/- The greedy reading of a pattern (one star to come back to) decides whether the parts match: plain facts about numbers and lists. -/
import Derived.Test.YteifffaonigidaaDoorPat
namespace Go.Proofs.YteifffaonigidaaDoor.PatPlain

/-- The loop of text.Pattern: i: the place in the pattern; st: the place behind the last star (0: there was none); again: where it is tried; j: the place in the string. -/
def patL : Nat → ByteArray → ByteArray → Nat → Nat → Nat → Nat → Option Bool
  | 0, _, _, _, _, _, _ => none
  | k + 1, p, s, i, st, again, j =>
    if hi : i < p.size then
      if p[i] = 42 then patL k p s (i + 1) (i + 1) j j
      else if hj : j < s.size then
        if fits (part1 p[i] (p.data.toList.drop (i + 1))).1 s[j] = true then patL k p s (i + 1 + (part1 p[i] (p.data.toList.drop (i + 1))).2) st again (j + 1)
        else if st = 0 ∨ again = s.size then some false else patL k p s st st (again + 1) (again + 1)
      else if st = 0 ∨ again = s.size then some false else patL k p s st st (again + 1) (again + 1)
    else if j = s.size then some true
    else if st = 0 ∨ again = s.size then some false else patL k p s st st (again + 1) (again + 1)

def P (p : ByteArray) (i : Nat) : List Part := parts (p.data.toList.drop i)
theorem drop_cons (s : ByteArray) (i : Nat) (h : i < s.size) : s.data.toList.drop i = s[i] :: s.data.toList.drop (i + 1) := by
  rw [List.drop_eq_getElem_cons (by simpa using h)]
  rfl
theorem drop_all (s : ByteArray) : s.data.toList.drop s.size = [] := List.drop_eq_nil_of_le (Nat.le_refl _)
theorem P_cons (p : ByteArray) (i : Nat) (h : i < p.size) : P p i = (part1 p[i] (p.data.toList.drop (i + 1))).1 :: P p (i + 1 + (part1 p[i] (p.data.toList.drop (i + 1))).2) := by
  unfold P
  rw [drop_cons p i h, parts_cons, List.drop_drop]
theorem P_end (p : ByteArray) (i : Nat) (h : p.size ≤ i) : P p i = [] := by
  unfold P
  rw [List.drop_eq_nil_of_le (by show p.size ≤ i; exact h), parts_nil]
theorem P_star (p : ByteArray) (i : Nat) (h : i < p.size) (hs : p[i] = 42) : P p i = .star :: P p (i + 1) := by
  rw [P_cons p i h]
  have e : part1 p[i] (p.data.toList.drop (i + 1)) = (.star, 0) := by rw [hs]; rfl
  rw [e]
  rfl
theorem part1_star {c : UInt8} {r : List UInt8} (h : c ≠ 42) : (part1 c r).1 ≠ .star := by
  unfold part1
  split
  · cases r <;> simp
  · split
    · simp
    · split
      · split <;> simp
      · simp
theorem P_next (p : ByteArray) (i : Nat) (h : i < p.size) : i + 1 + (part1 p[i] (p.data.toList.drop (i + 1))).2 ≤ p.size := by
  have := part1_le p[i] (p.data.toList.drop (i + 1))
  rw [List.length_drop] at this
  have h2 : p.data.toList.length = p.size := rfl
  omega
/-- What is left to be tried. -/
def B (p s : ByteArray) (st again : Nat) : Bool := if st = 0 then false else later (P p st) (s.data.toList.drop again)
/-- What holds at the head of each round. -/
def Inv (p s : ByteArray) (i st again j : Nat) : Prop :=
  st ≤ i ∧ i ≤ p.size ∧ again ≤ j ∧ j ≤ s.size ∧ (st ≠ 0 → ∃ seg, (∀ x ∈ seg, x ≠ Part.star) ∧ P p st = seg ++ P p i ∧ j = again + seg.length)

theorem back_at (p s : ByteArray) (st again : Nat) (ha : again < s.size) (hst : st ≠ 0) : (M (P p st) (s.data.toList.drop (again + 1)) || B p s st (again + 1)) = B p s st again := by
  unfold B
  rw [if_neg hst, if_neg hst, ← M_later]
  rw [drop_cons s again ha]
  rfl
theorem inv_back (p s : ByteArray) (i st again j : Nat) (h : Inv p s i st again j) (ha : again ≠ s.size) : Inv p s st st (again + 1) (again + 1) := by
  obtain ⟨h1, h2, h3, h4, _⟩ := h
  exact ⟨Nat.le_refl _, by omega, Nat.le_refl _, by omega, fun _ => ⟨[], by simp, rfl, by simp⟩⟩

theorem patL_at (p s : ByteArray) (i st again j : Nat) (h : Inv p s i st again j) : ∃ K, ∀ k, K ≤ k → patL k p s i st again j = some (M (P p i) (s.data.toList.drop j) || B p s st again) := by
  have hI := h
  obtain ⟨h1, h2, h3, h4, h5⟩ := h
  -- a step back
  have back : M (P p i) (s.data.toList.drop j) = false → (∀ k, patL (k + 1) p s i st again j = if st = 0 ∨ again = s.size then some false else patL k p s st st (again + 1) (again + 1)) →
      ∃ K, ∀ k, K ≤ k → patL k p s i st again j = some (M (P p i) (s.data.toList.drop j) || B p s st again) := by
    intro hM hk
    rw [hM, Bool.false_or]
    by_cases hb : st = 0 ∨ again = s.size
    · refine ⟨1, fun k hle => ?_⟩
      obtain ⟨k, rfl⟩ : ∃ m, k = m + 1 := ⟨k - 1, by omega⟩
      rw [hk, if_pos hb]
      congr 1
      unfold B
      rcases hb with hb | hb
      · rw [if_pos hb]
      · split
        · rfl
        · rw [hb, drop_all]
          rfl
    · have hst : st ≠ 0 := fun h => hb (.inl h)
      have hag : again ≠ s.size := fun h => hb (.inr h)
      obtain ⟨K, hK⟩ := patL_at p s st st (again + 1) (again + 1) (inv_back p s i st again j hI hag)
      refine ⟨K + 1, fun k hle => ?_⟩
      obtain ⟨k, rfl⟩ : ∃ m, k = m + 1 := ⟨k - 1, by omega⟩
      rw [hk, if_neg hb, hK k (by omega), back_at p s st again (by omega) hst]
  by_cases hi : i < p.size
  · by_cases hs : p[i] = 42
    · -- a star
      obtain ⟨K, hK⟩ := patL_at p s (i + 1) (i + 1) j j ⟨Nat.le_refl _, by omega, Nat.le_refl _, h4, fun _ => ⟨[], by simp, rfl, by simp⟩⟩
      refine ⟨K + 1, fun k hle => ?_⟩
      obtain ⟨k, rfl⟩ : ∃ m, k = m + 1 := ⟨k - 1, by omega⟩
      simp only [patL]
      rw [dif_pos hi, if_pos hs, hK k (by omega)]
      congr 1
      rw [P_star p i hi hs, M_later]
      have e : B p s (i + 1) j = later (P p (i + 1)) (s.data.toList.drop j) := by unfold B; rw [if_neg (by omega)]
      rw [e]
      by_cases hst : st = 0
      · have : B p s st again = false := by unfold B; rw [if_pos hst]
        rw [this, Bool.or_false]
      · cases hB : B p s st again with
        | false => rw [Bool.or_false]
        | true =>
          obtain ⟨seg, g1, g2, g3⟩ := h5 hst
          unfold B at hB
          rw [if_neg hst, g2, P_star p i hi hs] at hB
          have := star_enough seg (P p (i + 1)) _ g1 hB
          rw [List.drop_drop, ← g3, M_later] at this
          rw [this]
          rfl
    · by_cases hj : j < s.size
      · have hx := part1_star (r := p.data.toList.drop (i + 1)) hs
        have hM : M (P p i) (s.data.toList.drop j) = (fits (part1 p[i] (p.data.toList.drop (i + 1))).1 s[j] && M (P p (i + 1 + (part1 p[i] (p.data.toList.drop (i + 1))).2)) (s.data.toList.drop (j + 1))) := by
          rw [P_cons p i hi, drop_cons s j hj, M_one_cons _ _ _ _ hx]
        by_cases hf : fits (part1 p[i] (p.data.toList.drop (i + 1))).1 s[j] = true
        · obtain ⟨K, hK⟩ := patL_at p s (i + 1 + (part1 p[i] (p.data.toList.drop (i + 1))).2) st again (j + 1) ⟨by omega, P_next p i hi, by omega, by omega, fun hst => by
            obtain ⟨seg, g1, g2, g3⟩ := h5 hst
            refine ⟨seg ++ [(part1 p[i] (p.data.toList.drop (i + 1))).1], fun x hxm => ?_, ?_, ?_⟩
            · rcases List.mem_append.1 hxm with hm | hm
              · exact g1 x hm
              · rw [List.mem_singleton.1 hm]; exact hx
            · rw [g2, P_cons p i hi, List.append_assoc]
              rfl
            · rw [List.length_append, List.length_singleton]
              omega⟩
          refine ⟨K + 1, fun k hle => ?_⟩
          obtain ⟨k, rfl⟩ : ∃ m, k = m + 1 := ⟨k - 1, by omega⟩
          simp only [patL]
          rw [dif_pos hi, if_neg hs, dif_pos hj, if_pos hf, hK k (by omega), hM, hf, Bool.true_and]
        · refine back (by rw [hM]; simp [hf]) (fun k => ?_)
          simp only [patL]
          rw [dif_pos hi, if_neg hs, dif_pos hj, if_neg hf]
      · refine back ?_ (fun k => ?_)
        · have hx := part1_star (r := p.data.toList.drop (i + 1)) hs
          have hn : s.data.toList.drop j = [] := List.drop_eq_nil_of_le (by show s.size ≤ j; omega)
          rw [P_cons p i hi, hn, M_one_nil _ _ hx]
        · simp only [patL]
          rw [dif_pos hi, if_neg hs, dif_neg hj]
  · by_cases hj : j = s.size
    · refine ⟨1, fun k hle => ?_⟩
      obtain ⟨k, rfl⟩ : ∃ m, k = m + 1 := ⟨k - 1, by omega⟩
      simp only [patL]
      rw [dif_neg hi, if_pos hj, P_end p i (by omega), hj, drop_all, M_nil]
      rfl
    · refine back ?_ (fun k => ?_)
      · rw [P_end p i (by omega), drop_cons s j (by omega), M_nil]
        rfl
      · simp only [patL]
        rw [dif_neg hi, if_neg hj]
termination_by (p.size + 1 - st, s.size + 1 - again, p.size + 1 - i)
decreasing_by
  · exact Prod.Lex.right _ (Prod.Lex.left _ _ (by omega))
  · exact Prod.Lex.left _ _ (by omega)
  · exact Prod.Lex.right _ (Prod.Lex.right _ (by omega))

/-- From the begin. -/
theorem pat_at (p s : ByteArray) : ∃ k, patL k p s 0 0 0 0 = some (M (parts p.data.toList) s.data.toList) := by
  obtain ⟨K, hK⟩ := patL_at p s 0 0 0 0 ⟨Nat.le_refl _, Nat.zero_le _, Nat.le_refl _, Nat.zero_le _, fun h => absurd rfl h⟩
  refine ⟨K, ?_⟩
  rw [hK K (Nat.le_refl _)]
  unfold P B
  simp
end Go.Proofs.YteifffaonigidaaDoor.PatPlain
