/- The tokens of a text, by its bytes ('lexN'): plain facts. -/
import Derived.Test.YteifffaonigidaaDoorLxE
import Derived.Test.YteifffaonigidaaDoorLxF
namespace Go.Proofs.YteifffaonigidaaDoor.M
open Go.RowKit Go.Proofs.YteifffaonigidaaDoorW.PrintWords Go.Proofs.YteifffaonigidaaDoorW.PrintLast
open Go.Proofs.YteifffaonigidaaDoor
set_option linter.unusedVariables false
/-- What is done with the first token of a text that begins with no white byte: an error, or the token (its line left open), how many bytes it takes, whether the line ends. -/
def tok1 (l : List UInt8) : Except Int (S42 × Nat × Bool) :=
  match l with
  | [] => .error 11
  | c :: r =>
    if letterB c = true ∨ digitB c = true then (match wtok (c :: r) with | .error e => .error e | .ok (t, n) => .ok (t, n, false))
    else if c = 34 then (match qtok (c :: r) with | none => .error 11 | some (t, n) => .ok (⟨2, ⟨t.toArray⟩, 0, 0⟩, n, false))
    else if c = 10 then .ok (⟨3, ⟨#[]⟩, 0, 0⟩, 1, true)
    else .error 11
def putL (t : S42) (line : Int) : S42 := ⟨t.f0, t.f1, t.f2, line⟩
def lexN : Nat → List UInt8 → Int → Except (Int × Int) (List S42)
  | 0, _, _ => .ok []
  | f + 1, l, line =>
    if skipR l = [] then .ok [⟨4, ⟨#[]⟩, 0, line⟩]
    else match tok1 (skipR l) with
      | .error e => .error (e, line)
      | .ok (t, n, b) => (lexN f ((skipR l).drop n) (if b = true then line + 1 else line)).map (putL t line :: ·)
theorem skipF_len : ∀ (n : Nat) (l : List UInt8), (skipF n l).length ≤ l.length
  | 0, _ => Nat.le_refl _
  | n + 1, [] => by simp [skipF]
  | n + 1, c :: r => by
    unfold skipF
    split
    · have := skipF_len n r; simp; omega
    · split
      · have := skipF_len n (r.dropWhile (· != 10))
        have h2 := dropWhile_len r
        simp; omega
      · exact Nat.le_refl _
theorem skipR_len (l : List UInt8) : (skipR l).length ≤ l.length := skipF_len _ l
theorem wtok_pos {c : UInt8} {r : List UInt8} {t : S42} {n : Nat} (hc : letterB c = true ∨ digitB c = true) (h : wtok (c :: r) = .ok (t, n)) : 1 ≤ n ∧ n ≤ r.length + 1 ∧ (t.f0 = 0 ∨ t.f0 = 1) := by
  have hp : partB c = true := by rcases hc with h | h; exact part_letter c h; exact part_digit c h
  have h1 : 1 ≤ ((c :: r).takeWhile partB).length := by rw [List.takeWhile_cons, if_pos hp]; simp
  have h2 : ((c :: r).takeWhile partB).length ≤ r.length + 1 := (List.takeWhile_prefix partB).length_le
  unfold wtok at h
  split at h
  · split at h
    · cases h
    · split at h
      · injection h with h; injection h with ht hn; subst hn; subst ht; exact ⟨h1, h2, Or.inr rfl⟩
      · cases h
  · split at h
    · injection h with h; injection h with ht hn; subst hn; subst ht; exact ⟨h1, h2, Or.inl rfl⟩
    · cases h
theorem qtok_pos {l : List UInt8} {t : List UInt8} {n : Nat} (h : qtok l = some (t, n)) : 1 ≤ n ∧ n ≤ l.length := by
  unfold qtok at h
  cases hq : scanQ (l.drop 1) with
  | none => rw [hq] at h; simp at h
  | some q =>
    have hlt := scanQ_lt _ _ (Nat.le_refl _) q hq
    rw [List.length_drop] at hlt
    rw [hq, Option.bind_some] at h
    split at h
    · injection h with h; injection h with _ hn; omega
    · cases h
theorem tok1_pos {l : List UInt8} {t : S42} {n : Nat} {b : Bool} (h : tok1 l = .ok (t, n, b)) : 1 ≤ n ∧ n ≤ l.length ∧ t.f0 ≠ 4 := by
  cases l with
  | nil => cases h
  | cons c r =>
    unfold tok1 at h
    simp only at h
    split at h
    · rename_i hc
      cases hw : wtok (c :: r) with
      | error e => rw [hw] at h; cases h
      | ok x =>
        obtain ⟨t', n'⟩ := x
        rw [hw] at h
        injection h with h; injection h with ht h; injection h with hn hb
        subst ht; subst hn
        obtain ⟨h1, h2, h3⟩ := wtok_pos hc hw
        exact ⟨h1, h2, by omega⟩
    · split at h
      · cases hq : qtok (c :: r) with
        | none => rw [hq] at h; cases h
        | some x =>
          obtain ⟨t', n'⟩ := x
          rw [hq] at h
          injection h with h; injection h with ht h; injection h with hn hb
          subst ht; subst hn
          obtain ⟨h1, h2⟩ := qtok_pos hq
          exact ⟨h1, h2, by show (2 : Int) ≠ 4; decide⟩
      · split at h
        · injection h with h; injection h with ht h; injection h with hn hb
          subst ht; subst hn
          exact ⟨Nat.le_refl _, by simp, by decide⟩
        · cases h
theorem lexN_more : ∀ (f : Nat) (l : List UInt8) (line : Int), l.length + 1 ≤ f → lexN f l line = lexN (l.length + 1) l line := by
  suffices H : ∀ (m f f' : Nat) (l : List UInt8) (line : Int), l.length ≤ m → l.length + 1 ≤ f → l.length + 1 ≤ f' → lexN f l line = lexN f' l line by
    intro f l line h; exact H l.length f _ l line (Nat.le_refl _) h (Nat.le_refl _)
  intro m
  induction m with
  | zero =>
    intro f f' l line hm h1 h2
    obtain rfl : l = [] := List.length_eq_zero_iff.1 (by omega)
    obtain ⟨f, rfl⟩ : ∃ g, f = g + 1 := ⟨f - 1, by omega⟩
    obtain ⟨f', rfl⟩ : ∃ g, f' = g + 1 := ⟨f' - 1, by omega⟩
    rfl
  | succ m ih =>
    intro f f' l line hm h1 h2
    obtain ⟨f, rfl⟩ : ∃ g, f = g + 1 := ⟨f - 1, by omega⟩
    obtain ⟨f', rfl⟩ : ∃ g, f' = g + 1 := ⟨f' - 1, by omega⟩
    have hs := skipR_len l
    rw [lexN, lexN]
    by_cases he : skipR l = []
    · rw [if_pos he, if_pos he]
    · rw [if_neg he, if_neg he]
      have hpos := List.length_pos_iff.2 he
      cases ht : tok1 (skipR l) with
      | error e => rfl
      | ok x =>
        obtain ⟨t, n, b⟩ := x
        obtain ⟨p1, p2, _⟩ := tok1_pos ht
        simp only
        rw [ih f f' _ _ (by rw [List.length_drop]; omega) (by rw [List.length_drop]; omega) (by rw [List.length_drop]; omega)]
/-- The tokens of a text from a line on. -/
def lexL (l : List UInt8) (line : Int) : Except (Int × Int) (List S42) := lexN (l.length + 1) l line
theorem lexL_end (l : List UInt8) (line : Int) (h : skipR l = []) : lexL l line = .ok [⟨4, ⟨#[]⟩, 0, line⟩] := by
  unfold lexL; rw [lexN, if_pos h]
theorem lexL_step (l : List UInt8) (line : Int) (h : skipR l ≠ []) : lexL l line = match tok1 (skipR l) with
      | .error e => .error (e, line)
      | .ok (t, n, b) => (lexL ((skipR l).drop n) (if b = true then line + 1 else line)).map (putL t line :: ·) := by
  have hs := skipR_len l
  have hpos := List.length_pos_iff.2 h
  unfold lexL
  rw [lexN, if_neg h]
  cases ht : tok1 (skipR l) with
  | error e => rfl
  | ok x =>
    obtain ⟨t, n, b⟩ := x
    obtain ⟨p1, p2, _⟩ := tok1_pos ht
    simp only
    rw [lexN_more l.length _ _ (by rw [List.length_drop]; omega)]
end Go.Proofs.YteifffaonigidaaDoor.M
