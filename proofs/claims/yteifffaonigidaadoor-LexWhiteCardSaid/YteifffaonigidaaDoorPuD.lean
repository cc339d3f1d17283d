/- Facts about the tokens of a text ('lexL'): plain. -/
import Derived.Test.YteifffaonigidaaDoorLxK
import Derived.Test.YteifffaonigidaaDoorPuB
namespace Go.Proofs.YteifffaonigidaaDoor.Pure
open Go.RowKit Go.Proofs.YteifffaonigidaaDoor.M Go.Proofs.YteifffaonigidaaDoorW.PrintWords Go.Proofs.YteifffaonigidaaDoorW.PrintLast
set_option linter.unusedVariables false
namespace Lx
/-! ### words, numbers, texts -/
theorem wtok_word (w rest : List UInt8) (h1 : (w ++ rest).takeWhile partB = w) (h2 : digitB ((w ++ rest).headD 0) = false) (h3 : wordB w = true) : wtok (w ++ rest) = .ok (⟨0, ⟨w.toArray⟩, 0, 0⟩, w.length) := by
  unfold wtok
  rw [h1, if_neg (by rw [h2]; decide), if_pos h3]
theorem wtok_num (w rest : List UInt8) (v : Int) (h1 : (w ++ rest).takeWhile partB = w) (h2 : digitB ((w ++ rest).headD 0) = true) (h3 : w.all digitB = true) (h4 : ¬ (1 < w.length ∧ (w ++ rest).headD 0 = 48)) (h5 : intOfText w = (v, true)) :
    wtok (w ++ rest) = .ok (⟨1, ⟨w.toArray⟩, v, 0⟩, w.length) := by
  unfold wtok
  rw [h1, if_pos h2, if_neg, h5, if_pos rfl]
  rintro (h | h)
  · rw [h3] at h; exact absurd h (by decide)
  · exact h4 h
theorem byteP {p : UInt8 → Prop} (h : ∀ n : Fin 256, p (UInt8.ofNat n.val)) (c : UInt8) : p c := byte_all h c
theorem hexd_plain : ∀ n : Fin 16, hexd n.val ≠ 34 ∧ hexd n.val ≠ 92 := by decide
theorem scan_qb (c : UInt8) (r : List UInt8) : scanQ (qb c ++ r) = (scanQ r).map (· + (qb c).length) := by
  unfold qb
  have ad : ∀ (x : Option Nat) (a b : Nat), (x.map (· + a)).map (· + b) = x.map (· + (a + b)) := fun x a b => by
    rw [Option.map_map]; congr 1; funext y; simp only [Function.comp]; omega
  split
  · show scanQ (92 :: c :: r) = _
    rw [scanQ_back]; rfl
  · rename_i h1
    split
    · show scanQ (92 :: 110 :: r) = _
      rw [scanQ_back]; rfl
    · split
      · have n34 : c ≠ 34 := fun e => h1 (Or.inl (by rw [e]; rfl))
        have n92 : c ≠ 92 := fun e => h1 (Or.inr (by rw [e]; rfl))
        show scanQ (c :: r) = _
        rw [scanQ_plain _ _ n34 n92]; rfl
      · have hb := c.toNat_lt
        have a1 := hexd_plain ⟨c.toNat / 16, by omega⟩
        have a2 := hexd_plain ⟨c.toNat % 16, by omega⟩
        show scanQ (92 :: 120 :: hexd (c.toNat / 16) :: hexd (c.toNat % 16) :: r) = _
        rw [scanQ_back, scanQ_plain _ _ a1.1 a1.2, scanQ_plain _ _ a2.1 a2.2, ad, ad]
        rfl
theorem scan_flat (s r : List UInt8) : scanQ (s.flatMap qb ++ 34 :: r) = some (s.flatMap qb).length := by
  induction s with
  | nil => exact scanQ_quote r
  | cons c s ih =>
    rw [List.flatMap_cons, List.append_assoc, scan_qb, ih]
    simp only [Option.map_some, List.length_append]
    congr 1; omega
theorem quote_len (s : List UInt8) : (quoteL s).length = (s.flatMap qb).length + 2 := by unfold quoteL; simp
theorem qtok_quote (s r : List UInt8) : qtok (quoteL s ++ r) = some (s, (quoteL s).length) := by
  have e : quoteL s ++ r = 34 :: (s.flatMap qb ++ 34 :: r) := by unfold quoteL; simp
  have ht : (quoteL s ++ r).take ((s.flatMap qb).length + 2) = quoteL s := by
    rw [← quote_len, List.take_left]
  have hd : scanQ ((quoteL s ++ r).drop 1) = some (s.flatMap qb).length := by rw [e]; exact scan_flat s r
  unfold qtok
  rw [hd, Option.bind_some, ht, unquote_quote, if_pos rfl, quote_len]
/-! ### the head of a text -/
theorem tok1_letter (c : UInt8) (r : List UInt8) (h : letterB c = true ∨ digitB c = true) : tok1 (c :: r) = (match wtok (c :: r) with | .error e => .error e | .ok (t, n) => .ok (t, n, false)) := if_pos h
theorem tok1_quote (r : List UInt8) : tok1 (34 :: r) = (match qtok (34 :: r) with | none => .error 11 | some (t, n) => .ok (⟨2, ⟨t.toArray⟩, 0, 0⟩, n, false)) :=
  by unfold tok1; simp only; rw [if_neg (show ¬ (letterB 34 = true ∨ digitB 34 = true) by decide), if_pos trivial]; cases qtok (34 :: r) <;> rfl
theorem tok1_lf (r : List UInt8) : tok1 (10 :: r) = .ok (⟨3, ⟨#[]⟩, 0, 0⟩, 1, true) :=
  by unfold tok1; simp only; rw [if_neg (show ¬ (letterB 10 = true ∨ digitB 10 = true) by decide), if_neg (show ¬ (10 : UInt8) = 34 by decide), if_pos trivial]
theorem lexL_skip (l l' : List UInt8) (line : Int) (h : skipR l = skipR l') : lexL l line = lexL l' line := by
  by_cases he : skipR l' = []
  · rw [lexL_end l' line he, lexL_end l line (h.trans he)]
  · rw [lexL_step l' line he, lexL_step l line (fun e => he (h.symm.trans e)), h]
theorem lexL_white (c : UInt8) (r : List UInt8) (line : Int) (h : c = 32 ∨ c = 9 ∨ c = 13) : lexL (c :: r) line = lexL r line := lexL_skip _ _ _ (skipR_white c r h)
theorem skipR_idem : ∀ (n : Nat) (l : List UInt8), l.length ≤ n → skipR (skipR l) = skipR l
  | _, [], _ => rfl
  | n + 1, c :: r, h => by
    by_cases hw : c = 32 ∨ c = 9 ∨ c = 13
    · rw [skipR_white c r hw]; exact skipR_idem n r (by simp at h; omega)
    · by_cases h35 : c = 35
      · subst h35
        rw [skipR_hash]
        exact skipR_idem n _ (by have := dropWhile_len r; simp at h; omega)
      · rw [skipR_stop c r hw h35, skipR_stop c r hw h35]
/-- What follows a token. -/
theorem lexL_tok (l : List UInt8) (line : Int) (t : S42) (n : Nat) (b : Bool) (hs : skipR l = l) (hl : l ≠ []) (h : tok1 l = .ok (t, n, b)) :
    lexL l line = (lexL (l.drop n) (if b = true then line + 1 else line)).map (putL t line :: ·) := by
  rw [lexL_step l line (by rw [hs]; exact hl), hs, h]
theorem part_not_skip (c : UInt8) (h : partB c = true) : ¬ (c = 32 ∨ c = 9 ∨ c = 13) ∧ c ≠ 35 ∧ c ≠ 34 ∧ c ≠ 10 := by
  refine byteP (p := fun c => partB c = true → ¬ (c = 32 ∨ c = 9 ∨ c = 13) ∧ c ≠ 35 ∧ c ≠ 34 ∧ c ≠ 10) (by decide +kernel) c h
theorem skip_part (c : UInt8) (r : List UInt8) (h : partB c = true) : skipR (c :: r) = c :: r := skipR_stop c r (part_not_skip c h).1 (part_not_skip c h).2.1
theorem takeWhile_app (w rest : List UInt8) (hw : w.all partB = true) (hr : ∀ c, rest.head? = some c → partB c = false) : (w ++ rest).takeWhile partB = w := by
  induction w with
  | nil =>
    cases rest with
    | nil => rfl
    | cons c r => rw [List.nil_append, List.takeWhile_cons, if_neg (by rw [hr c rfl]; decide)]
  | cons c w ih =>
    rw [List.all_cons, Bool.and_eq_true] at hw
    rw [List.cons_append, List.takeWhile_cons, if_pos hw.1, ih hw.2]
/-! ### texts one behind the other -/
/-- What stands behind a text does not go on with its last token; skipped, it is s'. -/
structure Tail (s s' : List UInt8) : Prop where
  head : ∀ c, s.head? = some c → partB c = false
  skip : skipR s = s'
  drop : skipR (s.dropWhile (· != 10)) = s'
theorem dw_app (r s : List UInt8) : (r ++ s).dropWhile (· != 10) = if r.dropWhile (· != 10) = [] then s.dropWhile (· != 10) else r.dropWhile (· != 10) ++ s := by
  induction r with
  | nil => rfl
  | cons c r ih =>
    rw [List.cons_append, List.dropWhile_cons, List.dropWhile_cons]
    by_cases hc : (c != 10) = true
    · rw [if_pos hc, if_pos hc, ih]
    · rw [if_neg hc, if_neg hc, if_neg (by simp)]; rfl
theorem skip_app {s s' : List UInt8} (hT : Tail s s') : ∀ (n : Nat) (l : List UInt8), l.length ≤ n → skipR (l ++ s) = if skipR l = [] then s' else skipR l ++ s
  | _, [], _ => by rw [if_pos skipR_nil]; exact hT.skip
  | n + 1, c :: r, h => by
    rw [List.cons_append]
    by_cases hw : c = 32 ∨ c = 9 ∨ c = 13
    · rw [skipR_white c r hw, skipR_white c (r ++ s) hw]; exact skip_app hT n r (by simp at h; omega)
    · by_cases h35 : c = 35
      · subst h35
        rw [skipR_hash, skipR_hash, dw_app]
        have hl := dropWhile_len r
        by_cases hd : r.dropWhile (· != 10) = []
        · rw [if_pos hd, hd, if_pos skipR_nil, hT.drop]
        · rw [if_neg hd]
          exact skip_app hT n _ (by simp at h; omega)
      · rw [skipR_stop c r hw h35, skipR_stop c (r ++ s) hw h35, if_neg (by simp)]; rfl
theorem scanQ_app : ∀ (n : Nat) (l s : List UInt8) (m : Nat), l.length ≤ n → scanQ l = some m → scanQ (l ++ s) = some m
  | _, [], _, m, _, h => by simp [scanQ] at h
  | n + 1, c :: r, s, m, hn, h => by
    by_cases h34 : c = 34
    · subst h34; rw [scanQ_quote] at h; rw [List.cons_append, scanQ_quote]; exact h
    · by_cases h92 : c = 92
      · subst h92
        cases r with
        | nil => rw [scanQ_back1] at h; cases h
        | cons d r =>
          rw [scanQ_back] at h
          rw [List.cons_append, List.cons_append, scanQ_back]
          cases hq : scanQ r with
          | none => rw [hq] at h; cases h
          | some q => rw [hq] at h; rw [scanQ_app n r s q (by simp at hn; omega) hq]; exact h
      · rw [scanQ_plain _ _ h34 h92] at h
        rw [List.cons_append, scanQ_plain _ _ h34 h92]
        cases hq : scanQ r with
        | none => rw [hq] at h; cases h
        | some q => rw [hq] at h; rw [scanQ_app n r s q (by simp at hn; omega) hq]; exact h
theorem takeWhile_tail (l s : List UInt8) (hs : ∀ c, s.head? = some c → partB c = false) : (l ++ s).takeWhile partB = l.takeWhile partB := by
  induction l with
  | nil =>
    cases s with
    | nil => rfl
    | cons c s => rw [List.nil_append, List.takeWhile_cons, if_neg (by rw [hs c rfl]; decide)]; rfl
  | cons c l ih =>
    rw [List.cons_append, List.takeWhile_cons, List.takeWhile_cons, ih]
theorem tok1_app {s s' : List UInt8} (hT : Tail s s') (l : List UInt8) (t : S42) (n : Nat) (b : Bool) (h : tok1 l = .ok (t, n, b)) : tok1 (l ++ s) = .ok (t, n, b) := by
  cases l with
  | nil => cases h
  | cons c r =>
    rw [List.cons_append]
    unfold tok1 at h ⊢
    simp only at h ⊢
    by_cases hc : letterB c = true ∨ digitB c = true
    · rw [if_pos hc] at h ⊢
      have e : wtok (c :: (r ++ s)) = wtok (c :: r) := by
        have := takeWhile_tail (c :: r) s hT.head
        unfold wtok
        rw [← List.cons_append, this]
        rfl
      rw [e]; exact h
    · rw [if_neg hc] at h ⊢
      by_cases h34 : c = 34
      · rw [if_pos h34] at h ⊢
        cases hq : qtok (c :: r) with
        | none => rw [hq] at h; cases h
        | some x =>
          obtain ⟨t', n'⟩ := x
          have e : qtok (c :: (r ++ s)) = some (t', n') := by
            have hp := qtok_pos hq
            unfold qtok at hq ⊢
            rw [List.drop_one, List.tail_cons] at hq ⊢
            cases hsq : scanQ r with
            | none => rw [hsq] at hq; cases hq
            | some q =>
              rw [hsq, Option.bind_some] at hq
              rw [scanQ_app _ r s q (Nat.le_refl _) hsq, Option.bind_some]
              have hlt := scanQ_lt _ _ (Nat.le_refl _) q hsq
              have htk : (c :: (r ++ s)).take (q + 2) = (c :: r).take (q + 2) := by
                rw [← List.cons_append, List.take_append_of_le_length (by simp; omega)]
              rw [htk]; exact hq
          rw [e]
          rw [hq] at h
          exact h
      · rw [if_neg h34] at h ⊢
        exact h
/-- The tokens of a text with more behind it: its own, but for the end, and those of the rest on later lines. -/
theorem lex_app {s s' : List UInt8} (hT : Tail s s') : ∀ (n : Nat) (l : List UInt8) (line : Int) (ts : List S42), l.length ≤ n → lexL l line = .ok ts →
    ∃ (a : List S42) (L : Int), ts = a ++ [⟨4, ⟨#[]⟩, 0, L⟩] ∧ lexL (l ++ s) line = (lexL s' L).map (a ++ ·)
  | n, l, line, ts, hn, h => by
    by_cases he : skipR l = []
    · rw [lexL_end l line he] at h
      injection h with h
      subst h
      refine ⟨[], line, rfl, ?_⟩
      have h1 : skipR (l ++ s) = s' := by rw [skip_app hT _ l (Nat.le_refl _), if_pos he]
      have h2 : skipR s' = s' := by rw [← h1]; exact skipR_idem _ _ (Nat.le_refl _)
      rw [lexL_skip (l ++ s) s' line (by rw [h1, h2])]
      cases lexL s' line <;> rfl
    · rw [lexL_step l line he] at h
      have h1 : skipR (l ++ s) = skipR l ++ s := by rw [skip_app hT _ l (Nat.le_refl _), if_neg he]
      have hpos := List.length_pos_iff.2 he
      have hlen := skipR_len l
      rw [lexL_step (l ++ s) line (by rw [h1]; simp [he]), h1]
      cases ht : tok1 (skipR l) with
      | error e => rw [ht] at h; cases h
      | ok x =>
        obtain ⟨t, m, b⟩ := x
        obtain ⟨p1, p2, _⟩ := tok1_pos ht
        rw [ht] at h
        rw [tok1_app hT _ _ _ _ ht]
        simp only at h ⊢
        cases hr : lexL ((skipR l).drop m) (if b = true then line + 1 else line) with
        | error e => rw [hr] at h; cases h
        | ok ts' =>
          rw [hr] at h
          injection h with h
          subst h
          cases n with
          | zero => omega
          | succ n =>
            obtain ⟨a, L, e1, e2⟩ := lex_app hT n ((skipR l).drop m) _ ts' (by rw [List.length_drop]; omega) hr
            refine ⟨putL t line :: a, L, by rw [e1]; rfl, ?_⟩
            rw [List.drop_append_of_le_length p2, e2]
            cases lexL s' L <;> rfl
end Lx
end Go.Proofs.YteifffaonigidaaDoor.Pure
