/- Facts about the tokens of a text ('lexL'): plain. -/
import Derived.Test.YteifffaonigidaaDoorLxL
import Derived.Test.YteifffaonigidaaDoorPuB
import Derived.Test.YteifffaonigidaaDoorMx16
import Derived.Test.YteifffaonigidaaDoorLxS
import Derived.Lib.PathFns
namespace Go.Proofs.YteifffaonigidaaDoor.Pure
open Go.RowKit Go.Proofs.YteifffaonigidaaDoor.M Go.Proofs.YteifffaonigidaaDoorW.PrintWords Go.Proofs.YteifffaonigidaaDoorW.PrintLast
set_option linter.unusedVariables false
namespace Lx
/-! ### words, numbers, texts -/
theorem wtok_word (w rest : List UInt8) (h1 : (w ++ rest).takeWhile partB = w) (h2 : digitB ((w ++ rest).headD 0) = false) (h3 : wordB w = true) : wtok (w ++ rest) = .ok (⟨0, ⟨w.toArray⟩, 0, 0⟩, w.length) := by
  unfold wtok
  rw [h1, if_neg (by rw [h2]; decide), if_pos h3]
theorem wtok_num (w rest : List UInt8) (v : Int) (h1 : (w ++ rest).takeWhile partB = w) (h2 : digitB ((w ++ rest).headD 0) = true) (h3 : w.all digitB = true) (h4 : ¬ (1 < w.length ∧ (w ++ rest).headD 0 = 48)) (h5 : intOfText w = (v, true)) :
    wtok (w ++ rest) = .ok (⟨1, ⟨w.toArray⟩, v, 0⟩, w.length) := by
  unfold wtok
  rw [h1, if_pos h2, if_neg, h5, if_pos rfl]
  rintro (h | h)
  · rw [h3] at h; exact absurd h (by decide)
  · exact h4 h
theorem byteP {p : UInt8 → Prop} (h : ∀ n : Fin 256, p (UInt8.ofNat n.val)) (c : UInt8) : p c := byte_all h c
theorem hexd_plain : ∀ n : Fin 16, hexd n.val ≠ 34 ∧ hexd n.val ≠ 92 := by decide
theorem scan_qb (c : UInt8) (r : List UInt8) : scanQ (qb c ++ r) = (scanQ r).map (· + (qb c).length) := by
  unfold qb
  have ad : ∀ (x : Option Nat) (a b : Nat), (x.map (· + a)).map (· + b) = x.map (· + (a + b)) := fun x a b => by
    rw [Option.map_map]; congr 1; funext y; simp only [Function.comp]; omega
  split
  · show scanQ (92 :: c :: r) = _
    rw [scanQ_back]; rfl
  · rename_i h1
    split
    · show scanQ (92 :: 110 :: r) = _
      rw [scanQ_back]; rfl
    · split
      · have n34 : c ≠ 34 := fun e => h1 (Or.inl (by rw [e]; rfl))
        have n92 : c ≠ 92 := fun e => h1 (Or.inr (by rw [e]; rfl))
        show scanQ (c :: r) = _
        rw [scanQ_plain _ _ n34 n92]; rfl
      · have hb := c.toNat_lt
        have a1 := hexd_plain ⟨c.toNat / 16, by omega⟩
        have a2 := hexd_plain ⟨c.toNat % 16, by omega⟩
        show scanQ (92 :: 120 :: hexd (c.toNat / 16) :: hexd (c.toNat % 16) :: r) = _
        rw [scanQ_back, scanQ_plain _ _ a1.1 a1.2, scanQ_plain _ _ a2.1 a2.2, ad, ad]
        rfl
theorem scan_flat (s r : List UInt8) : scanQ (s.flatMap qb ++ 34 :: r) = some (s.flatMap qb).length := by
  induction s with
  | nil => exact scanQ_quote r
  | cons c s ih =>
    rw [List.flatMap_cons, List.append_assoc, scan_qb, ih]
    simp only [Option.map_some, List.length_append]
    congr 1; omega
theorem quote_len (s : List UInt8) : (quoteL s).length = (s.flatMap qb).length + 2 := by unfold quoteL; simp
theorem qtok_quote (s r : List UInt8) : qtok (quoteL s ++ r) = some (s, (quoteL s).length) := by
  have e : quoteL s ++ r = 34 :: (s.flatMap qb ++ 34 :: r) := by unfold quoteL; simp
  have ht : (quoteL s ++ r).take ((s.flatMap qb).length + 2) = quoteL s := by
    rw [← quote_len, List.take_left]
  have hd : scanQ ((quoteL s ++ r).drop 1) = some (s.flatMap qb).length := by rw [e]; exact scan_flat s r
  unfold qtok
  rw [hd, Option.bind_some, ht, unquote_quote, if_pos rfl, quote_len]
/-! ### the head of a text -/
theorem tok1_letter (c : UInt8) (r : List UInt8) (h : letterB c = true ∨ digitB c = true) : tok1 (c :: r) = (match wtok (c :: r) with | .error e => .error e | .ok (t, n) => .ok (t, n, false)) := if_pos h
theorem tok1_quote (r : List UInt8) : tok1 (34 :: r) = (match qtok (34 :: r) with | none => .error 11 | some (t, n) => .ok (⟨2, ⟨t.toArray⟩, 0, 0⟩, n, false)) :=
  by unfold tok1; simp only; rw [if_neg (show ¬ (letterB 34 = true ∨ digitB 34 = true) by decide), if_pos trivial]; cases qtok (34 :: r) <;> rfl
theorem tok1_lf (r : List UInt8) : tok1 (10 :: r) = .ok (⟨3, ⟨#[]⟩, 0, 0⟩, 1, true) :=
  by unfold tok1; simp only; rw [if_neg (show ¬ (letterB 10 = true ∨ digitB 10 = true) by decide), if_neg (show ¬ (10 : UInt8) = 34 by decide), if_pos trivial]
theorem lexL_skip (l l' : List UInt8) (line : Int) (h : skipR l = skipR l') : lexL l line = lexL l' line := by
  by_cases he : skipR l' = []
  · rw [lexL_end l' line he, lexL_end l line (h.trans he)]
  · rw [lexL_step l' line he, lexL_step l line (fun e => he (h.symm.trans e)), h]
theorem lexL_white (c : UInt8) (r : List UInt8) (line : Int) (h : c = 32 ∨ c = 9 ∨ c = 13) : lexL (c :: r) line = lexL r line := lexL_skip _ _ _ (skipR_white c r h)
theorem skipR_idem : ∀ (n : Nat) (l : List UInt8), l.length ≤ n → skipR (skipR l) = skipR l
  | _, [], _ => rfl
  | n + 1, c :: r, h => by
    by_cases hw : c = 32 ∨ c = 9 ∨ c = 13
    · rw [skipR_white c r hw]; exact skipR_idem n r (by simp at h; omega)
    · by_cases h35 : c = 35
      · subst h35
        rw [skipR_hash]
        exact skipR_idem n _ (by have := dropWhile_len r; simp at h; omega)
      · rw [skipR_stop c r hw h35, skipR_stop c r hw h35]
/-- What follows a token. -/
theorem lexL_tok (l : List UInt8) (line : Int) (t : S42) (n : Nat) (b : Bool) (hs : skipR l = l) (hl : l ≠ []) (h : tok1 l = .ok (t, n, b)) :
    lexL l line = (lexL (l.drop n) (if b = true then line + 1 else line)).map (putL t line :: ·) := by
  rw [lexL_step l line (by rw [hs]; exact hl), hs, h]
theorem part_not_skip (c : UInt8) (h : partB c = true) : ¬ (c = 32 ∨ c = 9 ∨ c = 13) ∧ c ≠ 35 ∧ c ≠ 34 ∧ c ≠ 10 := by
  refine byteP (p := fun c => partB c = true → ¬ (c = 32 ∨ c = 9 ∨ c = 13) ∧ c ≠ 35 ∧ c ≠ 34 ∧ c ≠ 10) (by decide +kernel) c h
theorem skip_part (c : UInt8) (r : List UInt8) (h : partB c = true) : skipR (c :: r) = c :: r := skipR_stop c r (part_not_skip c h).1 (part_not_skip c h).2.1
theorem takeWhile_app (w rest : List UInt8) (hw : w.all partB = true) (hr : ∀ c, rest.head? = some c → partB c = false) : (w ++ rest).takeWhile partB = w := by
  induction w with
  | nil =>
    cases rest with
    | nil => rfl
    | cons c r => rw [List.nil_append, List.takeWhile_cons, if_neg (by rw [hr c rfl]; decide)]
  | cons c w ih =>
    rw [List.all_cons, Bool.and_eq_true] at hw
    rw [List.cons_append, List.takeWhile_cons, if_pos hw.1, ih hw.2]
/-! ### texts one behind the other -/
/-- What stands behind a text does not go on with its last token; skipped, it is s'. -/
structure Tail (s s' : List UInt8) : Prop where
  head : ∀ c, s.head? = some c → partB c = false
  skip : skipR s = s'
  drop : skipR (s.dropWhile (· != 10)) = s'
theorem dw_app (r s : List UInt8) : (r ++ s).dropWhile (· != 10) = if r.dropWhile (· != 10) = [] then s.dropWhile (· != 10) else r.dropWhile (· != 10) ++ s := by
  induction r with
  | nil => rfl
  | cons c r ih =>
    rw [List.cons_append, List.dropWhile_cons, List.dropWhile_cons]
    by_cases hc : (c != 10) = true
    · rw [if_pos hc, if_pos hc, ih]
    · rw [if_neg hc, if_neg hc, if_neg (by simp)]; rfl
theorem skip_app {s s' : List UInt8} (hT : Tail s s') : ∀ (n : Nat) (l : List UInt8), l.length ≤ n → skipR (l ++ s) = if skipR l = [] then s' else skipR l ++ s
  | _, [], _ => by rw [if_pos skipR_nil]; exact hT.skip
  | n + 1, c :: r, h => by
    rw [List.cons_append]
    by_cases hw : c = 32 ∨ c = 9 ∨ c = 13
    · rw [skipR_white c r hw, skipR_white c (r ++ s) hw]; exact skip_app hT n r (by simp at h; omega)
    · by_cases h35 : c = 35
      · subst h35
        rw [skipR_hash, skipR_hash, dw_app]
        have hl := dropWhile_len r
        by_cases hd : r.dropWhile (· != 10) = []
        · rw [if_pos hd, hd, if_pos skipR_nil, hT.drop]
        · rw [if_neg hd]
          exact skip_app hT n _ (by simp at h; omega)
      · rw [skipR_stop c r hw h35, skipR_stop c (r ++ s) hw h35, if_neg (by simp)]; rfl
theorem scanQ_app : ∀ (n : Nat) (l s : List UInt8) (m : Nat), l.length ≤ n → scanQ l = some m → scanQ (l ++ s) = some m
  | _, [], _, m, _, h => by simp [scanQ] at h
  | n + 1, c :: r, s, m, hn, h => by
    by_cases h34 : c = 34
    · subst h34; rw [scanQ_quote] at h; rw [List.cons_append, scanQ_quote]; exact h
    · by_cases h92 : c = 92
      · subst h92
        cases r with
        | nil => rw [scanQ_back1] at h; cases h
        | cons d r =>
          rw [scanQ_back] at h
          rw [List.cons_append, List.cons_append, scanQ_back]
          cases hq : scanQ r with
          | none => rw [hq] at h; cases h
          | some q => rw [hq] at h; rw [scanQ_app n r s q (by simp at hn; omega) hq]; exact h
      · rw [scanQ_plain _ _ h34 h92] at h
        rw [List.cons_append, scanQ_plain _ _ h34 h92]
        cases hq : scanQ r with
        | none => rw [hq] at h; cases h
        | some q => rw [hq] at h; rw [scanQ_app n r s q (by simp at hn; omega) hq]; exact h
theorem takeWhile_tail (l s : List UInt8) (hs : ∀ c, s.head? = some c → partB c = false) : (l ++ s).takeWhile partB = l.takeWhile partB := by
  induction l with
  | nil =>
    cases s with
    | nil => rfl
    | cons c s => rw [List.nil_append, List.takeWhile_cons, if_neg (by rw [hs c rfl]; decide)]; rfl
  | cons c l ih =>
    rw [List.cons_append, List.takeWhile_cons, List.takeWhile_cons, ih]
theorem tok1_app {s s' : List UInt8} (hT : Tail s s') (l : List UInt8) (t : S42) (n : Nat) (b : Bool) (h : tok1 l = .ok (t, n, b)) : tok1 (l ++ s) = .ok (t, n, b) := by
  cases l with
  | nil => cases h
  | cons c r =>
    rw [List.cons_append]
    unfold tok1 at h ⊢
    simp only at h ⊢
    by_cases hc : letterB c = true ∨ digitB c = true
    · rw [if_pos hc] at h ⊢
      have e : wtok (c :: (r ++ s)) = wtok (c :: r) := by
        have := takeWhile_tail (c :: r) s hT.head
        unfold wtok
        rw [← List.cons_append, this]
        rfl
      rw [e]; exact h
    · rw [if_neg hc] at h ⊢
      by_cases h34 : c = 34
      · rw [if_pos h34] at h ⊢
        cases hq : qtok (c :: r) with
        | none => rw [hq] at h; cases h
        | some x =>
          obtain ⟨t', n'⟩ := x
          have e : qtok (c :: (r ++ s)) = some (t', n') := by
            have hp := qtok_pos hq
            unfold qtok at hq ⊢
            rw [List.drop_one, List.tail_cons] at hq ⊢
            cases hsq : scanQ r with
            | none => rw [hsq] at hq; cases hq
            | some q =>
              rw [hsq, Option.bind_some] at hq
              rw [scanQ_app _ r s q (Nat.le_refl _) hsq, Option.bind_some]
              have hlt := scanQ_lt _ _ (Nat.le_refl _) q hsq
              have htk : (c :: (r ++ s)).take (q + 2) = (c :: r).take (q + 2) := by
                rw [← List.cons_append, List.take_append_of_le_length (by simp; omega)]
              rw [htk]; exact hq
          rw [e]
          rw [hq] at h
          exact h
      · rw [if_neg h34] at h ⊢
        exact h
/-- The tokens of a text with more behind it: its own, but for the end, and those of the rest on later lines. -/
theorem lex_app {s s' : List UInt8} (hT : Tail s s') : ∀ (n : Nat) (l : List UInt8) (line : Int) (ts : List S42), l.length ≤ n → lexL l line = .ok ts →
    ∃ (a : List S42) (L : Int), ts = a ++ [⟨4, ⟨#[]⟩, 0, L⟩] ∧ lexL (l ++ s) line = (lexL s' L).map (a ++ ·)
  | n, l, line, ts, hn, h => by
    by_cases he : skipR l = []
    · rw [lexL_end l line he] at h
      injection h with h
      subst h
      refine ⟨[], line, rfl, ?_⟩
      have h1 : skipR (l ++ s) = s' := by rw [skip_app hT _ l (Nat.le_refl _), if_pos he]
      have h2 : skipR s' = s' := by rw [← h1]; exact skipR_idem _ _ (Nat.le_refl _)
      rw [lexL_skip (l ++ s) s' line (by rw [h1, h2])]
      cases lexL s' line <;> rfl
    · rw [lexL_step l line he] at h
      have h1 : skipR (l ++ s) = skipR l ++ s := by rw [skip_app hT _ l (Nat.le_refl _), if_neg he]
      have hpos := List.length_pos_iff.2 he
      have hlen := skipR_len l
      rw [lexL_step (l ++ s) line (by rw [h1]; simp [he]), h1]
      cases ht : tok1 (skipR l) with
      | error e => rw [ht] at h; cases h
      | ok x =>
        obtain ⟨t, m, b⟩ := x
        obtain ⟨p1, p2, _⟩ := tok1_pos ht
        rw [ht] at h
        rw [tok1_app hT _ _ _ _ ht]
        simp only at h ⊢
        cases hr : lexL ((skipR l).drop m) (if b = true then line + 1 else line) with
        | error e => rw [hr] at h; cases h
        | ok ts' =>
          rw [hr] at h
          injection h with h
          subst h
          cases n with
          | zero => omega
          | succ n =>
            obtain ⟨a, L, e1, e2⟩ := lex_app hT n ((skipR l).drop m) _ ts' (by rw [List.length_drop]; omega) hr
            refine ⟨putL t line :: a, L, by rw [e1]; rfl, ?_⟩
            rw [List.drop_append_of_le_length p2, e2]
            cases lexL s' L <;> rfl
end Lx
end Go.Proofs.YteifffaonigidaaDoor.Pure
/- The examples of the documentation ('small' of the statements of layer 9): plain. -/
namespace Go.Proofs.YteifffaonigidaaDoor.Pure
open Go.RowKit Go.Proofs.YteifffaonigidaaDoor.M Go.Proofs.YteifffaonigidaaDoorW.PrintWords Go.Proofs.YteifffaonigidaaDoorW.PrintLast
set_option linter.unusedVariables false
namespace Lx
theorem lex_ok (s : ByteArray) (ts : List S42) (hs : s.size ≤ 20000) (h : lexL s.data.toList 1 = .ok ts) : lex_Lex.f s = some (ts, 0, 0) := by
  unfold lex_Lex.f lexR
  rw [if_pos (by omega), if_neg (by omega), h]
theorem lex_err (s : ByteArray) (e n : Int) (hs : s.size ≤ 20000) (h : lexL s.data.toList 1 = .error (e, n)) : lex_Lex.f s = some ([], e, n) := by
  unfold lex_Lex.f lexR
  rw [if_pos (by omega), if_neg (by omega), h]
theorem int12 : intOfText [49, 50] = (12, true) := by
  have h := int_decimal 12 (by decide) (by decide)
  rw [show Lib.itoa 12 = [49, 50] by simp [Lib.itoa, Lib.decDigits]] at h
  exact h
theorem ex1 : lexL [122, 111, 110, 101, 32, 99, 111, 108, 100, 45, 49, 32, 49, 50, 32, 35, 32, 99] 1 = .ok [⟨0, ⟨#[122, 111, 110, 101]⟩, 0, 1⟩, ⟨0, ⟨#[99, 111, 108, 100, 45, 49]⟩, 0, 1⟩, ⟨1, ⟨#[49, 50]⟩, 12, 1⟩, ⟨4, ⟨#[]⟩, 0, 1⟩] := by
  rw [lexL_tok _ 1 ⟨0, ⟨#[122, 111, 110, 101]⟩, 0, 0⟩ 4 false (by rfl) (by simp) (by have hw := wtok_word [122, 111, 110, 101] [32, 99, 111, 108, 100, 45, 49, 32, 49, 50, 32, 35, 32, 99] (by decide) (by decide) (by decide); exact (tok1_letter _ _ (by decide)).trans (congrArg (fun x : Except Int (S42 × Nat) => (match x with | .error e => .error e | .ok (t, n) => .ok (t, n, false) : Except Int (S42 × Nat × Bool))) hw))]
  rw [show ([122, 111, 110, 101, 32, 99, 111, 108, 100, 45, 49, 32, 49, 50, 32, 35, 32, 99] : List UInt8).drop 4 = [32, 99, 111, 108, 100, 45, 49, 32, 49, 50, 32, 35, 32, 99] from rfl, if_neg (by decide), lexL_white _ _ _ (Or.inl rfl)]
  rw [lexL_tok _ 1 ⟨0, ⟨#[99, 111, 108, 100, 45, 49]⟩, 0, 0⟩ 6 false (by rfl) (by simp) (by have hw := wtok_word [99, 111, 108, 100, 45, 49] [32, 49, 50, 32, 35, 32, 99] (by decide) (by decide) (by decide); exact (tok1_letter _ _ (by decide)).trans (congrArg (fun x : Except Int (S42 × Nat) => (match x with | .error e => .error e | .ok (t, n) => .ok (t, n, false) : Except Int (S42 × Nat × Bool))) hw))]
  rw [show ([99, 111, 108, 100, 45, 49, 32, 49, 50, 32, 35, 32, 99] : List UInt8).drop 6 = [32, 49, 50, 32, 35, 32, 99] from rfl, if_neg (by decide), lexL_white _ _ _ (Or.inl rfl)]
  rw [lexL_tok _ 1 ⟨1, ⟨#[49, 50]⟩, 12, 0⟩ 2 false (by rfl) (by simp) (by have hw := wtok_num [49, 50] [32, 35, 32, 99] 12 (by decide) (by decide) (by decide) (by decide) int12; exact (tok1_letter _ _ (by decide)).trans (congrArg (fun x : Except Int (S42 × Nat) => (match x with | .error e => .error e | .ok (t, n) => .ok (t, n, false) : Except Int (S42 × Nat × Bool))) hw))]
  rw [show ([49, 50, 32, 35, 32, 99] : List UInt8).drop 2 = [32, 35, 32, 99] from rfl, if_neg (by decide), lexL_end _ _ (by rfl)]
  rfl
theorem ex2 : lexL [114, 111, 119, 32, 34, 35, 35, 46, 80, 34] 1 = .ok [⟨0, ⟨#[114, 111, 119]⟩, 0, 1⟩, ⟨2, ⟨#[35, 35, 46, 80]⟩, 0, 1⟩, ⟨4, ⟨#[]⟩, 0, 1⟩] := by
  have hq : qtok [34, 35, 35, 46, 80, 34] = some ([35, 35, 46, 80], 6) := qtok_quote [35, 35, 46, 80] []
  rw [lexL_tok _ 1 ⟨0, ⟨#[114, 111, 119]⟩, 0, 0⟩ 3 false (by rfl) (by simp) (by have hw := wtok_word [114, 111, 119] [32, 34, 35, 35, 46, 80, 34] (by decide) (by decide) (by decide); exact (tok1_letter _ _ (by decide)).trans (congrArg (fun x : Except Int (S42 × Nat) => (match x with | .error e => .error e | .ok (t, n) => .ok (t, n, false) : Except Int (S42 × Nat × Bool))) hw))]
  rw [show ([114, 111, 119, 32, 34, 35, 35, 46, 80, 34] : List UInt8).drop 3 = [32, 34, 35, 35, 46, 80, 34] from rfl, if_neg (by decide), lexL_white _ _ _ (Or.inl rfl)]
  rw [lexL_tok _ 1 ⟨2, ⟨#[35, 35, 46, 80]⟩, 0, 0⟩ 6 false (by rfl) (by simp) (by rw [tok1_quote, hq]), show ([34, 35, 35, 46, 80, 34] : List UInt8).drop 6 = [] from rfl, if_neg (by decide), lexL_end _ _ (by rfl)]
  rfl
theorem bad_of (s : ByteArray) (hs : s.size ≤ 20000) (h0 : skipR s.data.toList ≠ []) (h : tok1 (skipR s.data.toList) = .error 11) : taquinlaw09_bad.f s = some true := by
  have := lex_err s 11 1 hs (by rw [lexL_step _ _ h0, h])
  unfold taquinlaw09_bad.f
  rw [this, Option.bind_some]
  rfl
theorem lex_small : taquinlaw09_small.f 3 = some true := by
  have l1 := lex_ok ⟨#[122, 111, 110, 101, 32, 99, 111, 108, 100, 45, 49, 32, 49, 50, 32, 35, 32, 99]⟩ _ (by decide) ex1
  have l2 := lex_ok ⟨#[114, 111, 119, 32, 34, 35, 35, 46, 80, 34]⟩ _ (by decide) ex2
  have b1 := bad_of ⟨#[48, 49]⟩ (by decide) (by decide) (by rfl)
  have b2 := bad_of ⟨#[49, 97]⟩ (by decide) (by decide) (by rfl)
  have b3 := bad_of ⟨#[45, 49]⟩ (by decide) (by decide) (by rfl)
  have b4 := bad_of ⟨#[34, 97]⟩ (by decide) (by decide) (by rfl)
  have w1 : lex_Word.f ⟨#[97, 45, 49]⟩ = some true := by kernel_rfl
  have w2 : lex_Word.f ⟨#[45, 97]⟩ = some false := by kernel_rfl
  have j1 : taquinlaw09_small.j1 2 true = some true := by
    rw [taquinlaw09_small.j1, if_pos rfl, b1, Option.bind_some, if_pos rfl, b2, Option.bind_some, if_pos rfl, b3, Option.bind_some, if_pos rfl, b4, Option.bind_some, if_pos rfl, w1, Option.bind_some, if_pos rfl, w2, Option.bind_some]
    rfl
  unfold taquinlaw09_small.f
  rw [l1, Option.bind_some, l2, Option.bind_some]
  simp [taquinlaw09_small.j0, rd_T42, ByteArray.toList_eq, j1]
end Lx
end Go.Proofs.YteifffaonigidaaDoor.Pure
/- Same of two rows of tokens; what lexL answers: plain facts for the statements of layer 9. -/
namespace Go.Proofs.YteifffaonigidaaDoor.Pure
open Go.RowKit Go.Proofs.YteifffaonigidaaDoor.M Go.Proofs.YteifffaonigidaaDoorW.PrintWords Go.Proofs.YteifffaonigidaaDoorW.PrintLast
set_option linter.unusedVariables false
namespace Lx
theorem upL {α : Type} {f : Nat → Option α} (h : ∀ k, LeO (f k) (f (k + 1))) {r : α} : ∀ {k k' : Nat}, k ≤ k' → f k = some r → f k' = some r := by
  intro k k' hk hr
  induction hk with
  | refl => exact hr
  | step _ ih => exact h _ _ ih
theorem w1 (i : Nat) (h : i < 4611686018427387904) : wrap64 ((i : Int) + 1) = ((i + 1 : Nat) : Int) := by rw [IntWalk.wrap64_in _ (by omega)]; rfl
theorem rdT (xs : List S42) (i : Nat) (h : i < xs.length) : rd_T42 xs (i : Int) = xs[i] := by
  unfold rd_T42; rw [Int.toNat_natCast]; simp [h]
def shiftT (a : Int) (t : S42) : S42 := ⟨t.f0, t.f1, t.f2, wrap64 (t.f3 + a)⟩
theorem same_map (a : Int) : ∀ x : List S42, sameL a (x.map (shiftT a)) x = true
  | [] => rfl
  | t :: x => by rw [List.map_cons, sameL, same_map a x]; simp [tokEq, shiftT]
theorem same_shift (x : List S42) (a : Int) (hx : x.length ≤ 1000000) : taquinref09_Same.f (x.map (shiftT a)) x a = some true := by
  unfold taquinref09_Same.f
  rw [if_pos (by rw [List.length_map]; exact hx), same_map]
theorem shift_zero (x : List S42) (h : ∀ t ∈ x, 0 ≤ t.f3 ∧ t.f3 ≤ 1000000) : x.map (shiftT 0) = x := by
  induction x with
  | nil => rfl
  | cons t x ih =>
    have h1 := h t (List.mem_cons_self ..)
    rw [List.map_cons, ih (fun y hy => h y (List.mem_cons_of_mem _ hy))]
    unfold shiftT
    rw [IntWalk.wrap64_in _ (by omega), Int.add_zero]
theorem same_self (x : List S42) (hx : x.length ≤ 1000000) (h : ∀ t ∈ x, 0 ≤ t.f3 ∧ t.f3 ≤ 1000000)   : taquinref09_Same.f x x 0 = some true := by
  have := same_shift x 0 hx
  rw [shift_zero x h] at this
  exact this
theorem small_more : ∀ k, 3 ≤ k → taquinlaw09_small.f k = some true := fun k hk => upL (f := fun k => taquinlaw09_small.f k) (fun k => taquinlaw09_small.mono k) hk lex_small
/-! ### what lexL answers -/
theorem tok1_err {l : List UInt8} {e : Int} (h : tok1 l = .error e) : e ≠ 0 := by
  cases l with
  | nil => injection h with h; omega
  | cons c r =>
    unfold tok1 at h
    simp only at h
    split at h
    · cases hw : wtok (c :: r) with
      | error x => rw [hw] at h; injection h with h; rw [← h]; exact wtok_err hw
      | ok x => obtain ⟨t, n⟩ := x; rw [hw] at h; cases h
    · split at h
      · cases hq : qtok (c :: r) with
        | none => rw [hq] at h; injection h with h; omega
        | some x => obtain ⟨t, n⟩ := x; rw [hq] at h; cases h
      · split at h
        · cases h
        · injection h with h; omega
theorem lexL_err : ∀ (n : Nat) (l : List UInt8) (line : Int) (e m : Int), l.length ≤ n → lexL l line = .error (e, m) → e ≠ 0 ∧ line ≤ m ∧ m ≤ line + l.length
  | n, l, line, e, m, hn, h => by
    by_cases he : skipR l = []
    · rw [lexL_end l line he] at h; cases h
    · rw [lexL_step l line he] at h
      have hpos := List.length_pos_iff.2 he
      have hlen := skipR_len l
      cases ht : tok1 (skipR l) with
      | error x =>
        rw [ht] at h
        injection h with h
        injection h with h1 h2
        exact ⟨by rw [← h1]; exact tok1_err ht, by omega, by omega⟩
      | ok x =>
        obtain ⟨t, q, b⟩ := x
        obtain ⟨p1, p2, _⟩ := tok1_pos ht
        rw [ht] at h
        simp only at h
        cases hr : lexL ((skipR l).drop q) (if b = true then line + 1 else line) with
        | ok ts => rw [hr] at h; cases h
        | error y =>
          obtain ⟨e', m'⟩ := y
          rw [hr] at h
          injection h with h
          injection h with h1 h2
          subst h1; subst h2
          cases n with
          | zero => omega
          | succ n =>
            have ih := lexL_err n _ _ e' m' (by rw [List.length_drop]; omega) hr
            rw [List.length_drop] at ih
            refine ⟨ih.1, ?_, ?_⟩
            · have := ih.2.1; split at this <;> omega
            · have := ih.2.2; split at this <;> omega
/-- The tokens' number and lines. -/
theorem lexL_lines : ∀ (n : Nat) (l : List UInt8) (line : Int) (ts : List S42), l.length ≤ n → lexL l line = .ok ts → ts.length ≤ l.length + 1 ∧ ∀ t ∈ ts, line ≤ t.f3 ∧ t.f3 ≤ line + l.length
  | n, l, line, ts, hn, h => by
    by_cases he : skipR l = []
    · rw [lexL_end l line he] at h
      injection h with h
      subst h
      refine ⟨by simp, fun t ht => ?_⟩
      rw [List.mem_singleton.1 ht]
      simp only
      omega
    · rw [lexL_step l line he] at h
      have hpos := List.length_pos_iff.2 he
      have hlen := skipR_len l
      cases ht : tok1 (skipR l) with
      | error x => rw [ht] at h; cases h
      | ok x =>
        obtain ⟨t, q, b⟩ := x
        obtain ⟨p1, p2, _⟩ := tok1_pos ht
        rw [ht] at h
        simp only at h
        cases hr : lexL ((skipR l).drop q) (if b = true then line + 1 else line) with
        | error y => rw [hr] at h; cases h
        | ok ts' =>
          rw [hr] at h
          injection h with h
          subst h
          cases n with
          | zero => omega
          | succ n =>
            have ih := lexL_lines n _ _ ts' (by rw [List.length_drop]; omega) hr
            rw [List.length_drop] at ih
            refine ⟨by simp only [List.length_cons]; omega, fun y hy => ?_⟩
            rcases List.mem_cons.1 hy with rfl | hy
            · unfold putL; simp only; omega
            · have := ih.2 y hy
              split at this <;> omega
theorem lexL_whites (w l : List UInt8) (line : Int) (h : ∀ c ∈ w, c = 32 ∨ c = 9 ∨ c = 13) : lexL (w ++ l) line = lexL l line := by
  induction w with
  | nil => rfl
  | cons c w ih => rw [List.cons_append, lexL_white _ _ _ (h c (List.mem_cons_self ..))]; exact ih (fun x hx => h x (List.mem_cons_of_mem _ hx))
theorem skipR_whites (w l : List UInt8) (h : ∀ c ∈ w, c = 32 ∨ c = 9 ∨ c = 13) : skipR (w ++ l) = skipR l := by
  induction w with
  | nil => rfl
  | cons c w ih => rw [List.cons_append, skipR_white _ _ (h c (List.mem_cons_self ..))]; exact ih (fun x hx => h x (List.mem_cons_of_mem _ hx))
end Lx
end Go.Proofs.YteifffaonigidaaDoor.Pure
