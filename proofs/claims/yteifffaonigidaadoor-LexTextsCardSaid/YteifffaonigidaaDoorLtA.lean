/- LexTexts: what Lex answers for a quoted string, a word, a decimal; when a word with a further byte is a word: plain facts. -/
import Derived.Test.YteifffaonigidaaDoorPuF
namespace Go.Proofs.YteifffaonigidaaDoor.Pure
open Go.RowKit Go.Proofs.YteifffaonigidaaDoor.M Go.Proofs.YteifffaonigidaaDoorW.PrintWords Go.Proofs.YteifffaonigidaaDoorW.PrintLast
set_option linter.unusedVariables false
namespace Lt
open Lx
theorem mkB (a : ByteArray) : (⟨a.data.toList.toArray⟩ : ByteArray) = a := by
  apply ByteArray.ext
  simp
theorem szL (l : List UInt8) : (⟨l.toArray⟩ : ByteArray).size = l.length := by simp [ByteArray.size]
theorem one_tok (l : List UInt8) (t : S42) (n : Nat) (b : Bool) (hs : skipR l = l) (hl : l ≠ []) (h : tok1 l = .ok (t, n, b)) (hn : l.length ≤ n) (hb : b = false) : lexL l 1 = .ok [putL t 1, ⟨4, ⟨#[]⟩, 0, 1⟩] := by
  rw [lexL_tok l 1 t n b hs hl h, List.drop_of_length_le hn, lexL_end [] _ skipR_nil, hb]
  rfl
theorem lex_quote (s : ByteArray) (h : s.size ≤ 300) : lex_Lex.f ⟨(quoteL s.data.toList).toArray⟩ = some ([⟨2, s, 0, 1⟩, ⟨4, ⟨#[]⟩, 0, 1⟩], 0, 0) := by
  have hl : s.data.toList.length = s.size := rfl
  have hq := qtok_quote s.data.toList []
  rw [List.append_nil] at hq
  have hf := flat_len s.data.toList
  have e2 : quoteL s.data.toList = 34 :: (s.data.toList.flatMap qb ++ [34]) := by unfold quoteL; simp
  have hz := quote_len s.data.toList
  refine lex_ok _ _ (by rw [szL]; omega) ?_
  refine one_tok (quoteL s.data.toList) ⟨2, ⟨s.data.toList.toArray⟩, 0, 0⟩ (quoteL s.data.toList).length false ?_ (by rw [e2]; simp) ?_ (Nat.le_refl _) rfl |>.trans ?_
  · rw [e2]; exact skipR_stop 34 _ (by decide) (by decide)
  · rw [e2] at hq ⊢
    rw [tok1_quote, hq]
  · rw [mkB]; rfl
theorem letter_not_digit (c : UInt8) (h : letterB c = true) : digitB c = false := by
  have hf : ∀ c : Fin 256, letterB (UInt8.ofNat c.val) = true → digitB (UInt8.ofNat c.val) = false := by decide +kernel
  have := hf ⟨c.toNat, c.toNat_lt⟩
  simp only [UInt8.ofNat_toNat] at this
  exact this h
theorem word_parts (l : List UInt8) (h : wordB l = true) : l.all partB = true ∧ 1 ≤ l.length ∧ l.length ≤ 20 ∧ letterB (l.headD 0) = true := by
  unfold wordB at h
  simp only [Bool.and_eq_true, decide_eq_true_eq] at h
  exact ⟨h.1.1.1, h.1.1.2, h.1.2, h.2⟩
theorem lex_word (s : ByteArray) (h : s.size ≤ 300) (hw : wordB s.data.toList = true) : lex_Lex.f s = some ([⟨0, s, 0, 1⟩, ⟨4, ⟨#[]⟩, 0, 1⟩], 0, 0) := by
  obtain ⟨h1, h2, h3, h4⟩ := word_parts _ hw
  have hd := letter_not_digit _ h4
  obtain ⟨c, r, hcr⟩ : ∃ c r, s.data.toList = c :: r := by
    cases hx : s.data.toList with
    | nil => rw [hx] at h2; simp at h2
    | cons c r => exact ⟨c, r, rfl⟩
  have ht := takeWhile_app s.data.toList [] h1 (fun c h => by cases h)
  have hwt := wtok_word s.data.toList [] ht (by rw [List.append_nil]; exact hd) hw
  rw [List.append_nil] at hwt
  have hlc : letterB c = true := by rw [hcr] at h4; exact h4
  have hpc : partB c = true := by unfold partB; rw [hlc]; rfl
  refine lex_ok _ _ (by omega) ?_
  refine one_tok s.data.toList ⟨0, ⟨s.data.toList.toArray⟩, 0, 0⟩ s.data.toList.length false ?_ (by rw [hcr]; simp) ?_ (Nat.le_refl _) rfl |>.trans ?_
  · rw [hcr]; exact skip_part c r hpc
  · rw [hcr] at hwt ⊢
    rw [tok1_letter c r (Or.inl hlc), hwt]
  · rw [mkB]; rfl
theorem all_digits : ∀ (m u : Nat), u ≤ m → (Lib.decDigits u).all digitB = true
  | m, u, h => by
    have one : ∀ d : Nat, d < 10 → digitB (UInt8.ofNat (48 + d)) = true := fun d hd => by
      have hf : ∀ d : Fin 10, digitB (UInt8.ofNat (48 + d.val)) = true := by decide
      exact hf ⟨d, hd⟩
    by_cases h10 : u < 10
    · rw [Lib.decDigits_one h10, List.all_cons, one u h10]; rfl
    · cases m with
      | zero => omega
      | succ m =>
        rw [Lib.decDigits, dif_neg h10, List.all_append, all_digits m (u / 10) (by omega), List.all_cons, one _ (by omega)]; rfl
theorem no_zero : ∀ (m u : Nat), u ≤ m → 1 ≤ u → (Lib.decDigits u).headD 0 ≠ 48
  | m, u, h, h1 => by
    by_cases h10 : u < 10
    · rw [Lib.decDigits_one h10]
      have hf : ∀ d : Fin 10, 1 ≤ d.val → UInt8.ofNat (48 + d.val) ≠ 48 := by decide
      exact hf ⟨u, h10⟩ h1
    · cases m with
      | zero => omega
      | succ m =>
        obtain ⟨c, r, hc, _⟩ := dec_head (u / 10)
        have ih := no_zero m (u / 10) (by omega) (by omega)
        rw [hc] at ih
        rw [Lib.decDigits, dif_neg h10, hc]
        exact ih
theorem dec_short : ∀ (k u : Nat), u < 10 ^ (k + 1) → (Lib.decDigits u).length ≤ k + 1
  | 0, u, h => by
    have : u < 10 := h
    rw [Lib.decDigits_one this]; simp
  | k + 1, u, h => by
    by_cases h10 : u < 10
    · rw [Lib.decDigits_one h10]; simp
    · have h2 : u / 10 < 10 ^ (k + 1) := by
        have e : 10 ^ (k + 1 + 1) = 10 ^ (k + 1) * 10 := Nat.pow_succ ..
        omega
      have := dec_short k (u / 10) h2
      rw [Lib.decDigits, dif_neg h10]
      simp only [List.length_append, List.length_cons, List.length_nil]
      omega
theorem itoa_short (n : Int) (h0 : -9223372036854775808 ≤ n) (h1 : n ≤ 9223372036854775807) : (Lib.itoa n).length ≤ 20 := by
  have e : (10 : Nat) ^ (18 + 1) = 10000000000000000000 := by decide
  unfold Lib.itoa
  split
  · have := dec_short 18 n.natAbs (by rw [e]; omega)
    simp only [List.length_cons]; omega
  · have := dec_short 18 n.toNat (by rw [e]; omega)
    omega
theorem lex_dec (n : Int) (h0 : 0 ≤ n) (h1 : n ≤ 9223372036854775807) : lex_Lex.f ⟨(Lib.itoa n).toArray⟩ = some ([⟨1, ⟨(Lib.itoa n).toArray⟩, n, 1⟩, ⟨4, ⟨#[]⟩, 0, 1⟩], 0, 0) := by
  have hs := itoa_short n (by omega) h1
  have hi := int_decimal n (by omega) h1
  have e : Lib.itoa n = Lib.decDigits n.toNat := by unfold Lib.itoa; rw [if_neg (by omega)]
  obtain ⟨c, r, hc, c1, c2⟩ := dec_head n.toNat
  have ha := all_digits _ n.toNat (Nat.le_refl _)
  have hdc : digitB c = true := by rw [hc, List.all_cons, Bool.and_eq_true] at ha; exact ha.1
  have hz : ¬ (1 < (Lib.decDigits n.toNat).length ∧ (Lib.decDigits n.toNat).headD 0 = 48) := by
    rintro ⟨h2, h3⟩
    by_cases hn : 1 ≤ n.toNat
    · exact no_zero _ n.toNat (Nat.le_refl _) hn h3
    · have : n.toNat = 0 := by omega
      rw [this, Lib.decDigits_one (by omega)] at h2
      simp at h2
  rw [← e] at hz ha hc
  have hp : (Lib.itoa n).all partB = true := List.all_eq_true.2 fun x hx => by
    have := List.all_eq_true.1 ha x hx
    unfold partB
    rw [this]; simp
  have ht := takeWhile_app (Lib.itoa n) [] hp (fun c h => by cases h)
  have hwt := wtok_num (Lib.itoa n) [] n ht (by rw [List.append_nil, hc]; exact hdc) ha (by rw [List.append_nil]; exact hz) hi
  rw [List.append_nil] at hwt
  refine lex_ok _ _ (by rw [szL]; omega) ?_
  refine one_tok (Lib.itoa n) ⟨1, ⟨(Lib.itoa n).toArray⟩, n, 0⟩ (Lib.itoa n).length false ?_ (by rw [hc]; simp) ?_ (Nat.le_refl _) rfl |>.trans rfl
  · rw [hc]; exact skip_part c r (by unfold partB; rw [hdc]; simp)
  · rw [hc] at hwt ⊢
    rw [tok1_letter c r (Or.inr hdc), hwt]
theorem lex_neg (n : Int) (h0 : -9223372036854775808 ≤ n) (h1 : n < 0) : lex_Lex.f ⟨(Lib.itoa n).toArray⟩ = some ([], 11, 1) := by
  have hs := itoa_short n h0 (by omega)
  have e : Lib.itoa n = 45 :: Lib.decDigits n.natAbs := by unfold Lib.itoa; rw [if_pos h1]
  refine lex_err _ 11 1 (by rw [szL]; omega) ?_
  show lexL (Lib.itoa n) 1 = .error (11, 1)
  have hsk : skipR (45 :: Lib.decDigits n.natAbs) = 45 :: Lib.decDigits n.natAbs := skipR_stop 45 _ (by decide) (by decide)
  rw [e, lexL_step _ _ (by rw [hsk]; simp), hsk]
  have ht : tok1 (45 :: Lib.decDigits n.natAbs) = .error 11 := by
    unfold tok1
    simp only
    rw [if_neg (by decide), if_neg (by decide), if_neg (by decide)]
  rw [ht]
theorem word_more (s : ByteArray) (c : UInt8) (hw : wordB s.data.toList = true) : wordB (s.data.toList ++ [c]) = (partB c && decide (s.size < 20)) := by
  obtain ⟨h1, h2, h3, h4⟩ := word_parts _ hw
  have hl : s.data.toList.length = s.size := rfl
  obtain ⟨d, r, hcr⟩ : ∃ c r, s.data.toList = c :: r := by
    cases hx : s.data.toList with
    | nil => rw [hx] at h2; simp at h2
    | cons c r => exact ⟨c, r, rfl⟩
  have hh : (s.data.toList ++ [c]).headD 0 = s.data.toList.headD 0 := by rw [hcr]; rfl
  unfold wordB
  rw [List.all_append, h1, hh, h4, List.length_append, hl, Bool.true_and, Bool.and_true]
  simp only [List.all_cons, List.all_nil, List.length_cons, List.length_nil, Bool.and_true]
  rw [decide_eq_true (show 1 ≤ s.size + (0 + 1) by omega), Bool.and_true]
  exact congrArg (partB c && ·) (decide_eq_decide.2 (by omega))
theorem part_fin : ∀ n : Fin 256, (97 ≤ n.val ∧ n.val ≤ 122 ∧ partB (UInt8.ofNat n.val) = true) ∨ (122 < n.val ∧ partB (UInt8.ofNat n.val) = false) ∨ (90 < n.val ∧ n.val < 97 ∧ n.val ≠ 95 ∧ partB (UInt8.ofNat n.val) = false) ∨ (n.val = 95 ∧ partB (UInt8.ofNat n.val) = true) ∨
    (65 ≤ n.val ∧ n.val ≤ 90 ∧ partB (UInt8.ofNat n.val) = true) ∨ (57 < n.val ∧ n.val < 65 ∧ partB (UInt8.ofNat n.val) = false) ∨ (48 ≤ n.val ∧ n.val ≤ 57 ∧ partB (UInt8.ofNat n.val) = true) ∨ (n.val < 48 ∧ n.val ≠ 45 ∧ partB (UInt8.ofNat n.val) = false) ∨ (n.val = 45 ∧ partB (UInt8.ofNat n.val) = true) := by decide +kernel
end Lt
end Go.Proofs.YteifffaonigidaaDoor.Pure
