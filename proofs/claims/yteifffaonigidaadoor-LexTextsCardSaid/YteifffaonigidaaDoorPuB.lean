/- Int reads what Decimal writes; Unquote reads what Quote writes: plain facts. -/
import Derived.Test.YteifffaonigidaaDoorTxA
import Derived.Test.YteifffaonigidaaDoorTxC
namespace Go.Proofs.YteifffaonigidaaDoor.Pure
open Go.RowKit Go.Proofs.YteifffaonigidaaDoor.M
set_option linter.unusedVariables false

theorem parse_dec (r : List UInt8) : ∀ (n u : Nat), u ≤ n → u ≤ 18446744073709551615 → Lib.parseUintM 18446744073709551615 0 (Lib.decDigits u ++ r) = Lib.parseUintM 18446744073709551615 u r := by
  intro n
  induction n generalizing r with
  | zero =>
    intro u hu _
    obtain rfl : u = 0 := by omega
    rw [Lib.decDigits_one (by omega)]
    rfl
  | succ n ih =>
    intro u hu hm
    have step : ∀ (d acc : Nat), d < 10 → acc < 1844674407370955162 → acc * 10 + d ≤ 18446744073709551615 → Lib.parseUintM 18446744073709551615 acc (UInt8.ofNat (48 + d) :: r) = Lib.parseUintM 18446744073709551615 (acc * 10 + d) r := by
      intro d acc hd ha hle
      have e : (UInt8.ofNat (48 + d)).toNat = 48 + d := UInt8.toNat_ofNat_of_lt' (by show 48 + d < 256; omega)
      simp only [Lib.parseUintM]
      rw [e, if_pos (by omega), if_neg (by omega), if_neg (by omega)]
      congr 1
      omega
    by_cases h10 : u < 10
    · rw [Lib.decDigits_one h10]
      have := step u 0 h10 (by omega) (by omega)
      simpa using this
    · rw [Lib.decDigits, dif_neg h10, List.append_assoc, List.singleton_append, ih _ (u / 10) (by omega) (by omega), step (u % 10) (u / 10) (by omega) (by omega) (by omega)]
      congr 1
      omega
theorem dec_head (u : Nat) : ∃ c r, Lib.decDigits u = c :: r ∧ 48 ≤ c.toNat ∧ c.toNat ≤ 57 := by
  induction u using Nat.strongRecOn with
  | ind u ih =>
    by_cases h10 : u < 10
    · exact ⟨_, [], Lib.decDigits_one h10, by rw [UInt8.toNat_ofNat_of_lt' (by show 48 + u < 256; omega)]; omega, by rw [UInt8.toNat_ofNat_of_lt' (by show 48 + u < 256; omega)]; omega⟩
    · obtain ⟨c, r, h, h1, h2⟩ := ih (u / 10) (by omega)
      refine ⟨c, r ++ [UInt8.ofNat (48 + u % 10)], ?_, h1, h2⟩
      rw [Lib.decDigits, dif_neg h10, h]
      rfl
theorem parse_uint (u : Nat) (hu : u ≤ 18446744073709551615) : Lib.parseUintB 64 (Lib.decDigits u) = .ok u := by
  obtain ⟨c, r, h, _⟩ := dec_head u
  have h1 := parse_dec [] u u (Nat.le_refl _) hu
  rw [List.append_nil] at h1
  unfold Lib.parseUintB
  rw [if_neg (by rw [h]; simp)]
  exact h1
theorem parse_itoa (n : Int) (h0 : -9223372036854775808 ≤ n) (h1 : n ≤ 9223372036854775807) : Lib.parseIntB 64 (Lib.itoa n) = .ok n := by
  by_cases hn : n < 0
  · have e : Lib.itoa n = 45 :: Lib.decDigits n.natAbs := by unfold Lib.itoa; rw [if_pos hn]
    rw [e]
    unfold Lib.parseIntB
    simp only
    have t : (45 : UInt8).toNat = 45 := rfl
    rw [if_pos (Or.inr t), parse_uint _ (by omega)]
    simp only [Nat.reduceSub, Nat.reducePow]
    rw [if_neg (fun h => h.1 t), if_neg (fun h => by have := h.2; omega), if_pos t]
    congr 1
    omega
  · have e : Lib.itoa n = Lib.decDigits n.toNat := by unfold Lib.itoa; rw [if_neg hn]
    obtain ⟨c, r, hc, c1, c2⟩ := dec_head n.toNat
    rw [e]
    have hp := parse_uint n.toNat (by omega)
    rw [hc] at hp ⊢
    unfold Lib.parseIntB
    simp only
    rw [if_neg (by omega), hp]
    simp only [Nat.reduceSub, Nat.reducePow]
    rw [if_neg (fun h => by have := h.2; omega), if_neg (fun h => by have := h.1; omega), if_neg (by omega)]
    congr 1
    omega
theorem int_decimal (n : Int) (h0 : -9223372036854775808 ≤ n) (h1 : n ≤ 9223372036854775807) : intOfText (Lib.itoa n) = (n, true) := by
  unfold intOfText
  rw [parse_itoa n h0 h1]
  simp
theorem int_back (l : List UInt8) (v : Int) (h : intOfText l = (v, true)) : Lib.itoa v = l ∧ -9223372036854775808 ≤ v ∧ v ≤ 9223372036854775807 := by
  unfold intOfText at h
  split at h
  · rename_i v' hv
    have hr := parseInt_range _ _ hv
    split at h
    · rename_i hi
      obtain ⟨rfl, _⟩ := Prod.mk.inj h
      exact ⟨hi, hr⟩
    · simp at h
  · simp at h
theorem int_zero (l : List UInt8) (h : (intOfText l).2 = false) : (intOfText l).1 = 0 := by
  unfold intOfText at h ⊢
  split
  · rename_i v' hv
    rw [hv] at h
    simp only at h ⊢
    split
    · rename_i hi
      rw [if_pos hi] at h
      simp at h
    · rfl
  · rfl

/-! ### Quote and Unquote -/
theorem hx_hexd : ∀ m : Fin 256, hx (hexd (m.1 / 16)) (hexd (m.1 % 16)) = UInt8.ofNat m.1 := by decide +kernel
theorem ud_flat (r : List UInt8) : ∀ l : List UInt8, ud (l.flatMap qb ++ r) = l ++ ud r
  | [] => rfl
  | c :: l => by
    rw [List.flatMap_cons, List.append_assoc]
    have ih := ud_flat r l
    unfold qb
    by_cases h1 : c.toNat = 34 ∨ c.toNat = 92
    · rw [if_pos h1]
      have n1 : c ≠ 110 := by rintro rfl; simp at h1
      have n2 : c ≠ 120 := by rintro rfl; simp at h1
      show ud (92 :: c :: (l.flatMap qb ++ r)) = _
      rw [ud7 c _ n1 n2, ih]
      rfl
    · rw [if_neg h1]
      by_cases h2 : c.toNat = 10
      · rw [if_pos h2]
        have : c = 10 := UInt8.toNat_inj.1 h2
        subst this
        show ud (92 :: 110 :: (l.flatMap qb ++ r)) = _
        rw [ud3, ih]
        rfl
      · rw [if_neg h2]
        by_cases h3 : 32 ≤ c.toNat ∧ c.toNat ≤ 126
        · rw [if_pos h3]
          show ud (c :: (l.flatMap qb ++ r)) = _
          rw [ud1 c _ (by rintro rfl; simp at h1), ih]
          rfl
        · rw [if_neg h3]
          show ud (92 :: 120 :: hexd (c.toNat / 16) :: hexd (c.toNat % 16) :: (l.flatMap qb ++ r)) = _
          rw [ud4, ih]
          have := hx_hexd ⟨c.toNat, c.toNat_lt⟩
          simp only at this
          rw [this]
          simp
theorem inner_quote (l : List UInt8) : innerOf (quoteL l) 1 = l.flatMap qb := by
  unfold innerOf quoteL
  simp
theorem unquote_quote (l : List UInt8) : unquoteL (quoteL l) = (l, true) := by
  have e : ud (innerOf (quoteL l) 1) = l := by
    rw [inner_quote]
    have := ud_flat [] l
    rw [List.append_nil, ud0, List.append_nil] at this
    exact this
  unfold unquoteL
  rw [e, if_pos rfl]
theorem unquote_back (l d : List UInt8) (h : unquoteL l = (d, true)) : quoteL d = l := by
  unfold unquoteL at h
  split at h
  · rename_i hq
    obtain ⟨rfl, _⟩ := Prod.mk.inj h
    exact hq
  · simp at h
theorem unquote_nil (l : List UInt8) (h : (unquoteL l).2 = false) : (unquoteL l).1 = [] := by
  unfold unquoteL at h ⊢
  split
  · rename_i hq
    rw [if_pos hq] at h
    simp at h
  · rfl
theorem quote_size (l : List UInt8) : (quoteL l).length ≤ 4 * l.length + 2 := by
  unfold quoteL
  have := flat_len l
  simp only [List.length_append, List.length_cons, List.length_nil]
  omega
end Go.Proofs.YteifffaonigidaaDoor.Pure
