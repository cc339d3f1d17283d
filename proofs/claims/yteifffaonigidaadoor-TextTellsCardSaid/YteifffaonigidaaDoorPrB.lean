/- Int reads what Decimal writes; Unquote reads what Quote writes: plain facts. -/
import Derived.Test.YteifffaonigidaaDoorTxA
import Derived.Test.YteifffaonigidaaDoorTxC
import Derived.Test.YteifffaonigidaaDoorMx8
namespace Go.Proofs.YteifffaonigidaaDoor.Pure
open Go.RowKit Go.Proofs.YteifffaonigidaaDoor.M
set_option linter.unusedVariables false

theorem parse_dec (r : List UInt8) : ∀ (n u : Nat), u ≤ n → u ≤ 18446744073709551615 → Lib.parseUintM 18446744073709551615 0 (Lib.decDigits u ++ r) = Lib.parseUintM 18446744073709551615 u r := by
  intro n
  induction n generalizing r with
  | zero =>
    intro u hu _
    obtain rfl : u = 0 := by omega
    rw [Lib.decDigits_one (by omega)]
    rfl
  | succ n ih =>
    intro u hu hm
    have step : ∀ (d acc : Nat), d < 10 → acc < 1844674407370955162 → acc * 10 + d ≤ 18446744073709551615 → Lib.parseUintM 18446744073709551615 acc (UInt8.ofNat (48 + d) :: r) = Lib.parseUintM 18446744073709551615 (acc * 10 + d) r := by
      intro d acc hd ha hle
      have e : (UInt8.ofNat (48 + d)).toNat = 48 + d := UInt8.toNat_ofNat_of_lt' (by show 48 + d < 256; omega)
      simp only [Lib.parseUintM]
      rw [e, if_pos (by omega), if_neg (by omega), if_neg (by omega)]
      congr 1
      omega
    by_cases h10 : u < 10
    · rw [Lib.decDigits_one h10]
      have := step u 0 h10 (by omega) (by omega)
      simpa using this
    · rw [Lib.decDigits, dif_neg h10, List.append_assoc, List.singleton_append, ih _ (u / 10) (by omega) (by omega), step (u % 10) (u / 10) (by omega) (by omega) (by omega)]
      congr 1
      omega
theorem dec_head (u : Nat) : ∃ c r, Lib.decDigits u = c :: r ∧ 48 ≤ c.toNat ∧ c.toNat ≤ 57 := by
  induction u using Nat.strongRecOn with
  | ind u ih =>
    by_cases h10 : u < 10
    · exact ⟨_, [], Lib.decDigits_one h10, by rw [UInt8.toNat_ofNat_of_lt' (by show 48 + u < 256; omega)]; omega, by rw [UInt8.toNat_ofNat_of_lt' (by show 48 + u < 256; omega)]; omega⟩
    · obtain ⟨c, r, h, h1, h2⟩ := ih (u / 10) (by omega)
      refine ⟨c, r ++ [UInt8.ofNat (48 + u % 10)], ?_, h1, h2⟩
      rw [Lib.decDigits, dif_neg h10, h]
      rfl
theorem parse_uint (u : Nat) (hu : u ≤ 18446744073709551615) : Lib.parseUintB 64 (Lib.decDigits u) = .ok u := by
  obtain ⟨c, r, h, _⟩ := dec_head u
  have h1 := parse_dec [] u u (Nat.le_refl _) hu
  rw [List.append_nil] at h1
  unfold Lib.parseUintB
  rw [if_neg (by rw [h]; simp)]
  exact h1
theorem parse_itoa (n : Int) (h0 : -9223372036854775808 ≤ n) (h1 : n ≤ 9223372036854775807) : Lib.parseIntB 64 (Lib.itoa n) = .ok n := by
  by_cases hn : n < 0
  · have e : Lib.itoa n = 45 :: Lib.decDigits n.natAbs := by unfold Lib.itoa; rw [if_pos hn]
    rw [e]
    unfold Lib.parseIntB
    simp only
    have t : (45 : UInt8).toNat = 45 := rfl
    rw [if_pos (Or.inr t), parse_uint _ (by omega)]
    simp only [Nat.reduceSub, Nat.reducePow]
    rw [if_neg (fun h => h.1 t), if_neg (fun h => by have := h.2; omega), if_pos t]
    congr 1
    omega
  · have e : Lib.itoa n = Lib.decDigits n.toNat := by unfold Lib.itoa; rw [if_neg hn]
    obtain ⟨c, r, hc, c1, c2⟩ := dec_head n.toNat
    rw [e]
    have hp := parse_uint n.toNat (by omega)
    rw [hc] at hp ⊢
    unfold Lib.parseIntB
    simp only
    rw [if_neg (by omega), hp]
    simp only [Nat.reduceSub, Nat.reducePow]
    rw [if_neg (fun h => by have := h.2; omega), if_neg (fun h => by have := h.1; omega), if_neg (by omega)]
    congr 1
    omega
theorem int_decimal (n : Int) (h0 : -9223372036854775808 ≤ n) (h1 : n ≤ 9223372036854775807) : intOfText (Lib.itoa n) = (n, true) := by
  unfold intOfText
  rw [parse_itoa n h0 h1]
  simp
theorem int_back (l : List UInt8) (v : Int) (h : intOfText l = (v, true)) : Lib.itoa v = l ∧ -9223372036854775808 ≤ v ∧ v ≤ 9223372036854775807 := by
  unfold intOfText at h
  split at h
  · rename_i v' hv
    have hr := parseInt_range _ _ hv
    split at h
    · rename_i hi
      obtain ⟨rfl, _⟩ := Prod.mk.inj h
      exact ⟨hi, hr⟩
    · simp at h
  · simp at h
theorem int_zero (l : List UInt8) (h : (intOfText l).2 = false) : (intOfText l).1 = 0 := by
  unfold intOfText at h ⊢
  split
  · rename_i v' hv
    rw [hv] at h
    simp only at h ⊢
    split
    · rename_i hi
      rw [if_pos hi] at h
      simp at h
    · rfl
  · rfl

/-! ### Quote and Unquote -/
theorem hx_hexd : ∀ m : Fin 256, hx (hexd (m.1 / 16)) (hexd (m.1 % 16)) = UInt8.ofNat m.1 := by decide +kernel
theorem ud_flat (r : List UInt8) : ∀ l : List UInt8, ud (l.flatMap qb ++ r) = l ++ ud r
  | [] => rfl
  | c :: l => by
    rw [List.flatMap_cons, List.append_assoc]
    have ih := ud_flat r l
    unfold qb
    by_cases h1 : c.toNat = 34 ∨ c.toNat = 92
    · rw [if_pos h1]
      have n1 : c ≠ 110 := by rintro rfl; simp at h1
      have n2 : c ≠ 120 := by rintro rfl; simp at h1
      show ud (92 :: c :: (l.flatMap qb ++ r)) = _
      rw [ud7 c _ n1 n2, ih]
      rfl
    · rw [if_neg h1]
      by_cases h2 : c.toNat = 10
      · rw [if_pos h2]
        have : c = 10 := UInt8.toNat_inj.1 h2
        subst this
        show ud (92 :: 110 :: (l.flatMap qb ++ r)) = _
        rw [ud3, ih]
        rfl
      · rw [if_neg h2]
        by_cases h3 : 32 ≤ c.toNat ∧ c.toNat ≤ 126
        · rw [if_pos h3]
          show ud (c :: (l.flatMap qb ++ r)) = _
          rw [ud1 c _ (by rintro rfl; simp at h1), ih]
          rfl
        · rw [if_neg h3]
          show ud (92 :: 120 :: hexd (c.toNat / 16) :: hexd (c.toNat % 16) :: (l.flatMap qb ++ r)) = _
          rw [ud4, ih]
          have := hx_hexd ⟨c.toNat, c.toNat_lt⟩
          simp only at this
          rw [this]
          simp
theorem inner_quote (l : List UInt8) : innerOf (quoteL l) 1 = l.flatMap qb := by
  unfold innerOf quoteL
  simp
theorem unquote_quote (l : List UInt8) : unquoteL (quoteL l) = (l, true) := by
  have e : ud (innerOf (quoteL l) 1) = l := by
    rw [inner_quote]
    have := ud_flat [] l
    rw [List.append_nil, ud0, List.append_nil] at this
    exact this
  unfold unquoteL
  rw [e, if_pos rfl]
theorem unquote_back (l d : List UInt8) (h : unquoteL l = (d, true)) : quoteL d = l := by
  unfold unquoteL at h
  split at h
  · rename_i hq
    obtain ⟨rfl, _⟩ := Prod.mk.inj h
    exact hq
  · simp at h
theorem unquote_nil (l : List UInt8) (h : (unquoteL l).2 = false) : (unquoteL l).1 = [] := by
  unfold unquoteL at h ⊢
  split
  · rename_i hq
    rw [if_pos hq] at h
    simp at h
  · rfl
theorem quote_size (l : List UInt8) : (quoteL l).length ≤ 4 * l.length + 2 := by
  unfold quoteL
  have := flat_len l
  simp only [List.length_append, List.length_cons, List.length_nil]
  omega
end Go.Proofs.YteifffaonigidaaDoor.Pure
/- What the reference of layer 2 answers: Decimal, Int, Quote and Unquote answer as the program's. Plain facts about the printed functions. -/
namespace Go.Proofs.YteifffaonigidaaDoor.Pure
open Go.RowKit Go.Proofs.YteifffaonigidaaDoor.M Go.Proofs.YteifffaonigidaaDoorW.PrintWords Go.Proofs.YteifffaonigidaaDoorW.PrintLast
set_option linter.unusedVariables false
namespace Rf
/-- From some number of rounds on f answers r. -/
def Evt {α : Type} (f : Nat → Option α) (r : α) : Prop := ∃ k, ∀ k', k ≤ k' → f k' = some r
theorem Evt.step {α : Type} {f g : Nat → Option α} {r : α} (h : Evt g r) (e : ∀ k, f (k + 1) = g k) : Evt f r := by
  obtain ⟨k, hk⟩ := h
  refine ⟨k + 1, fun k' h' => ?_⟩
  obtain ⟨j, rfl⟩ : ∃ j, k' = j + 1 := ⟨k' - 1, by omega⟩
  rw [e, hk j (by omega)]
theorem Evt.same {α : Type} {f g : Nat → Option α} {r : α} (h : Evt g r) (e : ∀ k, f k = g k) : Evt f r := by
  obtain ⟨k, hk⟩ := h
  exact ⟨k, fun k' h' => by rw [e, hk k' h']⟩
theorem Evt.const {α : Type} (r : α) : Evt (fun _ => some r) r := ⟨0, fun _ _ => rfl⟩
theorem Evt.bind {α β : Type} {f : Nat → Option α} {g : Nat → α → Option β} {a : α} {b : β} (h : Evt f a) (k : Evt (fun n => g n a) b) : Evt (fun n => (f n).bind (g n)) b := by
  obtain ⟨n1, h1⟩ := h
  obtain ⟨n2, h2⟩ := k
  refine ⟨n1 + n2, fun n hn => ?_⟩
  show (f n).bind (g n) = some b
  rw [h1 n (by omega), Option.bind_some]
  exact h2 n (by omega)
theorem Evt.get {α : Type} {f : Nat → Option α} {r : α} (h : Evt f r) : ∃ k, f k = some r := let ⟨k, hk⟩ := h; ⟨k, hk k (Nat.le_refl _)⟩
theorem wIn {n : Int} (h : -9223372036854775808 ≤ n ∧ n ≤ 9223372036854775807) : wrap64 n = n := IntWalk.wrap64_in n h
/-! ### Decimal -/
theorem dec_len : ∀ (m u : Nat), u ≤ m → (Lib.decDigits u).length ≤ u + 1
  | m, u, h => by
    by_cases h10 : u < 10
    · rw [Lib.decDigits_one h10]; simp
    · cases m with
      | zero => omega
      | succ m =>
        have := dec_len m (u / 10) (by omega)
        rw [Lib.decDigits, dif_neg h10]
        simp only [List.length_append, List.length_cons, List.length_nil]
        omega
theorem sz (l : List UInt8) : (⟨l.toArray⟩ : ByteArray).size = l.length := by simp [ByteArray.size]
theorem appB (x y : List UInt8) : (⟨x.toArray⟩ : ByteArray) ++ (⟨y.toArray⟩ : ByteArray) = ⟨(x ++ y).toArray⟩ := by
  apply ByteArray.ext
  simp
theorem decimal_nat : ∀ (m u : Nat), u ≤ m → u ≤ 9223372036854775807 → Evt (fun k => taquinref02_Decimal.f k (u : Int)) ⟨(Lib.decDigits u).toArray⟩
  | m, u, hm, hu => by
    by_cases h10 : u < 10
    · refine ((Evt.const _).step (f := fun k => taquinref02_Decimal.j0 k (u : Int) true) fun k => ?_).step fun k => ?_
      · simp only [taquinref02_Decimal.j0]
        rw [if_pos trivial, wIn (by omega), Lib.decDigits_one h10]
        congr 1
        unfold strOfNums
        simp only [List.map_cons, List.map_nil]
        rw [show ((48 + (u : Int)) % 256).toNat = 48 + u by omega]
      · simp only [taquinref02_Decimal.f]
        rw [if_pos (by omega), decide_eq_true (show (u : Int) < 10 by omega)]
    · cases m with
      | zero => omega
      | succ m =>
        have l1 := dec_len _ (u / 10) (Nat.le_refl _)
        have l2 := dec_len _ (u % 10) (Nat.le_refl _)
        have e1 : Int.tdiv (u : Int) 10 = ((u / 10 : Nat) : Int) := by rw [Int.tdiv_eq_ediv_of_nonneg (by omega)]; omega
        have e2 : Int.tmod (u : Int) 10 = ((u % 10 : Nat) : Int) := by rw [Int.tmod_eq_emod_of_nonneg (by omega)]; omega
        have key : Evt (fun k => taquinref02_Decimal.j0 k (u : Int) false) ⟨(Lib.decDigits u).toArray⟩ := by
          refine ((decimal_nat m (u / 10) (by omega) (by omega)).bind (g := fun k t => (taquinref02_Decimal.f k ((u % 10 : Nat) : Int)).bind fun t' => if t.size + t'.size ≤ 9223372036854775807 then some (t ++ t') else none) ((decimal_nat m (u % 10) (by omega) (by omega)).bind (g := fun k t' => if (⟨(Lib.decDigits (u / 10)).toArray⟩ : ByteArray).size + t'.size ≤ 9223372036854775807 then some (⟨(Lib.decDigits (u / 10)).toArray⟩ ++ t') else none) ((Evt.const _).same fun k => ?_))).step fun k => ?_
          · rw [if_pos (by rw [sz, sz]; omega), appB]
            conv => rhs; rw [Lib.decDigits, dif_neg h10]
            rw [Lib.decDigits_one (show u % 10 < 10 by omega)]
          · simp only [taquinref02_Decimal.j0]
            rw [if_neg (by decide), if_pos (by omega), e1, e2, wIn (by omega)]
        refine key.step fun k => ?_
        simp only [taquinref02_Decimal.f]
        rw [if_pos (by omega), decide_eq_false (show ¬ (u : Int) < 10 by omega)]
theorem decimal_neg : ∀ (m u : Nat), u ≤ m → 1 ≤ u → u ≤ 9223372036854775808 → Evt (fun k => taquinref02_Decimal.f k (-(u : Int))) ⟨(45 :: Lib.decDigits u).toArray⟩
  | m, u, hm, h1, hu => by
    have l0 := dec_len _ u (Nat.le_refl _)
    by_cases h10 : u < 10
    · have key : Evt (fun k => taquinref02_Decimal.j0 k (-(u : Int)) false) ⟨(45 :: Lib.decDigits u).toArray⟩ := by
        refine ((decimal_nat u u (Nat.le_refl _) (by omega)).bind (g := fun _ t => if 1 + t.size ≤ 9223372036854775807 then some ((⟨#[45]⟩ : ByteArray) ++ t) else none) ((Evt.const _).same fun k => ?_)).step fun k => ?_
        · rw [if_pos (by rw [sz]; omega)]
          exact congrArg some (appB [45] _)
        · simp only [taquinref02_Decimal.j0]
          rw [if_neg (by decide), if_neg (by omega), if_pos (by omega), wIn (by omega), Int.neg_neg]
      refine key.step fun k => ?_
      simp only [taquinref02_Decimal.f]
      rw [if_neg (by omega)]
    · cases m with
      | zero => omega
      | succ m =>
        have l1 := dec_len _ (u / 10) (Nat.le_refl _)
        have l2 := dec_len _ (u % 10) (Nat.le_refl _)
        have e1 : Int.tdiv (-(u : Int)) 10 = -((u / 10 : Nat) : Int) := by rw [Int.neg_tdiv, Int.tdiv_eq_ediv_of_nonneg (by omega)]; omega
        have e2 : Int.tmod (-(u : Int)) 10 = -((u % 10 : Nat) : Int) := by rw [Int.neg_tmod, Int.tmod_eq_emod_of_nonneg (by omega)]; omega
        have key : Evt (fun k => taquinref02_Decimal.j0 k (-(u : Int)) false) ⟨(45 :: Lib.decDigits u).toArray⟩ := by
          refine ((decimal_neg m (u / 10) (by omega) (by omega) (by omega)).bind (g := fun k t => (taquinref02_Decimal.f k ((u % 10 : Nat) : Int)).bind fun t' => if t.size + t'.size ≤ 9223372036854775807 then some (t ++ t') else none) ((decimal_nat (u % 10) (u % 10) (Nat.le_refl _) (by omega)).bind (g := fun k t' => if (⟨(45 :: Lib.decDigits (u / 10)).toArray⟩ : ByteArray).size + t'.size ≤ 9223372036854775807 then some (⟨(45 :: Lib.decDigits (u / 10)).toArray⟩ ++ t') else none) ((Evt.const _).same fun k => ?_))).step fun k => ?_
          · rw [if_pos (by rw [sz, sz, List.length_cons]; omega), appB]
            conv => rhs; rw [Lib.decDigits, dif_neg h10]
            rw [Lib.decDigits_one (show u % 10 < 10 by omega), List.cons_append]
          · simp only [taquinref02_Decimal.j0]
            rw [if_neg (by decide), if_neg (by omega), if_neg (by omega), e1, e2, wIn (by omega), wIn (by omega), Int.neg_neg]
        refine key.step fun k => ?_
        simp only [taquinref02_Decimal.f]
        rw [if_neg (by omega)]
/-- Decimal of the reference answers as Itoa. -/
theorem decimal (n : Int) (h0 : -9223372036854775808 ≤ n) (h1 : n ≤ 9223372036854775807) : Evt (fun k => taquinref02_Decimal.f k n) ⟨(Lib.itoa n).toArray⟩ := by
  unfold Lib.itoa
  by_cases hn : n < 0
  · rw [if_pos hn]
    have h := decimal_neg n.natAbs n.natAbs (Nat.le_refl _) (by omega) (by omega)
    rwa [show -((n.natAbs : Nat) : Int) = n by omega] at h
  · rw [if_neg hn]
    have h := decimal_nat n.toNat n.toNat (Nat.le_refl _) (by omega)
    rwa [show ((n.toNat : Nat) : Int) = n by omega] at h
/-! ### Int -/
theorem dec_le : ∀ (k u : Nat), u < 10 ^ (k + 1) → (Lib.decDigits u).length ≤ k + 1
  | 0, u, h => by
    have : u < 10 := h
    rw [Lib.decDigits_one this]; simp
  | k + 1, u, h => by
    by_cases h10 : u < 10
    · rw [Lib.decDigits_one h10]; simp
    · have h2 : u / 10 < 10 ^ (k + 1) := by
        have e : 10 ^ (k + 1 + 1) = 10 ^ (k + 1) * 10 := Nat.pow_succ ..
        omega
      have := dec_le k (u / 10) h2
      rw [Lib.decDigits, dif_neg h10]
      simp only [List.length_append, List.length_cons, List.length_nil]
      omega
theorem itoa_len (n : Int) (h0 : -9223372036854775808 ≤ n) (h1 : n ≤ 9223372036854775807) : (Lib.itoa n).length ≤ 20 := by
  have e : (10 : Nat) ^ (18 + 1) = 10000000000000000000 := by decide
  unfold Lib.itoa
  split
  · have := dec_le 18 n.natAbs (by rw [e]; omega)
    simp only [List.length_cons]; omega
  · have := dec_le 18 n.toNat (by rw [e]; omega)
    omega
def decL (acc : Nat) (l : List UInt8) : Nat := l.foldl (fun a c => a * 10 + (c.toNat - 48)) acc
theorem decL_nil (acc : Nat) : decL acc [] = acc := rfl
theorem decL_cons (acc : Nat) (c : UInt8) (r : List UInt8) : decL acc (c :: r) = decL (acc * 10 + (c.toNat - 48)) r := List.foldl_cons ..
theorem decL_app (x : List UInt8) (acc : Nat) (y : List UInt8) : decL acc (x ++ y) = decL (decL acc x) y := List.foldl_append ..
theorem decL_le : ∀ (x : List UInt8) (acc : Nat), acc ≤ decL acc x
  | [], acc => Nat.le_refl _
  | c :: x, acc => by
    have := decL_le x (acc * 10 + (c.toNat - 48))
    rw [decL_cons]; omega
theorem dec_val : ∀ (m u : Nat), u ≤ m → decL 0 (Lib.decDigits u) = u ∧ ∀ c ∈ Lib.decDigits u, 48 ≤ c.toNat ∧ c.toNat ≤ 57
  | m, u, h => by
    have one : ∀ d : Nat, d < 10 → (UInt8.ofNat (48 + d)).toNat = 48 + d := fun d hd => UInt8.toNat_ofNat_of_lt' (by show 48 + d < 256; omega)
    by_cases h10 : u < 10
    · rw [Lib.decDigits_one h10]
      refine ⟨by rw [decL_cons, decL_nil, one u h10]; omega, fun c hc => ?_⟩
      rw [List.mem_singleton] at hc
      subst hc
      rw [one u h10]; omega
    · cases m with
      | zero => omega
      | succ m =>
        obtain ⟨i1, i2⟩ := dec_val m (u / 10) (by omega)
        rw [Lib.decDigits, dif_neg h10]
        refine ⟨?_, fun c hc => ?_⟩
        · rw [decL_app, i1, decL_cons, decL_nil, one _ (by omega)]; omega
        · rcases List.mem_append.1 hc with hc | hc
          · exact i2 c hc
          · rw [List.mem_singleton] at hc
            subst hc
            rw [one _ (by omega)]; omega
theorem toL (l : List UInt8) : (⟨l.toArray⟩ : ByteArray).toList = l := ByteArray.toList_eq _
theorem btN (s : ByteArray) (i : Nat) (h : i < s.size) : bt s (i : Int) = (s[i].toNat : Int) := by
  unfold bt
  rw [dif_pos (by omega)]
  rfl
theorem dropN (s : ByteArray) (k : Nat) (h : k < s.size) : s.data.toList.drop k = s[k] :: s.data.toList.drop (k + 1) := List.drop_eq_getElem_cons (by simpa using h)
theorem int_loop (a0 : ByteArray) (hs : a0.size ≤ 20) (u : Nat) (hu : u ≤ 9223372036854775808) (R : Int × Bool) (hR : Evt (fun k => taquinref02_Int.l0 k a0 (-(u : Int)) (a0.size : Int)) R) :
    ∀ (d i acc : Nat), i + d = a0.size → (i = 0 → 0 < a0.size → bt a0 0 ≠ 45) → decL acc (a0.data.toList.drop i) = u → (∀ c ∈ a0.data.toList.drop i, 48 ≤ c.toNat ∧ c.toNat ≤ 57) → Evt (fun k => taquinref02_Int.l0 k a0 (-(acc : Int)) (i : Int)) R
  | 0, i, acc, hi, _, hv, _ => by
    obtain rfl : i = a0.size := by omega
    have e : a0.data.toList.drop a0.size = [] := List.drop_eq_nil_of_le (by simp)
    rw [e, decL_nil] at hv
    rw [hv]
    exact hR
  | d + 1, i, acc, hi, h0, hv, hd => by
    have hlt : i < a0.size := by omega
    rw [dropN a0 i hlt] at hv hd
    have hc := hd _ (List.mem_cons_self ..)
    have hle := decL_le (a0.data.toList.drop (i + 1)) (acc * 10 + (a0[i].toNat - 48))
    rw [decL_cons] at hv
    have ih := int_loop a0 hs u hu R hR d (i + 1) (acc * 10 + (a0[i].toNat - 48)) (by omega) (fun h => by omega) hv (fun c h => hd c (List.mem_cons_of_mem _ h))
    have hb := btN a0 i hlt
    have key : Evt (fun k => taquinref02_Int.j2 k a0 (-(acc : Int)) (i : Int) false) R := by
      refine ih.step fun k => ?_
      simp only [taquinref02_Int.j2]
      rw [if_neg (by decide), if_pos (by omega), if_pos (by omega), if_neg (by omega), if_neg (by omega), hb]
      congr 1
      · rw [wIn (n := -(acc : Int) * 10) (by omega), wIn (by omega)]; omega
      · rw [wIn (by omega)]; omega
    refine key.step fun k => ?_
    simp only [taquinref02_Int.l0]
    rw [if_pos (by omega)]
    by_cases hz : i = 0
    · have h45 := h0 hz (by omega)
      rw [if_pos (by omega), if_pos (by omega), show (bt a0 0 == 45) = false from beq_eq_false_iff_ne.2 h45]
    · rw [if_neg (by omega)]
theorem int_no (a0 : ByteArray) (hs : a0.size ≤ 20) (hp : 0 < a0.size) (hno : ∀ n : Int, -9223372036854775808 ≤ n → n ≤ 9223372036854775807 → Lib.itoa n ≠ a0.data.toList) :
    ∀ (d i : Nat) (n : Int), i + d = a0.size → -9223372036854775808 ≤ n → n ≤ 9223372036854775807 → Evt (fun k => taquinref02_Int.l0 k a0 n (i : Int)) (0, false)
  | 0, i, n, hi, n0, n1 => by
    have ww : ∀ x : Int, -9223372036854775808 ≤ wrap64 x ∧ wrap64 x ≤ 9223372036854775807 := fun x => by unfold wrap64; omega
    have fin : ∀ m : Int, -9223372036854775808 ≤ m → m ≤ 9223372036854775807 → Evt (fun k => (taquinref02_Decimal.f k m).bind fun t => if t.toList = a0.toList then some (m, true) else some (0, false)) (0, false) := by
      intro m m0 m1
      refine (decimal m m0 m1).bind (g := fun _ t => if t.toList = a0.toList then some (m, true) else some (0, false)) ((Evt.const _).same fun k => ?_)
      rw [if_neg (fun h => hno m m0 m1 (by rw [toL, ByteArray.toList_eq] at h; exact h))]
    by_cases h45 : bt a0 0 = 45
    · refine (fin n n0 n1).step fun k => ?_
      simp only [taquinref02_Int.l0]
      rw [if_neg (by omega), if_pos (by omega), if_pos h45]
    · refine (fin (wrap64 (-n)) (ww _).1 (ww _).2).step fun k => ?_
      simp only [taquinref02_Int.l0]
      rw [if_neg (by omega), if_pos (by omega), if_neg h45]
  | d + 1, i, n, hi, n0, n1 => by
    have hlt : i < a0.size := by omega
    have ww : ∀ x : Int, -9223372036854775808 ≤ wrap64 x ∧ wrap64 x ≤ 9223372036854775807 := fun x => by unfold wrap64; omega
    have e1 : wrap64 ((i : Int) + 1) = ((i + 1 : Nat) : Int) := by rw [wIn (by omega)]; omega
    have kt : Evt (fun k => taquinref02_Int.j2 k a0 n (i : Int) true) (0, false) := by
      refine (int_no a0 hs hp hno d (i + 1) n (by omega) n0 n1).step fun k => ?_
      simp only [taquinref02_Int.j2]
      rw [if_pos trivial, e1]
    have kf : Evt (fun k => taquinref02_Int.j2 k a0 n (i : Int) false) (0, false) := by
      by_cases hlo : bt a0 (i : Int) < 48
      · refine (Evt.const _).step fun k => ?_
        simp only [taquinref02_Int.j2]
        rw [if_neg (by decide), if_pos (by omega), if_pos (by omega), if_pos hlo]
      · by_cases hhi : bt a0 (i : Int) > 57
        · refine (Evt.const _).step fun k => ?_
          simp only [taquinref02_Int.j2]
          rw [if_neg (by decide), if_pos (by omega), if_pos (by omega), if_neg hlo, if_pos hhi]
        · refine (int_no a0 hs hp hno d (i + 1) (wrap64 (wrap64 (n * 10) - (bt a0 (i : Int) - 48) % 256)) (by omega) (ww _).1 (ww _).2).step fun k => ?_
          simp only [taquinref02_Int.j2]
          rw [if_neg (by decide), if_pos (by omega), if_pos (by omega), if_neg hlo, if_neg hhi, e1]
    by_cases hz : i = 0
    · subst hz
      cases hb : (bt a0 0 == 45) with
      | true =>
        refine kt.step fun k => ?_
        simp only [taquinref02_Int.l0]
        rw [if_pos (by omega), if_pos (by omega), if_pos (by omega), hb]
      | false =>
        refine kf.step fun k => ?_
        simp only [taquinref02_Int.l0]
        rw [if_pos (by omega), if_pos (by omega), if_pos (by omega), hb]
    · refine kf.step fun k => ?_
      simp only [taquinref02_Int.l0]
      rw [if_pos (by omega), if_neg (by omega)]
theorem bytes_eq (a : ByteArray) (l : List UInt8) (h : a.data.toList = l) : a = ⟨l.toArray⟩ := by
  apply ByteArray.ext
  rw [← h]
/-- Int of the reference answers as text.Int. -/
theorem int_ (a0 : ByteArray) : Evt (fun k => taquinref02_Int.f k a0) (intOfText a0.data.toList) := by
  have hlen : a0.data.toList.length = a0.size := rfl
  by_cases hyes : ∃ v : Int, (-9223372036854775808 ≤ v ∧ v ≤ 9223372036854775807) ∧ Lib.itoa v = a0.data.toList
  · obtain ⟨v, ⟨v0, v1⟩, hv⟩ := hyes
    have hl := itoa_len v v0 v1
    rw [hv, hlen] at hl
    rw [← hv, int_decimal v v0 v1]
    have fin : ∀ m : Int, m = v → Evt (fun k => (taquinref02_Decimal.f k m).bind fun t => if t.toList = a0.toList then some (m, true) else some (0, false)) (v, true) := by
      rintro m rfl
      refine (decimal m v0 v1).bind (g := fun _ t => if t.toList = a0.toList then some (m, true) else some (0, false)) ((Evt.const _).same fun k => ?_)
      rw [if_pos (by rw [toL, ByteArray.toList_eq]; exact hv)]
    have start : 0 < a0.size → Evt (fun k => taquinref02_Int.l0 k a0 0 0) (v, true) → Evt (fun k => taquinref02_Int.f k a0) (v, true) := fun hp h => by
      have h2 : Evt (fun k => taquinref02_Int.j0 k a0 false) (v, true) := h.step fun k => by
        simp only [taquinref02_Int.j0]
        rw [if_neg (by decide)]
      refine h2.same fun k => ?_
      unfold taquinref02_Int.f
      rw [if_neg (by omega), decide_eq_false (by omega)]
    by_cases hn : v < 0
    · have e : Lib.itoa v = 45 :: Lib.decDigits v.natAbs := by unfold Lib.itoa; rw [if_pos hn]
      obtain ⟨d1, d2⟩ := dec_val _ v.natAbs (Nat.le_refl _)
      rw [e] at hv
      have hp : 0 < a0.size := by rw [← hlen, ← hv]; simp
      have hb0 : bt a0 0 = 45 := by
        have h1 := btN a0 0 hp
        have h2 := dropN a0 0 hp
        rw [List.drop_zero, ← hv] at h2
        have h3 : a0[0] = 45 := (List.cons.inj h2).1.symm
        rw [h3] at h1
        exact h1
      have hd1 : a0.data.toList.drop 1 = Lib.decDigits v.natAbs := by rw [← hv]; rfl
      have hR : Evt (fun k => taquinref02_Int.l0 k a0 (-((v.natAbs : Nat) : Int)) (a0.size : Int)) (v, true) := by
        refine (fin (-((v.natAbs : Nat) : Int)) (by omega)).step fun k => ?_
        simp only [taquinref02_Int.l0]
        rw [if_neg (by omega), if_pos (by omega), if_pos hb0]
      have hlo := int_loop a0 hl v.natAbs (by omega) (v, true) hR (a0.size - 1) 1 0 (by omega) (fun h => by omega) (by rw [hd1]; exact d1) (by rw [hd1]; exact d2)
      have kt : Evt (fun k => taquinref02_Int.j2 k a0 0 0 true) (v, true) := by
        refine hlo.step fun k => ?_
        simp only [taquinref02_Int.j2]
        rw [if_pos trivial, wIn (by omega)]
        rfl
      refine start hp (kt.step fun k => ?_)
      simp only [taquinref02_Int.l0]
      rw [if_pos (by omega), if_pos trivial, if_pos (by omega), hb0]
      rfl
    · have e : Lib.itoa v = Lib.decDigits v.toNat := by unfold Lib.itoa; rw [if_neg hn]
      obtain ⟨d1, d2⟩ := dec_val _ v.toNat (Nat.le_refl _)
      rw [e] at hv
      have hp : 0 < a0.size := by
        obtain ⟨c, r, hc, _⟩ := dec_head v.toNat
        rw [← hlen, ← hv, hc]; simp
      have hb0 : bt a0 0 ≠ 45 := by
        have h1 := btN a0 0 hp
        have h2 := dropN a0 0 hp
        have h4 := d2 a0[0] (by rw [hv, ← List.drop_zero (l := a0.data.toList), h2]; exact List.mem_cons_self ..)
        intro h
        have h1' : bt a0 0 = (a0[0].toNat : Int) := h1
        omega
      have hR : Evt (fun k => taquinref02_Int.l0 k a0 (-((v.toNat : Nat) : Int)) (a0.size : Int)) (v, true) := by
        have ew : wrap64 (-(-((v.toNat : Nat) : Int))) = v := by rw [wIn (by omega)]; omega
        refine (fin _ ew).step fun k => ?_
        simp only [taquinref02_Int.l0]
        rw [if_neg (by omega), if_pos (by omega), if_neg hb0]
      exact start hp (int_loop a0 hl v.toNat (by omega) (v, true) hR a0.size 0 0 (by omega) (fun _ _ => hb0) (by rw [List.drop_zero, ← hv]; exact d1) (by rw [List.drop_zero, ← hv]; exact d2))
  · have h2 : (intOfText a0.data.toList).2 = false := by
      cases h : (intOfText a0.data.toList).2 with
      | false => rfl
      | true =>
        have hb := int_back a0.data.toList (intOfText a0.data.toList).1 (by rw [← h])
        exact absurd ⟨_, hb.2, hb.1⟩ hyes
    have h1 := int_zero _ h2
    rw [show intOfText a0.data.toList = (0, false) by rw [← h1, ← h2]]
    have kt : Evt (fun k => taquinref02_Int.j0 k a0 true) (0, false) := by
      refine (Evt.const _).step fun k => ?_
      simp only [taquinref02_Int.j0]
      rw [if_pos trivial]
    by_cases hz : a0.size = 0
    · refine kt.same fun k => ?_
      unfold taquinref02_Int.f
      rw [if_pos (by omega)]
    · by_cases h20 : a0.size > 20
      · refine kt.same fun k => ?_
        unfold taquinref02_Int.f
        rw [if_neg (by omega), decide_eq_true (by omega)]
      · have hlo := int_no a0 (by omega) (by omega) (fun n n0 n1 h => hyes ⟨n, ⟨n0, n1⟩, h⟩) a0.size 0 0 (by omega) (by omega) (by omega)
        have kf : Evt (fun k => taquinref02_Int.j0 k a0 false) (0, false) := by
          refine hlo.step fun k => ?_
          simp only [taquinref02_Int.j0]
          rw [if_neg (by decide)]
          rfl
        refine kf.same fun k => ?_
        unfold taquinref02_Int.f
        rw [if_neg (by omega), decide_eq_false (by omega)]
end Rf
end Go.Proofs.YteifffaonigidaaDoor.Pure
/- What the reference of layer 2 answers: Quote and Unquote answer as the program's. Plain facts about the printed functions. -/
namespace Go.Proofs.YteifffaonigidaaDoor.Pure
open Go.RowKit Go.Proofs.YteifffaonigidaaDoor.M Go.Proofs.YteifffaonigidaaDoorW.PrintWords Go.Proofs.YteifffaonigidaaDoorW.PrintLast
set_option linter.unusedVariables false
namespace Rf
theorem W1 (i : Nat) (h : i < 4611686018427387904) : wrap64 ((i : Int) + 1) = ((i + 1 : Nat) : Int) := by rw [wIn (by omega)]; omega
theorem W2 (i : Nat) (h : i < 4611686018427387904) : wrap64 ((i : Int) + 2) = ((i + 2 : Nat) : Int) := by rw [wIn (by omega)]; omega
theorem Wm (i : Nat) (h : i < 4611686018427387904) : wrap64 ((i : Int) - 1) = (i : Int) - 1 := wIn (by omega)
def nums (l : List UInt8) : List Int := l.map fun b => (b.toNat : Int)
theorem nums_len (l : List UInt8) : (nums l).length = l.length := List.length_map ..
theorem nums_app (x y : List UInt8) : nums (x ++ y) = nums x ++ nums y := List.map_append ..
theorem nums_str (l : List UInt8) : strOfNums (nums l) = ⟨l.toArray⟩ := by
  unfold strOfNums nums
  rw [List.map_map]
  congr 1
  congr 1
  conv => rhs; rw [← List.map_id l]
  apply List.map_congr_left
  intro c _
  show UInt8.ofNat (c.toNat : Int).toNat = c
  rw [Int.toNat_natCast]
  simp
/-! ### Quote -/
theorem hex_bt : ∀ n : Fin 16, bt (⟨#[48, 49, 50, 51, 52, 53, 54, 55, 56, 57, 97, 98, 99, 100, 101, 102]⟩ : ByteArray) (n.val : Int) = ((hexd n.val).toNat : Int) := by decide
theorem quote_loop (a0 : ByteArray) (hs : a0.size ≤ 2000000) : ∀ (d i : Nat), i + d = a0.size → Evt (fun k => taquinref02_Quote.l0 k a0 (nums (M.quoted a0 i)) (i : Int)) ⟨(quoteL a0.data.toList).toArray⟩
  | 0, i, hi => by
    obtain rfl : i = a0.size := by omega
    have hl := quoted_len a0 a0.size (Nat.le_refl _)
    refine (Evt.const _).step fun k => ?_
    simp only [taquinref02_Quote.l0]
    rw [if_neg (by omega), if_pos (by rw [nums_len]; omega), show (34 : Int) = ((34 : UInt8).toNat : Int) from rfl]
    rw [show nums (M.quoted a0 a0.size) ++ [((34 : UInt8).toNat : Int)] = nums (M.quoted a0 a0.size ++ [34]) from (nums_app _ [34]).symm, quoted_all, nums_str]
  | d + 1, i, hi => by
    have hlt : i < a0.size := by omega
    have hl := quoted_len a0 i (by omega)
    have hb := btN a0 i hlt
    have hn := quoted_snoc a0 i hlt
    have ih := quote_loop a0 hs d (i + 1) (by omega)
    rw [hn, nums_app] at ih
    obtain ⟨c, hc⟩ : ∃ c, a0[i] = c := ⟨_, rfl⟩
    rw [hc] at hb ih
    have hlim := c.toNat_lt
    have key : ∀ b : Bool, (b = true ↔ (c.toNat = 34 ∨ c.toNat = 92)) → Evt (fun k => taquinref02_Quote.j1 k a0 (nums (M.quoted a0 i)) (i : Int) (c.toNat : Int) b) ⟨(quoteL a0.data.toList).toArray⟩ := by
      intro b hbb
      refine ih.step fun k => ?_
      simp only [taquinref02_Quote.j1]
      by_cases h1 : c.toNat = 34 ∨ c.toNat = 92
      · rw [if_pos (hbb.2 h1), Option.bind_some, if_pos (by rw [nums_len]; simp only [List.length_cons, List.length_nil]; omega), W1 i (by omega)]
        have : qb c = [92, c] := by unfold qb; rw [if_pos h1]
        rw [this]; rfl
      · rw [if_neg (fun h => h1 (hbb.1 h))]
        by_cases h2 : c.toNat = 10
        · rw [if_pos (by omega), Option.bind_some, if_pos (by rw [nums_len]; simp only [List.length_cons, List.length_nil]; omega), W1 i (by omega)]
          have : qb c = [92, 110] := by unfold qb; rw [if_neg h1, if_pos h2]
          rw [this]; rfl
        · rw [if_neg (by omega)]
          have d1 : Int.tdiv (c.toNat : Int) 16 % 256 = ((c.toNat / 16 : Nat) : Int) := by rw [Int.tdiv_eq_ediv_of_nonneg (by omega)]; omega
          have d2 : Int.tmod (c.toNat : Int) 16 = ((c.toNat % 16 : Nat) : Int) := by rw [Int.tmod_eq_emod_of_nonneg (by omega)]; omega
          have x1 := hex_bt ⟨c.toNat / 16, by omega⟩
          have x2 := hex_bt ⟨c.toNat % 16, by omega⟩
          simp only at x1 x2
          by_cases h3 : 32 ≤ c.toNat ∧ c.toNat ≤ 126
          · have : qb c = [c] := by unfold qb; rw [if_neg h1, if_neg h2, if_pos h3]
            rw [if_neg (by omega), if_neg (by omega), if_pos (by rw [nums_len]; omega), W1 i (by omega), this]; rfl
          · have : qb c = [92, 120, hexd (c.toNat / 16), hexd (c.toNat % 16)] := by unfold qb; rw [if_neg h1, if_neg h2, if_neg h3]
            by_cases h4 : c.toNat < 32
            · rw [if_pos (by omega), d1, d2, if_pos (by omega), if_pos (by omega), if_pos (by omega), if_pos (by omega), x1, x2, Option.bind_some, if_pos (by rw [nums_len]; simp only [List.length_cons, List.length_nil]; omega), W1 i (by omega), this]; rfl
            · rw [if_neg (by omega), if_pos (by omega), d1, d2, if_pos (by omega), if_pos (by omega), if_pos (by omega), if_pos (by omega), x1, x2, Option.bind_some, if_pos (by rw [nums_len]; simp only [List.length_cons, List.length_nil]; omega), W1 i (by omega), this]; rfl
    by_cases h34 : c.toNat = 34
    · refine (key true ⟨fun _ => Or.inl h34, fun _ => rfl⟩).step fun k => ?_
      simp only [taquinref02_Quote.l0]
      rw [if_pos (by omega), if_pos (by omega), hb, if_pos (by omega)]
    · by_cases h92 : c.toNat = 92
      · refine (key true ⟨fun _ => Or.inr h92, fun _ => rfl⟩).step fun k => ?_
        simp only [taquinref02_Quote.l0]
        rw [if_pos (by omega), if_pos (by omega), hb, if_neg (by omega), show ((c.toNat : Int) == 92) = true from beq_iff_eq.2 (by omega)]
      · refine (key false ⟨fun h => by simp at h, fun h => by omega⟩).step fun k => ?_
        simp only [taquinref02_Quote.l0]
        rw [if_pos (by omega), if_pos (by omega), hb, if_neg (by omega), show ((c.toNat : Int) == 92) = false from beq_eq_false_iff_ne.2 (by omega)]
theorem quote (a0 : ByteArray) (hs : a0.size ≤ 2000000) : Evt (fun k => taquinref02_Quote.f k a0) ⟨(quoteL a0.data.toList).toArray⟩ := by
  refine (quote_loop a0 hs a0.size 0 (by omega)).same fun k => ?_
  unfold taquinref02_Quote.f
  rfl
/-! ### digit -/
def dg (c : UInt8) : Nat := if 48 ≤ c.toNat ∧ c.toNat ≤ 57 then c.toNat - 48 else if 97 ≤ c.toNat ∧ c.toNat ≤ 102 then c.toNat - 87 else 0
theorem dg_lt (c : UInt8) : dg c < 16 := by unfold dg; split <;> (try split) <;> omega
theorem digit_ev (c : UInt8) : ∀ c : Fin 256, taquinref02_digit.l0 17 (c.val : Int) 0 = some ((dg (UInt8.ofNat c.val) : Nat) : Int) := by decide +kernel
theorem digit (c : UInt8) : Evt (fun k => taquinref02_digit.f k (c.toNat : Int)) ((dg c : Nat) : Int) := by
  have h := digit_ev c ⟨c.toNat, c.toNat_lt⟩
  simp only [UInt8.ofNat_toNat] at h
  refine ⟨17, fun k' hk => ?_⟩
  show taquinref02_digit.f k' (c.toNat : Int) = _
  have h17 : taquinref02_digit.f 17 (c.toNat : Int) = some ((dg c : Nat) : Int) := h
  induction hk with
  | refl => exact h17
  | step _ ih => exact taquinref02_digit.mono _ _ _ ih
/-! ### Unquote -/
def fin (l o : List UInt8) : ByteArray × Bool := if quoteL o = l then (⟨o.toArray⟩, true) else (⟨#[]⟩, false)
theorem drop_more {a0 : ByteArray} {i : Nat} {c : UInt8} {r : List UInt8} (h : a0.data.toList.drop i = c :: r) : i < a0.size ∧ bt a0 (i : Int) = (c.toNat : Int) ∧ a0.data.toList.drop (i + 1) = r ∧ a0.size = i + 1 + r.length := by
  have hlen : a0.data.toList.length = a0.size := rfl
  have hl := congrArg List.length h
  rw [List.length_drop, List.length_cons, hlen] at hl
  have hlt : i < a0.size := by omega
  have hd := dropN a0 i hlt
  rw [h] at hd
  obtain ⟨h1, h2⟩ := List.cons.inj hd
  exact ⟨hlt, by rw [btN a0 i hlt, h1], h2.symm, by omega⟩
section
variable {a0 : ByteArray} (hs : a0.size ≤ 1000000)
def L0 (a0 : ByteArray) (o : List UInt8) (i : Nat) (R : ByteArray × Bool) : Prop := Evt (fun k => taquinref02_Unquote.l0 k a0 (nums o) (i : Int)) R
include hs
theorem stepPlain {i : Nat} {o : List UInt8} {c : UInt8} {r : List UInt8} {R : ByteArray × Bool} (ho : o.length ≤ i) (h : a0.data.toList.drop i = c :: r) (hr : r ≠ []) (hc : c ≠ 92) (K : L0 a0 (o ++ [c]) (i + 1) R) : L0 a0 o i R := by
  obtain ⟨hlt, hb, _, hz⟩ := drop_more h
  have hrl := List.length_pos_iff.2 hr
  have hc' : c.toNat ≠ 92 := fun h => hc (UInt8.toNat_inj.1 h)
  have key : Evt (fun k => taquinref02_Unquote.j1 k a0 (nums o) ((i + 1 : Nat) : Int) (c.toNat : Int) false) R := by
    refine K.step fun k => ?_
    simp only [taquinref02_Unquote.j1]
    rw [if_neg (by decide), if_pos (by rw [nums_len]; omega), nums_app]; rfl
  refine key.step fun k => ?_
  simp only [taquinref02_Unquote.l0]
  rw [Wm a0.size (by omega), W1 i (by omega), if_pos (by omega), if_pos (by omega), if_pos (by omega), hb, if_neg (by omega)]
theorem stepLast {i : Nat} {o : List UInt8} {x : UInt8} {R : ByteArray × Bool} (ho : o.length ≤ i) (h : a0.data.toList.drop i = [92, x]) (K : L0 a0 (o ++ [92]) (i + 1) R) : L0 a0 o i R := by
  obtain ⟨hlt, hb, _, hz⟩ := drop_more h
  simp only [List.length_cons, List.length_nil] at hz
  have key : Evt (fun k => taquinref02_Unquote.j1 k a0 (nums o) ((i + 1 : Nat) : Int) 92 false) R := by
    refine K.step fun k => ?_
    simp only [taquinref02_Unquote.j1]
    rw [if_neg (by decide), if_pos (by rw [nums_len]; omega), nums_app]; rfl
  refine key.step fun k => ?_
  simp only [taquinref02_Unquote.l0]
  rw [Wm a0.size (by omega), W1 i (by omega), if_pos (by omega), if_pos (by omega), if_pos (by omega), hb, if_pos (show (((92 : UInt8).toNat : Nat) : Int) = 92 from rfl), decide_eq_false (by omega)]
  rfl
/-- Behind a backslash that is not the last one. -/
theorem stepB {i : Nat} {o : List UInt8} {d : UInt8} {r : List UInt8} {R : ByteArray × Bool} (h : a0.data.toList.drop i = 92 :: d :: r) (hr : r ≠ [])
    (K : Evt (fun k => taquinref02_Unquote.j1 k a0 (nums o) ((i + 1 : Nat) : Int) 92 true) R) : L0 a0 o i R := by
  obtain ⟨hlt, hb, h2, hz⟩ := drop_more h
  obtain ⟨hlt2, hb2, h3, hz2⟩ := drop_more h2
  have hrl := List.length_pos_iff.2 hr
  refine K.step fun k => ?_
  simp only [taquinref02_Unquote.l0]
  rw [Wm a0.size (by omega), W1 i (by omega), if_pos (by omega), if_pos (by omega), if_pos (by omega), hb, if_pos (show (((92 : UInt8).toNat : Nat) : Int) = 92 from rfl), decide_eq_true (by omega)]
  rfl
theorem stepN {i : Nat} {o : List UInt8} {r : List UInt8} {R : ByteArray × Bool} (ho : o.length ≤ i) (h : a0.data.toList.drop i = 92 :: 110 :: r) (hr : r ≠ []) (K : L0 a0 (o ++ [10]) (i + 2) R) : L0 a0 o i R := by
  refine stepB hs h hr ?_
  obtain ⟨hlt, hb, h2, hz⟩ := drop_more h
  obtain ⟨hlt2, hb2, h3, hz2⟩ := drop_more h2
  refine K.step fun k => ?_
  simp only [taquinref02_Unquote.j1]
  rw [if_pos trivial, if_pos (by omega), if_pos (by omega), hb2, if_pos (show (((110 : UInt8).toNat : Nat) : Int) = 110 from rfl), if_pos (by rw [nums_len]; omega), W1 (i + 1) (by omega), nums_app]
  rfl
theorem stepE {i : Nat} {o : List UInt8} {d : UInt8} {r : List UInt8} {R : ByteArray × Bool} (ho : o.length ≤ i) (h : a0.data.toList.drop i = 92 :: d :: r) (hr : r ≠ []) (h1 : d ≠ 110) (h2 : d ≠ 120) (K : L0 a0 (o ++ [d]) (i + 2) R) : L0 a0 o i R := by
  refine stepB hs h hr ?_
  obtain ⟨hlt, hb, h2', hz⟩ := drop_more h
  obtain ⟨hlt2, hb2, h3, hz2⟩ := drop_more h2'
  have n1 : d.toNat ≠ 110 := fun h => h1 (UInt8.toNat_inj.1 h)
  have n2 : d.toNat ≠ 120 := fun h => h2 (UInt8.toNat_inj.1 h)
  have key : Evt (fun k => taquinref02_Unquote.j2 k a0 (nums o) ((i + 2 : Nat) : Int) (d.toNat : Int) false) R := by
    refine K.step fun k => ?_
    simp only [taquinref02_Unquote.j2]
    rw [if_neg (by decide), if_pos (by rw [nums_len]; omega), nums_app]; rfl
  refine key.step fun k => ?_
  simp only [taquinref02_Unquote.j1]
  rw [if_pos trivial, if_pos (by omega), if_pos (by omega), hb2, if_neg (by omega), if_neg (by omega), W1 (i + 1) (by omega)]
theorem stepXs {i : Nat} {o : List UInt8} {r : List UInt8} {R : ByteArray × Bool} (ho : o.length ≤ i) (h : a0.data.toList.drop i = 92 :: 120 :: r) (hr : r ≠ []) (hr2 : r.length ≤ 2) (K : L0 a0 (o ++ [120]) (i + 2) R) : L0 a0 o i R := by
  refine stepB hs h hr ?_
  obtain ⟨hlt, hb, h2', hz⟩ := drop_more h
  obtain ⟨hlt2, hb2, h3, hz2⟩ := drop_more h2'
  have key : Evt (fun k => taquinref02_Unquote.j2 k a0 (nums o) ((i + 2 : Nat) : Int) 120 false) R := by
    refine K.step fun k => ?_
    simp only [taquinref02_Unquote.j2]
    rw [if_neg (by decide), if_pos (by rw [nums_len]; omega), nums_app]; rfl
  refine key.step fun k => ?_
  simp only [taquinref02_Unquote.j1]
  rw [if_pos trivial, if_pos (by omega), if_pos (by omega), hb2, if_neg (by decide), if_pos (show (((120 : UInt8).toNat : Nat) : Int) = 120 from rfl), W1 (i + 1) (by omega), W1 (i + 2) (by omega), Wm a0.size (by omega), decide_eq_false (by omega)]
  rfl
theorem stepX {i : Nat} {o : List UInt8} {a b : UInt8} {r : List UInt8} {R : ByteArray × Bool} (ho : o.length ≤ i) (h : a0.data.toList.drop i = 92 :: 120 :: a :: b :: r) (hr : r ≠ []) (K : L0 a0 (o ++ [UInt8.ofNat (dg a * 16 + dg b)]) (i + 4) R) : L0 a0 o i R := by
  refine stepB hs h (by simp) ?_
  obtain ⟨hlt, hb, h2', hz⟩ := drop_more h
  obtain ⟨hlt2, hb2, h3, hz2⟩ := drop_more h2'
  obtain ⟨hlt3, hb3, h4, hz3⟩ := drop_more h3
  obtain ⟨hlt4, hb4, h5, hz4⟩ := drop_more h4
  have hrl := List.length_pos_iff.2 hr
  have ga := dg_lt a
  have gb := dg_lt b
  have ev : ((((dg a : Nat) : Int) * 16) % 256 + ((dg b : Nat) : Int)) % 256 = ((UInt8.ofNat (dg a * 16 + dg b)).toNat : Int) := by
    rw [UInt8.toNat_ofNat_of_lt' (by show _ < 256; omega)]; omega
  have key : Evt (fun k => taquinref02_Unquote.j2 k a0 (nums o) ((i + 2 : Nat) : Int) 120 true) R := by
    refine ((digit a).bind (g := fun k t => (taquinref02_digit.f k (b.toNat : Int)).bind fun t' => taquinref02_Unquote.l0 k a0 (nums o ++ [((t * 16) % 256 + t') % 256]) ((i + 4 : Nat) : Int)) ((digit b).bind (g := fun k t' => taquinref02_Unquote.l0 k a0 (nums o ++ [((((dg a : Nat) : Int) * 16) % 256 + t') % 256]) ((i + 4 : Nat) : Int)) (K.same fun k => ?_))).step fun k => ?_
    · rw [ev, nums_app]; rfl
    · simp only [taquinref02_Unquote.j2]
      have l1 : (nums o).length < 140737488355328 := by rw [nums_len]; omega
      have hb4' : bt a0 ((i + 2 + 1 : Nat) : Int) = (b.toNat : Int) := hb4
      have hb3' : bt a0 ((i + 2 : Nat) : Int) = (a.toNat : Int) := hb3
      have g1 : (0 : Int) ≤ ((i + 2 + 1 : Nat) : Int) := by omega
      have g2 : ((i + 2 + 1 : Nat) : Int) < (a0.size : Int) := by omega
      rw [if_pos trivial, if_pos (by omega), if_pos (by omega)]
      simp only [W1 (i + 2) (by omega), hb3', hb4', if_pos g1, if_pos g2, if_pos l1, W2 (i + 2) (by omega)]
  refine key.step fun k => ?_
  simp only [taquinref02_Unquote.j1]
  rw [if_pos trivial, if_pos (by omega), if_pos (by omega), hb2, if_neg (by decide), if_pos (show (((120 : UInt8).toNat : Nat) : Int) = 120 from rfl), W1 (i + 1) (by omega), W1 (i + 2) (by omega), Wm a0.size (by omega), decide_eq_true (by omega)]
  rfl
theorem stop {i : Nat} {o : List UInt8} (ho : o.length ≤ i) (hi : i ≤ a0.size + 1) (h : a0.size ≤ i + 1) : L0 a0 o i (fin a0.data.toList o) := by
  have hq := quote ⟨o.toArray⟩ (by rw [sz]; omega)
  refine (hq.bind (g := fun _ t => if t.toList = a0.toList then some ((⟨o.toArray⟩ : ByteArray), true) else some ((⟨#[]⟩ : ByteArray), false)) ((Evt.const _).same fun k => ?_)).step fun k => ?_
  · unfold fin
    rw [toL, ByteArray.toList_eq]
    show (if quoteL o = a0.data.toList then _ else _) = _
    split <;> rfl
  · simp only [taquinref02_Unquote.l0]
    rw [Wm a0.size (by omega), if_neg (by omega), nums_str]
theorem unq_any : ∀ (n i : Nat) (o : List UInt8), a0.size ≤ i + n → o.length ≤ i → i ≤ a0.size + 1 → ∃ o', L0 a0 o i (fin a0.data.toList o')
  | n, i, o, hn, ho, hi => by
    have hlen : a0.data.toList.length = a0.size := rfl
    cases hd : a0.data.toList.drop i with
    | nil =>
      have := congrArg List.length hd
      rw [List.length_drop, hlen, List.length_nil] at this
      exact ⟨o, stop hs ho hi (by omega)⟩
    | cons c r =>
      obtain ⟨_, _, _, hz⟩ := drop_more hd
      cases n with
      | zero => omega
      | succ n =>
        have next : ∀ (j : Nat) (x : UInt8), 1 ≤ j → i + j ≤ a0.size + 1 → ∃ o', L0 a0 (o ++ [x]) (i + j) (fin a0.data.toList o') := fun j x h1 h2 => unq_any n (i + j) (o ++ [x]) (by omega) (by simp only [List.length_append, List.length_cons, List.length_nil]; omega) h2
        cases r with
        | nil => exact ⟨o, stop hs ho hi (by simp only [List.length_nil] at hz; omega)⟩
        | cons d r =>
          simp only [List.length_cons] at hz
          by_cases hc : c = 92
          · subst hc
            cases r with
            | nil =>
              obtain ⟨o', h'⟩ := next 1 92 (by omega) (by omega)
              exact ⟨o', stepLast hs ho hd h'⟩
            | cons e r =>
              simp only [List.length_cons] at hz
              by_cases h1 : d = 110
              · subst h1
                obtain ⟨o', h'⟩ := next 2 10 (by omega) (by omega)
                exact ⟨o', stepN hs ho hd (by simp) h'⟩
              · by_cases h2 : d = 120
                · subst h2
                  cases r with
                  | nil =>
                    obtain ⟨o', h'⟩ := next 2 120 (by omega) (by omega)
                    exact ⟨o', stepXs hs ho hd (by simp) (by simp) h'⟩
                  | cons e2 r =>
                    cases r with
                    | nil =>
                      obtain ⟨o', h'⟩ := next 2 120 (by omega) (by omega)
                      exact ⟨o', stepXs hs ho hd (by simp) (by simp) h'⟩
                    | cons e3 r =>
                      simp only [List.length_cons] at hz
                      obtain ⟨o', h'⟩ := next 4 (UInt8.ofNat (dg e * 16 + dg e2)) (by omega) (by omega)
                      exact ⟨o', stepX hs ho hd (by simp) h'⟩
                · obtain ⟨o', h'⟩ := next 2 d (by omega) (by omega)
                  exact ⟨o', stepE hs ho hd (by simp) h1 h2 h'⟩
          · obtain ⟨o', h'⟩ := next 1 c (by omega) (by omega)
            exact ⟨o', stepPlain hs ho hd (by simp) hc h'⟩
theorem unq_quote (t : List UInt8) : ∀ (t' o : List UInt8) (i : Nat), o ++ t' = t → o.length ≤ i → a0.data.toList.drop i = t'.flatMap qb ++ [34] → L0 a0 o i (fin a0.data.toList t)
  | [], o, i, ht, ho, hd => by
    obtain ⟨_, _, _, hz⟩ := drop_more (show a0.data.toList.drop i = 34 :: [] from hd)
    rw [List.append_nil] at ht
    subst ht
    exact stop hs ho (by simp only [List.length_nil] at hz; omega) (by simp only [List.length_nil] at hz; omega)
  | c :: t', o, i, ht, ho, hd => by
    rw [List.flatMap_cons, List.append_assoc] at hd
    have hne : t'.flatMap qb ++ [34] ≠ [] := by simp
    have rec_ : ∀ j, 1 ≤ j → a0.data.toList.drop (i + j) = t'.flatMap qb ++ [34] → L0 a0 (o ++ [c]) (i + j) (fin a0.data.toList t) := fun j hj h => unq_quote t t' (o ++ [c]) (i + j) (by rw [List.append_assoc]; exact ht) (by simp only [List.length_append, List.length_cons, List.length_nil]; omega) h
    unfold qb at hd
    by_cases h1 : c.toNat = 34 ∨ c.toNat = 92
    · rw [if_pos h1] at hd
      have n1 : c ≠ 110 := by rintro rfl; simp at h1
      have n2 : c ≠ 120 := by rintro rfl; simp at h1
      have hd' : a0.data.toList.drop i = 92 :: c :: (t'.flatMap qb ++ [34]) := hd
      have r2 := (drop_more (drop_more hd').2.2.1).2.2.1
      exact stepE hs ho hd' hne n1 n2 (rec_ 2 (by omega) r2)
    · rw [if_neg h1] at hd
      by_cases h2 : c.toNat = 10
      · rw [if_pos h2] at hd
        have hd' : a0.data.toList.drop i = 92 :: 110 :: (t'.flatMap qb ++ [34]) := hd
        have r2 := (drop_more (drop_more hd').2.2.1).2.2.1
        have : c = 10 := UInt8.toNat_inj.1 h2
        subst this
        exact stepN hs ho hd' hne (rec_ 2 (by omega) r2)
      · rw [if_neg h2] at hd
        by_cases h3 : 32 ≤ c.toNat ∧ c.toNat ≤ 126
        · rw [if_pos h3] at hd
          have hd' : a0.data.toList.drop i = c :: (t'.flatMap qb ++ [34]) := hd
          have r2 := (drop_more hd').2.2.1
          exact stepPlain hs ho hd' hne (by rintro rfl; simp at h1) (rec_ 1 (by omega) r2)
        · rw [if_neg h3] at hd
          have hd' : a0.data.toList.drop i = 92 :: 120 :: hexd (c.toNat / 16) :: hexd (c.toNat % 16) :: (t'.flatMap qb ++ [34]) := hd
          have r2 := (drop_more (drop_more (drop_more (drop_more hd').2.2.1).2.2.1).2.2.1).2.2.1
          have hx : ∀ n : Fin 16, dg (hexd n.val) = n.val := by decide
          have x1 := hx ⟨c.toNat / 16, by have := c.toNat_lt; omega⟩
          have x2 := hx ⟨c.toNat % 16, by omega⟩
          simp only at x1 x2
          refine stepX hs ho hd' hne ?_
          rw [x1, x2, show c.toNat / 16 * 16 + c.toNat % 16 = c.toNat by omega, UInt8.ofNat_toNat]
          exact rec_ 4 (by omega) r2
end
theorem fin_eq (l : List UInt8) (h : ¬ ∃ t, quoteL t = l) (o : List UInt8) : fin l o = (⟨#[]⟩, false) := by
  unfold fin
  rw [if_neg (fun h' => h ⟨o, h'⟩)]
/-- Unquote of the reference answers as text.Unquote. -/
theorem unquote (a0 : ByteArray) (hs : a0.size ≤ 1000000) : Evt (fun k => taquinref02_Unquote.f k a0) (⟨(unquoteL a0.data.toList).1.toArray⟩, (unquoteL a0.data.toList).2) := by
  by_cases hq : ∃ t, quoteL t = a0.data.toList
  · obtain ⟨t, ht⟩ := hq
    rw [← ht, unquote_quote]
    have hd : a0.data.toList.drop 1 = t.flatMap qb ++ [34] := by rw [← ht]; rfl
    have h := unq_quote hs t t [] 1 rfl (by simp) hd
    rw [← ht] at h
    unfold fin at h
    rw [if_pos rfl] at h
    exact Evt.same h fun k => rfl
  · obtain ⟨o, h⟩ := unq_any hs a0.size 1 [] (by omega) (by simp) (by omega)
    rw [fin_eq _ hq] at h
    have h2 : (unquoteL a0.data.toList).2 = false := by
      cases h3 : (unquoteL a0.data.toList).2 with
      | false => rfl
      | true => exact absurd ⟨_, unquote_back _ _ (by rw [← h3])⟩ hq
    rw [unquote_nil _ h2, h2]
    exact Evt.same h fun k => rfl
end Rf
end Go.Proofs.YteifffaonigidaaDoor.Pure
