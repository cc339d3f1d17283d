/- The pure statement of TextStars: a star before a pattern matches what an end of matches, a star behind it what a beginning of matches, a question mark takes one byte, an escaped string takes itself. -/
import Derived.Test.YteifffaonigidaaDoorMx4
import Derived.Test.YteifffaonigidaaDoorPuA
import Derived.Lib.PathFns
namespace Go.Proofs.YteifffaonigidaaDoor.Pure
open Go.RowKit Go.Proofs.YteifffaonigidaaDoor.M Go.Proofs.YteifffaonigidaaDoorW.PrintWords Go.Proofs.YteifffaonigidaaDoorW.PrintLast
open Go.Proofs.YteifffaonigidaaDoor.PatPlain
set_option linter.unusedVariables false
namespace Stars
def orf (g : Nat → Bool) : Nat → Nat → Bool
  | 0, _ => false
  | d + 1, i => g i || orf g d (i + 1)
theorem orf_iff (g : Nat → Bool) : ∀ d i, orf g d i = true ↔ ∃ j, i ≤ j ∧ j < i + d ∧ g j = true
  | 0, i => by
    constructor
    · intro h; exact absurd h (by simp [orf])
    · rintro ⟨j, h1, h2, _⟩; omega
  | d + 1, i => by
    rw [orf, Bool.or_eq_true, orf_iff g d (i + 1)]
    constructor
    · rintro (h | ⟨j, h1, h2, h3⟩)
      · exact ⟨i, Nat.le_refl _, by omega, h⟩
      · exact ⟨j, by omega, by omega, h3⟩
    · rintro ⟨j, h1, h2, h3⟩
      by_cases e : j = i
      · subst e; exact Or.inl h3
      · exact Or.inr ⟨j, by omega, by omega, h3⟩
theorem pf (x y : ByteArray) (hx : x.size ≤ 60000) (hy : y.size ≤ 9223372036854775000) : text_Pattern.f x y = some (M (parts x.data.toList) y.data.toList) := by
  unfold text_Pattern.f; rw [if_pos ⟨hx, hy⟩]
theorem list_append (x y : ByteArray) : (x ++ y).data.toList = x.data.toList ++ y.data.toList := by simp
theorem sz (l : List UInt8) : (⟨l.toArray⟩ : ByteArray).size ≤ l.length := by simp [ByteArray.size]
def ge (x0 x1 : ByteArray) (j : Nat) : Bool := M (parts x0.data.toList) (x1.data.toList.drop j)
def gb (x0 x1 : ByteArray) (j : Nat) : Bool := M (parts x0.data.toList) (x1.data.toList.take j)
theorem pe (x0 x1 : ByteArray) (h0 : x0.size ≤ 60) (h1 : x1.size ≤ 100) (i : Nat) (hi : i ≤ x1.size) : text_Pattern.f x0 (x1.extract ((i : Nat) : Int).toNat x1.size) = some (ge x0 x1 i) := by
  rw [Int.toNat_natCast, Lib.extract_from, pf _ _ (by omega) (Nat.le_trans (sz _) (by rw [List.length_drop]; have : x1.data.toList.length = x1.size := rfl; omega))]; rfl
theorem pb (x0 x1 : ByteArray) (h0 : x0.size ≤ 60) (h1 : x1.size ≤ 100) (i : Nat) (hi : i ≤ x1.size) : text_Pattern.f x0 (x1.extract 0 ((i : Nat) : Int).toNat) = some (gb x0 x1 i) := by
  rw [Int.toNat_natCast, Lib.extract_upto, pf _ _ (by omega) (Nat.le_trans (sz _) (by rw [List.length_take]; have : x1.data.toList.length = x1.size := rfl; omega))]; rfl
theorem loop (x0 x1 x2 : ByteArray) (x7 : Bool) (h0 : x0.size ≤ 60) (h1 : x1.size ≤ 100) : ∀ (d i k : Nat) (e b : Bool), i + d = x1.size + 1 →
    taquinlaw02_TextStars.l0 (k + d) x0 x1 x2 x7 e b (i : Int) = taquinlaw02_TextStars.l0 k x0 x1 x2 x7 (e || orf (ge x0 x1) d i) (b || orf (gb x0 x1) d i) ((x1.size + 1 : Nat) : Int)
  | 0, i, k, e, b, h => by
    obtain rfl : i = x1.size + 1 := by omega
    simp [orf]
  | d + 1, i, k, e, b, h => by
    have hi : (i : Int) ≤ (x1.size : Int) := by omega
    have hw : wrap64 ((i : Int) + 1) = ((i + 1 : Nat) : Int) := by rw [IntWalk.wrap64_in _ (by omega)]; rfl
    have e1 := pe x0 x1 h0 h1 i (by omega)
    have e2 := pb x0 x1 h0 h1 i (by omega)
    have ih := fun e b => loop x0 x1 x2 x7 h0 h1 d (i + 1) k e b (by omega)
    have hz : (0 : Int) ≤ (i : Int) := by omega
    rw [show k + (d + 1) = (k + d) + 1 by omega, taquinlaw02_TextStars.l0, if_pos hi, hw]
    cases e <;> cases b
    · rw [if_neg (by decide), if_pos hz, e1, Option.bind_some, if_neg (by decide), e2, Option.bind_some, ih]
      simp only [orf, Bool.false_or]
    · rw [if_neg (by decide), if_pos hz, e1, Option.bind_some, if_pos rfl, ih]
      simp only [orf, Bool.false_or, Bool.true_or]
    · rw [if_pos rfl, if_neg (by decide), if_pos hz, e2, Option.bind_some, ih]
      simp only [orf, Bool.false_or, Bool.true_or]
    · rw [if_pos rfl, if_pos rfl, ih]
      simp only [Bool.true_or]
theorem parts_star (p : List UInt8) : parts (42 :: p) = .star :: parts p := by
  rw [parts_cons]; simp [part1]
theorem parts_any (p : List UInt8) : parts (63 :: p) = .any :: parts p := by
  rw [parts_cons]; simp [part1]
theorem bool_iff {a b : Bool} (h : a = true ↔ b = true) : a = b := by cases a <;> cases b <;> simp_all
theorem ends (x0 x1 : ByteArray) : M (.star :: parts x0.data.toList) x1.data.toList = orf (ge x0 x1) (x1.size + 1) 0 := by
  refine bool_iff ?_
  rw [M_star_iff, orf_iff]
  have hl : x1.data.toList.length = x1.size := rfl
  constructor
  · rintro ⟨n, h1, h2⟩; exact ⟨n, by omega, by omega, h2⟩
  · rintro ⟨n, _, h1, h2⟩; exact ⟨n, by omega, h2⟩
theorem begins (x0 x1 : ByteArray) : M (parts x0.data.toList ++ [.star]) x1.data.toList = orf (gb x0 x1) (x1.size + 1) 0 := by
  refine bool_iff ?_
  rw [M_snoc_star, orf_iff]
  have hl : x1.data.toList.length = x1.size := rfl
  constructor
  · rintro ⟨n, h1, h2⟩; exact ⟨n, by omega, by omega, h2⟩
  · rintro ⟨n, _, h1, h2⟩; exact ⟨n, by omega, h2⟩
/-- The last half: an escaped string takes itself; a star behind. -/
theorem half (k : Nat) (x0 x1 x2 : ByteArray) (h0 : x0.size ≤ 60) (h1 : x1.size ≤ 100) (h2 : x2.size ≤ 100) :
    taquinlaw02_TextStars.j2 (k + 1) x0 x1 x2 true (orf (gb x0 x1) (x1.size + 1) 0) false = some true := by
  have hl0 : x0.data.toList.length = x0.size := rfl
  have hl2 : x2.data.toList.length = x2.size := rfl
  have he : (esc x2.data.toList).length ≤ 2 * x2.data.toList.length := by rw [esc_flat]; exact esc_len _
  have E : text_Escape.f x2 = some ⟨(esc x2.data.toList).toArray⟩ := by unfold text_Escape.f; rw [if_pos (by omega)]
  have hsz : (⟨(esc x2.data.toList).toArray⟩ : ByteArray).size = (esc x2.data.toList).length := by simp [ByteArray.size]
  have hsz2 : ((⟨(esc x2.data.toList).toArray⟩ : ByteArray) ++ x0).size = (esc x2.data.toList).length + x0.size := by rw [ByteArray.size_append, hsz]
  have hsz3 : (x2 ++ x1).size = x2.size + x1.size := ByteArray.size_append ..
  have hsz4 : (x0 ++ (⟨#[42]⟩ : ByteArray)).size = x0.size + 1 := ByteArray.size_append ..
  have P1 : text_Pattern.f ((⟨(esc x2.data.toList).toArray⟩ : ByteArray) ++ x0) (x2 ++ x1) = some (M (parts x0.data.toList) x1.data.toList) := by
    rw [pf _ _ (by omega) (by omega), list_append, list_append, parts_esc, M_bytes]
  have P2 := pf x0 x1 (by omega) (by omega)
  have hlast : x0.data.toList.getLast? ≠ some 92 → text_Pattern.f (x0 ++ (⟨#[42]⟩ : ByteArray)) x1 = some (orf (gb x0 x1) (x1.size + 1) 0) := by
    intro h
    rw [pf _ _ (by omega) (by omega), list_append, parts_snoc _ _ (Nat.le_refl _) h, begins]
  rw [taquinlaw02_TextStars.j2, if_neg (by decide), E, Option.bind_some, if_pos (by omega), if_pos (by omega), P1, Option.bind_some, P2, Option.bind_some, if_neg (by simp), if_pos rfl]
  by_cases hx : x0.toList = []
  · have hx' : x0.data.toList = [] := by rw [← ByteArray.toList_eq]; exact hx
    rw [if_pos hx, if_pos (by omega), hlast (by rw [hx']; simp), Option.bind_some]
    simp
  · have hx' : x0.data.toList ≠ [] := by rw [← ByteArray.toList_eq]; exact hx
    have hp : 0 < x0.size := by rw [← hl0]; exact List.length_pos_iff.2 hx'
    have hw : wrap64 ((x0.size : Int) - 1) = ((x0.size - 1 : Nat) : Int) := by rw [IntWalk.wrap64_in _ (by omega)]; omega
    rw [if_neg hx, hw, if_pos (by omega), if_pos (by omega)]
    by_cases h92 : bt x0 ((x0.size - 1 : Nat) : Int) = 92
    · rw [if_pos h92]
    · rw [if_neg h92, if_pos (by omega), hlast, Option.bind_some]
      · simp
      · intro hg
        apply h92
        unfold bt
        rw [dif_pos (by omega)]
        rw [List.getLast?_eq_getElem?, hl0] at hg
        have hlt : x0.size - 1 < x0.data.toList.length := by omega
        rw [List.getElem?_eq_getElem hlt] at hg
        have hg' := Option.some.inj hg
        have : x0[((x0.size - 1 : Nat) : Int).toNat]'(by omega) = x0.data.toList[x0.size - 1] := rfl
        rw [this, hg']
        rfl
end Stars
open Stars
theorem TextStars (a0 a1 a2 : ByteArray) : ∃ k, taquinlaw02_TextStars.f k a0 a1 a2 = some true := by
  refine ⟨1 + 1 + 1 + (a1.size + 1) + 60, ?_⟩
  unfold taquinlaw02_TextStars.f
  rw [small_more _ (by omega), Option.bind_some]
  have skip : ∀ k, taquinlaw02_TextStars.j0 (k + 1) a0 a1 a2 true true = some true := fun k => by rw [taquinlaw02_TextStars.j0, if_pos rfl]
  rw [show 1 + 1 + 1 + (a1.size + 1) + 60 = (59 + 3 + (a1.size + 1)) + 1 by omega]
  by_cases h0 : (a0.size : Int) > 60
  · rw [if_pos h0, skip]
  rw [if_neg h0]
  by_cases h1 : (a1.size : Int) > 100
  · rw [if_pos h1, skip]
  rw [if_neg h1]
  by_cases h2 : (a2.size : Int) > 100
  · rw [decide_eq_true h2, skip]
  rw [decide_eq_false h2, taquinlaw02_TextStars.j0, if_neg (by decide)]
  have g0 : a0.size ≤ 60 := by omega
  have g1 : a1.size ≤ 100 := by omega
  have g2 : a2.size ≤ 100 := by omega
  have L := loop a0 a1 a2 true g0 g1 (a1.size + 1) 0 (59 + 3) false false (by omega)
  have hl1 : a1.data.toList.length = a1.size := rfl
  rw [show ((0 : Nat) : Int) = 0 from rfl] at L
  rw [L, Bool.false_or, Bool.false_or, show 59 + 3 = (59 + 1 + 1) + 1 from rfl, taquinlaw02_TextStars.l0, if_neg (by omega)]
  have s42 : ((⟨#[42]⟩ : ByteArray) ++ a0).size = 1 + a0.size := ByteArray.size_append ..
  have s63 : ((⟨#[63]⟩ : ByteArray) ++ a0).size = 1 + a0.size := ByteArray.size_append ..
  have P1 : text_Pattern.f ((⟨#[42]⟩ : ByteArray) ++ a0) a1 = some (orf (ge a0 a1) (a1.size + 1) 0) := by
    rw [pf _ _ (by omega) (by omega), list_append, show (⟨#[42]⟩ : ByteArray).data.toList ++ a0.data.toList = 42 :: a0.data.toList from rfl, parts_star, ends]
  have P2 : text_Pattern.f ((⟨#[63]⟩ : ByteArray) ++ a0) a1 = some (M (.any :: parts a0.data.toList) a1.data.toList) := by
    rw [pf _ _ (by omega) (by omega), list_append, show (⟨#[63]⟩ : ByteArray).data.toList ++ a0.data.toList = 63 :: a0.data.toList from rfl, parts_any]
  rw [if_pos (by omega), P1, Option.bind_some, if_neg (by simp), P2, Option.bind_some]
  by_cases hx : a1.toList = []
  · have hx' : a1.data.toList = [] := by rw [← ByteArray.toList_eq]; exact hx
    rw [if_pos hx, hx', M_one_nil _ _ (by simp)]
    exact half _ a0 a1 a2 g0 g1 g2
  · have hx' : a1.data.toList ≠ [] := by rw [← ByteArray.toList_eq]; exact hx
    have hp : 0 < a1.size := by rw [← hl1]; exact List.length_pos_iff.2 hx'
    have hm : mn 1 (a1.size : Int) = ((1 : Nat) : Int) := by unfold mn; rw [if_neg (by omega)]; rfl
    have P3 := pe a0 a1 g0 g1 1 (by omega)
    rw [if_neg hx, hm, if_pos (by omega), if_pos (by omega), P3, Option.bind_some]
    have : (M (.any :: parts a0.data.toList) a1.data.toList != ge a0 a1 1) = false := by
      unfold ge
      cases hd : a1.data.toList with
      | nil => exact absurd hd hx'
      | cons c s => rw [M_one_cons _ _ _ _ (by simp)]; simp [fits]
    rw [this]
    exact half _ a0 a1 a2 g0 g1 g2
end Go.Proofs.YteifffaonigidaaDoor.Pure
