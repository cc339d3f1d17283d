/- The examples of the documentation ('small' of the statements of layer 2), and what Quote and Unquote, Decimal and Int make of each other: plain facts. -/
import Derived.Test.YteifffaonigidaaDoorMx2
namespace Go.Proofs.YteifffaonigidaaDoor.Pure
open Go.RowKit Go.Proofs.YteifffaonigidaaDoor.M Go.Proofs.YteifffaonigidaaDoorW.PrintWords Go.Proofs.YteifffaonigidaaDoorW.PrintLast
open Go.Proofs.YteifffaonigidaaDoor.PatPlain
set_option linter.unusedVariables false

/-- The same as 'parts', by structural recursion. -/
def partsF : Nat → List UInt8 → List Part
  | 0, _ => []
  | _, [] => []
  | n + 1, c :: r => (part1 c r).1 :: partsF n (r.drop (part1 c r).2)
theorem partsF_eq : ∀ (n : Nat) (l : List UInt8), l.length ≤ n → partsF n l = parts l
  | 0, [], _ => by rw [parts_nil]; rfl
  | 0, c :: r, h => by simp at h
  | n + 1, [], _ => by rw [parts_nil]; rfl
  | n + 1, c :: r, h => by
    rw [parts_cons]
    simp only [partsF]
    rw [partsF_eq n _ (by rw [List.length_drop]; simp at h; omega)]
def starF (f : List UInt8 → Bool) : List UInt8 → Bool
  | [] => f []
  | c :: s => f (c :: s) || starF f s
def MF : List Part → List UInt8 → Bool
  | [], s => s.isEmpty
  | .star :: ps, s => starF (MF ps) s
  | .byte _ :: _, [] => false
  | .any :: _, [] => false
  | .cls _ _ :: _, [] => false
  | .byte b :: ps, c :: s => b == c && MF ps s
  | .any :: ps, _ :: s => MF ps s
  | .cls t n :: ps, c :: s => (inSet t c != n) && MF ps s
theorem MF_eq : ∀ (ps : List Part) (s : List UInt8), MF ps s = M ps s
  | [], s => by rw [M_nil]; rfl
  | .star :: ps, s => by
    induction s with
    | nil => rw [M_star_nil, ← MF_eq ps []]; rfl
    | cons c s ih => rw [M_star_cons, ← ih, ← MF_eq ps (c :: s)]; rfl
  | .byte b :: ps, [] => by rw [M_one_nil _ _ (by simp)]; rfl
  | .any :: ps, [] => by rw [M_one_nil _ _ (by simp)]; rfl
  | .cls t n :: ps, [] => by rw [M_one_nil _ _ (by simp)]; rfl
  | .byte b :: ps, c :: s => by rw [M_one_cons _ _ _ _ (by simp), ← MF_eq ps s]; rfl
  | .any :: ps, c :: s => by rw [M_one_cons _ _ _ _ (by simp), ← MF_eq ps s]; simp [MF, fits]
  | .cls t n :: ps, c :: s => by rw [M_one_cons _ _ _ _ (by simp), ← MF_eq ps s]; rfl
/-- For the kernel. -/
theorem pattern_eval (p s : ByteArray) (b : Bool) (h : (if p.size ≤ 60000 ∧ s.size ≤ 9223372036854775000 then some (MF (partsF p.data.toList.length p.data.toList) s.data.toList) else none) = some b) : text_Pattern.f p s = some b := by
  unfold text_Pattern.f
  rw [← MF_eq, ← partsF_eq _ _ (Nat.le_refl _)]
  exact h
theorem small1 : taquinlaw02_small.j1 50 true = some true := by
  have p1 := pattern_eval ⟨#[97, 42, 91, 33, 120, 45, 122, 93, 63]⟩ ⟨#[97, 98, 99, 100]⟩ true (by kernel_rfl)
  have p2 := pattern_eval ⟨#[91, 93, 93]⟩ ⟨#[93]⟩ true (by kernel_rfl)
  have p3 := pattern_eval ⟨#[91, 97]⟩ ⟨#[91, 97]⟩ true (by kernel_rfl)
  have p4 := pattern_eval ⟨#[92, 42]⟩ ⟨#[42]⟩ true (by kernel_rfl)
  have p5 := pattern_eval ⟨#[92, 42]⟩ ⟨#[97, 98]⟩ false (by kernel_rfl)
  simp [taquinlaw02_small.j1, p1, p2, p3, p4, p5]
theorem small : taquinlaw02_small.f 51 = some true := by
  have e : taquinlaw02_small.f 51 = taquinlaw02_small.j1 50 true := by kernel_rfl
  rw [e, small1]
theorem small_more : ∀ k, 51 ≤ k → taquinlaw02_small.f k = some true := by
  intro k hk
  induction k with
  | zero => omega
  | succ k ih =>
    by_cases h : 51 ≤ k
    · exact taquinlaw02_small.mono k _ (ih h)
    · obtain rfl : k = 50 := by omega
      exact small
end Go.Proofs.YteifffaonigidaaDoor.Pure
