/- The parts of a pattern as the reference has them ('pitems'), against 'parts'; closing: plain facts. -/
import Derived.Test.YteifffaonigidaaDoorPrB
import Derived.Test.YteifffaonigidaaDoorMx9
import Derived.Test.YteifffaonigidaaDoorMx11
import Derived.Test.YteifffaonigidaaDoorPat
namespace Go.Proofs.YteifffaonigidaaDoor.Pure
open Go.RowKit Go.Proofs.YteifffaonigidaaDoor.M Go.Proofs.YteifffaonigidaaDoorW.PrintWords Go.Proofs.YteifffaonigidaaDoorW.PrintLast
open Go.Proofs.YteifffaonigidaaDoor.PatPlain
set_option linter.unusedVariables false
namespace Rf
def kindP : Part → Int
  | .byte _ => 0
  | .star => 1
  | .any => 2
  | .cls _ _ => 3
def byteP : Part → Int
  | .byte b => (b.toNat : Int)
  | .star => 42
  | .any => 63
  | .cls _ _ => 0
def setP : Part → List UInt8
  | .cls s _ => s
  | _ => []
def notP : Part → Bool
  | .cls _ n => n
  | _ => false
def item (p : ByteArray) (i : Nat) (q : Part × Nat) : S84 := ⟨kindP q.1, byteP q.1, ⟨(setP q.1).toArray⟩, notP q.1, p.extract i (i + 1 + q.2)⟩
def at1 (p : ByteArray) (i : Nat) : Part × Nat := part1 (p.data.toList.drop i |>.headD 0) (p.data.toList.drop (i + 1))
def pitems (p : ByteArray) : Nat → Nat → List S84
  | 0, _ => []
  | f + 1, i => if i < p.size then item p i (at1 p i) :: pitems p f (i + 1 + (at1 p i).2) else []
def partsR (p : ByteArray) : List S84 := pitems p (p.size + 1) 0
theorem pitems_end (p : ByteArray) (f i : Nat) (h : p.size ≤ i) : pitems p f i = [] := by
  cases f with
  | zero => rfl
  | succ f => rw [pitems, if_neg (by omega)]
theorem at1_eq (p : ByteArray) (i : Nat) (h : i < p.size) : at1 p i = part1 p[i] (p.data.toList.drop (i + 1)) := by
  unfold at1
  rw [dropN p i h]
  rfl
theorem at1_le (p : ByteArray) (i : Nat) (h : i < p.size) : i + 1 + (at1 p i).2 ≤ p.size := by
  have h1 := part1_le p[i] (p.data.toList.drop (i + 1))
  rw [List.length_drop] at h1
  rw [at1_eq p i h]
  have hl : p.data.toList.length = p.size := rfl
  omega
def toPart (x : S84) : Part := if x.f0 = 0 then .byte (UInt8.ofNat x.f1.toNat) else if x.f0 = 1 then .star else if x.f0 = 2 then .any else .cls x.f2.data.toList x.f3
theorem toPart_item (p : ByteArray) (i : Nat) (q : Part × Nat) : toPart (item p i q) = q.1 := by
  obtain ⟨x, n⟩ := q
  unfold toPart item
  cases x with
  | byte b => simp [kindP, byteP]
  | star => simp [kindP]
  | any => simp [kindP]
  | cls s n => simp [kindP, setP, notP]
theorem parts_map (p : ByteArray) : ∀ (f i : Nat), p.size + 1 ≤ i + f → i ≤ p.size → (pitems p f i).map toPart = parts (p.data.toList.drop i)
  | 0, i, h, hi => by omega
  | f + 1, i, h, hi => by
    by_cases hlt : i < p.size
    · rw [pitems, if_pos hlt, List.map_cons, toPart_item, dropN p i hlt, parts_cons, at1_eq p i hlt]
      have hle := at1_le p i hlt
      rw [at1_eq p i hlt] at hle
      rw [parts_map p f _ (by omega) hle, List.drop_drop]
    · rw [pitems, if_neg hlt, List.drop_eq_nil_of_le (show p.data.toList.length ≤ i by show p.size ≤ i; omega), parts_nil]; rfl
/-! ### closing -/
def closI (p : ByteArray) (j : Nat) : Int := match clos (p.data.toList.drop j) with | none => -1 | some n => ((j + n : Nat) : Int)
theorem closing_run (p : ByteArray) (hs : p.size ≤ 60000) : ∀ (d i : Nat), i + d = p.size → Evt (fun k => taquinref02_closing.l0 k p (i : Int)) (match (p.data.toList.drop i).findIdx? (· == 93) with | none => -1 | some n => ((i + n : Nat) : Int))
  | 0, i, hi => by
    obtain rfl : i = p.size := by omega
    rw [List.drop_eq_nil_of_le (show p.data.toList.length ≤ p.size from Nat.le_refl _), List.findIdx?_nil]
    refine (Evt.const _).step fun k => ?_
    simp only [taquinref02_closing.l0]
    rw [if_neg (by omega)]
  | d + 1, i, hi => by
    have hlt : i < p.size := by omega
    have hb := btN p i hlt
    rw [dropN p i hlt, List.findIdx?_cons]
    by_cases h : p[i] = 93
    · rw [if_pos (beq_iff_eq.2 h)]
      refine (Evt.const _).step fun k => ?_
      simp only [taquinref02_closing.l0]
      rw [if_pos (by omega), if_pos (by omega), hb, h, if_pos (show (((93 : UInt8).toNat : Nat) : Int) = 93 from rfl)]
      rfl
    · rw [if_neg (fun e => h (beq_iff_eq.1 e))]
      have ih := closing_run p hs d (i + 1) (by omega)
      have e : (match ((p.data.toList.drop (i + 1)).findIdx? (· == 93)).map (· + 1) with | none => (-1 : Int) | some n => ((i + n : Nat) : Int)) = (match (p.data.toList.drop (i + 1)).findIdx? (· == 93) with | none => (-1 : Int) | some n => ((i + 1 + n : Nat) : Int)) := by
        cases (p.data.toList.drop (i + 1)).findIdx? (· == 93) with
        | none => rfl
        | some n => show ((i + (n + 1) : Nat) : Int) = ((i + 1 + n : Nat) : Int); omega
      rw [e]
      refine ih.step fun k => ?_
      simp only [taquinref02_closing.l0]
      rw [if_pos (by omega), if_pos (by omega), hb, if_neg (fun e => h (UInt8.toNat_inj.1 (by show _ = 93; omega))), W1 i (by omega)]
theorem closing (p : ByteArray) (hs : p.size ≤ 60000) (j : Nat) (hj : j ≤ p.size) : Evt (fun k => taquinref02_closing.f k p (j : Int)) (closI p j) := by
  unfold closI
  have w : wrap64 ((j : Int) + 1) = ((j + 1 : Nat) : Int) := W1 j (by omega)
  by_cases hlt : j < p.size
  · have h := closing_run p hs (p.size - (j + 1)) (j + 1) (by omega)
    have e : (match clos (p.data.toList.drop j) with | none => (-1 : Int) | some n => ((j + n : Nat) : Int)) = (match (p.data.toList.drop (j + 1)).findIdx? (· == 93) with | none => (-1 : Int) | some n => ((j + 1 + n : Nat) : Int)) := by
      rw [dropN p j hlt]
      show (match ((p.data.toList.drop (j + 1)).findIdx? (· == 93)).map (· + 1) with | none => (-1 : Int) | some n => ((j + n : Nat) : Int)) = _
      cases (p.data.toList.drop (j + 1)).findIdx? (· == 93) with
      | none => rfl
      | some n => show ((j + (n + 1) : Nat) : Int) = ((j + 1 + n : Nat) : Int); omega
    rw [e]
    refine h.same fun k => ?_
    unfold taquinref02_closing.f
    rw [w]
  · obtain rfl : j = p.size := by omega
    rw [List.drop_eq_nil_of_le (show p.data.toList.length ≤ p.size from Nat.le_refl _)]
    refine ((Evt.const (-1 : Int)).step (f := fun k => taquinref02_closing.l0 k p ((p.size + 1 : Nat) : Int)) fun k => ?_).same fun k => ?_
    · simp only [taquinref02_closing.l0]
      rw [if_neg (by omega)]
    · unfold taquinref02_closing.f
      rw [w]
end Rf
end Go.Proofs.YteifffaonigidaaDoor.Pure
