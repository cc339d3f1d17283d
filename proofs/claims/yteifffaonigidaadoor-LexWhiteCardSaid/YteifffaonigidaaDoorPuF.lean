/- Same of two rows of tokens; what lexL answers: plain facts for the statements of layer 9. -/
import Derived.Test.YteifffaonigidaaDoorLxS
import Derived.Test.YteifffaonigidaaDoorPuE
import Derived.Lib.PathFns
namespace Go.Proofs.YteifffaonigidaaDoor.Pure
open Go.RowKit Go.Proofs.YteifffaonigidaaDoor.M Go.Proofs.YteifffaonigidaaDoorW.PrintWords Go.Proofs.YteifffaonigidaaDoorW.PrintLast
set_option linter.unusedVariables false
namespace Lx
theorem upL {α : Type} {f : Nat → Option α} (h : ∀ k, LeO (f k) (f (k + 1))) {r : α} : ∀ {k k' : Nat}, k ≤ k' → f k = some r → f k' = some r := by
  intro k k' hk hr
  induction hk with
  | refl => exact hr
  | step _ ih => exact h _ _ ih
theorem w1 (i : Nat) (h : i < 4611686018427387904) : wrap64 ((i : Int) + 1) = ((i + 1 : Nat) : Int) := by rw [IntWalk.wrap64_in _ (by omega)]; rfl
theorem rdT (xs : List S42) (i : Nat) (h : i < xs.length) : rd_T42 xs (i : Int) = xs[i] := by
  unfold rd_T42; rw [Int.toNat_natCast]; simp [h]
def shiftT (a : Int) (t : S42) : S42 := ⟨t.f0, t.f1, t.f2, wrap64 (t.f3 + a)⟩
theorem same_map (a : Int) : ∀ x : List S42, sameL a (x.map (shiftT a)) x = true
  | [] => rfl
  | t :: x => by rw [List.map_cons, sameL, same_map a x]; simp [tokEq, shiftT]
theorem same_shift (x : List S42) (a : Int) (hx : x.length ≤ 1000000) : taquinref09_Same.f (x.map (shiftT a)) x a = some true := by
  unfold taquinref09_Same.f
  rw [if_pos (by rw [List.length_map]; exact hx), same_map]
theorem shift_zero (x : List S42) (h : ∀ t ∈ x, 0 ≤ t.f3 ∧ t.f3 ≤ 1000000) : x.map (shiftT 0) = x := by
  induction x with
  | nil => rfl
  | cons t x ih =>
    have h1 := h t (List.mem_cons_self ..)
    rw [List.map_cons, ih (fun y hy => h y (List.mem_cons_of_mem _ hy))]
    unfold shiftT
    rw [IntWalk.wrap64_in _ (by omega), Int.add_zero]
theorem same_self (x : List S42) (hx : x.length ≤ 1000000) (h : ∀ t ∈ x, 0 ≤ t.f3 ∧ t.f3 ≤ 1000000)   : taquinref09_Same.f x x 0 = some true := by
  have := same_shift x 0 hx
  rw [shift_zero x h] at this
  exact this
theorem small_more : ∀ k, 3 ≤ k → taquinlaw09_small.f k = some true := fun k hk => upL (f := fun k => taquinlaw09_small.f k) (fun k => taquinlaw09_small.mono k) hk lex_small
/-! ### what lexL answers -/
theorem tok1_err {l : List UInt8} {e : Int} (h : tok1 l = .error e) : e ≠ 0 := by
  cases l with
  | nil => injection h with h; omega
  | cons c r =>
    unfold tok1 at h
    simp only at h
    split at h
    · cases hw : wtok (c :: r) with
      | error x => rw [hw] at h; injection h with h; rw [← h]; exact wtok_err hw
      | ok x => obtain ⟨t, n⟩ := x; rw [hw] at h; cases h
    · split at h
      · cases hq : qtok (c :: r) with
        | none => rw [hq] at h; injection h with h; omega
        | some x => obtain ⟨t, n⟩ := x; rw [hq] at h; cases h
      · split at h
        · cases h
        · injection h with h; omega
theorem lexL_err : ∀ (n : Nat) (l : List UInt8) (line : Int) (e m : Int), l.length ≤ n → lexL l line = .error (e, m) → e ≠ 0 ∧ line ≤ m ∧ m ≤ line + l.length
  | n, l, line, e, m, hn, h => by
    by_cases he : skipR l = []
    · rw [lexL_end l line he] at h; cases h
    · rw [lexL_step l line he] at h
      have hpos := List.length_pos_iff.2 he
      have hlen := skipR_len l
      cases ht : tok1 (skipR l) with
      | error x =>
        rw [ht] at h
        injection h with h
        injection h with h1 h2
        exact ⟨by rw [← h1]; exact tok1_err ht, by omega, by omega⟩
      | ok x =>
        obtain ⟨t, q, b⟩ := x
        obtain ⟨p1, p2, _⟩ := tok1_pos ht
        rw [ht] at h
        simp only at h
        cases hr : lexL ((skipR l).drop q) (if b = true then line + 1 else line) with
        | ok ts => rw [hr] at h; cases h
        | error y =>
          obtain ⟨e', m'⟩ := y
          rw [hr] at h
          injection h with h
          injection h with h1 h2
          subst h1; subst h2
          cases n with
          | zero => omega
          | succ n =>
            have ih := lexL_err n _ _ e' m' (by rw [List.length_drop]; omega) hr
            rw [List.length_drop] at ih
            refine ⟨ih.1, ?_, ?_⟩
            · have := ih.2.1; split at this <;> omega
            · have := ih.2.2; split at this <;> omega
/-- The tokens' number and lines. -/
theorem lexL_lines : ∀ (n : Nat) (l : List UInt8) (line : Int) (ts : List S42), l.length ≤ n → lexL l line = .ok ts → ts.length ≤ l.length + 1 ∧ ∀ t ∈ ts, line ≤ t.f3 ∧ t.f3 ≤ line + l.length
  | n, l, line, ts, hn, h => by
    by_cases he : skipR l = []
    · rw [lexL_end l line he] at h
      injection h with h
      subst h
      refine ⟨by simp, fun t ht => ?_⟩
      rw [List.mem_singleton.1 ht]
      simp only
      omega
    · rw [lexL_step l line he] at h
      have hpos := List.length_pos_iff.2 he
      have hlen := skipR_len l
      cases ht : tok1 (skipR l) with
      | error x => rw [ht] at h; cases h
      | ok x =>
        obtain ⟨t, q, b⟩ := x
        obtain ⟨p1, p2, _⟩ := tok1_pos ht
        rw [ht] at h
        simp only at h
        cases hr : lexL ((skipR l).drop q) (if b = true then line + 1 else line) with
        | error y => rw [hr] at h; cases h
        | ok ts' =>
          rw [hr] at h
          injection h with h
          subst h
          cases n with
          | zero => omega
          | succ n =>
            have ih := lexL_lines n _ _ ts' (by rw [List.length_drop]; omega) hr
            rw [List.length_drop] at ih
            refine ⟨by simp only [List.length_cons]; omega, fun y hy => ?_⟩
            rcases List.mem_cons.1 hy with rfl | hy
            · unfold putL; simp only; omega
            · have := ih.2 y hy
              split at this <;> omega
theorem lexL_whites (w l : List UInt8) (line : Int) (h : ∀ c ∈ w, c = 32 ∨ c = 9 ∨ c = 13) : lexL (w ++ l) line = lexL l line := by
  induction w with
  | nil => rfl
  | cons c w ih => rw [List.cons_append, lexL_white _ _ _ (h c (List.mem_cons_self ..))]; exact ih (fun x hx => h x (List.mem_cons_of_mem _ hx))
theorem skipR_whites (w l : List UInt8) (h : ∀ c ∈ w, c = 32 ∨ c = 9 ∨ c = 13) : skipR (w ++ l) = skipR l := by
  induction w with
  | nil => rfl
  | cons c w ih => rw [List.cons_append, skipR_white _ _ (h c (List.mem_cons_self ..))]; exact ih (fun x hx => h x (List.mem_cons_of_mem _ hx))
end Lx
end Go.Proofs.YteifffaonigidaaDoor.Pure
