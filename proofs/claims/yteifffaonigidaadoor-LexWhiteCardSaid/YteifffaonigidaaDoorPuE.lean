/- The examples of the documentation ('small' of the statements of layer 9): plain. -/
import Derived.Test.YteifffaonigidaaDoorMx16
import Derived.Test.YteifffaonigidaaDoorPuD
namespace Go.Proofs.YteifffaonigidaaDoor.Pure
open Go.RowKit Go.Proofs.YteifffaonigidaaDoor.M Go.Proofs.YteifffaonigidaaDoorW.PrintWords Go.Proofs.YteifffaonigidaaDoorW.PrintLast
set_option linter.unusedVariables false
namespace Lx
theorem lex_ok (s : ByteArray) (ts : List S42) (hs : s.size ≤ 20000) (h : lexL s.data.toList 1 = .ok ts) : lex_Lex.f s = some (ts, 0, 0) := by
  unfold lex_Lex.f lexR
  rw [if_pos (by omega), if_neg (by omega), h]
theorem lex_err (s : ByteArray) (e n : Int) (hs : s.size ≤ 20000) (h : lexL s.data.toList 1 = .error (e, n)) : lex_Lex.f s = some ([], e, n) := by
  unfold lex_Lex.f lexR
  rw [if_pos (by omega), if_neg (by omega), h]
theorem int12 : intOfText [49, 50] = (12, true) := by
  have h := int_decimal 12 (by decide) (by decide)
  rw [show Lib.itoa 12 = [49, 50] by simp [Lib.itoa, Lib.decDigits]] at h
  exact h
theorem ex1 : lexL [122, 111, 110, 101, 32, 99, 111, 108, 100, 45, 49, 32, 49, 50, 32, 35, 32, 99] 1 = .ok [⟨0, ⟨#[122, 111, 110, 101]⟩, 0, 1⟩, ⟨0, ⟨#[99, 111, 108, 100, 45, 49]⟩, 0, 1⟩, ⟨1, ⟨#[49, 50]⟩, 12, 1⟩, ⟨4, ⟨#[]⟩, 0, 1⟩] := by
  rw [lexL_tok _ 1 ⟨0, ⟨#[122, 111, 110, 101]⟩, 0, 0⟩ 4 false (by rfl) (by simp) (by have hw := wtok_word [122, 111, 110, 101] [32, 99, 111, 108, 100, 45, 49, 32, 49, 50, 32, 35, 32, 99] (by decide) (by decide) (by decide); exact (tok1_letter _ _ (by decide)).trans (congrArg (fun x : Except Int (S42 × Nat) => (match x with | .error e => .error e | .ok (t, n) => .ok (t, n, false) : Except Int (S42 × Nat × Bool))) hw))]
  rw [show ([122, 111, 110, 101, 32, 99, 111, 108, 100, 45, 49, 32, 49, 50, 32, 35, 32, 99] : List UInt8).drop 4 = [32, 99, 111, 108, 100, 45, 49, 32, 49, 50, 32, 35, 32, 99] from rfl, if_neg (by decide), lexL_white _ _ _ (Or.inl rfl)]
  rw [lexL_tok _ 1 ⟨0, ⟨#[99, 111, 108, 100, 45, 49]⟩, 0, 0⟩ 6 false (by rfl) (by simp) (by have hw := wtok_word [99, 111, 108, 100, 45, 49] [32, 49, 50, 32, 35, 32, 99] (by decide) (by decide) (by decide); exact (tok1_letter _ _ (by decide)).trans (congrArg (fun x : Except Int (S42 × Nat) => (match x with | .error e => .error e | .ok (t, n) => .ok (t, n, false) : Except Int (S42 × Nat × Bool))) hw))]
  rw [show ([99, 111, 108, 100, 45, 49, 32, 49, 50, 32, 35, 32, 99] : List UInt8).drop 6 = [32, 49, 50, 32, 35, 32, 99] from rfl, if_neg (by decide), lexL_white _ _ _ (Or.inl rfl)]
  rw [lexL_tok _ 1 ⟨1, ⟨#[49, 50]⟩, 12, 0⟩ 2 false (by rfl) (by simp) (by have hw := wtok_num [49, 50] [32, 35, 32, 99] 12 (by decide) (by decide) (by decide) (by decide) int12; exact (tok1_letter _ _ (by decide)).trans (congrArg (fun x : Except Int (S42 × Nat) => (match x with | .error e => .error e | .ok (t, n) => .ok (t, n, false) : Except Int (S42 × Nat × Bool))) hw))]
  rw [show ([49, 50, 32, 35, 32, 99] : List UInt8).drop 2 = [32, 35, 32, 99] from rfl, if_neg (by decide), lexL_end _ _ (by rfl)]
  rfl
theorem ex2 : lexL [114, 111, 119, 32, 34, 35, 35, 46, 80, 34] 1 = .ok [⟨0, ⟨#[114, 111, 119]⟩, 0, 1⟩, ⟨2, ⟨#[35, 35, 46, 80]⟩, 0, 1⟩, ⟨4, ⟨#[]⟩, 0, 1⟩] := by
  have hq : qtok [34, 35, 35, 46, 80, 34] = some ([35, 35, 46, 80], 6) := qtok_quote [35, 35, 46, 80] []
  rw [lexL_tok _ 1 ⟨0, ⟨#[114, 111, 119]⟩, 0, 0⟩ 3 false (by rfl) (by simp) (by have hw := wtok_word [114, 111, 119] [32, 34, 35, 35, 46, 80, 34] (by decide) (by decide) (by decide); exact (tok1_letter _ _ (by decide)).trans (congrArg (fun x : Except Int (S42 × Nat) => (match x with | .error e => .error e | .ok (t, n) => .ok (t, n, false) : Except Int (S42 × Nat × Bool))) hw))]
  rw [show ([114, 111, 119, 32, 34, 35, 35, 46, 80, 34] : List UInt8).drop 3 = [32, 34, 35, 35, 46, 80, 34] from rfl, if_neg (by decide), lexL_white _ _ _ (Or.inl rfl)]
  rw [lexL_tok _ 1 ⟨2, ⟨#[35, 35, 46, 80]⟩, 0, 0⟩ 6 false (by rfl) (by simp) (by rw [tok1_quote, hq]), show ([34, 35, 35, 46, 80, 34] : List UInt8).drop 6 = [] from rfl, if_neg (by decide), lexL_end _ _ (by rfl)]
  rfl
theorem bad_of (s : ByteArray) (hs : s.size ≤ 20000) (h0 : skipR s.data.toList ≠ []) (h : tok1 (skipR s.data.toList) = .error 11) : taquinlaw09_bad.f s = some true := by
  have := lex_err s 11 1 hs (by rw [lexL_step _ _ h0, h])
  unfold taquinlaw09_bad.f
  rw [this, Option.bind_some]
  rfl
theorem lex_small : taquinlaw09_small.f 3 = some true := by
  have l1 := lex_ok ⟨#[122, 111, 110, 101, 32, 99, 111, 108, 100, 45, 49, 32, 49, 50, 32, 35, 32, 99]⟩ _ (by decide) ex1
  have l2 := lex_ok ⟨#[114, 111, 119, 32, 34, 35, 35, 46, 80, 34]⟩ _ (by decide) ex2
  have b1 := bad_of ⟨#[48, 49]⟩ (by decide) (by decide) (by rfl)
  have b2 := bad_of ⟨#[49, 97]⟩ (by decide) (by decide) (by rfl)
  have b3 := bad_of ⟨#[45, 49]⟩ (by decide) (by decide) (by rfl)
  have b4 := bad_of ⟨#[34, 97]⟩ (by decide) (by decide) (by rfl)
  have w1 : lex_Word.f ⟨#[97, 45, 49]⟩ = some true := by kernel_rfl
  have w2 : lex_Word.f ⟨#[45, 97]⟩ = some false := by kernel_rfl
  have j1 : taquinlaw09_small.j1 2 true = some true := by
    rw [taquinlaw09_small.j1, if_pos rfl, b1, Option.bind_some, if_pos rfl, b2, Option.bind_some, if_pos rfl, b3, Option.bind_some, if_pos rfl, b4, Option.bind_some, if_pos rfl, w1, Option.bind_some, if_pos rfl, w2, Option.bind_some]
    rfl
  unfold taquinlaw09_small.f
  rw [l1, Option.bind_some, l2, Option.bind_some]
  simp [taquinlaw09_small.j0, rd_T42, ByteArray.toList_eq, j1]
end Lx
end Go.Proofs.YteifffaonigidaaDoor.Pure
