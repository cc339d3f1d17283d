/- The pure statement of LexTells: the program's tokens, errors, sources and words are the reference's. -/
import Derived.Test.YteifffaonigidaaDoorMx20
import Derived.Test.YteifffaonigidaaDoorPuF
namespace Go.Proofs.YteifffaonigidaaDoor.Pure
open Go.RowKit Go.Proofs.YteifffaonigidaaDoor.M Go.Proofs.YteifffaonigidaaDoorW.PrintWords Go.Proofs.YteifffaonigidaaDoorW.PrintLast
set_option linter.unusedVariables false
namespace Rf
theorem appR (x : List UInt8) (b : ByteArray) : (⟨x.toArray⟩ : ByteArray) ++ b = ⟨(x ++ b.data.toList).toArray⟩ := by
  apply ByteArray.ext
  simp
theorem write_take (ts : List S42) (i : Nat) (h : i < ts.length) : writeL (ts.take (i + 1)) = writeL (ts.take i) ++ tokOut ts[i] := by
  rw [List.take_succ_eq_append_getElem h]
  unfold writeL
  rw [List.flatMap_append]
  simp
theorem write_run (ts : List S42) (hl : ts.length ≤ 1000000) (ht : ∀ t ∈ ts, t.f1.size ≤ 1000000) : ∀ (d i : Nat), i + d = ts.length → Evt (fun k => taquinref09_Write.l0 k ts ⟨(writeL (ts.take i)).toArray⟩ (i : Int)) ⟨(writeL ts).toArray⟩
  | 0, i, hi => by
    obtain rfl : i = ts.length := by omega
    rw [List.take_length]
    refine (Evt.const _).step fun k => ?_
    simp only [taquinref09_Write.l0]
    rw [if_neg (by omega)]
  | d + 1, i, hi => by
    have hlt : i < ts.length := by omega
    have ih := write_run ts hl ht d (i + 1) (by omega)
    rw [write_take ts i hlt] at ih
    have hrd := Lx.rdT ts i hlt
    obtain ⟨t, hti⟩ : ∃ t, ts[i] = t := ⟨_, rfl⟩
    have hsz : t.f1.size ≤ 1000000 := hti ▸ ht ts[i] (List.getElem_mem hlt)
    have hq := flat_len t.f1.data.toList
    have hdl : t.f1.data.toList.length = t.f1.size := rfl
    have hout : (writeL (ts.take i)).length ≤ 4000003 * (ts.take i).length := write_len (ts.take i) (fun t h => ht t (List.mem_of_mem_take h))
    rw [List.length_take] at hout
    rw [hti] at ih hrd
    obtain ⟨o, ho⟩ : ∃ o, writeL (ts.take i) = o := ⟨_, rfl⟩
    rw [ho] at ih hout
    rw [ho]
    have hol : o.length ≤ 4000003000000 := by omega
    have e1 := W1 i (by omega)
    have kt : (t.f0 = 0 ∨ t.f0 = 1) → Evt (fun k => taquinref09_Write.j1 k ts ⟨o.toArray⟩ (i : Int) t.f0 true) ⟨(writeL ts).toArray⟩ := fun h01 => by
      have eo : tokOut t = t.f1.data.toList ++ [32] := by unfold tokOut; rw [if_pos h01]
      rw [eo] at ih
      refine ih.step fun k => ?_
      simp only [taquinref09_Write.j1]
      rw [if_pos trivial, if_pos (by omega), if_pos (by omega), hrd, if_pos (by rw [sz]; omega), appR, if_pos (by rw [sz, List.length_append]; omega), appR, e1, List.append_assoc]
    have kf : ¬ (t.f0 = 0 ∨ t.f0 = 1) → Evt (fun k => taquinref09_Write.j1 k ts ⟨o.toArray⟩ (i : Int) t.f0 false) ⟨(writeL ts).toArray⟩ := fun h01 => by
      by_cases h2 : t.f0 = 2
      · have eo : tokOut t = quoteL t.f1.data.toList ++ [32] := by unfold tokOut; rw [if_neg h01, if_pos h2]
        have hql : (quoteL t.f1.data.toList).length ≤ 4000002 := by
          unfold quoteL
          simp only [List.length_append, List.length_cons, List.length_nil]
          omega
        rw [eo] at ih
        refine ((quote t.f1 (by omega)).bind (g := fun k q => if (⟨o.toArray⟩ : ByteArray).size + q.size ≤ 9223372036854775807 then (if ((⟨o.toArray⟩ : ByteArray) ++ q).size + 1 ≤ 9223372036854775807 then taquinref09_Write.l0 k ts (((⟨o.toArray⟩ : ByteArray) ++ q) ++ (⟨#[32]⟩ : ByteArray)) ((i + 1 : Nat) : Int) else none) else none) (ih.same fun k => ?_)).step fun k => ?_
        · rw [if_pos (by rw [sz, sz]; omega), appB, if_pos (by rw [sz, List.length_append]; omega), appR, List.append_assoc]
        · simp only [taquinref09_Write.j1]
          rw [if_neg (by decide), if_pos h2, if_pos (by omega), if_pos (by omega), hrd, e1]
      · by_cases h3 : t.f0 = 3
        · have eo : tokOut t = [10] := by unfold tokOut; rw [if_neg h01, if_neg h2, if_pos h3]
          rw [eo] at ih
          refine ih.step fun k => ?_
          simp only [taquinref09_Write.j1]
          rw [if_neg (by decide), if_neg h2, if_pos h3, if_pos (by rw [sz]; omega), appR, e1]
        · have eo : tokOut t = [] := by unfold tokOut; rw [if_neg h01, if_neg h2, if_neg h3]
          rw [eo, List.append_nil] at ih
          refine ih.step fun k => ?_
          simp only [taquinref09_Write.j1]
          rw [if_neg (by decide), if_neg h2, if_neg h3, e1]
    by_cases h0 : t.f0 = 0
    · refine (kt (Or.inl h0)).step fun k => ?_
      simp only [taquinref09_Write.l0]
      rw [if_pos (by omega), if_pos (by omega), hrd, if_pos h0, show (t.f0 == 0) = true from beq_iff_eq.2 h0]
    · by_cases h1 : t.f0 = 1
      · refine (kt (Or.inr h1)).step fun k => ?_
        simp only [taquinref09_Write.l0]
        rw [if_pos (by omega), if_pos (by omega), hrd, if_neg h0, show (t.f0 == 1) = true from beq_iff_eq.2 h1]
      · refine (kf (fun h => h.elim h0 h1)).step fun k => ?_
        simp only [taquinref09_Write.l0]
        rw [if_pos (by omega), if_pos (by omega), hrd, if_neg h0, show (t.f0 == 1) = false from beq_eq_false_iff_ne.2 h1]
theorem Evt.of {α : Type} {f : Nat → Option α} {r : α} (n : Nat) (h : ∀ k, n ≤ k → f k = some r) : Evt f r := ⟨n, h⟩
end Rf
open Rf Lx
theorem LexTells (a0 : ByteArray) : ∃ k, taquinlaw09_LexTells.f k a0 = some true := by
  have hlen : a0.data.toList.length = a0.size := rfl
  have hsm : Evt (fun k => taquinlaw09_small.f k) true := ⟨3, fun k hk => small_more k hk⟩
  unfold taquinlaw09_LexTells.f
  by_cases hbig : (a0.size : Int) > 21000
  · exact (hsm.bind (g := fun k t => if (a0.size : Int) > 21000 then some t else _) ((Evt.const true).same fun k => by rw [if_pos hbig])).get
  · -- the tokens, the error and its line
    obtain ⟨ts, e, n, hX, hts⟩ : ∃ ts e n, (if (a0.size : Int) > 20000 then ([], 6, 0) else lexR a0.data.toList) = (ts, e, n) ∧ (ts.length ≤ 1000000 ∧ ∀ t ∈ ts, (0 ≤ t.f3 ∧ t.f3 ≤ 1000000) ∧ t.f1.size ≤ 1000000) := by
      by_cases h20 : (a0.size : Int) > 20000
      · exact ⟨[], 6, 0, by rw [if_pos h20], by simp, fun t ht => by cases ht⟩
      · rw [if_neg h20]
        unfold lexR
        cases hL : lexL a0.data.toList 1 with
        | error x => exact ⟨[], x.1, x.2, rfl, by simp, fun t ht => by cases ht⟩
        | ok ts =>
          have h1 := lexL_lines _ _ _ ts (Nat.le_refl _) hL
          have h2 := lexL_GL _ _ _ ts (Nat.le_refl _) hL
          exact ⟨ts, 0, 0, rfl, by omega, fun t ht => ⟨by have := h1.2 t ht; omega, by have := h2.2.2 t ht; omega⟩⟩
    have e1 : lex_Lex.f a0 = some (ts, e, n) := by unfold lex_Lex.f; rw [if_pos (by omega), hX]
    have e2 : ∀ k, taquinref09_Lex.f k a0 = some (ts, e, n) := fun k => by unfold taquinref09_Lex.f; rw [if_pos (by omega), hX]
    have e3 := same_self ts hts.1 (fun t ht => (hts.2 t ht).1)
    have e4 : lex_Write.f ts = some ⟨(writeL ts).toArray⟩ := by
      unfold lex_Write.f
      rw [if_pos ⟨List.all_eq_true.2 fun t ht => decide_eq_true (hts.2 t ht).2, hts.1⟩]
    have e5 : Evt (fun k => taquinref09_Write.f k ts) ⟨(writeL ts).toArray⟩ := (write_run ts hts.1 (fun t ht => (hts.2 t ht).2) ts.length 0 (by omega)).same fun k => rfl
    have e6 : lex_Word.f a0 = some (wordB a0.data.toList) := by unfold lex_Word.f; rw [if_pos (by omega)]
    have e7 := Rf.Word a0 (by omega)
    have key : Evt (fun k => (taquinref09_Write.f k ts).bind fun t474 => if (⟨(writeL ts).toArray⟩ : ByteArray).toList = t474.toList then (lex_Word.f a0).bind fun t475 => (taquinref09_Word.f k a0).bind fun t476 => some (t475 == t476) else some false) true := by
      refine e5.bind (g := fun k t474 => if (⟨(writeL ts).toArray⟩ : ByteArray).toList = t474.toList then (lex_Word.f a0).bind fun t475 => (taquinref09_Word.f k a0).bind fun t476 => some (t475 == t476) else some false) ((e7.bind (g := fun k t476 => some (wordB a0.data.toList == t476)) ((Evt.const true).same fun k => by simp)).same fun k => ?_)
      rw [if_pos rfl, e6, Option.bind_some]
    refine (hsm.bind (g := fun k t461 => _) (key.same fun k => ?_)).get
    simp only []
    rw [if_neg hbig, e1, Option.bind_some, e2, Option.bind_some]
    simp only [eq_self, if_true, e3, e4, Option.bind_some]
end Go.Proofs.YteifffaonigidaaDoor.Pure
