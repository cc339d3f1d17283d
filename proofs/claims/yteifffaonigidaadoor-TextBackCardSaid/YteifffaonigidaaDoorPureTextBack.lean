/- The pure statement of TextBack: Int and Unquote read what Decimal and Quote write, and what they read of any string is written as this string. -/
import Derived.Test.YteifffaonigidaaDoorMx5
import Derived.Test.YteifffaonigidaaDoorPuA
import Derived.Test.YteifffaonigidaaDoorPuB
import Derived.Lib.ItoaLen
namespace Go.Proofs.YteifffaonigidaaDoor.Pure
open Go.RowKit Go.Proofs.YteifffaonigidaaDoor.M Go.Proofs.YteifffaonigidaaDoorW.PrintWords Go.Proofs.YteifffaonigidaaDoorW.PrintLast
set_option linter.unusedVariables false
theorem mk_list (l : List UInt8) : (⟨l.toArray⟩ : ByteArray).toList = l := ByteArray.toList_eq _
theorem mk_size (l : List UInt8) : (⟨l.toArray⟩ : ByteArray).size = l.length := by simp [ByteArray.size]
theorem TextBack (a0 : Int) (w0 : (Lit.int .i64 a0).wf = true) (a1 : ByteArray) : ∃ k, taquinlaw02_TextBack.f k a0 a1 = some true := by
  refine ⟨52, ?_⟩
  have hr : -9223372036854775808 ≤ a0 ∧ a0 ≤ 9223372036854775807 := by
    have h1 : IntKind.i64.min = -9223372036854775808 := by decide
    have h2 : IntKind.i64.max = 9223372036854775807 := by decide
    simpa [Lit.wf, h1, h2] using w0
  unfold taquinlaw02_TextBack.f
  rw [small_more 52 (by omega), Option.bind_some]
  by_cases hs : (a1.size : Int) > 300
  · rw [if_pos hs]
  · rw [if_neg hs]
    have hl : a1.data.toList.length = a1.size := rfl
    have d1 : text_Decimal.f a0 = some ⟨(Lib.itoa a0).toArray⟩ := by unfold text_Decimal.f; rw [if_pos hr]
    have i1 : text_Int.f ⟨(Lib.itoa a0).toArray⟩ = some (a0, true) := by
      unfold text_Int.f
      rw [if_pos, int_decimal a0 hr.1 hr.2]
      have := Lib.itoa_length_le a0 hr.1 hr.2
      rw [mk_size]
      omega
    have q1 : text_Quote.f a1 = some ⟨(quoteL a1.data.toList).toArray⟩ := by unfold text_Quote.f; rw [if_pos (by omega)]
    have u1 : text_Unquote.f ⟨(quoteL a1.data.toList).toArray⟩ = some (⟨a1.data.toList.toArray⟩, true) := by
      unfold text_Unquote.f
      rw [if_pos, unquote_quote]
      have := quote_size a1.data.toList
      rw [mk_size]
      omega
    have i2 : text_Int.f a1 = some (intOfText a1.data.toList) := by unfold text_Int.f; rw [if_pos (by omega)]
    have u2 : text_Unquote.f a1 = some (⟨(unquoteL a1.data.toList).1.toArray⟩, (unquoteL a1.data.toList).2) := by unfold text_Unquote.f; rw [if_pos (by omega)]
    rw [d1, Option.bind_some, i1, Option.bind_some, q1, Option.bind_some, u1, Option.bind_some, i2, Option.bind_some, u2, Option.bind_some]
    have e1 : a1.toList = a1.data.toList := ByteArray.toList_eq a1
    -- what the last step answers, whatever was read
    have last : taquinlaw02_TextBack.j0 52 a0 a1 true a0 true ⟨a1.data.toList.toArray⟩ true (intOfText a1.data.toList).1 (intOfText a1.data.toList).2 ⟨(unquoteL a1.data.toList).1.toArray⟩ (unquoteL a1.data.toList).2 false = some true := by
      have tail : (if (unquoteL a1.data.toList).2 = true then ((text_Quote.f ⟨(unquoteL a1.data.toList).1.toArray⟩).bind fun t => (some (t.toList == a1.toList))) else (some true)) = some true := by
        by_cases h2 : (unquoteL a1.data.toList).2 = true
        · rw [if_pos h2]
          have hb := unquote_back a1.data.toList (unquoteL a1.data.toList).1 (Prod.ext rfl h2)
          have hq := quote_size (unquoteL a1.data.toList).1
          have hlen : (unquoteL a1.data.toList).1.length ≤ 17592186044416 := by
            have h3 : (unquoteL a1.data.toList).1.length ≤ (quoteL (unquoteL a1.data.toList).1).length := by
              unfold quoteL
              have : ∀ l : List UInt8, l.length ≤ (l.flatMap qb).length := by
                intro l
                induction l with
                | nil => simp
                | cons c l ih =>
                  have : 1 ≤ (qb c).length := by unfold qb; split; simp; split; simp; split <;> simp
                  simp only [List.flatMap_cons, List.length_append, List.length_cons]
                  omega
              have := this (unquoteL a1.data.toList).1
              simp only [List.length_append, List.length_cons]
              omega
            rw [hb] at h3
            omega
          have q2 : text_Quote.f ⟨(unquoteL a1.data.toList).1.toArray⟩ = some ⟨(quoteL (unquoteL a1.data.toList).1).toArray⟩ := by
            unfold text_Quote.f
            rw [if_pos (by rw [mk_size]; exact hlen)]
          rw [q2, Option.bind_some, hb, mk_list]
          first | (simp; done) | (rw [e1]; simp)
        · rw [if_neg h2]
      simp only [taquinlaw02_TextBack.j0]
      rw [if_neg (by decide), if_pos trivial, if_pos trivial, if_pos trivial, if_pos trivial, if_pos (by first | trivial | (rw [mk_list, e1]))]
      by_cases h1 : (intOfText a1.data.toList).2 = true
      · obtain ⟨g1, g2, g3⟩ := int_back a1.data.toList (intOfText a1.data.toList).1 (Prod.ext rfl h1)
        have d2 : text_Decimal.f (intOfText a1.data.toList).1 = some ⟨(Lib.itoa (intOfText a1.data.toList).1).toArray⟩ := by unfold text_Decimal.f; rw [if_pos ⟨g2, g3⟩]
        rw [if_pos h1, d2, Option.bind_some, if_pos (by rw [mk_list, e1, g1])]
        exact tail
      · rw [if_neg h1]
        exact tail
    by_cases h1 : (intOfText a1.data.toList).2 = true
    · rw [if_pos h1]
      by_cases h2 : (unquoteL a1.data.toList).2 = true
      · rw [if_pos h2]
        exact last
      · rw [if_neg h2]
        have : (unquoteL a1.data.toList).1 = [] := unquote_nil _ (by simpa using h2)
        have hb : ((⟨(unquoteL a1.data.toList).1.toArray⟩ : ByteArray).toList != ([] : List UInt8)) = false := by rw [mk_list, this]; rfl
        rw [hb]
        exact last
    · rw [if_neg h1, if_pos (int_zero _ (by simpa using h1))]
      by_cases h2 : (unquoteL a1.data.toList).2 = true
      · rw [if_pos h2]
        exact last
      · rw [if_neg h2]
        have : (unquoteL a1.data.toList).1 = [] := unquote_nil _ (by simpa using h2)
        have hb : ((⟨(unquoteL a1.data.toList).1.toArray⟩ : ByteArray).toList != ([] : List UInt8)) = false := by rw [mk_list, this]; rfl
        rw [hb]
        exact last
end Go.Proofs.YteifffaonigidaaDoor.Pure
