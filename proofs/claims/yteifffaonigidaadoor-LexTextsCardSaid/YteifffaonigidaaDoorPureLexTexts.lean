/- LexTexts: a quoted string is one token with these contents, a word is one token, so is the decimal of an int that is not negative: the law returns true for every string, int and byte. -/
import Derived.Test.YteifffaonigidaaDoorLtB
namespace Go.Proofs.YteifffaonigidaaDoor.Pure
open Go.RowKit Go.Proofs.YteifffaonigidaaDoor.M
theorem LexTexts (a0 : ByteArray) (a1 : Int) (w1 : (Lit.int .i64 a1).wf = true) (a2 : Int) (w2 : (Lit.int .u8 a2).wf = true) : ∃ k, taquinlaw09_LexTexts.f k a0 a1 a2 = some true := by
  refine ⟨0, ?_⟩
  unfold taquinlaw09_LexTexts.f
  rw [if_pos]
  have m1 : IntKind.i64.min = -9223372036854775808 := rfl
  have m2 : IntKind.i64.max = 9223372036854775807 := rfl
  have m3 : IntKind.u8.min = 0 := rfl
  have m4 : IntKind.u8.max = 255 := rfl
  have h1 : -9223372036854775808 ≤ a1 ∧ a1 ≤ 9223372036854775807 := by simpa [Lit.wf, m1, m2] using w1
  have h2 : 0 ≤ a2 ∧ a2 ≤ 255 := by simpa [Lit.wf, m3, m4] using w2
  exact ⟨h1, h2⟩
end Go.Proofs.YteifffaonigidaaDoor.Pure
