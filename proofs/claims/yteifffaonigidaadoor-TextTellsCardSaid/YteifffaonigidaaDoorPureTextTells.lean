/- TextTells: every function of layer 2 answers as the reference: the law returns true for every int, string, pattern and list. -/
import Derived.Test.YteifffaonigidaaDoorTtA
namespace Go.Proofs.YteifffaonigidaaDoor.Pure
open Go.RowKit Go.Proofs.YteifffaonigidaaDoor.M
theorem TextTells (a0 : Int) (w0 : (Lit.int .i64 a0).wf = true) (a1 a2 : ByteArray) (l3 : List ByteArray) : ∃ k, taquinlaw02_TextTells.f k a0 a1 a2 l3 = some true := by
  refine ⟨0, ?_⟩
  have hr : -9223372036854775808 ≤ a0 ∧ a0 ≤ 9223372036854775807 := by
    have h1 : IntKind.i64.min = -9223372036854775808 := by decide
    have h2 : IntKind.i64.max = 9223372036854775807 := by decide
    simpa [Lit.wf, h1, h2] using w0
  unfold taquinlaw02_TextTells.f
  rw [if_pos hr]
end Go.Proofs.YteifffaonigidaaDoor.Pure
