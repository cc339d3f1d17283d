/- From what a row lists of the package-level variables to what the contracts ask ('LaidP'); the world for the witness. The same for each row of this seat. -/
import Derived.Test.YteifffaonigidaaDoorRows
import Derived.Test.YteifffaonigidaaDoorTxA
import Derived.ProofKit
import Derived.OpenShut
import Derived.Deep.DeepHandedRow
import Derived.Deep.DeepWitnessRowRef
import Derived.Lib.LaidTab
import Derived.Stop.LaidErr
import Derived.Lay
import Derived.LaidMore
import Derived.Shelf.Vars
namespace Go.Proofs.YteifffaonigidaaDoor.M
open Go.ChangeShapes Go.WideShapes Go.ChangeAt Go.RowKit

/-- What each row lists. -/
def laid7 : List (String × DataW Unit) := [("math/bits.deBruijn32tab", Rows.laid_math_bits_deBruijn32tab), ("math/bits.deBruijn64tab", Rows.laid_math_bits_deBruijn64tab), ("internal/strconv.uint64pow10", Rows.laid_internal_strconv_uint64pow10), ("unicode/utf8.acceptRanges", Rows.laid_unicode_utf8_acceptRanges), ("strconv.ErrRange", Rows.laid_strconv_ErrRange), ("strconv.ErrSyntax", Rows.laid_strconv_ErrSyntax), ("unicode/utf8.first", Rows.laid_unicode_utf8_first)]
theorem own : ownKnob Tryd.prog.godebug = none := by kernel_rfl
theorem gPowT : (Tryd.prog.globals[3]?).map (·.type) = some 121 := by kernel_rfl
theorem gSyn : Tryd.prog.globalNamed "strconv.ErrSyntax" = some 1 := by kernel_rfl
theorem gSynT : (Tryd.prog.globals[1]?).map (·.type) = some 56 := by kernel_rfl
theorem gRng : Tryd.prog.globalNamed "strconv.ErrRange" = some 2 := by kernel_rfl
theorem gRngT : (Tryd.prog.globals[2]?).map (·.type) = some 56 := by kernel_rfl
theorem cells101 : Tryd.prog.cellsOf 101 = 1 := by kernel_rfl
theorem cells121 : Tryd.prog.cellsOf 121 = 20 := by kernel_rfl
theorem cells135 : Tryd.prog.cellsOf 135 = 1 := by kernel_rfl
theorem cells9 : Tryd.prog.cellsOf 9 = 1 := by kernel_rfl
theorem star : "*" ++ "errors.errorString" = "*errors.errorString" := by decide
theorem row133 (u : TypeId) (h : Tryd.prog.typeName? 3 u = some "*errors.errorString") : u = 133 :=
  typeName_ptr_named (nm := "errors.errorString") (by rw [star]; kernel_rfl) (by kernel_rfl) (by decide) u (by rw [star]; exact h)
theorem pow_data : Rows.laid_internal_strconv_uint64pow10 = (Lib.tabData .u64 Lib.pow10Tab : DataW Unit) := by kernel_rfl

/-- THE CONTRACTS' PREMISE, OUT OF THE ROW's. -/
theorem laidP_of {W : World} (h : laidMetH Tryd.prog laid7 W) (hsh : W.ShapedOpen Tryd.prog) : LaidP W := by
  rw [MakeChecks.laidMetH_plain _ _ _ (by kernel_rfl)] at h
  have h3 : laidMet Tryd.prog (("internal/strconv.uint64pow10", Rows.laid_internal_strconv_uint64pow10) :: laid7.drop 3) W := h.tail.tail
  have h5 : laidMet Tryd.prog (("strconv.ErrRange", Rows.laid_strconv_ErrRange) :: laid7.drop 5) W := h.tail.tail.tail.tail
  have h6 : laidMet Tryd.prog (("strconv.ErrSyntax", Rows.laid_strconv_ErrSyntax) :: laid7.drop 6) W := h.tail.tail.tail.tail.tail
  rw [pow_data] at h3
  obtain ⟨a5, s5, hv5, _⟩ := laid_sentinel h5 gRng gRngT Tryd.underlying56 row133 Tryd.underlying133 Tryd.underlying135 rfl rfl Tryd.underlying9 cells135 cells9
  obtain ⟨a6, s6, hv6, _⟩ := laid_sentinel h6 gSyn gSynT Tryd.underlying56 row133 Tryd.underlying133 Tryd.underlying135 rfl rfl Tryd.underlying9 cells135 cells9
  refine ⟨Lib.tabIs_of_head globalPow gPowT Tryd.underlying121 Tryd.underlying101 cells101 cells121 h3, ⟨133, .pointer (some a6), ?_⟩, ⟨133, .pointer (some a5), ?_⟩, ?_⟩
  · rw [World.var?_cell gSyn hv6 0]
    rfl
  · rw [World.var?_cell gRng hv5 0]
    rfl
  · exact Go.Proofs.cell_of_shapedOpen_int (zero := #[.int .i64 0]) (t := 3) hsh (of_decide_eq_true (by kernel_rfl)) (by kernel_rfl) rfl (by kernel_rfl) (by kernel_rfl) Tryd.underlying3

/-- A WORLD FOR THE WITNESS. -/
noncomputable def laidWorld (os : Os) : World := World.laidAll Tryd.prog os laid7
theorem laid_met (os : Os) (args : Array Value) : laidMet Tryd.prog laid7 ((laidWorld os).forCall (fun _ _ => 0) ⟨#[], args, []⟩).memory :=
  laidMet_laidAll _ (by kernel_rfl) (by kernel_rfl)
end Go.Proofs.YteifffaonigidaaDoor.M
