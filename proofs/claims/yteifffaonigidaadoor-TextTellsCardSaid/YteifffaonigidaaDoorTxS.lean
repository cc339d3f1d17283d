/- An argument that is a row of strings, opened: in the words of the contracts. -/
import Derived.Test.YteifffaonigidaaDoorTxA
namespace Go.Proofs.YteifffaonigidaaDoor.M
open Go.RowKit Go.Proofs.YteifffaonigidaaDoorW.PrintWords
theorem C_strings_nil (W : World) : Kd.C Kd.string W none ([] : List ByteArray).length [] := ⟨rfl, by simp, fun h => absurd h (Nat.lt_irrefl 0)⟩
theorem C_strings {W : World} {a : Addr} {len cap n : Nat} {ss : List ByteArray} (hl : len ≤ cap) (hm : cap ≤ 9223372036854775807) (hz : ss.length = n) (hn : len ≤ n)
    (hcell : ∀ i, i < ss.length → W.cell? (a.add i) = some (.string (ss.getD i ByteArray.empty))) : Kd.C Kd.string W (some a) len (ss.take len) := by
  refine ⟨by rw [List.length_take]; omega, by omega, fun _ => ⟨a, rfl, fun j p hj => ⟨[.string p], rfl, rfl, fun i u hu => ?_⟩⟩⟩
  rw [List.getElem?_take] at hj
  split at hj
  · have hlt : j < ss.length := by omega
    have hc := hcell j hlt
    rw [List.getD_eq_getElem?_getD, hj] at hc
    cases i with
    | zero =>
      have : Value.string p = u := by simpa using hu
      rw [← this]
      rw [show j * Kd.string.sz + 0 = j from by show j * 1 + 0 = j; omega]
      exact hc
    | succ i => simp at hu
  · simp at hj
end Go.Proofs.YteifffaonigidaaDoor.M
