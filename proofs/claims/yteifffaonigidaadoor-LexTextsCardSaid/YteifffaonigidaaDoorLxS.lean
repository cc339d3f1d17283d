/- The contract of taquinref09.Same, for rows of at most 1000000 tokens. -/
import Derived.Test.YteifffaonigidaaDoorTxB
namespace Go.Proofs.YteifffaonigidaaDoor.M
open Go.RowKit Go.Proofs.YteifffaonigidaaDoorW.PrintWords Go.Proofs.YteifffaonigidaaDoorW.PrintLast
set_option linter.unusedVariables false
set_option linter.unusedSimpArgs false
def tokEq (a : Int) (x y : S42) : Bool := x.f0 == y.f0 && (x.f1.toList == y.f1.toList && (x.f2 == y.f2 && x.f3 == wrap64 (y.f3 + a)))
def sameL (a : Int) : List S42 → List S42 → Bool
  | [], [] => true
  | x :: xs, y :: ys => tokEq a x y && sameL a xs ys
  | _, _ => false
def taquinref09_Same.f (l0 l1 : List S42) (a2 : Int) : Option Bool := if l0.length ≤ 1000000 then some (sameL a2 l0 l1) else none
theorem sameL_ne (a : Int) : ∀ (x y : List S42), x.length ≠ y.length → sameL a x y = false
  | [], [], h => absurd rfl h
  | [], _ :: _, _ => rfl
  | _ :: _, [], _ => rfl
  | x :: xs, y :: ys, h => by rw [sameL, sameL_ne a xs ys (by simpa using h), Bool.and_false]
theorem sameL_at (a : Int) (l0 l1 : List S42) (i : Nat) (h0 : i < l0.length) (h1 : i < l1.length) : sameL a (l0.drop i) (l1.drop i) = (tokEq a (rd_T42 l0 (i : Int)) (rd_T42 l1 (i : Int)) && sameL a (l0.drop (i + 1)) (l1.drop (i + 1))) := by
  rw [List.drop_eq_getElem_cons h0, List.drop_eq_getElem_cons h1, sameL]
  unfold rd_T42
  rw [Int.toNat_natCast]
  simp [h0, h1]
set_option maxHeartbeats 8000000 in
set_option maxRecDepth 100000 in
theorem taquinref09_Same.calls (A0 : Option Addr) (c0 : Nat) (l0 : List S42) (A1 : Option Addr) (c1 : Nat) (l1 : List S42) (a2 : Int) (r : Bool) (w : World) (hr0 : Kd.C k42 w A0 l0.length l0) (hc0 : l0.length ≤ c0) (hr1 : Kd.C k42 w A1 l1.length l1) (hc1 : l1.length ≤ c1) (h : taquinref09_Same.f l0 l1 a2 = some r) :
    Calls Tryd.prog 26 #[.slice A0 l0.length c0, .slice A1 l1.length c1, .int .i64 a2] w fun e w' => e = .returned (.bool r) ∧ Below w.heap.size w w' := by
  unfold taquinref09_Same.f at h
  by_cases hs0 : ¬ l0.length ≤ 1000000
  · rw [if_neg hs0] at h; exact absurd h (by simp)
  have hs := Decidable.not_not.1 hs0
  rw [if_pos hs] at h
  obtain rfl := Option.some.inj h
  clear h hs0
  have HR0 := Lib.hid hr0
  have HR1 := Lib.hid hr1
  clear hr0 hr1
  by_cases hl : ¬ l0.length = l1.length
  · have c1 : ((l0.length : Int) != (l1.length : Int)) = true := bne_iff_ne.2 (by omega)
    have HX := Lib.hid (sameL_ne a2 l0 l1 hl)
    clear hl
    go_enter Tryd.func26, Tryd.ntmps26
    go_wp2
    go_ret
    exact ⟨by rw [HX.out]; rfl, Below.refl _ _⟩
  have hl := Decidable.not_not.1 hl
  have c1' : ((l0.length : Int) != (l1.length : Int)) = false := bne_eq_false_iff_eq.2 (by omega)
  obtain ⟨rr, hrr⟩ : ∃ rr, sameL a2 l0 l1 = rr := ⟨_, rfl⟩
  rw [hrr]
  go_enter Tryd.func26, Tryd.ntmps26
  go_wp2_with fail
  go_loopw [7] (fun v7 wr => ∃ i : Nat, i ≤ l0.length ∧ v7 = .int .i64 i ∧ Hid (sameL a2 (l0.drop i) (l1.drop i) = rr) ∧ Hid (Below w.heap.size w wr)) (fun i _ => l0.length - (intOf i).toNat)
  case atStart => exact ⟨0, Nat.zero_le _, rfl, Lib.hid hrr, Lib.hid (Below.refl _ _)⟩
  case round =>
    obtain ⟨i, hi, rfl, hsm, HB⟩ := hrel
    clear hrr
    by_cases hlt : i < l0.length
    · have hlt1 : i < l1.length := by omega
      have hat := sameL_at a2 l0 l1 i hlt hlt1
      obtain ⟨ad0, e0, x0, x1, x2, x3⟩ := at_T42 HR0.out (i : Int) (by omega) (by omega)
      obtain ⟨ad1, e1, y0, y1, y2, y3⟩ := at_T42 HR1.out (i : Int) (by omega) (by omega)
      subst e0
      subst e1
      rw [Int.toNat_natCast] at x0 x1 x2 x3 y0 y1 y2 y3
      have y0 := (HB.out.cell (World.block_lt_of_cell? w _ y0)).trans y0
      have y1 := (HB.out.cell (World.block_lt_of_cell? w _ y1)).trans y1
      have y2 := (HB.out.cell (World.block_lt_of_cell? w _ y2)).trans y2
      have y3 := (HB.out.cell (World.block_lt_of_cell? w _ y3)).trans y3
      obtain ⟨x, hx⟩ : ∃ x, rd_T42 l0 (i : Int) = x := ⟨_, rfl⟩
      obtain ⟨y, hy⟩ : ∃ y, rd_T42 l1 (i : Int) = y := ⟨_, rfl⟩
      rw [hx] at x0 x1 x2 x3 hat
      rw [hy] at y0 y1 y2 y3 hat
      obtain ⟨z, hz⟩ : ∃ z, wrap64 (y.f3 + a2) = z := ⟨_, rfl⟩
      have hz' : IntKind.i64.wrap (y.f3 + a2) = z := (i64_w _).trans hz
      have hte : tokEq a2 x y = (x.f0 == y.f0 && (x.f1.toList == y.f1.toList && (x.f2 == y.f2 && x.f3 == z))) := by unfold tokEq; rw [hz]
      rw [hat] at hsm
      obtain ⟨W2, hW2⟩ : ∃ W2, wr.alloc (.cells #[.int .i64 y.f0, .string y.f1, .int .i64 y.f2, .int .i64 z] 42) = W2 := ⟨_, rfl⟩
      have hBW : Below w.heap.size w W2 := hW2 ▸ HB.out.alloc HB.out.size _
      have hbn : W2.heap[wr.heap.size]? = some (.cells #[.int .i64 y.f0, .string y.f1, .int .i64 y.f2, .int .i64 z] 42 (0, 0)) := by rw [← hW2]; exact heap_alloc_new wr _
      have n0 : W2.cell? ⟨wr.heap.size, 0, none⟩ = some (.int .i64 y.f0) := (blk_cell hbn 0).trans rfl
      have n1 : W2.cell? ⟨wr.heap.size, 1, none⟩ = some (.string y.f1) := (blk_cell hbn 1).trans rfl
      have n2 : W2.cell? ⟨wr.heap.size, 2, none⟩ = some (.int .i64 y.f2) := (blk_cell hbn 2).trans rfl
      have n3 : W2.cell? ⟨wr.heap.size, 3, none⟩ = some (.int .i64 z) := (blk_cell hbn 3).trans rfl
      have x0 := (hBW.cell (World.block_lt_of_cell? w _ x0)).trans x0
      have x1 := (hBW.cell (World.block_lt_of_cell? w _ x1)).trans x1
      have x2 := (hBW.cell (World.block_lt_of_cell? w _ x2)).trans x2
      have x3 := (hBW.cell (World.block_lt_of_cell? w _ x3)).trans x3
      have HBW := Lib.hid hBW
      clear hBW hbn hx hy hat
      have h5 : (x.f0 == y.f0) = false ∨ ((x.f0 == y.f0) = true ∧ (x.f1.toList == y.f1.toList) = false) ∨ ((x.f0 == y.f0) = true ∧ (x.f1.toList == y.f1.toList) = true ∧ (x.f2 == y.f2) = false) ∨ ((x.f0 == y.f0) = true ∧ (x.f1.toList == y.f1.toList) = true ∧ (x.f2 == y.f2) = true ∧ (x.f3 == z) = false) ∨ ((x.f0 == y.f0) = true ∧ (x.f1.toList == y.f1.toList) = true ∧ (x.f2 == y.f2) = true ∧ (x.f3 == z) = true) := by
        cases x.f0 == y.f0 <;> cases x.f1.toList == y.f1.toList <;> cases x.f2 == y.f2 <;> cases x.f3 == z <;> simp
      rcases h5 with d1 | ⟨d1, d2⟩ | ⟨d1, d2, d3⟩ | ⟨d1, d2, d3, d4⟩ | ⟨d1, d2, d3, d4⟩
      · have HF := Lib.hid (show rr = false by rw [← hsm.out, hte, d1]; rfl)
        clear hsm hte
        go_wp2
        try rw [hW2]
        clear hW2
        repeat (go_quiet (fail); try go_wp2)
        go_ret
        exact ⟨by rw [HF.out]; rfl, pw_below_drewN HBW.out _⟩
      · have HF := Lib.hid (show rr = false by rw [← hsm.out, hte, d1, d2]; rfl)
        clear hsm hte
        go_wp2
        try rw [hW2]
        clear hW2
        repeat (go_quiet (fail); try go_wp2)
        go_ret
        exact ⟨by rw [HF.out]; rfl, pw_below_drewN HBW.out _⟩
      · have HF := Lib.hid (show rr = false by rw [← hsm.out, hte, d1, d2, d3]; rfl)
        clear hsm hte
        go_wp2
        try rw [hW2]
        clear hW2
        repeat (go_quiet (fail); try go_wp2)
        go_ret
        exact ⟨by rw [HF.out]; rfl, pw_below_drewN HBW.out _⟩
      · have HF := Lib.hid (show rr = false by rw [← hsm.out, hte, d1, d2, d3, d4]; rfl)
        clear hsm hte
        go_wp2
        try rw [hW2]
        clear hW2
        repeat (go_quiet (fail); try go_wp2)
        go_ret
        exact ⟨by rw [HF.out]; rfl, pw_below_drewN HBW.out _⟩
      · have HF := Lib.hid (show sameL a2 (l0.drop (i + 1)) (l1.drop (i + 1)) = rr by rw [← hsm.out, hte, d1, d2, d3, d4]; rfl)
        clear hsm hte
        go_wp2
        try rw [hW2]
        clear hW2
        repeat (go_quiet (fail); try go_wp2)
        go_roundw
        case rel => exact ⟨i + 1, by omega, by go_num, HF, Lib.hid (pw_below_drewN HBW.out _)⟩
        case measure => simp [intOf]; omega
    · obtain rfl : i = l0.length := by omega
      have HF := Lib.hid (show rr = true by rw [← hsm.out, List.drop_of_length_le (Nat.le_refl _), List.drop_of_length_le (by omega)]; rfl)
      clear hsm
      go_wp2_with fail
      go_ret
      exact ⟨by rw [HF.out]; rfl, HB.out⟩
end Go.Proofs.YteifffaonigidaaDoor.M
