-- Printed by wip/tools/myprint.py (an own program; its engine is the kit's print): checked by Lean.
import Derived.Test.YteifffaonigidaaDoorMx0
import Derived.Test.YteifffaonigidaaDoorMx16
import Derived.Test.YteifffaonigidaaDoorLxD
import Derived.Test.YteifffaonigidaaDoorLxL
import Derived.Test.YteifffaonigidaaDoorLxS
import Derived.Test.YteifffaonigidaaDoorLxW
import Derived.Test.YteifffaonigidaaDoorTxA
namespace Go.Proofs.YteifffaonigidaaDoor.M
open Go.RowKit Go.Proofs.YteifffaonigidaaDoorW.PrintWords Go.Proofs.YteifffaonigidaaDoorW.PrintLast Go.Proofs.YteifffaonigidaaDoorW.PrintMore
attribute [local go_sem] max2_int min2_int max_two min_two max_three min_three max_four min_four   -- for this text's walks alone
set_option linter.unusedVariables false
set_option linter.unusedSimpArgs false

/-! ### taquinlaw09_LexBack: function 11 -/
mutual
def taquinlaw09_LexBack.j0 : Nat → Bool → List (S42) → Bool → Option (Bool)
  | 0, _, _, _ => none
  | k + 1, x3, x4, x63 => if x63 = true then (some false) else (taquinlaw09_LexBack.l0 k x3 x4 1 0)
def taquinlaw09_LexBack.l0 : Nat → Bool → List (S42) → Int → Int → Option (Bool)
  | 0, _, _, _, _ => none
  | k + 1, x3, x4, x10, x11 => if x11 < (x4.length : Int) then (if 0 ≤ x11 then (if ((rd_T42 x4 x11).f3) = x10 then (if ((((rd_T42 x4 x11).f0) == 4) != (x11 == (wrap64 ((x4.length : Int) - 1)))) = true then (taquinlaw09_LexBack.j2 k x3 x4 x10 x11 true ((rd_T42 x4 x11).f0) ((rd_T42 x4 x11).f1) ((rd_T42 x4 x11).f2) ((rd_T42 x4 x11).f3)) else (if ((rd_T42 x4 x11).f0) = 1 then (taquinlaw09_LexBack.j2 k x3 x4 x10 x11 false ((rd_T42 x4 x11).f0) ((rd_T42 x4 x11).f1) ((rd_T42 x4 x11).f2) ((rd_T42 x4 x11).f3)) else (taquinlaw09_LexBack.j2 k x3 x4 x10 x11 (((rd_T42 x4 x11).f2) != 0) ((rd_T42 x4 x11).f0) ((rd_T42 x4 x11).f1) ((rd_T42 x4 x11).f2) ((rd_T42 x4 x11).f3)))) else (taquinlaw09_LexBack.j2 k x3 x4 x10 x11 true ((rd_T42 x4 x11).f0) ((rd_T42 x4 x11).f1) ((rd_T42 x4 x11).f2) ((rd_T42 x4 x11).f3))) else (none)) else (some x3)
def taquinlaw09_LexBack.j2 : Nat → Bool → List (S42) → Int → Int → Bool → Int → ByteArray → Int → Int → Option (Bool)
  | 0, _, _, _, _, _, _, _, _, _ => none
  | k + 1, x3, x4, x10, x11, x98, x674000, x674001, x674002, x674003 => if x98 = true then (some false) else (if x674000 = 0 then ((lex_Word.f x674001).bind fun t674 => (if t674 = true then (taquinlaw09_LexBack.l0 k x3 x4 x10 (wrap64 (x11 + 1))) else (some false))) else (if x674000 = 1 then (if x674002 < 0 then (some false) else ((text_Decimal.f x674002).bind fun t675 => (if t675.toList = x674001.toList then (taquinlaw09_LexBack.l0 k x3 x4 x10 (wrap64 (x11 + 1))) else (some false)))) else (if x674000 = 3 then (taquinlaw09_LexBack.l0 k x3 x4 (wrap64 (x10 + 1)) (wrap64 (x11 + 1))) else (taquinlaw09_LexBack.l0 k x3 x4 x10 (wrap64 (x11 + 1))))))
end
def taquinlaw09_LexBack.f (k : Nat) (a0 : ByteArray) : Option (Bool) := (taquinlaw09_small.f k).bind fun t659 => (if (a0.size : Int) > 5000 then (some t659) else ((lex_Lex.f a0).bind fun bt660 => (if bt660.2.1 = 0 then ((lex_Write.f bt660.1).bind fun t665 => ((lex_Lex.f t665).bind fun bt666 => (if bt666.2.1 = 0 then (if bt666.2.2 = 0 then (if bt660.2.2 = 0 then ((taquinref09_Same.f bt666.1 bt660.1 0).bind fun t671 => (if t671 = true then (taquinlaw09_LexBack.j0 k t659 bt660.1 ((bt660.1.length : Int) == 0)) else (taquinlaw09_LexBack.j0 k t659 bt660.1 true))) else (taquinlaw09_LexBack.j0 k t659 bt660.1 true)) else (taquinlaw09_LexBack.j0 k t659 bt660.1 true)) else (taquinlaw09_LexBack.j0 k t659 bt660.1 true)))) else (if t659 = true then (if (bt660.1.length : Int) = 0 then (some (decide (bt660.2.2 ≥ 1))) else (some false)) else (some false)))))
theorem taquinlaw09_LexBack.mono_l : ∀ k, (∀ y0 y1 y2, LeO (taquinlaw09_LexBack.j0 k y0 y1 y2) (taquinlaw09_LexBack.j0 (k + 1) y0 y1 y2)) ∧ (∀ y0 y1 y2 y3, LeO (taquinlaw09_LexBack.l0 k y0 y1 y2 y3) (taquinlaw09_LexBack.l0 (k + 1) y0 y1 y2 y3)) ∧ (∀ y0 y1 y2 y3 y4 y5 y6 y7 y8, LeO (taquinlaw09_LexBack.j2 k y0 y1 y2 y3 y4 y5 y6 y7 y8) (taquinlaw09_LexBack.j2 (k + 1) y0 y1 y2 y3 y4 y5 y6 y7 y8))
  | 0 => ⟨fun _ _ _ r h => by simp [taquinlaw09_LexBack.j0] at h, fun _ _ _ _ r h => by simp [taquinlaw09_LexBack.l0] at h, fun _ _ _ _ _ _ _ _ _ r h => by simp [taquinlaw09_LexBack.j2] at h⟩
  | k + 1 => by
    obtain ⟨ih0, ih1, ih2⟩ := taquinlaw09_LexBack.mono_l k
    refine ⟨?_, ?_, ?_⟩
    · intro y0 y1 y2
      unfold taquinlaw09_LexBack.j0
      repeat' first
      | (with_reducible exact ih0 _ _ _)
      | (with_reducible exact ih1 _ _ _ _)
      | (with_reducible exact ih2 _ _ _ _ _ _ _ _ _)
      | (with_reducible exact taquinlaw09_small.mono _)
      | (with_reducible exact LeO.refl _)
      | (with_reducible exact LeO.none _)
      | (with_reducible refine LeO.ite ?_ ?_)
      | (with_reducible refine LeO.bind ?_ (fun _ => ?_))
      | exact ih0 _ _ _
      | exact ih1 _ _ _ _
      | exact ih2 _ _ _ _ _ _ _ _ _
      | exact taquinlaw09_small.mono _
      | exact LeO.none _
      | refine LeO.ite ?_ ?_
      | refine LeO.bind ?_ (fun _ => ?_)
    · intro y0 y1 y2 y3
      unfold taquinlaw09_LexBack.l0
      repeat' first
      | (with_reducible exact ih0 _ _ _)
      | (with_reducible exact ih1 _ _ _ _)
      | (with_reducible exact ih2 _ _ _ _ _ _ _ _ _)
      | (with_reducible exact taquinlaw09_small.mono _)
      | (with_reducible exact LeO.refl _)
      | (with_reducible exact LeO.none _)
      | (with_reducible refine LeO.ite ?_ ?_)
      | (with_reducible refine LeO.bind ?_ (fun _ => ?_))
      | exact ih0 _ _ _
      | exact ih1 _ _ _ _
      | exact ih2 _ _ _ _ _ _ _ _ _
      | exact taquinlaw09_small.mono _
      | exact LeO.none _
      | refine LeO.ite ?_ ?_
      | refine LeO.bind ?_ (fun _ => ?_)
    · intro y0 y1 y2 y3 y4 y5 y6 y7 y8
      unfold taquinlaw09_LexBack.j2
      repeat' first
      | (with_reducible exact ih0 _ _ _)
      | (with_reducible exact ih1 _ _ _ _)
      | (with_reducible exact ih2 _ _ _ _ _ _ _ _ _)
      | (with_reducible exact taquinlaw09_small.mono _)
      | (with_reducible exact LeO.refl _)
      | (with_reducible exact LeO.none _)
      | (with_reducible refine LeO.ite ?_ ?_)
      | (with_reducible refine LeO.bind ?_ (fun _ => ?_))
      | exact ih0 _ _ _
      | exact ih1 _ _ _ _
      | exact ih2 _ _ _ _ _ _ _ _ _
      | exact taquinlaw09_small.mono _
      | exact LeO.none _
      | refine LeO.ite ?_ ?_
      | refine LeO.bind ?_ (fun _ => ?_)
theorem taquinlaw09_LexBack.mono : ∀ a0 k, LeO (taquinlaw09_LexBack.f k a0) (taquinlaw09_LexBack.f (k + 1) a0) := by
  intro a0 k
  obtain ⟨ih0, ih1, ih2⟩ := taquinlaw09_LexBack.mono_l k
  unfold taquinlaw09_LexBack.f
  repeat' first
      | (with_reducible exact ih0 _ _ _)
      | (with_reducible exact ih1 _ _ _ _)
      | (with_reducible exact ih2 _ _ _ _ _ _ _ _ _)
      | (with_reducible exact taquinlaw09_small.mono _)
      | (with_reducible exact LeO.refl _)
      | (with_reducible exact LeO.none _)
      | (with_reducible refine LeO.ite ?_ ?_)
      | (with_reducible refine LeO.bind ?_ (fun _ => ?_))
      | exact ih0 _ _ _
      | exact ih1 _ _ _ _
      | exact ih2 _ _ _ _ _ _ _ _ _
      | exact taquinlaw09_small.mono _
      | exact LeO.none _
      | refine LeO.ite ?_ ?_
      | refine LeO.bind ?_ (fun _ => ?_)
def taquinlaw09_LexBack.T22 : Bool × List (List Nat × List Nat) := (true, [([], []), ([0], [0]), ([1], [1]), ([2], [2]), ([3], [3]), ([4, 3], [3, 4]), ([5, 3, 3], [3, 5]), ([3], [3]), ([7, 3], [3, 7]), ([6, 8, 3], [3, 6, 8]), ([3, 9], [3, 9])])
def taquinlaw09_LexBack.B22 : List Nat := [0, 1, 3, 7, 15, 31, 63, 15, 143, 511, 1023]
theorem taquinlaw09_LexBack.tab22 : rtab .any (opsOf Tryd.f11 22) = taquinlaw09_LexBack.T22 := by kernel_rfl
theorem taquinlaw09_LexBack.bits22 : waitsOk taquinlaw09_LexBack.T22.2 taquinlaw09_LexBack.B22 = true := by kernel_rfl
set_option maxHeartbeats 8000000 in
set_option maxRecDepth 100000 in
theorem taquinlaw09_LexBack.calls (k : Nat) (a0 : ByteArray) (r : Bool) (w : World) (h : taquinlaw09_LexBack.f k a0 = some r) (hLd : LaidP w) :
    Calls Tryd.prog 11 #[.string a0] w fun e w' => e = .returned (.bool r) ∧ Below w.heap.size w w' := by
  have hu42 := Tryd.underlying42
  have HB := Aside0.mk (Below.refl w.heap.size w)
  have H : ((taquinlaw09_small.f k).bind fun t659 => (if (a0.size : Int) > 5000 then (some t659) else ((lex_Lex.f a0).bind fun bt660 => (if bt660.2.1 = 0 then ((lex_Write.f bt660.1).bind fun t665 => ((lex_Lex.f t665).bind fun bt666 => (if bt666.2.1 = 0 then (if bt666.2.2 = 0 then (if bt660.2.2 = 0 then ((taquinref09_Same.f bt666.1 bt660.1 0).bind fun t671 => (if t671 = true then (taquinlaw09_LexBack.j0 k t659 bt660.1 ((bt660.1.length : Int) == 0)) else (taquinlaw09_LexBack.j0 k t659 bt660.1 true))) else (taquinlaw09_LexBack.j0 k t659 bt660.1 true)) else (taquinlaw09_LexBack.j0 k t659 bt660.1 true)) else (taquinlaw09_LexBack.j0 k t659 bt660.1 true)))) else (if t659 = true then (if (bt660.1.length : Int) = 0 then (some (decide (bt660.2.2 ≥ 1))) else (some false)) else (some false)))))) = some r := h
  clear h
  replace H := Option.bind_eq_some_iff.mp H
  obtain ⟨t659, A20, H⟩ := H
  replace H : (if (a0.size : Int) > 5000 then (some t659) else ((lex_Lex.f a0).bind fun bt660 => (if bt660.2.1 = 0 then ((lex_Write.f bt660.1).bind fun t665 => ((lex_Lex.f t665).bind fun bt666 => (if bt666.2.1 = 0 then (if bt666.2.2 = 0 then (if bt660.2.2 = 0 then ((taquinref09_Same.f bt666.1 bt660.1 0).bind fun t671 => (if t671 = true then (taquinlaw09_LexBack.j0 k t659 bt660.1 ((bt660.1.length : Int) == 0)) else (taquinlaw09_LexBack.j0 k t659 bt660.1 true))) else (taquinlaw09_LexBack.j0 k t659 bt660.1 true)) else (taquinlaw09_LexBack.j0 k t659 bt660.1 true)) else (taquinlaw09_LexBack.j0 k t659 bt660.1 true)))) else (if t659 = true then (if (bt660.1.length : Int) = 0 then (some (decide (bt660.2.2 ≥ 1))) else (some false)) else (some false))))) = some r := H
  have A2 := Aside0.mk A20
  clear A20
  by_cases c3 : (a0.size : Int) > 5000
  · rw [if_pos c3] at H
    have c3b0 : decide (5000 < (a0.size : Int)) = true := decide_eq_true c3
    have c3b1 : decide (5000 < a0.size) = true := decide_eq_true (by omega)
    clear c3
    obtain rfl := Option.some.inj H
    go_enter Tryd.func11, Tryd.ntmps11
    go_wp2_with (first | ((with_reducible refine gate_callee (f := 24) rfl ?_); refine goesL_ (some 13) rfl rfl Tryd.func24 (by kernel_rfl) rfl #[] rfl (by (try simp only [List.map_toArray, List.map_cons, List.map_nil]); first | done | rfl | (simp only [List.length_drop, List.length_take]; rfl)) ?_; (with_reducible refine (taquinlaw09_small.calls k  t659 _ A2.out (LaidP.below hLd (by repeat (first | (with_reducible first | exact HB.out | apply below_alloc | apply pw_below_drewN | apply below_drew1) | exact HB.out)))).mono ?_); rintro e w4 ⟨rfl, hb⟩; refine ⟨_, rfl, ?_⟩; have n0_ := Aside0.mk (below_step (by repeat (first | (with_reducible first | exact HB.out | apply below_alloc | apply pw_below_drewN | apply below_drew1) | exact HB.out)) hb); clear HB; have HB := n0_; clear n0_; (try clear hb); (try clear hb2); (try clear hk); (try clear hi)))
    go_ret
    exact ⟨by first | rfl | (simp [errW_none, errW_some] <;> rfl) | (simp [*, errW_none, errW_some] <;> rfl), by repeat (first | (with_reducible first | exact HB.out | apply below_alloc | apply pw_below_drewN | apply below_drew1) | exact HB.out)⟩
  · rw [if_neg c3] at H
    have c3b0 : decide (5000 < (a0.size : Int)) = false := decide_eq_false c3
    have c3b1 : decide (5000 < a0.size) = false := decide_eq_false (by omega)
    clear c3
    replace H := Option.bind_eq_some_iff.mp H
    obtain ⟨⟨t660, t661, t662⟩, A50, H⟩ := H
    replace H : (if t661 = 0 then ((lex_Write.f t660).bind fun t665 => ((lex_Lex.f t665).bind fun bt666 => (if bt666.2.1 = 0 then (if bt666.2.2 = 0 then (if t662 = 0 then ((taquinref09_Same.f bt666.1 t660 0).bind fun t671 => (if t671 = true then (taquinlaw09_LexBack.j0 k t659 t660 ((t660.length : Int) == 0)) else (taquinlaw09_LexBack.j0 k t659 t660 true))) else (taquinlaw09_LexBack.j0 k t659 t660 true)) else (taquinlaw09_LexBack.j0 k t659 t660 true)) else (taquinlaw09_LexBack.j0 k t659 t660 true)))) else (if t659 = true then (if (t660.length : Int) = 0 then (some (decide (t662 ≥ 1))) else (some false)) else (some false))) = some r := H
    have A5 := Aside0.mk A50
    clear A50
    by_cases c6 : t661 = 0
    · rw [if_pos c6] at H
      have c6b0 : (t661 == 0) = true := beq_iff_eq.mpr c6
      have c6b1 : (t661 != 0) = false := bne_eq_false_iff_eq.mpr c6
      clear c6
      replace H := Option.bind_eq_some_iff.mp H
      obtain ⟨t665, A70, H⟩ := H
      replace H : ((lex_Lex.f t665).bind fun bt666 => (if bt666.2.1 = 0 then (if bt666.2.2 = 0 then (if t662 = 0 then ((taquinref09_Same.f bt666.1 t660 0).bind fun t671 => (if t671 = true then (taquinlaw09_LexBack.j0 k t659 t660 ((t660.length : Int) == 0)) else (taquinlaw09_LexBack.j0 k t659 t660 true))) else (taquinlaw09_LexBack.j0 k t659 t660 true)) else (taquinlaw09_LexBack.j0 k t659 t660 true)) else (taquinlaw09_LexBack.j0 k t659 t660 true))) = some r := H
      have A7 := Aside0.mk A70
      clear A70
      replace H := Option.bind_eq_some_iff.mp H
      obtain ⟨⟨t666, t667, t668⟩, A80, H⟩ := H
      replace H : (if t667 = 0 then (if t668 = 0 then (if t662 = 0 then ((taquinref09_Same.f t666 t660 0).bind fun t671 => (if t671 = true then (taquinlaw09_LexBack.j0 k t659 t660 ((t660.length : Int) == 0)) else (taquinlaw09_LexBack.j0 k t659 t660 true))) else (taquinlaw09_LexBack.j0 k t659 t660 true)) else (taquinlaw09_LexBack.j0 k t659 t660 true)) else (taquinlaw09_LexBack.j0 k t659 t660 true)) = some r := H
      have A8 := Aside0.mk A80
      clear A80
      have HC9 := Aside0.mk H
      clear H
      go_enter Tryd.func11, Tryd.ntmps11
      go_upto_region 8 with (first | ((with_reducible refine gate_callee (f := 24) rfl ?_); refine goesL_ (some 13) rfl rfl Tryd.func24 (by kernel_rfl) rfl #[] rfl (by (try simp only [List.map_toArray, List.map_cons, List.map_nil]); first | done | rfl | (simp only [List.length_drop, List.length_take]; rfl)) ?_; (with_reducible refine (taquinlaw09_small.calls k  t659 _ A2.out (LaidP.below hLd (by repeat (first | (with_reducible first | exact HB.out | apply below_alloc | apply pw_below_drewN | apply below_drew1) | exact HB.out)))).mono ?_); rintro e w10 ⟨rfl, hb⟩; refine ⟨_, rfl, ?_⟩; have n0_ := Aside0.mk (below_step (by repeat (first | (with_reducible first | exact HB.out | apply below_alloc | apply pw_below_drewN | apply below_drew1) | exact HB.out)) hb); clear HB; have HB := n0_; clear n0_; (try clear hb); (try clear hb2); (try clear hk); (try clear hi)) | ((with_reducible refine gate_callee (f := 25) rfl ?_); refine goesL_ (some 20) rfl rfl Tryd.func25 (by kernel_rfl) rfl #[.string a0] rfl (by (try simp only [List.map_toArray, List.map_cons, List.map_nil]); first | done | rfl | (simp only [List.length_drop, List.length_take]; rfl)) ?_; (with_reducible refine (lex_Lex.calls a0 t660 t661 t662 _ A5.out (LaidP.below hLd (by repeat (first | (with_reducible first | exact HB.out | apply below_alloc | apply pw_below_drewN | apply below_drew1) | exact HB.out)))).mono ?_); rintro e w11 ⟨v663, rfl, ho0, hb⟩; refine ⟨_, rfl, ?_⟩; have n0_ := Aside0.mk (Kd.R_lower ho0 (below_size (by repeat (first | (with_reducible first | exact HB.out | apply below_alloc | apply pw_below_drewN | apply below_drew1) | exact HB.out)))); have n1_ := Aside0.mk (below_step (by repeat (first | (with_reducible first | exact HB.out | apply below_alloc | apply pw_below_drewN | apply below_drew1) | exact HB.out)) hb); clear HB; have HO664 := n0_; have HB := n1_; clear n0_ n1_; (try clear hb); (try clear hb2); (try clear hk); (try clear hi); (try clear ho0); obtain ⟨Ao12, co12, eo12⟩ := Kd.R_slice HO664.out; subst eo12) | ((with_reducible refine gate_callee (f := 31) rfl ?_); refine goesL_ (some 38) rfl rfl Tryd.func31 (by kernel_rfl) rfl #[.slice Ao12 t660.length co12] rfl (by (try simp only [List.map_toArray, List.map_cons, List.map_nil]); first | done | rfl | (simp only [List.length_drop, List.length_take]; rfl)) ?_; (with_reducible refine (lex_Write.calls _ _ t660 t665 _ ?side1 ?side2 A7.out).mono ?_); (case side1 => repeat (first | exact (Kd.R_reads' HO664.out).2.2 | (with_reducible refine Kd.C_alloc ?_ _) | (with_reducible refine Kd.C_drewN ?_ _) | (with_reducible refine Kd.C_drew ?_))); (case side2 => exact (Kd.R_reads' HO664.out).2.1); rintro e w13 ⟨rfl, hb⟩; refine ⟨_, rfl, ?_⟩; have n0_ := Aside0.mk (Kd.R_below (by (with_reducible repeat (first | apply Kd.R_alloc | apply Kd.R_drewN | apply Kd.R_drew)); exact HO664.out) hb); have n1_ := Aside0.mk (below_step (by repeat (first | (with_reducible first | exact HB.out | apply below_alloc | apply pw_below_drewN | apply below_drew1) | exact HB.out)) hb); clear HO664; clear HB; have HO664 := n0_; have HB := n1_; clear n0_ n1_; (try clear hb); (try clear hb2); (try clear hk); (try clear hi)) | ((with_reducible refine gate_callee (f := 25) rfl ?_); refine goesL_ (some 39) rfl rfl Tryd.func25 (by kernel_rfl) rfl #[.string t665] rfl (by (try simp only [List.map_toArray, List.map_cons, List.map_nil]); first | done | rfl | (simp only [List.length_drop, List.length_take]; rfl)) ?_; (with_reducible refine (lex_Lex.calls t665 t666 t667 t668 _ A8.out (LaidP.below hLd (by repeat (first | (with_reducible first | exact HB.out | apply below_alloc | apply pw_below_drewN | apply below_drew1) | exact HB.out)))).mono ?_); rintro e w14 ⟨v669, rfl, ho0, hb⟩; refine ⟨_, rfl, ?_⟩; have n0_ := Aside0.mk (Kd.R_elder' (by (with_reducible repeat (first | apply Kd.R_alloc | apply Kd.R_drewN | apply Kd.R_drew)); exact HO664.out) (Kd.R_base ho0) hb); have n1_ := Aside0.mk (Kd.R_lower (Kd.R_new' ho0 (Kd.R_lt (by (with_reducible repeat (first | apply Kd.R_alloc | apply Kd.R_drewN | apply Kd.R_drew)); exact HO664.out))) (below_size (by repeat (first | (with_reducible first | exact HB.out | apply below_alloc | apply pw_below_drewN | apply below_drew1) | exact HB.out)))); have n2_ := Aside0.mk (below_step (by repeat (first | (with_reducible first | exact HB.out | apply below_alloc | apply pw_below_drewN | apply below_drew1) | exact HB.out)) hb); clear HO664; clear HB; have HO664 := n0_; have HO670 := n1_; have HB := n2_; clear n0_ n1_ n2_; (try clear hb); (try clear hb2); (try clear hk); (try clear hi); (try clear ho0)))
      (try simp only [Act.put, List.setIfInBounds_toArray, List.set_cons_zero, List.set_cons_succ])
      go_cut [63] (fun v63 wc => ∃ (kq : Nat) (x63_8 : Bool), v63 = .bool x63_8 ∧ Aside0 (taquinlaw09_LexBack.j0 kq t659 t660 x63_8 = some r) ∧ Aside0 (kq ≤ k) ∧ Aside0 (Kd.R k42 42 wc w.heap.size (fun _ => True) (.slice Ao12 t660.length co12) t660) ∧ Aside0 (Below w.heap.size w wc))
      case first =>
        have H := HC9.out
        clear HC9
        by_cases c15 : t667 = 0
        · rw [if_pos c15] at H
          have c15b0 : (t667 == 0) = true := beq_iff_eq.mpr c15
          have c15b1 : (t667 != 0) = false := bne_eq_false_iff_eq.mpr c15
          clear c15
          (first | rw [c15b0] | (simp only [i64_w, i32_w]; rw [c15b0]) | skip)
          by_cases c16 : t668 = 0
          · rw [if_pos c16] at H
            have c16b0 : (t668 == 0) = true := beq_iff_eq.mpr c16
            have c16b1 : (t668 != 0) = false := bne_eq_false_iff_eq.mpr c16
            clear c16
            by_cases c17 : t662 = 0
            · rw [if_pos c17] at H
              have c17b0 : (t662 == 0) = true := beq_iff_eq.mpr c17
              have c17b1 : (t662 != 0) = false := bne_eq_false_iff_eq.mpr c17
              clear c17
              replace H := Option.bind_eq_some_iff.mp H
              obtain ⟨t671, A180, H⟩ := H
              replace H : (if t671 = true then (taquinlaw09_LexBack.j0 k t659 t660 ((t660.length : Int) == 0)) else (taquinlaw09_LexBack.j0 k t659 t660 true)) = some r := H
              have A18 := Aside0.mk A180
              clear A180
              by_cases c19 : t671 = true
              · subst c19
                have H1 : (taquinlaw09_LexBack.j0 k t659 t660 ((t660.length : Int) == 0)) = some r := by rw [if_pos rfl] at H; exact H
                clear H
                have H := H1
                clear H1
                have H' := Aside0.mk H
                clear H
                obtain ⟨Ao20, co20, eo20⟩ := Kd.R_slice HO670.out
                subst eo20
                go_wp2_with (first | (go_at_call 26; (with_reducible refine (taquinref09_Same.calls _ _ t666 _ _ t660 0 true _ ?side1 ?side2 ?side3 ?side4 A18.out).mono ?_); (case side1 => repeat (first | exact (Kd.R_reads' HO670.out).2.2 | (with_reducible refine Kd.C_alloc ?_ _) | (with_reducible refine Kd.C_drewN ?_ _) | (with_reducible refine Kd.C_drew ?_))); (case side2 => exact (Kd.R_reads' HO670.out).2.1); (case side3 => repeat (first | exact (Kd.R_reads' HO664.out).2.2 | (with_reducible refine Kd.C_alloc ?_ _) | (with_reducible refine Kd.C_drewN ?_ _) | (with_reducible refine Kd.C_drew ?_))); (case side4 => exact (Kd.R_reads' HO664.out).2.1); rintro e w21 ⟨rfl, hb⟩; have n0_ := Aside0.mk (Kd.R_below (by (with_reducible repeat (first | apply Kd.R_alloc | apply Kd.R_drewN | apply Kd.R_drew)); exact HO664.out) hb); have n1_ := Aside0.mk (Kd.R_below (by (with_reducible repeat (first | apply Kd.R_alloc | apply Kd.R_drewN | apply Kd.R_drew)); exact HO670.out) hb); have n2_ := Aside0.mk (below_step (by repeat (first | (with_reducible first | exact HB.out | apply below_alloc | apply pw_below_drewN | apply below_drew1) | exact HB.out)) hb); clear HO664; clear HO670; clear HB; have HO664 := n0_; have HO670 := n1_; have HB := n2_; clear n0_ n1_ n2_; (try clear hb); (try clear hb2); (try clear hk); (try clear hi)))
                go_meet
                case rel => exact ⟨_, (((t660.length : Int) == 0)), (by first | rfl | (simp; done) | (simp [*]; done) | (simp [*, bne]; done)), H', ⟨by first | omega | exact Nat.le_refl _⟩, ⟨by (with_reducible repeat (first | apply Kd.R_alloc | apply Kd.R_drewN | apply Kd.R_drew)); exact Kd.R_mono HO664.out (fun _ hk => trivial)⟩, ⟨by repeat (first | (with_reducible first | exact HB.out | apply below_alloc | apply pw_below_drewN | apply below_drew1) | exact HB.out)⟩⟩
              · replace c19 := Bool.eq_false_iff.mpr c19
                subst c19
                have H1 : (taquinlaw09_LexBack.j0 k t659 t660 true) = some r := by rw [if_neg (show ¬ (false = true) by decide)] at H; exact H
                clear H
                have H := H1
                clear H1
                have H' := Aside0.mk H
                clear H
                obtain ⟨Ao22, co22, eo22⟩ := Kd.R_slice HO670.out
                subst eo22
                go_wp2_with (first | (go_at_call 26; (with_reducible refine (taquinref09_Same.calls _ _ t666 _ _ t660 0 false _ ?side1 ?side2 ?side3 ?side4 A18.out).mono ?_); (case side1 => repeat (first | exact (Kd.R_reads' HO670.out).2.2 | (with_reducible refine Kd.C_alloc ?_ _) | (with_reducible refine Kd.C_drewN ?_ _) | (with_reducible refine Kd.C_drew ?_))); (case side2 => exact (Kd.R_reads' HO670.out).2.1); (case side3 => repeat (first | exact (Kd.R_reads' HO664.out).2.2 | (with_reducible refine Kd.C_alloc ?_ _) | (with_reducible refine Kd.C_drewN ?_ _) | (with_reducible refine Kd.C_drew ?_))); (case side4 => exact (Kd.R_reads' HO664.out).2.1); rintro e w23 ⟨rfl, hb⟩; have n0_ := Aside0.mk (Kd.R_below (by (with_reducible repeat (first | apply Kd.R_alloc | apply Kd.R_drewN | apply Kd.R_drew)); exact HO664.out) hb); have n1_ := Aside0.mk (Kd.R_below (by (with_reducible repeat (first | apply Kd.R_alloc | apply Kd.R_drewN | apply Kd.R_drew)); exact HO670.out) hb); have n2_ := Aside0.mk (below_step (by repeat (first | (with_reducible first | exact HB.out | apply below_alloc | apply pw_below_drewN | apply below_drew1) | exact HB.out)) hb); clear HO664; clear HO670; clear HB; have HO664 := n0_; have HO670 := n1_; have HB := n2_; clear n0_ n1_ n2_; (try clear hb); (try clear hb2); (try clear hk); (try clear hi)))
                go_meet
                case rel => exact ⟨_, (true), (by first | rfl | (simp; done) | (simp [*]; done) | (simp [*, bne]; done)), H', ⟨by first | omega | exact Nat.le_refl _⟩, ⟨by (with_reducible repeat (first | apply Kd.R_alloc | apply Kd.R_drewN | apply Kd.R_drew)); exact Kd.R_mono HO664.out (fun _ hk => trivial)⟩, ⟨by repeat (first | (with_reducible first | exact HB.out | apply below_alloc | apply pw_below_drewN | apply below_drew1) | exact HB.out)⟩⟩
            · rw [if_neg c17] at H
              have c17b0 : (t662 == 0) = false := beq_eq_false_iff_ne.mpr c17
              have c17b1 : (t662 != 0) = true := bne_iff_ne.mpr c17
              have H' := Aside0.mk H
              clear H
              go_wp2
              go_meet
              case rel => exact ⟨_, (true), (by first | rfl | (simp; done) | (simp [*]; done) | (simp [*, bne]; done)), H', ⟨by first | omega | exact Nat.le_refl _⟩, ⟨by (with_reducible repeat (first | apply Kd.R_alloc | apply Kd.R_drewN | apply Kd.R_drew)); exact Kd.R_mono HO664.out (fun _ hk => trivial)⟩, ⟨by repeat (first | (with_reducible first | exact HB.out | apply below_alloc | apply pw_below_drewN | apply below_drew1) | exact HB.out)⟩⟩
          · rw [if_neg c16] at H
            have c16b0 : (t668 == 0) = false := beq_eq_false_iff_ne.mpr c16
            have c16b1 : (t668 != 0) = true := bne_iff_ne.mpr c16
            have H' := Aside0.mk H
            clear H
            go_wp2
            go_meet
            case rel => exact ⟨_, (true), (by first | rfl | (simp; done) | (simp [*]; done) | (simp [*, bne]; done)), H', ⟨by first | omega | exact Nat.le_refl _⟩, ⟨by (with_reducible repeat (first | apply Kd.R_alloc | apply Kd.R_drewN | apply Kd.R_drew)); exact Kd.R_mono HO664.out (fun _ hk => trivial)⟩, ⟨by repeat (first | (with_reducible first | exact HB.out | apply below_alloc | apply pw_below_drewN | apply below_drew1) | exact HB.out)⟩⟩
        · rw [if_neg c15] at H
          have c15b0 : (t667 == 0) = false := beq_eq_false_iff_ne.mpr c15
          have c15b1 : (t667 != 0) = true := bne_iff_ne.mpr c15
          (first | rw [c15b0] | (simp only [i64_w, i32_w]; rw [c15b0]) | skip)
          have H' := Aside0.mk H
          clear H
          go_wp2
          go_meet
          case rel => exact ⟨_, (true), (by first | rfl | (simp; done) | (simp [*]; done) | (simp [*, bne]; done)), H', ⟨by first | omega | exact Nat.le_refl _⟩, ⟨by (with_reducible repeat (first | apply Kd.R_alloc | apply Kd.R_drewN | apply Kd.R_drew)); exact Kd.R_mono HO664.out (fun _ hk => trivial)⟩, ⟨by repeat (first | (with_reducible first | exact HB.out | apply below_alloc | apply pw_below_drewN | apply below_drew1) | exact HB.out)⟩⟩
      case rest =>
        clear HC9
        try clear c1
        try clear c2
        try clear p2
        try clear c3
        try clear c3b0
        try clear c3b1
        try clear c6
        try clear c6b0
        try clear c6b1
        try clear c11
        try clear c15
        try clear c15b0
        try clear c15b1
        try clear c16
        try clear c16b0
        try clear c16b1
        try clear c17
        try clear c17b0
        try clear c17b1
        try clear c19
        obtain ⟨kq, x63_8, rfl, HA, HJ8, HO_4, HB⟩ := hcut
        cases kq with
        | zero => exact absurd HA.out (by simp [taquinlaw09_LexBack.j0])
        | succ kj8 =>
          have H := HA.out
          clear HA
          simp only [taquinlaw09_LexBack.j0] at H
          by_cases c24 : x63_8 = true
          · subst c24
            have H1 : (some false) = some r := by rw [if_pos rfl] at H; exact H
            clear H
            have H := H1
            clear H1
            obtain rfl := Option.some.inj H
            go_wp2
            go_ret
            exact ⟨by first | rfl | (simp [errW_none, errW_some] <;> rfl) | (simp [*, errW_none, errW_some] <;> rfl), by repeat (first | (with_reducible first | exact HB.out | apply below_alloc | apply pw_below_drewN | apply below_drew1) | exact HB.out)⟩
          · replace c24 := Bool.eq_false_iff.mpr c24
            subst c24
            have H1 : (taquinlaw09_LexBack.l0 kj8 t659 t660 1 0) = some r := by rw [if_neg (show ¬ (false = true) by decide)] at H; exact H
            clear H
            have H := H1
            clear H1
            have H' := Aside0.mk H
            clear H
            go_wp2
            go_loopg [10, 11] kj8 (fun kq v10 v11 w' => ∃ (x10_2 : Int) (x11_2 : Int), v10 = .int .i64 x10_2 ∧ v11 = .int .i64 x11_2 ∧ Aside0 (taquinlaw09_LexBack.l0 kq t659 t660 x10_2 x11_2 = some r) ∧ Aside0 (kq ≤ kj8) ∧ Aside0 (Kd.R k42 42 w' w.heap.size (fun _ => True) (.slice Ao12 t660.length co12) t660) ∧ Aside0 (Below w.heap.size w w'))
            case atStart => exact ⟨(1), (0), (by first | rfl | (simp; done) | (simp [*]; done)), (by first | rfl | (simp; done) | (simp [*]; done)), H', ⟨Nat.le_refl _⟩, ⟨by (with_reducible repeat (first | apply Kd.R_alloc | apply Kd.R_drewN | apply Kd.R_drew)); exact HO_4.out⟩, ⟨by repeat (first | (with_reducible first | exact HB.out | apply below_alloc | apply pw_below_drewN | apply below_drew1) | exact HB.out)⟩⟩
            case round =>
              clear H'
              try clear c1
              try clear c2
              try clear p2
              try clear c3
              try clear c3b0
              try clear c3b1
              try clear c6
              try clear c6b0
              try clear c6b1
              try clear c11
              try clear c15
              try clear c15b0
              try clear c15b1
              try clear c16
              try clear c16b0
              try clear c16b1
              try clear c17
              try clear c17b0
              try clear c17b1
              try clear c19
              try clear c24
              try clear p2
              obtain ⟨x10_2, x11_2, rfl, rfl, HA, HK2, HO_4, HB⟩ := hrel
              cases gk with
              | zero => exact absurd HA.out (by simp [taquinlaw09_LexBack.l0])
              | succ k2 =>
                have H := HA.out
                clear HA
                simp only [taquinlaw09_LexBack.l0] at H
                by_cases c25 : x11_2 < (t660.length : Int)
                · rw [if_pos c25] at H
                  have c25b0 : decide (x11_2 < (t660.length : Int)) = true := decide_eq_true c25
                  clear c25
                  by_cases c26 : 0 ≤ x11_2
                  · rw [if_pos c26] at H
                    have c26b0 : decide (0 ≤ x11_2) = true := decide_eq_true c26
                    clear c26
                    have HC27 := Aside0.mk H
                    clear H
                    have p672 : 0 ≤ (x11_2 : Int) := of_decide_eq_true (by first | (with_reducible assumption) | assumption)
                    have q672 : x11_2 < (t660.length : Int) := of_decide_eq_true (by first | (with_reducible assumption) | assumption)
                    obtain ⟨ad672, e672, hx672_0, hx672_1, hx672_2, hx672_3⟩ := at_T42 (Kd.R_reads' HO_4.out).2.2 x11_2 p672 q672
                    cases e672
                    replace p672 := eq_true p672
                    replace q672 := eq_true q672
                    go_upto_region 15 with (first | ((with_reducible refine gate_dst (N := 12) rfl ?_); (try (refine gate_guard (by rfl) ?_; dsimp only)); refine box_event ?hg (N := 12) ?hd (cs := #[.int .i64 0, .string (⟨#[]⟩ : ByteArray), .int .i64 0, .int .i64 0]) (t := 42) ?hr ?_; (case hd => rfl); (case hg => rfl); (case hr => first | (go_simp; done) | (go_simp; rfl)); intro gb673 hg w28 hbox hb; have n0_ := Aside0.mk (Kd.R_below (Kd.R_elderB (by (with_reducible repeat (first | apply Kd.R_alloc | apply Kd.R_drewN | apply Kd.R_drew)); exact HO_4.out) gb673 (Nat.le_of_eq hg.symm)) hb); have n1_ := Aside0.mk (below_step (by repeat (first | (with_reducible first | exact HB.out | apply below_alloc | apply pw_below_drewN | apply below_drew1) | exact HB.out)) hb); have n2_ := Aside0.mk (hbox); have n3_ := Aside0.mk ((by rw [hg]; exact (below_size (by repeat (first | (with_reducible first | exact HB.out | apply below_alloc | apply pw_below_drewN | apply below_drew1) | exact HB.out))) : w.heap.size ≤ gb673)); have n4_ := Aside0.mk ((by rw [hg]; exact (below_size (by repeat (first | (with_reducible first | exact HB.out | apply below_alloc | apply pw_below_drewN | apply below_drew1) | exact HB.out))) : w.heap.size ≤ gb673)); clear HO_4; clear HB; have HO_4 := n0_; have HB := n1_; have BK673 := n2_; have GW673 := n3_; have GE673 := n4_; clear n0_ n1_ n2_ n3_ n4_; clear hb hbox hg; have hcz29_0 : w28.cell? ⟨gb673, 0, none⟩ = some (.int .i64 0) := (blk_cell BK673.out 0).trans rfl; have hcz29_1 : w28.cell? ⟨gb673, 1, none⟩ = some (.string (⟨#[]⟩ : ByteArray)) := (blk_cell BK673.out 1).trans rfl; have hcz29_2 : w28.cell? ⟨gb673, 2, none⟩ = some (.int .i64 0) := (blk_cell BK673.out 2).trans rfl; have hcz29_3 : w28.cell? ⟨gb673, 3, none⟩ = some (.int .i64 0) := (blk_cell BK673.out 3).trans rfl; have hfz29_0 := blk_frozen BK673.out 0; have hfz29_1 := blk_frozen BK673.out 1; have hfz29_2 := blk_frozen BK673.out 2; have hfz29_3 := blk_frozen BK673.out 3))
                    (try simp only [Act.put, List.setIfInBounds_toArray, List.set_cons_zero, List.set_cons_succ])
                    go_cut [98] (fun v98 wc => ∃ (kq : Nat) (x98_26 : Bool), v98 = .bool x98_26 ∧ Aside0 (taquinlaw09_LexBack.j2 kq t659 t660 x10_2 x11_2 x98_26 ((rd_T42 t660 x11_2).f0) ((rd_T42 t660 x11_2).f1) ((rd_T42 t660 x11_2).f2) ((rd_T42 t660 x11_2).f3) = some r) ∧ Aside0 (kq ≤ k2) ∧ Aside0 (Kd.R k42 42 wc w.heap.size (fun k_ => k_ ≠ gb673) (.slice (some ad672) t660.length co12) t660) ∧ Aside0 (wc.heap[gb673]? = some (.cells #[.int .i64 ((rd_T42 t660 x11_2).f0), .string ((rd_T42 t660 x11_2).f1), .int .i64 ((rd_T42 t660 x11_2).f2), .int .i64 ((rd_T42 t660 x11_2).f3)] 42 (0, 0))) ∧ Aside0 (Below w.heap.size w wc))
                    case first =>
                      have H := HC27.out
                      clear HC27
                      by_cases c30 : ((rd_T42 t660 x11_2).f3) = x10_2
                      · rw [if_pos c30] at H
                        have c30b0 : (((rd_T42 t660 x11_2).f3) == x10_2) = true := beq_iff_eq.mpr c30
                        have c30b1 : (((rd_T42 t660 x11_2).f3) != x10_2) = false := bne_eq_false_iff_eq.mpr c30
                        clear c30
                        (first | rw [c30b0] | (simp only [i64_w, i32_w]; rw [c30b0]) | skip)
                        by_cases c31 : ((((rd_T42 t660 x11_2).f0) == 4) != (x11_2 == (wrap64 ((t660.length : Int) - 1)))) = true
                        · rw [if_pos c31] at H
                          have c31b0 : ((((rd_T42 t660 x11_2).f0) == 4) != (x11_2 == (wrap64 ((t660.length : Int) - 1)))) = true := c31
                          (try (have c31b1 : decide ((((rd_T42 t660 x11_2).f0) == 4) = (x11_2 == (wrap64 ((t660.length : Int) - 1)))) = false := by simpa using c31))
                          (try (have c31b2 : ((((rd_T42 t660 x11_2).f0) == 4) == (x11_2 == (wrap64 ((t660.length : Int) - 1)))) = false := by simpa using c31))
                          (try (have c31b3 : ¬ ((((rd_T42 t660 x11_2).f0) == 4) = (x11_2 == (wrap64 ((t660.length : Int) - 1)))) := by simpa using c31))
                          clear c31
                          have H' := Aside0.mk H
                          clear H
                          have hcz32_0 : w28.cell? ⟨gb673, 0, none⟩ = some (.int .i64 0) := (blk_cell BK673.out 0).trans rfl
                          have hcz32_1 : w28.cell? ⟨gb673, 1, none⟩ = some (.string (⟨#[]⟩ : ByteArray)) := (blk_cell BK673.out 1).trans rfl
                          have hcz32_2 : w28.cell? ⟨gb673, 2, none⟩ = some (.int .i64 0) := (blk_cell BK673.out 2).trans rfl
                          have hcz32_3 : w28.cell? ⟨gb673, 3, none⟩ = some (.int .i64 0) := (blk_cell BK673.out 3).trans rfl
                          have hfz32_0 := blk_frozen BK673.out 0
                          have hfz32_1 := blk_frozen BK673.out 1
                          have hfz32_2 := blk_frozen BK673.out 2
                          have hfz32_3 := blk_frozen BK673.out 3
                          go_wp2
                          go_meet
                          case rel => exact ⟨_, (true), (by first | rfl | (simp; done) | (simp [*]; done) | (simp [*, bne]; done)), H', ⟨by have := HJ8.out; have := HK2.out; first | omega | exact Nat.le_refl _⟩, ⟨by (with_reducible repeat (first | apply Kd.R_alloc | apply Kd.R_drewN | apply Kd.R_drew)); exact Kd.R_mono (Kd.R_far (p := ⟨gb673, 3, none⟩) (Kd.R_far (p := ⟨gb673, 2, none⟩) (Kd.R_far (p := ⟨gb673, 1, none⟩) (Kd.R_far (p := ⟨gb673, 0, none⟩) (Kd.R_mono HO_4.out (fun k_ hk => (⟨hk, hk.2⟩ : _ ∧ k_ ≠ gb673))) (fun _ hk => hk.2) (.int .i64 ((rd_T42 t660 x11_2).f0))) (fun _ hk => hk.2) (.string ((rd_T42 t660 x11_2).f1))) (fun _ hk => hk.2) (.int .i64 ((rd_T42 t660 x11_2).f2))) (fun _ hk => hk.2) (.int .i64 ((rd_T42 t660 x11_2).f3))) (fun _ hk => hk.1.2)⟩, ⟨by (with_reducible repeat (first | refine blk_drewN ?_ _ | refine blk_drew ?_ | refine blk_alloc ?_ _)); refine blk_put (cs := #[.int .i64 ((rd_T42 t660 x11_2).f0), .string ((rd_T42 t660 x11_2).f1), .int .i64 ((rd_T42 t660 x11_2).f2), .int .i64 0]) ?_ 3 _ rfl; (with_reducible repeat (first | refine blk_drewN ?_ _ | refine blk_drew ?_ | refine blk_alloc ?_ _)); refine blk_put (cs := #[.int .i64 ((rd_T42 t660 x11_2).f0), .string ((rd_T42 t660 x11_2).f1), .int .i64 0, .int .i64 0]) ?_ 2 _ rfl; (with_reducible repeat (first | refine blk_drewN ?_ _ | refine blk_drew ?_ | refine blk_alloc ?_ _)); refine blk_put (cs := #[.int .i64 ((rd_T42 t660 x11_2).f0), .string (⟨#[]⟩ : ByteArray), .int .i64 0, .int .i64 0]) ?_ 1 _ rfl; (with_reducible repeat (first | refine blk_drewN ?_ _ | refine blk_drew ?_ | refine blk_alloc ?_ _)); refine blk_put (cs := #[.int .i64 0, .string (⟨#[]⟩ : ByteArray), .int .i64 0, .int .i64 0]) ?_ 0 _ rfl; (with_reducible repeat (first | refine blk_drewN ?_ _ | refine blk_drew ?_ | refine blk_alloc ?_ _)); exact BK673.out⟩, ⟨by repeat (first | (with_reducible first | exact HB.out | apply below_alloc | apply pw_below_drewN | apply below_drew1 | refine below_set ?_ GE673.out) | exact HB.out)⟩⟩
                        · rw [if_neg c31] at H
                          have c31b0 : ((((rd_T42 t660 x11_2).f0) == 4) != (x11_2 == (wrap64 ((t660.length : Int) - 1)))) = false := by simpa using c31
                          (try (have c31b1 : decide ((((rd_T42 t660 x11_2).f0) == 4) = (x11_2 == (wrap64 ((t660.length : Int) - 1)))) = true := by simpa using c31))
                          (try (have c31b2 : ((((rd_T42 t660 x11_2).f0) == 4) == (x11_2 == (wrap64 ((t660.length : Int) - 1)))) = true := by simpa using c31))
                          clear c31
                          by_cases c33 : ((rd_T42 t660 x11_2).f0) = 1
                          · rw [if_pos c33] at H
                            have c33b0 : (((rd_T42 t660 x11_2).f0) == 1) = true := beq_iff_eq.mpr c33
                            have c33b1 : (((rd_T42 t660 x11_2).f0) != 1) = false := bne_eq_false_iff_eq.mpr c33
                            clear c33
                            have H' := Aside0.mk H
                            clear H
                            have hcz34_0 : w28.cell? ⟨gb673, 0, none⟩ = some (.int .i64 0) := (blk_cell BK673.out 0).trans rfl
                            have hcz34_1 : w28.cell? ⟨gb673, 1, none⟩ = some (.string (⟨#[]⟩ : ByteArray)) := (blk_cell BK673.out 1).trans rfl
                            have hcz34_2 : w28.cell? ⟨gb673, 2, none⟩ = some (.int .i64 0) := (blk_cell BK673.out 2).trans rfl
                            have hcz34_3 : w28.cell? ⟨gb673, 3, none⟩ = some (.int .i64 0) := (blk_cell BK673.out 3).trans rfl
                            have hfz34_0 := blk_frozen BK673.out 0
                            have hfz34_1 := blk_frozen BK673.out 1
                            have hfz34_2 := blk_frozen BK673.out 2
                            have hfz34_3 := blk_frozen BK673.out 3
                            go_wp2
                            go_meet
                            case rel => exact ⟨_, (false), (by first | rfl | (simp; done) | (simp [*]; done) | (simp [*, bne]; done)), H', ⟨by have := HJ8.out; have := HK2.out; first | omega | exact Nat.le_refl _⟩, ⟨by (with_reducible repeat (first | apply Kd.R_alloc | apply Kd.R_drewN | apply Kd.R_drew)); exact Kd.R_mono (Kd.R_far (p := ⟨gb673, 3, none⟩) (Kd.R_far (p := ⟨gb673, 2, none⟩) (Kd.R_far (p := ⟨gb673, 1, none⟩) (Kd.R_far (p := ⟨gb673, 0, none⟩) (Kd.R_mono HO_4.out (fun k_ hk => (⟨hk, hk.2⟩ : _ ∧ k_ ≠ gb673))) (fun _ hk => hk.2) (.int .i64 ((rd_T42 t660 x11_2).f0))) (fun _ hk => hk.2) (.string ((rd_T42 t660 x11_2).f1))) (fun _ hk => hk.2) (.int .i64 ((rd_T42 t660 x11_2).f2))) (fun _ hk => hk.2) (.int .i64 ((rd_T42 t660 x11_2).f3))) (fun _ hk => hk.1.2)⟩, ⟨by (with_reducible repeat (first | refine blk_drewN ?_ _ | refine blk_drew ?_ | refine blk_alloc ?_ _)); refine blk_put (cs := #[.int .i64 ((rd_T42 t660 x11_2).f0), .string ((rd_T42 t660 x11_2).f1), .int .i64 ((rd_T42 t660 x11_2).f2), .int .i64 0]) ?_ 3 _ rfl; (with_reducible repeat (first | refine blk_drewN ?_ _ | refine blk_drew ?_ | refine blk_alloc ?_ _)); refine blk_put (cs := #[.int .i64 ((rd_T42 t660 x11_2).f0), .string ((rd_T42 t660 x11_2).f1), .int .i64 0, .int .i64 0]) ?_ 2 _ rfl; (with_reducible repeat (first | refine blk_drewN ?_ _ | refine blk_drew ?_ | refine blk_alloc ?_ _)); refine blk_put (cs := #[.int .i64 ((rd_T42 t660 x11_2).f0), .string (⟨#[]⟩ : ByteArray), .int .i64 0, .int .i64 0]) ?_ 1 _ rfl; (with_reducible repeat (first | refine blk_drewN ?_ _ | refine blk_drew ?_ | refine blk_alloc ?_ _)); refine blk_put (cs := #[.int .i64 0, .string (⟨#[]⟩ : ByteArray), .int .i64 0, .int .i64 0]) ?_ 0 _ rfl; (with_reducible repeat (first | refine blk_drewN ?_ _ | refine blk_drew ?_ | refine blk_alloc ?_ _)); exact BK673.out⟩, ⟨by repeat (first | (with_reducible first | exact HB.out | apply below_alloc | apply pw_below_drewN | apply below_drew1 | refine below_set ?_ GE673.out) | exact HB.out)⟩⟩
                          · rw [if_neg c33] at H
                            have c33b0 : (((rd_T42 t660 x11_2).f0) == 1) = false := beq_eq_false_iff_ne.mpr c33
                            have c33b1 : (((rd_T42 t660 x11_2).f0) != 1) = true := bne_iff_ne.mpr c33
                            have H' := Aside0.mk H
                            clear H
                            have hcz35_0 : w28.cell? ⟨gb673, 0, none⟩ = some (.int .i64 0) := (blk_cell BK673.out 0).trans rfl
                            have hcz35_1 : w28.cell? ⟨gb673, 1, none⟩ = some (.string (⟨#[]⟩ : ByteArray)) := (blk_cell BK673.out 1).trans rfl
                            have hcz35_2 : w28.cell? ⟨gb673, 2, none⟩ = some (.int .i64 0) := (blk_cell BK673.out 2).trans rfl
                            have hcz35_3 : w28.cell? ⟨gb673, 3, none⟩ = some (.int .i64 0) := (blk_cell BK673.out 3).trans rfl
                            have hfz35_0 := blk_frozen BK673.out 0
                            have hfz35_1 := blk_frozen BK673.out 1
                            have hfz35_2 := blk_frozen BK673.out 2
                            have hfz35_3 := blk_frozen BK673.out 3
                            go_wp2
                            go_meet
                            case rel => exact ⟨_, ((((rd_T42 t660 x11_2).f2) != 0)), (by first | rfl | (simp; done) | (simp [*]; done) | (simp [*, bne]; done)), H', ⟨by have := HJ8.out; have := HK2.out; first | omega | exact Nat.le_refl _⟩, ⟨by (with_reducible repeat (first | apply Kd.R_alloc | apply Kd.R_drewN | apply Kd.R_drew)); exact Kd.R_mono (Kd.R_far (p := ⟨gb673, 3, none⟩) (Kd.R_far (p := ⟨gb673, 2, none⟩) (Kd.R_far (p := ⟨gb673, 1, none⟩) (Kd.R_far (p := ⟨gb673, 0, none⟩) (Kd.R_mono HO_4.out (fun k_ hk => (⟨hk, hk.2⟩ : _ ∧ k_ ≠ gb673))) (fun _ hk => hk.2) (.int .i64 ((rd_T42 t660 x11_2).f0))) (fun _ hk => hk.2) (.string ((rd_T42 t660 x11_2).f1))) (fun _ hk => hk.2) (.int .i64 ((rd_T42 t660 x11_2).f2))) (fun _ hk => hk.2) (.int .i64 ((rd_T42 t660 x11_2).f3))) (fun _ hk => hk.1.2)⟩, ⟨by (with_reducible repeat (first | refine blk_drewN ?_ _ | refine blk_drew ?_ | refine blk_alloc ?_ _)); refine blk_put (cs := #[.int .i64 ((rd_T42 t660 x11_2).f0), .string ((rd_T42 t660 x11_2).f1), .int .i64 ((rd_T42 t660 x11_2).f2), .int .i64 0]) ?_ 3 _ rfl; (with_reducible repeat (first | refine blk_drewN ?_ _ | refine blk_drew ?_ | refine blk_alloc ?_ _)); refine blk_put (cs := #[.int .i64 ((rd_T42 t660 x11_2).f0), .string ((rd_T42 t660 x11_2).f1), .int .i64 0, .int .i64 0]) ?_ 2 _ rfl; (with_reducible repeat (first | refine blk_drewN ?_ _ | refine blk_drew ?_ | refine blk_alloc ?_ _)); refine blk_put (cs := #[.int .i64 ((rd_T42 t660 x11_2).f0), .string (⟨#[]⟩ : ByteArray), .int .i64 0, .int .i64 0]) ?_ 1 _ rfl; (with_reducible repeat (first | refine blk_drewN ?_ _ | refine blk_drew ?_ | refine blk_alloc ?_ _)); refine blk_put (cs := #[.int .i64 0, .string (⟨#[]⟩ : ByteArray), .int .i64 0, .int .i64 0]) ?_ 0 _ rfl; (with_reducible repeat (first | refine blk_drewN ?_ _ | refine blk_drew ?_ | refine blk_alloc ?_ _)); exact BK673.out⟩, ⟨by repeat (first | (with_reducible first | exact HB.out | apply below_alloc | apply pw_below_drewN | apply below_drew1 | refine below_set ?_ GE673.out) | exact HB.out)⟩⟩
                      · rw [if_neg c30] at H
                        have c30b0 : (((rd_T42 t660 x11_2).f3) == x10_2) = false := beq_eq_false_iff_ne.mpr c30
                        have c30b1 : (((rd_T42 t660 x11_2).f3) != x10_2) = true := bne_iff_ne.mpr c30
                        (first | rw [c30b0] | (simp only [i64_w, i32_w]; rw [c30b0]) | skip)
                        have H' := Aside0.mk H
                        clear H
                        have hcz36_0 : w28.cell? ⟨gb673, 0, none⟩ = some (.int .i64 0) := (blk_cell BK673.out 0).trans rfl
                        have hcz36_1 : w28.cell? ⟨gb673, 1, none⟩ = some (.string (⟨#[]⟩ : ByteArray)) := (blk_cell BK673.out 1).trans rfl
                        have hcz36_2 : w28.cell? ⟨gb673, 2, none⟩ = some (.int .i64 0) := (blk_cell BK673.out 2).trans rfl
                        have hcz36_3 : w28.cell? ⟨gb673, 3, none⟩ = some (.int .i64 0) := (blk_cell BK673.out 3).trans rfl
                        have hfz36_0 := blk_frozen BK673.out 0
                        have hfz36_1 := blk_frozen BK673.out 1
                        have hfz36_2 := blk_frozen BK673.out 2
                        have hfz36_3 := blk_frozen BK673.out 3
                        go_wp2
                        go_meet
                        case rel => exact ⟨_, (true), (by first | rfl | (simp; done) | (simp [*]; done) | (simp [*, bne]; done)), H', ⟨by have := HJ8.out; have := HK2.out; first | omega | exact Nat.le_refl _⟩, ⟨by (with_reducible repeat (first | apply Kd.R_alloc | apply Kd.R_drewN | apply Kd.R_drew)); exact Kd.R_mono (Kd.R_far (p := ⟨gb673, 3, none⟩) (Kd.R_far (p := ⟨gb673, 2, none⟩) (Kd.R_far (p := ⟨gb673, 1, none⟩) (Kd.R_far (p := ⟨gb673, 0, none⟩) (Kd.R_mono HO_4.out (fun k_ hk => (⟨hk, hk.2⟩ : _ ∧ k_ ≠ gb673))) (fun _ hk => hk.2) (.int .i64 ((rd_T42 t660 x11_2).f0))) (fun _ hk => hk.2) (.string ((rd_T42 t660 x11_2).f1))) (fun _ hk => hk.2) (.int .i64 ((rd_T42 t660 x11_2).f2))) (fun _ hk => hk.2) (.int .i64 ((rd_T42 t660 x11_2).f3))) (fun _ hk => hk.1.2)⟩, ⟨by (with_reducible repeat (first | refine blk_drewN ?_ _ | refine blk_drew ?_ | refine blk_alloc ?_ _)); refine blk_put (cs := #[.int .i64 ((rd_T42 t660 x11_2).f0), .string ((rd_T42 t660 x11_2).f1), .int .i64 ((rd_T42 t660 x11_2).f2), .int .i64 0]) ?_ 3 _ rfl; (with_reducible repeat (first | refine blk_drewN ?_ _ | refine blk_drew ?_ | refine blk_alloc ?_ _)); refine blk_put (cs := #[.int .i64 ((rd_T42 t660 x11_2).f0), .string ((rd_T42 t660 x11_2).f1), .int .i64 0, .int .i64 0]) ?_ 2 _ rfl; (with_reducible repeat (first | refine blk_drewN ?_ _ | refine blk_drew ?_ | refine blk_alloc ?_ _)); refine blk_put (cs := #[.int .i64 ((rd_T42 t660 x11_2).f0), .string (⟨#[]⟩ : ByteArray), .int .i64 0, .int .i64 0]) ?_ 1 _ rfl; (with_reducible repeat (first | refine blk_drewN ?_ _ | refine blk_drew ?_ | refine blk_alloc ?_ _)); refine blk_put (cs := #[.int .i64 0, .string (⟨#[]⟩ : ByteArray), .int .i64 0, .int .i64 0]) ?_ 0 _ rfl; (with_reducible repeat (first | refine blk_drewN ?_ _ | refine blk_drew ?_ | refine blk_alloc ?_ _)); exact BK673.out⟩, ⟨by repeat (first | (with_reducible first | exact HB.out | apply below_alloc | apply pw_below_drewN | apply below_drew1 | refine below_set ?_ GE673.out) | exact HB.out)⟩⟩
                    case rest =>
                      clear HC27
                      try clear c1
                      try clear c2
                      try clear p2
                      try clear c3
                      try clear c3b0
                      try clear c3b1
                      try clear c6
                      try clear c6b0
                      try clear c6b1
                      try clear p6
                      try clear q6
                      try clear hx6
                      try clear c11
                      try clear c15
                      try clear c15b0
                      try clear c15b1
                      try clear c16
                      try clear c16b0
                      try clear c16b1
                      try clear c17
                      try clear c17b0
                      try clear c17b1
                      try clear c19
                      try clear c24
                      try clear c25
                      try clear c25b0
                      try clear c26
                      try clear c26b0
                      try clear c30
                      try clear c30b0
                      try clear c30b1
                      try clear c31
                      try clear c31b0
                      try clear c31b1
                      try clear c31b2
                      try clear c33
                      try clear c33b0
                      try clear c33b1
                      try clear hcz29_0
                      try clear hcz29_1
                      try clear hcz29_2
                      try clear hcz29_3
                      try clear hcz32_0
                      try clear hcz32_1
                      try clear hcz32_2
                      try clear hcz32_3
                      try clear hcz34_0
                      try clear hcz34_1
                      try clear hcz34_2
                      try clear hcz34_3
                      try clear hcz35_0
                      try clear hcz35_1
                      try clear hcz35_2
                      try clear hcz35_3
                      try clear hcz36_0
                      try clear hcz36_1
                      try clear hcz36_2
                      try clear hcz36_3
                      try clear hfz29_0
                      try clear hfz29_1
                      try clear hfz29_2
                      try clear hfz29_3
                      try clear hfz32_0
                      try clear hfz32_1
                      try clear hfz32_2
                      try clear hfz32_3
                      try clear hfz34_0
                      try clear hfz34_1
                      try clear hfz34_2
                      try clear hfz34_3
                      try clear hfz35_0
                      try clear hfz35_1
                      try clear hfz35_2
                      try clear hfz35_3
                      try clear hfz36_0
                      try clear hfz36_1
                      try clear hfz36_2
                      try clear hfz36_3
                      try clear hx672_0
                      try clear hx672_1
                      try clear hx672_2
                      try clear hx672_3
                      try clear p2
                      try clear p672
                      try clear q672
                      obtain ⟨kq, x98_26, rfl, HA, HJ26, HO_4, BK673, HB⟩ := hcut
                      cases kq with
                      | zero => exact absurd HA.out (by simp [taquinlaw09_LexBack.j2])
                      | succ kj26 =>
                        have H := HA.out
                        clear HA
                        simp only [taquinlaw09_LexBack.j2] at H
                        by_cases c37 : x98_26 = true
                        · subst c37
                          have H1 : (some false) = some r := by rw [if_pos rfl] at H; exact H
                          clear H
                          have H := H1
                          clear H1
                          obtain rfl := Option.some.inj H
                          go_wp2
                          go_ret
                          exact ⟨by first | rfl | (simp [errW_none, errW_some] <;> rfl) | (simp [*, errW_none, errW_some] <;> rfl), by repeat (first | (with_reducible first | exact HB.out | apply below_alloc | apply pw_below_drewN | apply below_drew1 | refine below_set ?_ GE673.out) | exact HB.out)⟩
                        · replace c37 := Bool.eq_false_iff.mpr c37
                          subst c37
                          have H1 : (if ((rd_T42 t660 x11_2).f0) = 0 then ((lex_Word.f ((rd_T42 t660 x11_2).f1)).bind fun t674 => (if t674 = true then (taquinlaw09_LexBack.l0 kj26 t659 t660 x10_2 (wrap64 (x11_2 + 1))) else (some false))) else (if ((rd_T42 t660 x11_2).f0) = 1 then (if ((rd_T42 t660 x11_2).f2) < 0 then (some false) else ((text_Decimal.f ((rd_T42 t660 x11_2).f2)).bind fun t675 => (if t675.toList = ((rd_T42 t660 x11_2).f1).toList then (taquinlaw09_LexBack.l0 kj26 t659 t660 x10_2 (wrap64 (x11_2 + 1))) else (some false)))) else (if ((rd_T42 t660 x11_2).f0) = 3 then (taquinlaw09_LexBack.l0 kj26 t659 t660 (wrap64 (x10_2 + 1)) (wrap64 (x11_2 + 1))) else (taquinlaw09_LexBack.l0 kj26 t659 t660 x10_2 (wrap64 (x11_2 + 1)))))) = some r := by rw [if_neg (show ¬ (false = true) by decide)] at H; exact H
                          clear H
                          have H := H1
                          clear H1
                          by_cases c38 : ((rd_T42 t660 x11_2).f0) = 0
                          · rw [if_pos c38] at H
                            have c38b0 : (((rd_T42 t660 x11_2).f0) == 0) = true := beq_iff_eq.mpr c38
                            have c38b1 : (((rd_T42 t660 x11_2).f0) != 0) = false := bne_eq_false_iff_eq.mpr c38
                            clear c38
                            replace H := Option.bind_eq_some_iff.mp H
                            obtain ⟨t674, A390, H⟩ := H
                            replace H : (if t674 = true then (taquinlaw09_LexBack.l0 kj26 t659 t660 x10_2 (wrap64 (x11_2 + 1))) else (some false)) = some r := H
                            have A39 := Aside0.mk A390
                            clear A390
                            by_cases c40 : t674 = true
                            · subst c40
                              have H1 : (taquinlaw09_LexBack.l0 kj26 t659 t660 x10_2 (wrap64 (x11_2 + 1))) = some r := by rw [if_pos rfl] at H; exact H
                              clear H
                              have H := H1
                              clear H1
                              have H' := Aside0.mk H
                              clear H
                              have hcz41_0 : wc.cell? ⟨gb673, 0, none⟩ = some (.int .i64 ((rd_T42 t660 x11_2).f0)) := (blk_cell BK673.out 0).trans rfl
                              have hcz41_1 : wc.cell? ⟨gb673, 1, none⟩ = some (.string ((rd_T42 t660 x11_2).f1)) := (blk_cell BK673.out 1).trans rfl
                              have hcz41_2 : wc.cell? ⟨gb673, 2, none⟩ = some (.int .i64 ((rd_T42 t660 x11_2).f2)) := (blk_cell BK673.out 2).trans rfl
                              have hcz41_3 : wc.cell? ⟨gb673, 3, none⟩ = some (.int .i64 ((rd_T42 t660 x11_2).f3)) := (blk_cell BK673.out 3).trans rfl
                              have hfz41_0 := blk_frozen BK673.out 0
                              have hfz41_1 := blk_frozen BK673.out 1
                              have hfz41_2 := blk_frozen BK673.out 2
                              have hfz41_3 := blk_frozen BK673.out 3
                              go_wp2_with (first | ((with_reducible refine gate_callee (f := 27) rfl ?_); refine goesL_ (some 105) rfl rfl Tryd.func27 (by kernel_rfl) rfl #[.string ((rd_T42 t660 x11_2).f1)] rfl (by (try simp only [List.map_toArray, List.map_cons, List.map_nil]); first | done | rfl | (simp only [List.length_drop, List.length_take]; rfl)) ?_; (with_reducible refine (lex_Word.calls ((rd_T42 t660 x11_2).f1) true _ A39.out).mono ?_); rintro e w' ⟨rfl, ⟨nd, rfl⟩⟩; refine ⟨_, rfl, ?_⟩))
                              go_roundg kj26
                              case measure => have := HJ8.out; have := HK2.out; have := HJ26.out; omega
                              case rel => exact ⟨(x10_2), (wrap64 (x11_2 + 1)), (by first | rfl | (simp; done) | (simp [*]; done) | (simp [*, bne]; done)), (by first | rfl | (simp; done) | (simp [*]; done) | (simp [*, bne]; done)), H', ⟨by have := HJ8.out; have := HK2.out; have := HJ26.out; omega⟩, ⟨by (with_reducible repeat (first | apply Kd.R_alloc | apply Kd.R_drewN | apply Kd.R_drew)); exact Kd.R_mono HO_4.out (fun _ hk => trivial)⟩, ⟨by repeat (first | (with_reducible first | exact HB.out | apply below_alloc | apply pw_below_drewN | apply below_drew1 | refine below_set ?_ GE673.out) | exact HB.out)⟩⟩
                            · replace c40 := Bool.eq_false_iff.mpr c40
                              subst c40
                              have H1 : (some false) = some r := by rw [if_neg (show ¬ (false = true) by decide)] at H; exact H
                              clear H
                              have H := H1
                              clear H1
                              obtain rfl := Option.some.inj H
                              have hcz42_0 : wc.cell? ⟨gb673, 0, none⟩ = some (.int .i64 ((rd_T42 t660 x11_2).f0)) := (blk_cell BK673.out 0).trans rfl
                              have hcz42_1 : wc.cell? ⟨gb673, 1, none⟩ = some (.string ((rd_T42 t660 x11_2).f1)) := (blk_cell BK673.out 1).trans rfl
                              have hcz42_2 : wc.cell? ⟨gb673, 2, none⟩ = some (.int .i64 ((rd_T42 t660 x11_2).f2)) := (blk_cell BK673.out 2).trans rfl
                              have hcz42_3 : wc.cell? ⟨gb673, 3, none⟩ = some (.int .i64 ((rd_T42 t660 x11_2).f3)) := (blk_cell BK673.out 3).trans rfl
                              have hfz42_0 := blk_frozen BK673.out 0
                              have hfz42_1 := blk_frozen BK673.out 1
                              have hfz42_2 := blk_frozen BK673.out 2
                              have hfz42_3 := blk_frozen BK673.out 3
                              go_wp2_with (first | ((with_reducible refine gate_callee (f := 27) rfl ?_); refine goesL_ (some 105) rfl rfl Tryd.func27 (by kernel_rfl) rfl #[.string ((rd_T42 t660 x11_2).f1)] rfl (by (try simp only [List.map_toArray, List.map_cons, List.map_nil]); first | done | rfl | (simp only [List.length_drop, List.length_take]; rfl)) ?_; (with_reducible refine (lex_Word.calls ((rd_T42 t660 x11_2).f1) false _ A39.out).mono ?_); rintro e w' ⟨rfl, ⟨nd, rfl⟩⟩; refine ⟨_, rfl, ?_⟩))
                              go_ret
                              exact ⟨by first | rfl | (simp [errW_none, errW_some] <;> rfl) | (simp [*, errW_none, errW_some] <;> rfl), by repeat (first | (with_reducible first | exact HB.out | apply below_alloc | apply pw_below_drewN | apply below_drew1 | refine below_set ?_ GE673.out) | exact HB.out)⟩
                          · rw [if_neg c38] at H
                            have c38b0 : (((rd_T42 t660 x11_2).f0) == 0) = false := beq_eq_false_iff_ne.mpr c38
                            have c38b1 : (((rd_T42 t660 x11_2).f0) != 0) = true := bne_iff_ne.mpr c38
                            by_cases c43 : ((rd_T42 t660 x11_2).f0) = 1
                            · rw [if_pos c43] at H
                              have c43b0 : (((rd_T42 t660 x11_2).f0) == 1) = true := beq_iff_eq.mpr c43
                              have c43b1 : (((rd_T42 t660 x11_2).f0) != 1) = false := bne_eq_false_iff_eq.mpr c43
                              clear c43
                              by_cases c44 : ((rd_T42 t660 x11_2).f2) < 0
                              · rw [if_pos c44] at H
                                have c44b0 : decide (((rd_T42 t660 x11_2).f2) < 0) = true := decide_eq_true c44
                                clear c44
                                obtain rfl := Option.some.inj H
                                have hcz45_0 : wc.cell? ⟨gb673, 0, none⟩ = some (.int .i64 ((rd_T42 t660 x11_2).f0)) := (blk_cell BK673.out 0).trans rfl
                                have hcz45_1 : wc.cell? ⟨gb673, 1, none⟩ = some (.string ((rd_T42 t660 x11_2).f1)) := (blk_cell BK673.out 1).trans rfl
                                have hcz45_2 : wc.cell? ⟨gb673, 2, none⟩ = some (.int .i64 ((rd_T42 t660 x11_2).f2)) := (blk_cell BK673.out 2).trans rfl
                                have hcz45_3 : wc.cell? ⟨gb673, 3, none⟩ = some (.int .i64 ((rd_T42 t660 x11_2).f3)) := (blk_cell BK673.out 3).trans rfl
                                have hfz45_0 := blk_frozen BK673.out 0
                                have hfz45_1 := blk_frozen BK673.out 1
                                have hfz45_2 := blk_frozen BK673.out 2
                                have hfz45_3 := blk_frozen BK673.out 3
                                try go_wp2
                                have n0_ := Aside0.mk (Kd.R_drew HO_4.out)
                                have n1_ := Aside0.mk (blk_drew BK673.out)
                                have n2_ := Aside0.mk (below_drew1 HB.out)
                                clear HO_4
                                clear BK673
                                clear HB
                                have HO_4 := n0_
                                have BK673 := n1_
                                have HB := n2_
                                clear n0_ n1_ n2_
                                refine start_ (n := 11) (S := fun w' => w'.cell? ⟨gb673, 0, none⟩ = some (.int .i64 ((rd_T42 t660 x11_2).f0)) ∧ w'.cell? ⟨gb673, 1, none⟩ = some (.string ((rd_T42 t660 x11_2).f1)) ∧ w'.cell? ⟨gb673, 2, none⟩ = some (.int .i64 ((rd_T42 t660 x11_2).f2)) ∧ w'.cell? ⟨gb673, 3, none⟩ = some (.int .i64 ((rd_T42 t660 x11_2).f3))) (ds := []) #[false, false, false, false, false, false, false, false, false, false, false] (by kernel_rfl) rfl rfl ⟨(blk_cell BK673.out 0).trans rfl, (blk_cell BK673.out 1).trans rfl, (blk_cell BK673.out 2).trans rfl, (blk_cell BK673.out 3).trans rfl⟩ (fun hHeld => ?_); refine with_tabW taquinlaw09_LexBack.tab22 taquinlaw09_LexBack.bits22 (fun HT_ HW_ => ?_)
                                generalize wc.drew = w46 at HO_4 BK673 HB hHeld ⊢
                                refine pure_ (i := 0) (N := some 109) (v := ?_) (a' := ?_) #[true, false, false, false, false, false, false, false, false, false, false] rfl rfl (any_of HT_.out (by kernel_rfl)) (fun _ _ _ h => h) (Or.inl ⟨by rfl, ?_⟩) ?_ ?_
                                rotate_left
                                · intro w'
                                  go_simp
                                  with_reducible rfl
                                rotate_left
                                · simp only [Act.put, List.setIfInBounds_toArray, List.set_cons_zero, List.set_cons_succ, i64_w, i32_w]
                                  rfl
                                refine take_ (i := 1) (N := some 110) (v := ?_) (a' := ?_) #[true, true, false, false, false, false, false, false, false, false, false] rfl rfl (take_ofW HT_.out HW_.out (by kernel_rfl)) (fun _ _ _ h => h) (Or.inl ⟨by rfl, ?_⟩) hHeld ?_ ?_
                                rotate_left
                                · rintro w' ⟨s0, s1, s2, s3⟩
                                  go_simp
                                  with_reducible rfl
                                rotate_left
                                · simp only [Act.put, List.setIfInBounds_toArray, List.set_cons_zero, List.set_cons_succ, i64_w, i32_w]
                                  rfl
                                refine pure_ (i := 2) (N := some 111) (v := ?_) (a' := ?_) #[true, true, true, false, false, false, false, false, false, false, false] rfl rfl (any_of HT_.out (by kernel_rfl)) (fun _ _ _ h => h) (Or.inl ⟨by rfl, ?_⟩) ?_ ?_
                                rotate_left
                                · intro w'
                                  go_simp
                                  with_reducible rfl
                                rotate_left
                                · simp only [Act.put, List.setIfInBounds_toArray, List.set_cons_zero, List.set_cons_succ, i64_w, i32_w]
                                  rfl
                                refine pure_ (i := 3) (N := some 112) (v := ?_) (a' := ?_) #[true, true, true, true, false, false, false, false, false, false, false] rfl rfl (any_of HT_.out (by kernel_rfl)) (fun _ _ _ h => h) (Or.inl ⟨by rfl, ?_⟩) ?_ ?_
                                rotate_left
                                · intro w'
                                  go_simp
                                  with_reducible rfl
                                rotate_left
                                · simp only [Act.put, List.setIfInBounds_toArray, List.set_cons_zero, List.set_cons_succ, i64_w, i32_w]
                                  rfl
                                refine pure_ (i := 4) (N := some 113) (v := undef) (a' := ?_) #[true, true, true, true, true, false, false, false, false, false, false] rfl rfl (any_of HT_.out (by kernel_rfl)) (fun _ _ _ h => h) (Or.inr ⟨by rfl, rfl⟩) ?_ ?_
                                rotate_left
                                · simp only [Act.put, List.setIfInBounds_toArray, List.set_cons_zero, List.set_cons_succ, i64_w, i32_w]
                                  rfl
                                refine pure_ (i := 5) (N := some 114) (v := undef) (a' := ?_) #[true, true, true, true, true, true, false, false, false, false, false] rfl rfl (any_of HT_.out (by kernel_rfl)) (fun _ _ _ h => h) (Or.inr ⟨by rfl, rfl⟩) ?_ ?_
                                rotate_left
                                · simp only [Act.put, List.setIfInBounds_toArray, List.set_cons_zero, List.set_cons_succ, i64_w, i32_w]
                                  rfl
                                refine pure_ (i := 6) (N := some 115) (v := undef) (a' := ?_) #[true, true, true, true, true, true, true, false, false, false, false] rfl rfl (any_of HT_.out (by kernel_rfl)) (fun _ _ _ h => h) (Or.inr ⟨by rfl, rfl⟩) ?_ ?_
                                rotate_left
                                · simp only [Act.put, List.setIfInBounds_toArray, List.set_cons_zero, List.set_cons_succ, i64_w, i32_w]
                                  rfl
                                refine pure_ (i := 7) (N := some 116) (v := undef) (a' := ?_) #[true, true, true, true, true, true, true, true, false, false, false] rfl rfl (any_of HT_.out (by kernel_rfl)) (fun _ _ _ h => h) (Or.inr ⟨by rfl, rfl⟩) ?_ ?_
                                rotate_left
                                · simp only [Act.put, List.setIfInBounds_toArray, List.set_cons_zero, List.set_cons_succ, i64_w, i32_w]
                                  rfl
                                refine pure_ (i := 8) (N := some 117) (v := undef) (a' := ?_) #[true, true, true, true, true, true, true, true, true, false, false] rfl rfl (any_of HT_.out (by kernel_rfl)) (fun _ _ _ h => h) (Or.inr ⟨by rfl, rfl⟩) ?_ ?_
                                rotate_left
                                · simp only [Act.put, List.setIfInBounds_toArray, List.set_cons_zero, List.set_cons_succ, i64_w, i32_w]
                                  rfl
                                refine pure_ (i := 9) (N := some 118) (v := undef) (a' := ?_) #[true, true, true, true, true, true, true, true, true, true, false] rfl rfl (any_of HT_.out (by kernel_rfl)) (fun _ _ _ h => h) (Or.inr ⟨by rfl, rfl⟩) ?_ ?_
                                rotate_left
                                · simp only [Act.put, List.setIfInBounds_toArray, List.set_cons_zero, List.set_cons_succ, i64_w, i32_w]
                                  rfl
                                refine pure_ (i := 10) (N := some 119) (v := ?_) (a' := ?_) #[true, true, true, true, true, true, true, true, true, true, true] rfl rfl (any_of HT_.out (by kernel_rfl)) (fun _ _ _ h => h) (Or.inl ⟨by rfl, ?_⟩) ?_ ?_
                                rotate_left
                                · intro w'
                                  go_simp
                                  with_reducible rfl
                                rotate_left
                                · simp only [Act.put, List.setIfInBounds_toArray, List.set_cons_zero, List.set_cons_succ, i64_w, i32_w]
                                  rfl
                                refine done_ (done_of HT_.out (by kernel_rfl)) ?_
                                try go_wp2
                                go_ret
                                exact ⟨by first | rfl | (simp [errW_none, errW_some] <;> rfl) | (simp [*, errW_none, errW_some] <;> rfl), by repeat (first | (with_reducible first | exact HB.out | apply below_alloc | apply pw_below_drewN | apply below_drew1 | refine below_set ?_ GE673.out) | exact HB.out)⟩
                              · rw [if_neg c44] at H
                                have c44b0 : decide (((rd_T42 t660 x11_2).f2) < 0) = false := decide_eq_false c44
                                clear c44
                                replace H := Option.bind_eq_some_iff.mp H
                                obtain ⟨t675, A470, H⟩ := H
                                replace H : (if t675.toList = ((rd_T42 t660 x11_2).f1).toList then (taquinlaw09_LexBack.l0 kj26 t659 t660 x10_2 (wrap64 (x11_2 + 1))) else (some false)) = some r := H
                                have A47 := Aside0.mk A470
                                clear A470
                                by_cases c48 : t675.toList = ((rd_T42 t660 x11_2).f1).toList
                                · rw [if_pos c48] at H
                                  have c48b0 : (t675.toList == ((rd_T42 t660 x11_2).f1).toList) = true := beq_iff_eq.mpr c48
                                  have c48b1 : (t675.toList != ((rd_T42 t660 x11_2).f1).toList) = false := bne_eq_false_iff_eq.mpr c48
                                  clear c48
                                  have H' := Aside0.mk H
                                  clear H
                                  have hcz49_0 : wc.cell? ⟨gb673, 0, none⟩ = some (.int .i64 ((rd_T42 t660 x11_2).f0)) := (blk_cell BK673.out 0).trans rfl
                                  have hcz49_1 : wc.cell? ⟨gb673, 1, none⟩ = some (.string ((rd_T42 t660 x11_2).f1)) := (blk_cell BK673.out 1).trans rfl
                                  have hcz49_2 : wc.cell? ⟨gb673, 2, none⟩ = some (.int .i64 ((rd_T42 t660 x11_2).f2)) := (blk_cell BK673.out 2).trans rfl
                                  have hcz49_3 : wc.cell? ⟨gb673, 3, none⟩ = some (.int .i64 ((rd_T42 t660 x11_2).f3)) := (blk_cell BK673.out 3).trans rfl
                                  have hfz49_0 := blk_frozen BK673.out 0
                                  have hfz49_1 := blk_frozen BK673.out 1
                                  have hfz49_2 := blk_frozen BK673.out 2
                                  have hfz49_3 := blk_frozen BK673.out 3
                                  try go_wp2
                                  have n0_ := Aside0.mk (Kd.R_drew HO_4.out)
                                  have n1_ := Aside0.mk (blk_drew BK673.out)
                                  have n2_ := Aside0.mk (below_drew1 HB.out)
                                  clear HO_4
                                  clear BK673
                                  clear HB
                                  have HO_4 := n0_
                                  have BK673 := n1_
                                  have HB := n2_
                                  clear n0_ n1_ n2_
                                  refine start_ (n := 11) (S := fun w' => w'.cell? ⟨gb673, 0, none⟩ = some (.int .i64 ((rd_T42 t660 x11_2).f0)) ∧ w'.cell? ⟨gb673, 1, none⟩ = some (.string ((rd_T42 t660 x11_2).f1)) ∧ w'.cell? ⟨gb673, 2, none⟩ = some (.int .i64 ((rd_T42 t660 x11_2).f2)) ∧ w'.cell? ⟨gb673, 3, none⟩ = some (.int .i64 ((rd_T42 t660 x11_2).f3))) (ds := []) #[false, false, false, false, false, false, false, false, false, false, false] (by kernel_rfl) rfl rfl ⟨(blk_cell BK673.out 0).trans rfl, (blk_cell BK673.out 1).trans rfl, (blk_cell BK673.out 2).trans rfl, (blk_cell BK673.out 3).trans rfl⟩ (fun hHeld => ?_); refine with_tabW taquinlaw09_LexBack.tab22 taquinlaw09_LexBack.bits22 (fun HT_ HW_ => ?_)
                                  generalize wc.drew = w50 at HO_4 BK673 HB hHeld ⊢
                                  refine pure_ (i := 0) (N := some 109) (v := ?_) (a' := ?_) #[true, false, false, false, false, false, false, false, false, false, false] rfl rfl (any_of HT_.out (by kernel_rfl)) (fun _ _ _ h => h) (Or.inl ⟨by rfl, ?_⟩) ?_ ?_
                                  rotate_left
                                  · intro w'
                                    go_simp
                                    with_reducible rfl
                                  rotate_left
                                  · simp only [Act.put, List.setIfInBounds_toArray, List.set_cons_zero, List.set_cons_succ, i64_w, i32_w]
                                    rfl
                                  refine take_ (i := 1) (N := some 110) (v := ?_) (a' := ?_) #[true, true, false, false, false, false, false, false, false, false, false] rfl rfl (take_ofW HT_.out HW_.out (by kernel_rfl)) (fun _ _ _ h => h) (Or.inl ⟨by rfl, ?_⟩) hHeld ?_ ?_
                                  rotate_left
                                  · rintro w' ⟨s0, s1, s2, s3⟩
                                    go_simp
                                    with_reducible rfl
                                  rotate_left
                                  · simp only [Act.put, List.setIfInBounds_toArray, List.set_cons_zero, List.set_cons_succ, i64_w, i32_w]
                                    rfl
                                  refine pure_ (i := 2) (N := some 111) (v := ?_) (a' := ?_) #[true, true, true, false, false, false, false, false, false, false, false] rfl rfl (any_of HT_.out (by kernel_rfl)) (fun _ _ _ h => h) (Or.inl ⟨by rfl, ?_⟩) ?_ ?_
                                  rotate_left
                                  · intro w'
                                    go_simp
                                    with_reducible rfl
                                  rotate_left
                                  · simp only [Act.put, List.setIfInBounds_toArray, List.set_cons_zero, List.set_cons_succ, i64_w, i32_w]
                                    rfl
                                  refine pure_ (i := 3) (N := some 112) (v := ?_) (a' := ?_) #[true, true, true, true, false, false, false, false, false, false, false] rfl rfl (any_of HT_.out (by kernel_rfl)) (fun _ _ _ h => h) (Or.inl ⟨by rfl, ?_⟩) ?_ ?_
                                  rotate_left
                                  · intro w'
                                    go_simp
                                    with_reducible rfl
                                  rotate_left
                                  · simp only [Act.put, List.setIfInBounds_toArray, List.set_cons_zero, List.set_cons_succ, i64_w, i32_w]
                                    rfl
                                  refine pure_ (i := 4) (N := some 113) (v := ?_) (a' := ?_) #[true, true, true, true, true, false, false, false, false, false, false] rfl rfl (any_of HT_.out (by kernel_rfl)) (fun _ _ _ h => h) (Or.inl ⟨by rfl, ?_⟩) ?_ ?_
                                  rotate_left
                                  · intro w'
                                    go_simp
                                    with_reducible rfl
                                  rotate_left
                                  · simp only [Act.put, List.setIfInBounds_toArray, List.set_cons_zero, List.set_cons_succ, i64_w, i32_w]
                                    rfl
                                  refine pure_ (i := 7) (N := some 116) (v := ?_) (a' := ?_) #[true, true, true, true, true, false, false, true, false, false, false] rfl rfl (any_of HT_.out (by kernel_rfl)) (fun _ _ _ h => h) (Or.inl ⟨by rfl, ?_⟩) ?_ ?_
                                  rotate_left
                                  · intro w'
                                    go_simp
                                    with_reducible rfl
                                  rotate_left
                                  · simp only [Act.put, List.setIfInBounds_toArray, List.set_cons_zero, List.set_cons_succ, i64_w, i32_w]
                                    rfl
                                  refine take_ (i := 5) (N := some 114) (v := ?_) (a' := ?_) #[true, true, true, true, true, true, false, true, false, false, false] rfl rfl (take_ofW HT_.out HW_.out (by kernel_rfl)) (fun _ _ _ h => h) (Or.inl ⟨by rfl, ?_⟩) hHeld ?_ ?_
                                  rotate_left
                                  · rintro w' ⟨s0, s1, s2, s3⟩
                                    go_simp
                                    with_reducible rfl
                                  rotate_left
                                  · simp only [Act.put, List.setIfInBounds_toArray, List.set_cons_zero, List.set_cons_succ, i64_w, i32_w]
                                    rfl
                                  refine take_ (i := 8) (N := some 117) (v := ?_) (a' := ?_) #[true, true, true, true, true, true, false, true, true, false, false] rfl rfl (take_ofW HT_.out HW_.out (by kernel_rfl)) (fun _ _ _ h => h) (Or.inl ⟨by rfl, ?_⟩) hHeld ?_ ?_
                                  rotate_left
                                  · rintro w' ⟨s0, s1, s2, s3⟩
                                    go_simp
                                    with_reducible rfl
                                  rotate_left
                                  · simp only [Act.put, List.setIfInBounds_toArray, List.set_cons_zero, List.set_cons_succ, i64_w, i32_w]
                                    rfl
                                  refine one_ (i := 6) (N := some 115) #[true, true, true, true, true, true, true, true, true, false, false] rfl rfl (one_of HT_.out (by kernel_rfl)) (by decide) (fun K hK => ?_)
                                  refine goes_ Tryd.func21 (by kernel_rfl) rfl #[.int .i64 ((rd_T42 t660 x11_2).f2)] (by rfl) rfl rfl (by (try simp only [List.map_toArray, List.map_cons, List.map_nil]); first | done | rfl | (simp only [List.length_drop, List.length_take]; rfl)) ?_
                                  with_reducible refine (text_Decimal.calls ((rd_T42 t660 x11_2).f2) t675 _ A47.out (LaidP.below hLd (by repeat (first | (with_reducible first | exact HB.out | apply below_alloc | apply pw_below_drewN | apply below_drew1) | exact HB.out)))).mono ?_
                                  rintro e w51 ⟨rfl, hb⟩
                                  refine ⟨_, rfl, ?_⟩
                                  have n0_ := Aside0.mk (Kd.R_below (by (with_reducible repeat (first | apply Kd.R_alloc | apply Kd.R_drewN | apply Kd.R_drew)); exact HO_4.out) hb)
                                  have n1_ := Aside0.mk (blk_below (g := gb673) (o := .cells #[.int .i64 ((rd_T42 t660 x11_2).f0), .string ((rd_T42 t660 x11_2).f1), .int .i64 ((rd_T42 t660 x11_2).f2), .int .i64 ((rd_T42 t660 x11_2).f3)] 42 (0, 0)) (by (with_reducible repeat (first | refine blk_drewN ?_ _ | refine blk_drew ?_ | refine blk_alloc ?_ _)); exact BK673.out) hb)
                                  have n2_ := Aside0.mk (below_step (by repeat (first | (with_reducible first | exact HB.out | apply below_alloc | apply pw_below_drewN | apply below_drew1 | refine below_set ?_ GE673.out) | exact HB.out)) hb)
                                  clear HO_4
                                  clear BK673
                                  clear HB
                                  have HO_4 := n0_
                                  have BK673 := n1_
                                  have HB := n2_
                                  clear n0_ n1_ n2_
                                  (try clear hb)
                                  (try clear hb2)
                                  (try clear hk)
                                  (try clear hi)
                                  refine hK.out _ _ ⟨(blk_cell BK673.out 0).trans rfl, (blk_cell BK673.out 1).trans rfl, (blk_cell BK673.out 2).trans rfl, (blk_cell BK673.out 3).trans rfl⟩ (fun hHeld => ?_)
                                  clear hK K
                                  refine norm_ (a' := ?_) ?_ ?_
                                  rotate_left
                                  · show Act.put _ (some 115) _ = _
                                    simp only [Act.put, List.setIfInBounds_toArray, List.set_cons_zero, List.set_cons_succ, i64_w, i32_w]
                                    rfl
                                  refine pure_ (i := 9) (N := some 118) (v := ?_) (a' := ?_) #[true, true, true, true, true, true, true, true, true, true, false] rfl rfl (any_of HT_.out (by kernel_rfl)) (fun _ _ _ h => h) (Or.inl ⟨by rfl, ?_⟩) ?_ ?_
                                  rotate_left
                                  · intro w'
                                    go_simp
                                    with_reducible rfl
                                  rotate_left
                                  · simp only [Act.put, List.setIfInBounds_toArray, List.set_cons_zero, List.set_cons_succ, i64_w, i32_w]
                                    rfl
                                  refine pure_ (i := 10) (N := some 119) (v := ?_) (a' := ?_) #[true, true, true, true, true, true, true, true, true, true, true] rfl rfl (any_of HT_.out (by kernel_rfl)) (fun _ _ _ h => h) (Or.inl ⟨by rfl, ?_⟩) ?_ ?_
                                  rotate_left
                                  · intro w'
                                    go_simp
                                    with_reducible rfl
                                  rotate_left
                                  · simp only [Act.put, List.setIfInBounds_toArray, List.set_cons_zero, List.set_cons_succ, i64_w, i32_w]
                                    rfl
                                  refine done_ (done_of HT_.out (by kernel_rfl)) ?_
                                  try go_wp2
                                  go_roundg kj26
                                  case measure => have := HJ8.out; have := HK2.out; have := HJ26.out; omega
                                  case rel => exact ⟨(x10_2), (wrap64 (x11_2 + 1)), (by first | rfl | (simp; done) | (simp [*]; done) | (simp [*, bne]; done)), (by first | rfl | (simp; done) | (simp [*]; done) | (simp [*, bne]; done)), H', ⟨by have := HJ8.out; have := HK2.out; have := HJ26.out; omega⟩, ⟨by (with_reducible repeat (first | apply Kd.R_alloc | apply Kd.R_drewN | apply Kd.R_drew)); exact Kd.R_mono HO_4.out (fun _ hk => trivial)⟩, ⟨by repeat (first | (with_reducible first | exact HB.out | apply below_alloc | apply pw_below_drewN | apply below_drew1 | refine below_set ?_ GE673.out) | exact HB.out)⟩⟩
                                · rw [if_neg c48] at H
                                  have c48b0 : (t675.toList == ((rd_T42 t660 x11_2).f1).toList) = false := beq_eq_false_iff_ne.mpr c48
                                  have c48b1 : (t675.toList != ((rd_T42 t660 x11_2).f1).toList) = true := bne_iff_ne.mpr c48
                                  obtain rfl := Option.some.inj H
                                  have hcz52_0 : wc.cell? ⟨gb673, 0, none⟩ = some (.int .i64 ((rd_T42 t660 x11_2).f0)) := (blk_cell BK673.out 0).trans rfl
                                  have hcz52_1 : wc.cell? ⟨gb673, 1, none⟩ = some (.string ((rd_T42 t660 x11_2).f1)) := (blk_cell BK673.out 1).trans rfl
                                  have hcz52_2 : wc.cell? ⟨gb673, 2, none⟩ = some (.int .i64 ((rd_T42 t660 x11_2).f2)) := (blk_cell BK673.out 2).trans rfl
                                  have hcz52_3 : wc.cell? ⟨gb673, 3, none⟩ = some (.int .i64 ((rd_T42 t660 x11_2).f3)) := (blk_cell BK673.out 3).trans rfl
                                  have hfz52_0 := blk_frozen BK673.out 0
                                  have hfz52_1 := blk_frozen BK673.out 1
                                  have hfz52_2 := blk_frozen BK673.out 2
                                  have hfz52_3 := blk_frozen BK673.out 3
                                  try go_wp2
                                  have n0_ := Aside0.mk (Kd.R_drew HO_4.out)
                                  have n1_ := Aside0.mk (blk_drew BK673.out)
                                  have n2_ := Aside0.mk (below_drew1 HB.out)
                                  clear HO_4
                                  clear BK673
                                  clear HB
                                  have HO_4 := n0_
                                  have BK673 := n1_
                                  have HB := n2_
                                  clear n0_ n1_ n2_
                                  refine start_ (n := 11) (S := fun w' => w'.cell? ⟨gb673, 0, none⟩ = some (.int .i64 ((rd_T42 t660 x11_2).f0)) ∧ w'.cell? ⟨gb673, 1, none⟩ = some (.string ((rd_T42 t660 x11_2).f1)) ∧ w'.cell? ⟨gb673, 2, none⟩ = some (.int .i64 ((rd_T42 t660 x11_2).f2)) ∧ w'.cell? ⟨gb673, 3, none⟩ = some (.int .i64 ((rd_T42 t660 x11_2).f3))) (ds := []) #[false, false, false, false, false, false, false, false, false, false, false] (by kernel_rfl) rfl rfl ⟨(blk_cell BK673.out 0).trans rfl, (blk_cell BK673.out 1).trans rfl, (blk_cell BK673.out 2).trans rfl, (blk_cell BK673.out 3).trans rfl⟩ (fun hHeld => ?_); refine with_tabW taquinlaw09_LexBack.tab22 taquinlaw09_LexBack.bits22 (fun HT_ HW_ => ?_)
                                  generalize wc.drew = w53 at HO_4 BK673 HB hHeld ⊢
                                  refine pure_ (i := 0) (N := some 109) (v := ?_) (a' := ?_) #[true, false, false, false, false, false, false, false, false, false, false] rfl rfl (any_of HT_.out (by kernel_rfl)) (fun _ _ _ h => h) (Or.inl ⟨by rfl, ?_⟩) ?_ ?_
                                  rotate_left
                                  · intro w'
                                    go_simp
                                    with_reducible rfl
                                  rotate_left
                                  · simp only [Act.put, List.setIfInBounds_toArray, List.set_cons_zero, List.set_cons_succ, i64_w, i32_w]
                                    rfl
                                  refine take_ (i := 1) (N := some 110) (v := ?_) (a' := ?_) #[true, true, false, false, false, false, false, false, false, false, false] rfl rfl (take_ofW HT_.out HW_.out (by kernel_rfl)) (fun _ _ _ h => h) (Or.inl ⟨by rfl, ?_⟩) hHeld ?_ ?_
                                  rotate_left
                                  · rintro w' ⟨s0, s1, s2, s3⟩
                                    go_simp
                                    with_reducible rfl
                                  rotate_left
                                  · simp only [Act.put, List.setIfInBounds_toArray, List.set_cons_zero, List.set_cons_succ, i64_w, i32_w]
                                    rfl
                                  refine pure_ (i := 2) (N := some 111) (v := ?_) (a' := ?_) #[true, true, true, false, false, false, false, false, false, false, false] rfl rfl (any_of HT_.out (by kernel_rfl)) (fun _ _ _ h => h) (Or.inl ⟨by rfl, ?_⟩) ?_ ?_
                                  rotate_left
                                  · intro w'
                                    go_simp
                                    with_reducible rfl
                                  rotate_left
                                  · simp only [Act.put, List.setIfInBounds_toArray, List.set_cons_zero, List.set_cons_succ, i64_w, i32_w]
                                    rfl
                                  refine pure_ (i := 3) (N := some 112) (v := ?_) (a' := ?_) #[true, true, true, true, false, false, false, false, false, false, false] rfl rfl (any_of HT_.out (by kernel_rfl)) (fun _ _ _ h => h) (Or.inl ⟨by rfl, ?_⟩) ?_ ?_
                                  rotate_left
                                  · intro w'
                                    go_simp
                                    with_reducible rfl
                                  rotate_left
                                  · simp only [Act.put, List.setIfInBounds_toArray, List.set_cons_zero, List.set_cons_succ, i64_w, i32_w]
                                    rfl
                                  refine pure_ (i := 4) (N := some 113) (v := ?_) (a' := ?_) #[true, true, true, true, true, false, false, false, false, false, false] rfl rfl (any_of HT_.out (by kernel_rfl)) (fun _ _ _ h => h) (Or.inl ⟨by rfl, ?_⟩) ?_ ?_
                                  rotate_left
                                  · intro w'
                                    go_simp
                                    with_reducible rfl
                                  rotate_left
                                  · simp only [Act.put, List.setIfInBounds_toArray, List.set_cons_zero, List.set_cons_succ, i64_w, i32_w]
                                    rfl
                                  refine pure_ (i := 7) (N := some 116) (v := ?_) (a' := ?_) #[true, true, true, true, true, false, false, true, false, false, false] rfl rfl (any_of HT_.out (by kernel_rfl)) (fun _ _ _ h => h) (Or.inl ⟨by rfl, ?_⟩) ?_ ?_
                                  rotate_left
                                  · intro w'
                                    go_simp
                                    with_reducible rfl
                                  rotate_left
                                  · simp only [Act.put, List.setIfInBounds_toArray, List.set_cons_zero, List.set_cons_succ, i64_w, i32_w]
                                    rfl
                                  refine take_ (i := 5) (N := some 114) (v := ?_) (a' := ?_) #[true, true, true, true, true, true, false, true, false, false, false] rfl rfl (take_ofW HT_.out HW_.out (by kernel_rfl)) (fun _ _ _ h => h) (Or.inl ⟨by rfl, ?_⟩) hHeld ?_ ?_
                                  rotate_left
                                  · rintro w' ⟨s0, s1, s2, s3⟩
                                    go_simp
                                    with_reducible rfl
                                  rotate_left
                                  · simp only [Act.put, List.setIfInBounds_toArray, List.set_cons_zero, List.set_cons_succ, i64_w, i32_w]
                                    rfl
                                  refine take_ (i := 8) (N := some 117) (v := ?_) (a' := ?_) #[true, true, true, true, true, true, false, true, true, false, false] rfl rfl (take_ofW HT_.out HW_.out (by kernel_rfl)) (fun _ _ _ h => h) (Or.inl ⟨by rfl, ?_⟩) hHeld ?_ ?_
                                  rotate_left
                                  · rintro w' ⟨s0, s1, s2, s3⟩
                                    go_simp
                                    with_reducible rfl
                                  rotate_left
                                  · simp only [Act.put, List.setIfInBounds_toArray, List.set_cons_zero, List.set_cons_succ, i64_w, i32_w]
                                    rfl
                                  refine one_ (i := 6) (N := some 115) #[true, true, true, true, true, true, true, true, true, false, false] rfl rfl (one_of HT_.out (by kernel_rfl)) (by decide) (fun K hK => ?_)
                                  refine goes_ Tryd.func21 (by kernel_rfl) rfl #[.int .i64 ((rd_T42 t660 x11_2).f2)] (by rfl) rfl rfl (by (try simp only [List.map_toArray, List.map_cons, List.map_nil]); first | done | rfl | (simp only [List.length_drop, List.length_take]; rfl)) ?_
                                  with_reducible refine (text_Decimal.calls ((rd_T42 t660 x11_2).f2) t675 _ A47.out (LaidP.below hLd (by repeat (first | (with_reducible first | exact HB.out | apply below_alloc | apply pw_below_drewN | apply below_drew1) | exact HB.out)))).mono ?_
                                  rintro e w54 ⟨rfl, hb⟩
                                  refine ⟨_, rfl, ?_⟩
                                  have n0_ := Aside0.mk (Kd.R_below (by (with_reducible repeat (first | apply Kd.R_alloc | apply Kd.R_drewN | apply Kd.R_drew)); exact HO_4.out) hb)
                                  have n1_ := Aside0.mk (blk_below (g := gb673) (o := .cells #[.int .i64 ((rd_T42 t660 x11_2).f0), .string ((rd_T42 t660 x11_2).f1), .int .i64 ((rd_T42 t660 x11_2).f2), .int .i64 ((rd_T42 t660 x11_2).f3)] 42 (0, 0)) (by (with_reducible repeat (first | refine blk_drewN ?_ _ | refine blk_drew ?_ | refine blk_alloc ?_ _)); exact BK673.out) hb)
                                  have n2_ := Aside0.mk (below_step (by repeat (first | (with_reducible first | exact HB.out | apply below_alloc | apply pw_below_drewN | apply below_drew1 | refine below_set ?_ GE673.out) | exact HB.out)) hb)
                                  clear HO_4
                                  clear BK673
                                  clear HB
                                  have HO_4 := n0_
                                  have BK673 := n1_
                                  have HB := n2_
                                  clear n0_ n1_ n2_
                                  (try clear hb)
                                  (try clear hb2)
                                  (try clear hk)
                                  (try clear hi)
                                  refine hK.out _ _ ⟨(blk_cell BK673.out 0).trans rfl, (blk_cell BK673.out 1).trans rfl, (blk_cell BK673.out 2).trans rfl, (blk_cell BK673.out 3).trans rfl⟩ (fun hHeld => ?_)
                                  clear hK K
                                  refine norm_ (a' := ?_) ?_ ?_
                                  rotate_left
                                  · show Act.put _ (some 115) _ = _
                                    simp only [Act.put, List.setIfInBounds_toArray, List.set_cons_zero, List.set_cons_succ, i64_w, i32_w]
                                    rfl
                                  refine pure_ (i := 9) (N := some 118) (v := ?_) (a' := ?_) #[true, true, true, true, true, true, true, true, true, true, false] rfl rfl (any_of HT_.out (by kernel_rfl)) (fun _ _ _ h => h) (Or.inl ⟨by rfl, ?_⟩) ?_ ?_
                                  rotate_left
                                  · intro w'
                                    go_simp
                                    with_reducible rfl
                                  rotate_left
                                  · simp only [Act.put, List.setIfInBounds_toArray, List.set_cons_zero, List.set_cons_succ, i64_w, i32_w]
                                    rfl
                                  refine pure_ (i := 10) (N := some 119) (v := ?_) (a' := ?_) #[true, true, true, true, true, true, true, true, true, true, true] rfl rfl (any_of HT_.out (by kernel_rfl)) (fun _ _ _ h => h) (Or.inl ⟨by rfl, ?_⟩) ?_ ?_
                                  rotate_left
                                  · intro w'
                                    go_simp
                                    with_reducible rfl
                                  rotate_left
                                  · simp only [Act.put, List.setIfInBounds_toArray, List.set_cons_zero, List.set_cons_succ, i64_w, i32_w]
                                    rfl
                                  refine done_ (done_of HT_.out (by kernel_rfl)) ?_
                                  try go_wp2
                                  go_ret
                                  exact ⟨by first | rfl | (simp [errW_none, errW_some] <;> rfl) | (simp [*, errW_none, errW_some] <;> rfl), by repeat (first | (with_reducible first | exact HB.out | apply below_alloc | apply pw_below_drewN | apply below_drew1 | refine below_set ?_ GE673.out) | exact HB.out)⟩
                            · rw [if_neg c43] at H
                              have c43b0 : (((rd_T42 t660 x11_2).f0) == 1) = false := beq_eq_false_iff_ne.mpr c43
                              have c43b1 : (((rd_T42 t660 x11_2).f0) != 1) = true := bne_iff_ne.mpr c43
                              by_cases c55 : ((rd_T42 t660 x11_2).f0) = 3
                              · rw [if_pos c55] at H
                                have c55b0 : (((rd_T42 t660 x11_2).f0) == 3) = true := beq_iff_eq.mpr c55
                                have c55b1 : (((rd_T42 t660 x11_2).f0) != 3) = false := bne_eq_false_iff_eq.mpr c55
                                clear c55
                                have H' := Aside0.mk H
                                clear H
                                have hcz56_0 : wc.cell? ⟨gb673, 0, none⟩ = some (.int .i64 ((rd_T42 t660 x11_2).f0)) := (blk_cell BK673.out 0).trans rfl
                                have hcz56_1 : wc.cell? ⟨gb673, 1, none⟩ = some (.string ((rd_T42 t660 x11_2).f1)) := (blk_cell BK673.out 1).trans rfl
                                have hcz56_2 : wc.cell? ⟨gb673, 2, none⟩ = some (.int .i64 ((rd_T42 t660 x11_2).f2)) := (blk_cell BK673.out 2).trans rfl
                                have hcz56_3 : wc.cell? ⟨gb673, 3, none⟩ = some (.int .i64 ((rd_T42 t660 x11_2).f3)) := (blk_cell BK673.out 3).trans rfl
                                have hfz56_0 := blk_frozen BK673.out 0
                                have hfz56_1 := blk_frozen BK673.out 1
                                have hfz56_2 := blk_frozen BK673.out 2
                                have hfz56_3 := blk_frozen BK673.out 3
                                go_wp2
                                go_roundg kj26
                                case measure => have := HJ8.out; have := HK2.out; have := HJ26.out; omega
                                case rel => exact ⟨(wrap64 (x10_2 + 1)), (wrap64 (x11_2 + 1)), (by first | rfl | (simp; done) | (simp [*]; done) | (simp [*, bne]; done)), (by first | rfl | (simp; done) | (simp [*]; done) | (simp [*, bne]; done)), H', ⟨by have := HJ8.out; have := HK2.out; have := HJ26.out; omega⟩, ⟨by (with_reducible repeat (first | apply Kd.R_alloc | apply Kd.R_drewN | apply Kd.R_drew)); exact Kd.R_mono HO_4.out (fun _ hk => trivial)⟩, ⟨by repeat (first | (with_reducible first | exact HB.out | apply below_alloc | apply pw_below_drewN | apply below_drew1 | refine below_set ?_ GE673.out) | exact HB.out)⟩⟩
                              · rw [if_neg c55] at H
                                have c55b0 : (((rd_T42 t660 x11_2).f0) == 3) = false := beq_eq_false_iff_ne.mpr c55
                                have c55b1 : (((rd_T42 t660 x11_2).f0) != 3) = true := bne_iff_ne.mpr c55
                                have H' := Aside0.mk H
                                clear H
                                have hcz57_0 : wc.cell? ⟨gb673, 0, none⟩ = some (.int .i64 ((rd_T42 t660 x11_2).f0)) := (blk_cell BK673.out 0).trans rfl
                                have hcz57_1 : wc.cell? ⟨gb673, 1, none⟩ = some (.string ((rd_T42 t660 x11_2).f1)) := (blk_cell BK673.out 1).trans rfl
                                have hcz57_2 : wc.cell? ⟨gb673, 2, none⟩ = some (.int .i64 ((rd_T42 t660 x11_2).f2)) := (blk_cell BK673.out 2).trans rfl
                                have hcz57_3 : wc.cell? ⟨gb673, 3, none⟩ = some (.int .i64 ((rd_T42 t660 x11_2).f3)) := (blk_cell BK673.out 3).trans rfl
                                have hfz57_0 := blk_frozen BK673.out 0
                                have hfz57_1 := blk_frozen BK673.out 1
                                have hfz57_2 := blk_frozen BK673.out 2
                                have hfz57_3 := blk_frozen BK673.out 3
                                go_wp2
                                go_roundg kj26
                                case measure => have := HJ8.out; have := HK2.out; have := HJ26.out; omega
                                case rel => exact ⟨(x10_2), (wrap64 (x11_2 + 1)), (by first | rfl | (simp; done) | (simp [*]; done) | (simp [*, bne]; done)), (by first | rfl | (simp; done) | (simp [*]; done) | (simp [*, bne]; done)), H', ⟨by have := HJ8.out; have := HK2.out; have := HJ26.out; omega⟩, ⟨by (with_reducible repeat (first | apply Kd.R_alloc | apply Kd.R_drewN | apply Kd.R_drew)); exact Kd.R_mono HO_4.out (fun _ hk => trivial)⟩, ⟨by repeat (first | (with_reducible first | exact HB.out | apply below_alloc | apply pw_below_drewN | apply below_drew1 | refine below_set ?_ GE673.out) | exact HB.out)⟩⟩
                  · rw [if_neg c26] at H
                    exact absurd H (by simp)
                · rw [if_neg c25] at H
                  have c25b0 : decide (x11_2 < (t660.length : Int)) = false := decide_eq_false c25
                  clear c25
                  obtain rfl := Option.some.inj H
                  go_wp2
                  go_ret
                  exact ⟨by first | rfl | (simp [errW_none, errW_some] <;> rfl) | (simp [*, errW_none, errW_some] <;> rfl), by repeat (first | (with_reducible first | exact HB.out | apply below_alloc | apply pw_below_drewN | apply below_drew1) | exact HB.out)⟩
    · rw [if_neg c6] at H
      have c6b0 : (t661 == 0) = false := beq_eq_false_iff_ne.mpr c6
      have c6b1 : (t661 != 0) = true := bne_iff_ne.mpr c6
      by_cases c58 : t659 = true
      · subst c58
        have H1 : (if (t660.length : Int) = 0 then (some (decide (t662 ≥ 1))) else (some false)) = some r := by rw [if_pos rfl] at H; exact H
        clear H
        have H := H1
        clear H1
        by_cases c59 : (t660.length : Int) = 0
        · rw [if_pos c59] at H
          have c59b0 : ((t660.length : Int) == 0) = true := beq_iff_eq.mpr c59
          have c59b1 : ((t660.length : Int) != 0) = false := bne_eq_false_iff_eq.mpr c59
          clear c59
          obtain rfl := Option.some.inj H
          go_enter Tryd.func11, Tryd.ntmps11
          go_wp2_with (first | ((with_reducible refine gate_callee (f := 24) rfl ?_); refine goesL_ (some 13) rfl rfl Tryd.func24 (by kernel_rfl) rfl #[] rfl (by (try simp only [List.map_toArray, List.map_cons, List.map_nil]); first | done | rfl | (simp only [List.length_drop, List.length_take]; rfl)) ?_; (with_reducible refine (taquinlaw09_small.calls k  true _ A2.out (LaidP.below hLd (by repeat (first | (with_reducible first | exact HB.out | apply below_alloc | apply pw_below_drewN | apply below_drew1) | exact HB.out)))).mono ?_); rintro e w60 ⟨rfl, hb⟩; refine ⟨_, rfl, ?_⟩; have n0_ := Aside0.mk (below_step (by repeat (first | (with_reducible first | exact HB.out | apply below_alloc | apply pw_below_drewN | apply below_drew1) | exact HB.out)) hb); clear HB; have HB := n0_; clear n0_; (try clear hb); (try clear hb2); (try clear hk); (try clear hi)) | ((with_reducible refine gate_callee (f := 25) rfl ?_); refine goesL_ (some 20) rfl rfl Tryd.func25 (by kernel_rfl) rfl #[.string a0] rfl (by (try simp only [List.map_toArray, List.map_cons, List.map_nil]); first | done | rfl | (simp only [List.length_drop, List.length_take]; rfl)) ?_; (with_reducible refine (lex_Lex.calls a0 t660 t661 t662 _ A5.out (LaidP.below hLd (by repeat (first | (with_reducible first | exact HB.out | apply below_alloc | apply pw_below_drewN | apply below_drew1) | exact HB.out)))).mono ?_); rintro e w61 ⟨v663, rfl, ho0, hb⟩; refine ⟨_, rfl, ?_⟩; have n0_ := Aside0.mk (Kd.R_lower ho0 (below_size (by repeat (first | (with_reducible first | exact HB.out | apply below_alloc | apply pw_below_drewN | apply below_drew1) | exact HB.out)))); have n1_ := Aside0.mk (below_step (by repeat (first | (with_reducible first | exact HB.out | apply below_alloc | apply pw_below_drewN | apply below_drew1) | exact HB.out)) hb); clear HB; have HO664 := n0_; have HB := n1_; clear n0_ n1_; (try clear hb); (try clear hb2); (try clear hk); (try clear hi); (try clear ho0); obtain ⟨Ao62, co62, eo62⟩ := Kd.R_slice HO664.out; subst eo62))
          go_ret
          exact ⟨by first | rfl | (simp [errW_none, errW_some] <;> rfl) | (simp [*, errW_none, errW_some] <;> rfl), by repeat (first | (with_reducible first | exact HB.out | apply below_alloc | apply pw_below_drewN | apply below_drew1) | exact HB.out)⟩
        · rw [if_neg c59] at H
          have c59b0 : ((t660.length : Int) == 0) = false := beq_eq_false_iff_ne.mpr c59
          have c59b1 : ((t660.length : Int) != 0) = true := bne_iff_ne.mpr c59
          have c59b2 : ¬ (t660 = []) := fun h_ => c59 (by rw [h_]; rfl)
          obtain rfl := Option.some.inj H
          go_enter Tryd.func11, Tryd.ntmps11
          go_wp2_with (first | ((with_reducible refine gate_callee (f := 24) rfl ?_); refine goesL_ (some 13) rfl rfl Tryd.func24 (by kernel_rfl) rfl #[] rfl (by (try simp only [List.map_toArray, List.map_cons, List.map_nil]); first | done | rfl | (simp only [List.length_drop, List.length_take]; rfl)) ?_; (with_reducible refine (taquinlaw09_small.calls k  true _ A2.out (LaidP.below hLd (by repeat (first | (with_reducible first | exact HB.out | apply below_alloc | apply pw_below_drewN | apply below_drew1) | exact HB.out)))).mono ?_); rintro e w63 ⟨rfl, hb⟩; refine ⟨_, rfl, ?_⟩; have n0_ := Aside0.mk (below_step (by repeat (first | (with_reducible first | exact HB.out | apply below_alloc | apply pw_below_drewN | apply below_drew1) | exact HB.out)) hb); clear HB; have HB := n0_; clear n0_; (try clear hb); (try clear hb2); (try clear hk); (try clear hi)) | ((with_reducible refine gate_callee (f := 25) rfl ?_); refine goesL_ (some 20) rfl rfl Tryd.func25 (by kernel_rfl) rfl #[.string a0] rfl (by (try simp only [List.map_toArray, List.map_cons, List.map_nil]); first | done | rfl | (simp only [List.length_drop, List.length_take]; rfl)) ?_; (with_reducible refine (lex_Lex.calls a0 t660 t661 t662 _ A5.out (LaidP.below hLd (by repeat (first | (with_reducible first | exact HB.out | apply below_alloc | apply pw_below_drewN | apply below_drew1) | exact HB.out)))).mono ?_); rintro e w64 ⟨v663, rfl, ho0, hb⟩; refine ⟨_, rfl, ?_⟩; have n0_ := Aside0.mk (Kd.R_lower ho0 (below_size (by repeat (first | (with_reducible first | exact HB.out | apply below_alloc | apply pw_below_drewN | apply below_drew1) | exact HB.out)))); have n1_ := Aside0.mk (below_step (by repeat (first | (with_reducible first | exact HB.out | apply below_alloc | apply pw_below_drewN | apply below_drew1) | exact HB.out)) hb); clear HB; have HO664 := n0_; have HB := n1_; clear n0_ n1_; (try clear hb); (try clear hb2); (try clear hk); (try clear hi); (try clear ho0); obtain ⟨Ao65, co65, eo65⟩ := Kd.R_slice HO664.out; subst eo65))
          go_ret
          exact ⟨by first | rfl | (simp [errW_none, errW_some] <;> rfl) | (simp [*, errW_none, errW_some] <;> rfl), by repeat (first | (with_reducible first | exact HB.out | apply below_alloc | apply pw_below_drewN | apply below_drew1) | exact HB.out)⟩
      · replace c58 := Bool.eq_false_iff.mpr c58
        subst c58
        have H1 : (some false) = some r := by rw [if_neg (show ¬ (false = true) by decide)] at H; exact H
        clear H
        have H := H1
        clear H1
        obtain rfl := Option.some.inj H
        go_enter Tryd.func11, Tryd.ntmps11
        go_wp2_with (first | ((with_reducible refine gate_callee (f := 24) rfl ?_); refine goesL_ (some 13) rfl rfl Tryd.func24 (by kernel_rfl) rfl #[] rfl (by (try simp only [List.map_toArray, List.map_cons, List.map_nil]); first | done | rfl | (simp only [List.length_drop, List.length_take]; rfl)) ?_; (with_reducible refine (taquinlaw09_small.calls k  false _ A2.out (LaidP.below hLd (by repeat (first | (with_reducible first | exact HB.out | apply below_alloc | apply pw_below_drewN | apply below_drew1) | exact HB.out)))).mono ?_); rintro e w66 ⟨rfl, hb⟩; refine ⟨_, rfl, ?_⟩; have n0_ := Aside0.mk (below_step (by repeat (first | (with_reducible first | exact HB.out | apply below_alloc | apply pw_below_drewN | apply below_drew1) | exact HB.out)) hb); clear HB; have HB := n0_; clear n0_; (try clear hb); (try clear hb2); (try clear hk); (try clear hi)) | ((with_reducible refine gate_callee (f := 25) rfl ?_); refine goesL_ (some 20) rfl rfl Tryd.func25 (by kernel_rfl) rfl #[.string a0] rfl (by (try simp only [List.map_toArray, List.map_cons, List.map_nil]); first | done | rfl | (simp only [List.length_drop, List.length_take]; rfl)) ?_; (with_reducible refine (lex_Lex.calls a0 t660 t661 t662 _ A5.out (LaidP.below hLd (by repeat (first | (with_reducible first | exact HB.out | apply below_alloc | apply pw_below_drewN | apply below_drew1) | exact HB.out)))).mono ?_); rintro e w67 ⟨v663, rfl, ho0, hb⟩; refine ⟨_, rfl, ?_⟩; have n0_ := Aside0.mk (Kd.R_lower ho0 (below_size (by repeat (first | (with_reducible first | exact HB.out | apply below_alloc | apply pw_below_drewN | apply below_drew1) | exact HB.out)))); have n1_ := Aside0.mk (below_step (by repeat (first | (with_reducible first | exact HB.out | apply below_alloc | apply pw_below_drewN | apply below_drew1) | exact HB.out)) hb); clear HB; have HO664 := n0_; have HB := n1_; clear n0_ n1_; (try clear hb); (try clear hb2); (try clear hk); (try clear hi); (try clear ho0)))
        go_ret
        exact ⟨by first | rfl | (simp [errW_none, errW_some] <;> rfl) | (simp [*, errW_none, errW_some] <;> rfl), by repeat (first | (with_reducible first | exact HB.out | apply below_alloc | apply pw_below_drewN | apply below_drew1) | exact HB.out)⟩

end Go.Proofs.YteifffaonigidaaDoor.M
