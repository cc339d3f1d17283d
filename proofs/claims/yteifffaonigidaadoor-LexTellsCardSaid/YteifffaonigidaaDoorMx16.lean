-- Printed by wip/tools/myprint.py (an own program; its engine is the kit's print): checked by Lean.
import Derived.Test.YteifffaonigidaaDoorMx0
import Derived.Test.YteifffaonigidaaDoorLxL
import Derived.Test.YteifffaonigidaaDoorLxD
namespace Go.Proofs.YteifffaonigidaaDoor.M
open Go.RowKit Go.Proofs.YteifffaonigidaaDoorW.PrintWords Go.Proofs.YteifffaonigidaaDoorW.PrintLast Go.Proofs.YteifffaonigidaaDoorW.PrintMore
attribute [local go_sem] max2_int min2_int max_two min_two max_three min_three max_four min_four   -- for this text's walks alone
set_option linter.unusedVariables false
set_option linter.unusedSimpArgs false

/-! ### taquinlaw09_bad: function 57 -/
def taquinlaw09_bad.f (a0 : ByteArray) : Option (Bool) := (lex_Lex.f a0).bind fun bt385 => (if bt385.2.1 = 11 then (if bt385.2.2 = 1 then (some ((bt385.1.length : Int) == 0)) else (some false)) else (some false))
set_option maxHeartbeats 8000000 in
set_option maxRecDepth 100000 in
theorem taquinlaw09_bad.calls (a0 : ByteArray) (r : Bool) (w : World) (h : taquinlaw09_bad.f a0 = some r) (hLd : LaidP w) :
    Calls Tryd.prog 57 #[.string a0] w fun e w' => e = .returned (.bool r) ∧ Below w.heap.size w w' := by
  have HB := Aside0.mk (Below.refl w.heap.size w)
  have H : ((lex_Lex.f a0).bind fun bt385 => (if bt385.2.1 = 11 then (if bt385.2.2 = 1 then (some ((bt385.1.length : Int) == 0)) else (some false)) else (some false))) = some r := h
  clear h
  replace H := Option.bind_eq_some_iff.mp H
  obtain ⟨⟨t385, t386, t387⟩, A20, H⟩ := H
  replace H : (if t386 = 11 then (if t387 = 1 then (some ((t385.length : Int) == 0)) else (some false)) else (some false)) = some r := H
  have A2 := Aside0.mk A20
  clear A20
  by_cases c3 : t386 = 11
  · rw [if_pos c3] at H
    have c3b0 : (t386 == 11) = true := beq_iff_eq.mpr c3
    have c3b1 : (t386 != 11) = false := bne_eq_false_iff_eq.mpr c3
    clear c3
    by_cases c4 : t387 = 1
    · rw [if_pos c4] at H
      have c4b0 : (t387 == 1) = true := beq_iff_eq.mpr c4
      have c4b1 : (t387 != 1) = false := bne_eq_false_iff_eq.mpr c4
      clear c4
      obtain rfl := Option.some.inj H
      go_enter Tryd.func57, Tryd.ntmps57
      go_wp2_with (first | ((with_reducible refine gate_callee (f := 25) rfl ?_); refine goesL_ (some 8) rfl rfl Tryd.func25 (by kernel_rfl) rfl #[.string a0] rfl (by (try simp only [List.map_toArray, List.map_cons, List.map_nil]); first | done | rfl | (simp only [List.length_drop, List.length_take]; rfl)) ?_; (with_reducible refine (lex_Lex.calls a0 t385 t386 t387 _ A2.out (LaidP.below hLd (by repeat (first | (with_reducible first | exact HB.out | apply below_alloc | apply pw_below_drewN | apply below_drew1) | exact HB.out)))).mono ?_); rintro e w5 ⟨v388, rfl, ho0, hb⟩; refine ⟨_, rfl, ?_⟩; have n0_ := Aside0.mk (Kd.R_lower ho0 (below_size (by repeat (first | (with_reducible first | exact HB.out | apply below_alloc | apply pw_below_drewN | apply below_drew1) | exact HB.out)))); have n1_ := Aside0.mk (below_step (by repeat (first | (with_reducible first | exact HB.out | apply below_alloc | apply pw_below_drewN | apply below_drew1) | exact HB.out)) hb); clear HB; have HO389 := n0_; have HB := n1_; clear n0_ n1_; (try clear hb); (try clear hb2); (try clear hk); (try clear hi); (try clear ho0); obtain ⟨Ao6, co6, eo6⟩ := Kd.R_slice HO389.out; subst eo6))
      go_ret
      exact ⟨by first | rfl | (simp [errW_none, errW_some] <;> rfl) | (simp [*, errW_none, errW_some] <;> rfl), by repeat (first | (with_reducible first | exact HB.out | apply below_alloc | apply pw_below_drewN | apply below_drew1) | exact HB.out)⟩
    · rw [if_neg c4] at H
      have c4b0 : (t387 == 1) = false := beq_eq_false_iff_ne.mpr c4
      have c4b1 : (t387 != 1) = true := bne_iff_ne.mpr c4
      obtain rfl := Option.some.inj H
      go_enter Tryd.func57, Tryd.ntmps57
      go_wp2_with (first | ((with_reducible refine gate_callee (f := 25) rfl ?_); refine goesL_ (some 8) rfl rfl Tryd.func25 (by kernel_rfl) rfl #[.string a0] rfl (by (try simp only [List.map_toArray, List.map_cons, List.map_nil]); first | done | rfl | (simp only [List.length_drop, List.length_take]; rfl)) ?_; (with_reducible refine (lex_Lex.calls a0 t385 t386 t387 _ A2.out (LaidP.below hLd (by repeat (first | (with_reducible first | exact HB.out | apply below_alloc | apply pw_below_drewN | apply below_drew1) | exact HB.out)))).mono ?_); rintro e w7 ⟨v388, rfl, ho0, hb⟩; refine ⟨_, rfl, ?_⟩; have n0_ := Aside0.mk (Kd.R_lower ho0 (below_size (by repeat (first | (with_reducible first | exact HB.out | apply below_alloc | apply pw_below_drewN | apply below_drew1) | exact HB.out)))); have n1_ := Aside0.mk (below_step (by repeat (first | (with_reducible first | exact HB.out | apply below_alloc | apply pw_below_drewN | apply below_drew1) | exact HB.out)) hb); clear HB; have HO389 := n0_; have HB := n1_; clear n0_ n1_; (try clear hb); (try clear hb2); (try clear hk); (try clear hi); (try clear ho0)))
      go_ret
      exact ⟨by first | rfl | (simp [errW_none, errW_some] <;> rfl) | (simp [*, errW_none, errW_some] <;> rfl), by repeat (first | (with_reducible first | exact HB.out | apply below_alloc | apply pw_below_drewN | apply below_drew1) | exact HB.out)⟩
  · rw [if_neg c3] at H
    have c3b0 : (t386 == 11) = false := beq_eq_false_iff_ne.mpr c3
    have c3b1 : (t386 != 11) = true := bne_iff_ne.mpr c3
    obtain rfl := Option.some.inj H
    go_enter Tryd.func57, Tryd.ntmps57
    go_wp2_with (first | ((with_reducible refine gate_callee (f := 25) rfl ?_); refine goesL_ (some 8) rfl rfl Tryd.func25 (by kernel_rfl) rfl #[.string a0] rfl (by (try simp only [List.map_toArray, List.map_cons, List.map_nil]); first | done | rfl | (simp only [List.length_drop, List.length_take]; rfl)) ?_; (with_reducible refine (lex_Lex.calls a0 t385 t386 t387 _ A2.out (LaidP.below hLd (by repeat (first | (with_reducible first | exact HB.out | apply below_alloc | apply pw_below_drewN | apply below_drew1) | exact HB.out)))).mono ?_); rintro e w8 ⟨v388, rfl, ho0, hb⟩; refine ⟨_, rfl, ?_⟩; have n0_ := Aside0.mk (Kd.R_lower ho0 (below_size (by repeat (first | (with_reducible first | exact HB.out | apply below_alloc | apply pw_below_drewN | apply below_drew1) | exact HB.out)))); have n1_ := Aside0.mk (below_step (by repeat (first | (with_reducible first | exact HB.out | apply below_alloc | apply pw_below_drewN | apply below_drew1) | exact HB.out)) hb); clear HB; have HO389 := n0_; have HB := n1_; clear n0_ n1_; (try clear hb); (try clear hb2); (try clear hk); (try clear hi); (try clear ho0)))
    go_ret
    exact ⟨by first | rfl | (simp [errW_none, errW_some] <;> rfl) | (simp [*, errW_none, errW_some] <;> rfl), by repeat (first | (with_reducible first | exact HB.out | apply below_alloc | apply pw_below_drewN | apply below_drew1) | exact HB.out)⟩

end Go.Proofs.YteifffaonigidaaDoor.M
-- Printed by wip/tools/myprint.py (an own program; its engine is the kit's print): checked by Lean.
namespace Go.Proofs.YteifffaonigidaaDoor.M
open Go.RowKit Go.Proofs.YteifffaonigidaaDoorW.PrintWords Go.Proofs.YteifffaonigidaaDoorW.PrintLast Go.Proofs.YteifffaonigidaaDoorW.PrintMore
attribute [local go_sem] max2_int min2_int max_two min_two max_three min_three max_four min_four   -- for this text's walks alone
set_option linter.unusedVariables false
set_option linter.unusedSimpArgs false

/-! ### taquinlaw09_small: function 24 -/
mutual
def taquinlaw09_small.j0 : Nat → List (S42) → List (S42) → Bool → Option (Bool)
  | 0, _, _, _ => none
  | k + 1, x1, x4, x33 => if x33 = true then (some false) else (if 0 < (x1.length : Int) then (if ((rd_T42 x1 0).f1).toList = ([122, 111, 110, 101] : List UInt8) then (if 1 < (x1.length : Int) then (if ((rd_T42 x1 1).f1).toList = ([99, 111, 108, 100, 45, 49] : List UInt8) then (if 2 < (x1.length : Int) then (if ((rd_T42 x1 2).f2) = 12 then (if 3 < (x1.length : Int) then (if ((rd_T42 x1 3).f0) = 4 then (if 0 < (x4.length : Int) then (if ((rd_T42 x4 0).f1).toList = ([114, 111, 119] : List UInt8) then (if 1 < (x4.length : Int) then (if ((rd_T42 x4 1).f0) = 2 then (taquinlaw09_small.j1 k (((rd_T42 x4 1).f1).toList == ([35, 35, 46, 80] : List UInt8))) else (taquinlaw09_small.j1 k false)) else (none)) else (taquinlaw09_small.j1 k false)) else (none)) else (taquinlaw09_small.j1 k false)) else (none)) else (taquinlaw09_small.j1 k false)) else (none)) else (taquinlaw09_small.j1 k false)) else (none)) else (taquinlaw09_small.j1 k false)) else (none))
def taquinlaw09_small.j1 : Nat → Bool → Option (Bool)
  | 0, _ => none
  | k + 1, x7 => if x7 = true then ((taquinlaw09_bad.f (⟨#[48, 49]⟩ : ByteArray)).bind fun t407 => (if t407 = true then ((taquinlaw09_bad.f (⟨#[49, 97]⟩ : ByteArray)).bind fun t408 => (if t408 = true then ((taquinlaw09_bad.f (⟨#[45, 49]⟩ : ByteArray)).bind fun t409 => (if t409 = true then ((taquinlaw09_bad.f (⟨#[34, 97]⟩ : ByteArray)).bind fun t410 => (if t410 = true then ((lex_Word.f (⟨#[97, 45, 49]⟩ : ByteArray)).bind fun t411 => (if t411 = true then ((lex_Word.f (⟨#[45, 97]⟩ : ByteArray)).bind fun t412 => (some (!t412))) else (some false))) else (some false))) else (some false))) else (some false))) else (some false))) else (some false)
end
def taquinlaw09_small.f (k : Nat)  : Option (Bool) := (lex_Lex.f (⟨#[122, 111, 110, 101, 32, 99, 111, 108, 100, 45, 49, 32, 49, 50, 32, 35, 32, 99]⟩ : ByteArray)).bind fun bt390 => ((lex_Lex.f (⟨#[114, 111, 119, 32, 34, 35, 35, 46, 80, 34]⟩ : ByteArray)).bind fun bt395 => (if bt390.2.1 = 0 then (if bt395.2.1 = 0 then (if (bt390.1.length : Int) = 4 then (taquinlaw09_small.j0 k bt390.1 bt395.1 ((bt395.1.length : Int) != 3)) else (taquinlaw09_small.j0 k bt390.1 bt395.1 true)) else (taquinlaw09_small.j0 k bt390.1 bt395.1 true)) else (taquinlaw09_small.j0 k bt390.1 bt395.1 true)))
theorem taquinlaw09_small.mono_l : ∀ k, (∀ y0 y1 y2, LeO (taquinlaw09_small.j0 k y0 y1 y2) (taquinlaw09_small.j0 (k + 1) y0 y1 y2)) ∧ (∀ y0, LeO (taquinlaw09_small.j1 k y0) (taquinlaw09_small.j1 (k + 1) y0))
  | 0 => ⟨fun _ _ _ r h => by simp [taquinlaw09_small.j0] at h, fun _ r h => by simp [taquinlaw09_small.j1] at h⟩
  | k + 1 => by
    obtain ⟨ih0, ih1⟩ := taquinlaw09_small.mono_l k
    refine ⟨?_, ?_⟩
    · intro y0 y1 y2
      unfold taquinlaw09_small.j0
      repeat' first
      | (with_reducible exact ih0 _ _ _)
      | (with_reducible exact ih1 _)
      | (with_reducible exact LeO.refl _)
      | (with_reducible exact LeO.none _)
      | (with_reducible refine LeO.ite ?_ ?_)
      | (with_reducible refine LeO.bind ?_ (fun _ => ?_))
      | exact ih0 _ _ _
      | exact ih1 _
      | exact LeO.none _
      | refine LeO.ite ?_ ?_
      | refine LeO.bind ?_ (fun _ => ?_)
    · intro y0
      unfold taquinlaw09_small.j1
      repeat' first
      | (with_reducible exact ih0 _ _ _)
      | (with_reducible exact ih1 _)
      | (with_reducible exact LeO.refl _)
      | (with_reducible exact LeO.none _)
      | (with_reducible refine LeO.ite ?_ ?_)
      | (with_reducible refine LeO.bind ?_ (fun _ => ?_))
      | exact ih0 _ _ _
      | exact ih1 _
      | exact LeO.none _
      | refine LeO.ite ?_ ?_
      | refine LeO.bind ?_ (fun _ => ?_)
theorem taquinlaw09_small.mono : ∀ k, LeO (taquinlaw09_small.f k ) (taquinlaw09_small.f (k + 1) ) := by
  intro  k
  obtain ⟨ih0, ih1⟩ := taquinlaw09_small.mono_l k
  unfold taquinlaw09_small.f
  repeat' first
      | (with_reducible exact ih0 _ _ _)
      | (with_reducible exact ih1 _)
      | (with_reducible exact LeO.refl _)
      | (with_reducible exact LeO.none _)
      | (with_reducible refine LeO.ite ?_ ?_)
      | (with_reducible refine LeO.bind ?_ (fun _ => ?_))
      | exact ih0 _ _ _
      | exact ih1 _
      | exact LeO.none _
      | refine LeO.ite ?_ ?_
      | refine LeO.bind ?_ (fun _ => ?_)
set_option maxHeartbeats 8000000 in
set_option maxRecDepth 100000 in
theorem taquinlaw09_small.calls (k : Nat)  (r : Bool) (w : World) (h : taquinlaw09_small.f k  = some r) (hLd : LaidP w) :
    Calls Tryd.prog 24 #[] w fun e w' => e = .returned (.bool r) ∧ Below w.heap.size w w' := by
  have HB := Aside0.mk (Below.refl w.heap.size w)
  have H : ((lex_Lex.f (⟨#[122, 111, 110, 101, 32, 99, 111, 108, 100, 45, 49, 32, 49, 50, 32, 35, 32, 99]⟩ : ByteArray)).bind fun bt390 => ((lex_Lex.f (⟨#[114, 111, 119, 32, 34, 35, 35, 46, 80, 34]⟩ : ByteArray)).bind fun bt395 => (if bt390.2.1 = 0 then (if bt395.2.1 = 0 then (if (bt390.1.length : Int) = 4 then (taquinlaw09_small.j0 k bt390.1 bt395.1 ((bt395.1.length : Int) != 3)) else (taquinlaw09_small.j0 k bt390.1 bt395.1 true)) else (taquinlaw09_small.j0 k bt390.1 bt395.1 true)) else (taquinlaw09_small.j0 k bt390.1 bt395.1 true)))) = some r := h
  clear h
  replace H := Option.bind_eq_some_iff.mp H
  obtain ⟨⟨t390, t391, t392⟩, A10, H⟩ := H
  replace H : ((lex_Lex.f (⟨#[114, 111, 119, 32, 34, 35, 35, 46, 80, 34]⟩ : ByteArray)).bind fun bt395 => (if t391 = 0 then (if bt395.2.1 = 0 then (if (t390.length : Int) = 4 then (taquinlaw09_small.j0 k t390 bt395.1 ((bt395.1.length : Int) != 3)) else (taquinlaw09_small.j0 k t390 bt395.1 true)) else (taquinlaw09_small.j0 k t390 bt395.1 true)) else (taquinlaw09_small.j0 k t390 bt395.1 true))) = some r := H
  have A1 := Aside0.mk A10
  clear A10
  replace H := Option.bind_eq_some_iff.mp H
  obtain ⟨⟨t395, t396, t397⟩, A20, H⟩ := H
  replace H : (if t391 = 0 then (if t396 = 0 then (if (t390.length : Int) = 4 then (taquinlaw09_small.j0 k t390 t395 ((t395.length : Int) != 3)) else (taquinlaw09_small.j0 k t390 t395 true)) else (taquinlaw09_small.j0 k t390 t395 true)) else (taquinlaw09_small.j0 k t390 t395 true)) = some r := H
  have A2 := Aside0.mk A20
  clear A20
  have HC3 := Aside0.mk H
  clear H
  go_enter Tryd.func24, Tryd.ntmps24
  go_upto_region 3 with (first | ((with_reducible refine gate_callee (f := 25) rfl ?_); refine goesL_ (some 9) rfl rfl Tryd.func25 (by kernel_rfl) rfl #[.string (⟨#[122, 111, 110, 101, 32, 99, 111, 108, 100, 45, 49, 32, 49, 50, 32, 35, 32, 99]⟩ : ByteArray)] rfl (by (try simp only [List.map_toArray, List.map_cons, List.map_nil]); first | done | rfl | (simp only [List.length_drop, List.length_take]; rfl)) ?_; (with_reducible refine (lex_Lex.calls (⟨#[122, 111, 110, 101, 32, 99, 111, 108, 100, 45, 49, 32, 49, 50, 32, 35, 32, 99]⟩ : ByteArray) t390 t391 t392 _ A1.out (LaidP.below hLd (by repeat (first | (with_reducible first | exact HB.out | apply below_alloc | apply pw_below_drewN | apply below_drew1) | exact HB.out)))).mono ?_); rintro e w4 ⟨v393, rfl, ho0, hb⟩; refine ⟨_, rfl, ?_⟩; have n0_ := Aside0.mk (Kd.R_lower ho0 (below_size (by repeat (first | (with_reducible first | exact HB.out | apply below_alloc | apply pw_below_drewN | apply below_drew1) | exact HB.out)))); have n1_ := Aside0.mk (below_step (by repeat (first | (with_reducible first | exact HB.out | apply below_alloc | apply pw_below_drewN | apply below_drew1) | exact HB.out)) hb); clear HB; have HO394 := n0_; have HB := n1_; clear n0_ n1_; (try clear hb); (try clear hb2); (try clear hk); (try clear hi); (try clear ho0)) | ((with_reducible refine gate_callee (f := 25) rfl ?_); refine goesL_ (some 14) rfl rfl Tryd.func25 (by kernel_rfl) rfl #[.string (⟨#[114, 111, 119, 32, 34, 35, 35, 46, 80, 34]⟩ : ByteArray)] rfl (by (try simp only [List.map_toArray, List.map_cons, List.map_nil]); first | done | rfl | (simp only [List.length_drop, List.length_take]; rfl)) ?_; (with_reducible refine (lex_Lex.calls (⟨#[114, 111, 119, 32, 34, 35, 35, 46, 80, 34]⟩ : ByteArray) t395 t396 t397 _ A2.out (LaidP.below hLd (by repeat (first | (with_reducible first | exact HB.out | apply below_alloc | apply pw_below_drewN | apply below_drew1) | exact HB.out)))).mono ?_); rintro e w5 ⟨v398, rfl, ho0, hb⟩; refine ⟨_, rfl, ?_⟩; have n0_ := Aside0.mk (Kd.R_elder' (by (with_reducible repeat (first | apply Kd.R_alloc | apply Kd.R_drewN | apply Kd.R_drew)); exact HO394.out) (Kd.R_base ho0) hb); have n1_ := Aside0.mk (Kd.R_lower (Kd.R_new' ho0 (Kd.R_lt (by (with_reducible repeat (first | apply Kd.R_alloc | apply Kd.R_drewN | apply Kd.R_drew)); exact HO394.out))) (below_size (by repeat (first | (with_reducible first | exact HB.out | apply below_alloc | apply pw_below_drewN | apply below_drew1) | exact HB.out)))); have n2_ := Aside0.mk (below_step (by repeat (first | (with_reducible first | exact HB.out | apply below_alloc | apply pw_below_drewN | apply below_drew1) | exact HB.out)) hb); clear HO394; clear HB; have HO394 := n0_; have HO399 := n1_; have HB := n2_; clear n0_ n1_ n2_; (try clear hb); (try clear hb2); (try clear hk); (try clear hi); (try clear ho0)))
  (try simp only [Act.put, List.setIfInBounds_toArray, List.set_cons_zero, List.set_cons_succ])
  go_cut [33] (fun v33 wc => ∃ (kq : Nat) (x33_2 : Bool), v33 = .bool x33_2 ∧ Aside0 (taquinlaw09_small.j0 kq t390 t395 x33_2 = some r) ∧ Aside0 (kq ≤ k) ∧ Aside0 (Kd.R k42 42 wc w.heap.size (fun k_ => some k_ ≠ (v398 : Value).ownBlock) v393 t390) ∧ Aside0 (Kd.R k42 42 wc w.heap.size (fun k_ => some k_ ≠ (v393 : Value).ownBlock) v398 t395) ∧ Aside0 (Below w.heap.size w wc))
  case first =>
    have H := HC3.out
    clear HC3
    by_cases c6 : t391 = 0
    · rw [if_pos c6] at H
      have c6b0 : (t391 == 0) = true := beq_iff_eq.mpr c6
      have c6b1 : (t391 != 0) = false := bne_eq_false_iff_eq.mpr c6
      clear c6
      (first | rw [c6b0] | (simp only [i64_w, i32_w]; rw [c6b0]) | skip)
      by_cases c7 : t396 = 0
      · rw [if_pos c7] at H
        have c7b0 : (t396 == 0) = true := beq_iff_eq.mpr c7
        have c7b1 : (t396 != 0) = false := bne_eq_false_iff_eq.mpr c7
        clear c7
        by_cases c8 : (t390.length : Int) = 4
        · rw [if_pos c8] at H
          have c8b0 : ((t390.length : Int) == 4) = true := beq_iff_eq.mpr c8
          have c8b1 : ((t390.length : Int) != 4) = false := bne_eq_false_iff_eq.mpr c8
          clear c8
          have H' := Aside0.mk H
          clear H
          obtain ⟨Ao9, co9, eo9⟩ := Kd.R_slice HO394.out
          subst eo9
          obtain ⟨Ao10, co10, eo10⟩ := Kd.R_slice HO399.out
          subst eo10
          go_wp2
          go_meet
          case rel => exact ⟨_, (((t395.length : Int) != 3)), (by first | rfl | (simp; done) | (simp [*]; done) | (simp [*, bne]; done)), H', ⟨by first | omega | exact Nat.le_refl _⟩, ⟨by (with_reducible repeat (first | apply Kd.R_alloc | apply Kd.R_drewN | apply Kd.R_drew)); exact Kd.R_mono HO394.out (fun _ hk => hk.2)⟩, ⟨by (with_reducible repeat (first | apply Kd.R_alloc | apply Kd.R_drewN | apply Kd.R_drew)); exact Kd.R_mono HO399.out (fun _ hk => hk.2)⟩, ⟨by repeat (first | (with_reducible first | exact HB.out | apply below_alloc | apply pw_below_drewN | apply below_drew1) | exact HB.out)⟩⟩
        · rw [if_neg c8] at H
          have c8b0 : ((t390.length : Int) == 4) = false := beq_eq_false_iff_ne.mpr c8
          have c8b1 : ((t390.length : Int) != 4) = true := bne_iff_ne.mpr c8
          have H' := Aside0.mk H
          clear H
          obtain ⟨Ao11, co11, eo11⟩ := Kd.R_slice HO394.out
          subst eo11
          go_wp2
          go_meet
          case rel => exact ⟨_, (true), (by first | rfl | (simp; done) | (simp [*]; done) | (simp [*, bne]; done)), H', ⟨by first | omega | exact Nat.le_refl _⟩, ⟨by (with_reducible repeat (first | apply Kd.R_alloc | apply Kd.R_drewN | apply Kd.R_drew)); exact Kd.R_mono HO394.out (fun _ hk => hk.2)⟩, ⟨by (with_reducible repeat (first | apply Kd.R_alloc | apply Kd.R_drewN | apply Kd.R_drew)); exact Kd.R_mono HO399.out (fun _ hk => hk.2)⟩, ⟨by repeat (first | (with_reducible first | exact HB.out | apply below_alloc | apply pw_below_drewN | apply below_drew1) | exact HB.out)⟩⟩
      · rw [if_neg c7] at H
        have c7b0 : (t396 == 0) = false := beq_eq_false_iff_ne.mpr c7
        have c7b1 : (t396 != 0) = true := bne_iff_ne.mpr c7
        have H' := Aside0.mk H
        clear H
        go_wp2
        go_meet
        case rel => exact ⟨_, (true), (by first | rfl | (simp; done) | (simp [*]; done) | (simp [*, bne]; done)), H', ⟨by first | omega | exact Nat.le_refl _⟩, ⟨by (with_reducible repeat (first | apply Kd.R_alloc | apply Kd.R_drewN | apply Kd.R_drew)); exact Kd.R_mono HO394.out (fun _ hk => hk.2)⟩, ⟨by (with_reducible repeat (first | apply Kd.R_alloc | apply Kd.R_drewN | apply Kd.R_drew)); exact Kd.R_mono HO399.out (fun _ hk => hk.2)⟩, ⟨by repeat (first | (with_reducible first | exact HB.out | apply below_alloc | apply pw_below_drewN | apply below_drew1) | exact HB.out)⟩⟩
    · rw [if_neg c6] at H
      have c6b0 : (t391 == 0) = false := beq_eq_false_iff_ne.mpr c6
      have c6b1 : (t391 != 0) = true := bne_iff_ne.mpr c6
      (first | rw [c6b0] | (simp only [i64_w, i32_w]; rw [c6b0]) | skip)
      have H' := Aside0.mk H
      clear H
      go_wp2
      go_meet
      case rel => exact ⟨_, (true), (by first | rfl | (simp; done) | (simp [*]; done) | (simp [*, bne]; done)), H', ⟨by first | omega | exact Nat.le_refl _⟩, ⟨by (with_reducible repeat (first | apply Kd.R_alloc | apply Kd.R_drewN | apply Kd.R_drew)); exact Kd.R_mono HO394.out (fun _ hk => hk.2)⟩, ⟨by (with_reducible repeat (first | apply Kd.R_alloc | apply Kd.R_drewN | apply Kd.R_drew)); exact Kd.R_mono HO399.out (fun _ hk => hk.2)⟩, ⟨by repeat (first | (with_reducible first | exact HB.out | apply below_alloc | apply pw_below_drewN | apply below_drew1) | exact HB.out)⟩⟩
  case rest =>
    clear HC3
    try clear c2
    try clear p2
    try clear c6
    try clear c6b0
    try clear c6b1
    try clear c7
    try clear c7b0
    try clear c7b1
    try clear c8
    try clear c8b0
    try clear c8b1
    obtain ⟨kq, x33_2, rfl, HA, HJ2, HO_1, HO_4, HB⟩ := hcut
    cases kq with
    | zero => exact absurd HA.out (by simp [taquinlaw09_small.j0])
    | succ kj2 =>
      have H := HA.out
      clear HA
      simp only [taquinlaw09_small.j0] at H
      by_cases c12 : x33_2 = true
      · subst c12
        have H1 : (some false) = some r := by rw [if_pos rfl] at H; exact H
        clear H
        have H := H1
        clear H1
        obtain rfl := Option.some.inj H
        go_wp2
        go_ret
        exact ⟨by first | rfl | (simp [errW_none, errW_some] <;> rfl) | (simp [*, errW_none, errW_some] <;> rfl), by repeat (first | (with_reducible first | exact HB.out | apply below_alloc | apply pw_below_drewN | apply below_drew1) | exact HB.out)⟩
      · replace c12 := Bool.eq_false_iff.mpr c12
        subst c12
        have H1 : (if 0 < (t390.length : Int) then (if ((rd_T42 t390 0).f1).toList = ([122, 111, 110, 101] : List UInt8) then (if 1 < (t390.length : Int) then (if ((rd_T42 t390 1).f1).toList = ([99, 111, 108, 100, 45, 49] : List UInt8) then (if 2 < (t390.length : Int) then (if ((rd_T42 t390 2).f2) = 12 then (if 3 < (t390.length : Int) then (if ((rd_T42 t390 3).f0) = 4 then (if 0 < (t395.length : Int) then (if ((rd_T42 t395 0).f1).toList = ([114, 111, 119] : List UInt8) then (if 1 < (t395.length : Int) then (if ((rd_T42 t395 1).f0) = 2 then (taquinlaw09_small.j1 kj2 (((rd_T42 t395 1).f1).toList == ([35, 35, 46, 80] : List UInt8))) else (taquinlaw09_small.j1 kj2 false)) else (none)) else (taquinlaw09_small.j1 kj2 false)) else (none)) else (taquinlaw09_small.j1 kj2 false)) else (none)) else (taquinlaw09_small.j1 kj2 false)) else (none)) else (taquinlaw09_small.j1 kj2 false)) else (none)) else (taquinlaw09_small.j1 kj2 false)) else (none)) = some r := by rw [if_neg (show ¬ (false = true) by decide)] at H; exact H
        clear H
        have H := H1
        clear H1
        have HC13 := Aside0.mk H
        clear H
        go_upto_region 5 with (fail)
        go_cut [7] (fun v7 wc => ∃ (kq : Nat) (x7_12 : Bool), v7 = .bool x7_12 ∧ Aside0 (taquinlaw09_small.j1 kq x7_12 = some r) ∧ Aside0 (kq ≤ kj2) ∧ Aside0 (Below w.heap.size w wc))
        case first =>
          have H := HC13.out
          clear HC13
          by_cases c14 : 0 < (t390.length : Int)
          · rw [if_pos c14] at H
            have c14b0 : decide (0 < (t390.length : Int)) = true := decide_eq_true c14
            have c14b1 : decide (0 < t390.length) = true := decide_eq_true (by omega)
            clear c14
            (first | rw [c14b0] | (simp only [i64_w, i32_w]; rw [c14b0]) | skip)
            by_cases c15 : ((rd_T42 t390 0).f1).toList = ([122, 111, 110, 101] : List UInt8)
            · rw [if_pos c15] at H
              have c15b0 : (((rd_T42 t390 0).f1).toList == ([122, 111, 110, 101] : List UInt8)) = true := beq_iff_eq.mpr c15
              have c15b1 : (((rd_T42 t390 0).f1).toList != ([122, 111, 110, 101] : List UInt8)) = false := bne_eq_false_iff_eq.mpr c15
              clear c15
              by_cases c16 : 1 < (t390.length : Int)
              · rw [if_pos c16] at H
                have c16b0 : decide (1 < (t390.length : Int)) = true := decide_eq_true c16
                have c16b1 : decide (1 < t390.length) = true := decide_eq_true (by omega)
                clear c16
                by_cases c17 : ((rd_T42 t390 1).f1).toList = ([99, 111, 108, 100, 45, 49] : List UInt8)
                · rw [if_pos c17] at H
                  have c17b0 : (((rd_T42 t390 1).f1).toList == ([99, 111, 108, 100, 45, 49] : List UInt8)) = true := beq_iff_eq.mpr c17
                  have c17b1 : (((rd_T42 t390 1).f1).toList != ([99, 111, 108, 100, 45, 49] : List UInt8)) = false := bne_eq_false_iff_eq.mpr c17
                  clear c17
                  by_cases c18 : 2 < (t390.length : Int)
                  · rw [if_pos c18] at H
                    have c18b0 : decide (2 < (t390.length : Int)) = true := decide_eq_true c18
                    have c18b1 : decide (2 < t390.length) = true := decide_eq_true (by omega)
                    clear c18
                    by_cases c19 : ((rd_T42 t390 2).f2) = 12
                    · rw [if_pos c19] at H
                      have c19b0 : (((rd_T42 t390 2).f2) == 12) = true := beq_iff_eq.mpr c19
                      have c19b1 : (((rd_T42 t390 2).f2) != 12) = false := bne_eq_false_iff_eq.mpr c19
                      clear c19
                      by_cases c20 : 3 < (t390.length : Int)
                      · rw [if_pos c20] at H
                        have c20b0 : decide (3 < (t390.length : Int)) = true := decide_eq_true c20
                        have c20b1 : decide (3 < t390.length) = true := decide_eq_true (by omega)
                        clear c20
                        by_cases c21 : ((rd_T42 t390 3).f0) = 4
                        · rw [if_pos c21] at H
                          have c21b0 : (((rd_T42 t390 3).f0) == 4) = true := beq_iff_eq.mpr c21
                          have c21b1 : (((rd_T42 t390 3).f0) != 4) = false := bne_eq_false_iff_eq.mpr c21
                          clear c21
                          by_cases c22 : 0 < (t395.length : Int)
                          · rw [if_pos c22] at H
                            have c22b0 : decide (0 < (t395.length : Int)) = true := decide_eq_true c22
                            have c22b1 : decide (0 < t395.length) = true := decide_eq_true (by omega)
                            clear c22
                            by_cases c23 : ((rd_T42 t395 0).f1).toList = ([114, 111, 119] : List UInt8)
                            · rw [if_pos c23] at H
                              have c23b0 : (((rd_T42 t395 0).f1).toList == ([114, 111, 119] : List UInt8)) = true := beq_iff_eq.mpr c23
                              have c23b1 : (((rd_T42 t395 0).f1).toList != ([114, 111, 119] : List UInt8)) = false := bne_eq_false_iff_eq.mpr c23
                              clear c23
                              by_cases c24 : 1 < (t395.length : Int)
                              · rw [if_pos c24] at H
                                have c24b0 : decide (1 < (t395.length : Int)) = true := decide_eq_true c24
                                have c24b1 : decide (1 < t395.length) = true := decide_eq_true (by omega)
                                clear c24
                                by_cases c25 : ((rd_T42 t395 1).f0) = 2
                                · rw [if_pos c25] at H
                                  have c25b0 : (((rd_T42 t395 1).f0) == 2) = true := beq_iff_eq.mpr c25
                                  have c25b1 : (((rd_T42 t395 1).f0) != 2) = false := bne_eq_false_iff_eq.mpr c25
                                  clear c25
                                  have H' := Aside0.mk H
                                  clear H
                                  obtain ⟨Ao26, co26, eo26⟩ := Kd.R_slice HO_1.out
                                  subst eo26
                                  have p400 : 0 ≤ (0 : Int) := (by omega)
                                  have q400 : 0 < (t390.length : Int) := of_decide_eq_true (by first | (with_reducible assumption) | assumption)
                                  obtain ⟨ad400, e400, hx400_0, hx400_1, hx400_2, hx400_3⟩ := at_T42 (Kd.R_reads' HO_1.out).2.2 0 p400 q400
                                  cases e400
                                  have qi400 : (0 < t390.length) = True := eq_true (by omega)
                                  (try rw [show ((0 : Int)).toNat = 0 from rfl] at hx400_0)
                                  (try rw [show 0 * 4 = 0 from rfl] at hx400_0)
                                  (try rw [Addr.add_zero'] at hx400_0)
                                  (try rw [show ((0 : Int)).toNat = 0 from rfl] at hx400_1)
                                  (try rw [show 0 * 4 = 0 from rfl] at hx400_1)
                                  (try rw [Addr.add_zero'] at hx400_1)
                                  (try rw [show ((0 : Int)).toNat = 0 from rfl] at hx400_2)
                                  (try rw [show 0 * 4 = 0 from rfl] at hx400_2)
                                  (try rw [Addr.add_zero'] at hx400_2)
                                  (try rw [show ((0 : Int)).toNat = 0 from rfl] at hx400_3)
                                  (try rw [show 0 * 4 = 0 from rfl] at hx400_3)
                                  (try rw [Addr.add_zero'] at hx400_3)
                                  replace p400 := eq_true p400
                                  replace q400 := eq_true q400
                                  have p401 : 0 ≤ (1 : Int) := (by omega)
                                  have q401 : 1 < (t390.length : Int) := of_decide_eq_true (by first | (with_reducible assumption) | assumption)
                                  obtain ⟨ad401, e401, hx401_0, hx401_1, hx401_2, hx401_3⟩ := at_T42 (Kd.R_reads' HO_1.out).2.2 1 p401 q401
                                  obtain rfl : ad400 = ad401 := (by injection e401)
                                  (try simp only [show (1 : Int).toNat = 1 from rfl, Nat.reduceMul, Nat.reduceEqDiff, Go.Addr.add, ↓reduceIte] at hx401_0)
                                  (try simp only [show (1 : Int).toNat = 1 from rfl, Nat.reduceMul, Nat.reduceEqDiff, Go.Addr.add, ↓reduceIte] at hx401_1)
                                  (try simp only [show (1 : Int).toNat = 1 from rfl, Nat.reduceMul, Nat.reduceEqDiff, Go.Addr.add, ↓reduceIte] at hx401_2)
                                  (try simp only [show (1 : Int).toNat = 1 from rfl, Nat.reduceMul, Nat.reduceEqDiff, Go.Addr.add, ↓reduceIte] at hx401_3)
                                  have qi401 : (1 < t390.length) = True := eq_true (by omega)
                                  (try rw [show ((1 : Int)).toNat = 1 from rfl] at hx401_0)
                                  (try rw [show 1 * 4 = 4 from rfl] at hx401_0)
                                  (try rw [show ((1 : Int)).toNat = 1 from rfl] at hx401_1)
                                  (try rw [show 1 * 4 = 4 from rfl] at hx401_1)
                                  (try rw [show ((1 : Int)).toNat = 1 from rfl] at hx401_2)
                                  (try rw [show 1 * 4 = 4 from rfl] at hx401_2)
                                  (try rw [show ((1 : Int)).toNat = 1 from rfl] at hx401_3)
                                  (try rw [show 1 * 4 = 4 from rfl] at hx401_3)
                                  replace p401 := eq_true p401
                                  replace q401 := eq_true q401
                                  have p402 : 0 ≤ (2 : Int) := (by omega)
                                  have q402 : 2 < (t390.length : Int) := of_decide_eq_true (by first | (with_reducible assumption) | assumption)
                                  obtain ⟨ad402, e402, hx402_0, hx402_1, hx402_2, hx402_3⟩ := at_T42 (Kd.R_reads' HO_1.out).2.2 2 p402 q402
                                  obtain rfl : ad400 = ad402 := (by injection e402)
                                  (try simp only [show (2 : Int).toNat = 2 from rfl, Nat.reduceMul, Nat.reduceEqDiff, Go.Addr.add, ↓reduceIte] at hx402_0)
                                  (try simp only [show (2 : Int).toNat = 2 from rfl, Nat.reduceMul, Nat.reduceEqDiff, Go.Addr.add, ↓reduceIte] at hx402_1)
                                  (try simp only [show (2 : Int).toNat = 2 from rfl, Nat.reduceMul, Nat.reduceEqDiff, Go.Addr.add, ↓reduceIte] at hx402_2)
                                  (try simp only [show (2 : Int).toNat = 2 from rfl, Nat.reduceMul, Nat.reduceEqDiff, Go.Addr.add, ↓reduceIte] at hx402_3)
                                  have qi402 : (2 < t390.length) = True := eq_true (by omega)
                                  (try rw [show ((2 : Int)).toNat = 2 from rfl] at hx402_0)
                                  (try rw [show 2 * 4 = 8 from rfl] at hx402_0)
                                  (try rw [show ((2 : Int)).toNat = 2 from rfl] at hx402_1)
                                  (try rw [show 2 * 4 = 8 from rfl] at hx402_1)
                                  (try rw [show ((2 : Int)).toNat = 2 from rfl] at hx402_2)
                                  (try rw [show 2 * 4 = 8 from rfl] at hx402_2)
                                  (try rw [show ((2 : Int)).toNat = 2 from rfl] at hx402_3)
                                  (try rw [show 2 * 4 = 8 from rfl] at hx402_3)
                                  replace p402 := eq_true p402
                                  replace q402 := eq_true q402
                                  have p403 : 0 ≤ (3 : Int) := (by omega)
                                  have q403 : 3 < (t390.length : Int) := of_decide_eq_true (by first | (with_reducible assumption) | assumption)
                                  obtain ⟨ad403, e403, hx403_0, hx403_1, hx403_2, hx403_3⟩ := at_T42 (Kd.R_reads' HO_1.out).2.2 3 p403 q403
                                  obtain rfl : ad400 = ad403 := (by injection e403)
                                  (try simp only [show (3 : Int).toNat = 3 from rfl, Nat.reduceMul, Nat.reduceEqDiff, Go.Addr.add, ↓reduceIte] at hx403_0)
                                  (try simp only [show (3 : Int).toNat = 3 from rfl, Nat.reduceMul, Nat.reduceEqDiff, Go.Addr.add, ↓reduceIte] at hx403_1)
                                  (try simp only [show (3 : Int).toNat = 3 from rfl, Nat.reduceMul, Nat.reduceEqDiff, Go.Addr.add, ↓reduceIte] at hx403_2)
                                  (try simp only [show (3 : Int).toNat = 3 from rfl, Nat.reduceMul, Nat.reduceEqDiff, Go.Addr.add, ↓reduceIte] at hx403_3)
                                  have qi403 : (3 < t390.length) = True := eq_true (by omega)
                                  (try rw [show ((3 : Int)).toNat = 3 from rfl] at hx403_0)
                                  (try rw [show 3 * 4 = 12 from rfl] at hx403_0)
                                  (try rw [show ((3 : Int)).toNat = 3 from rfl] at hx403_1)
                                  (try rw [show 3 * 4 = 12 from rfl] at hx403_1)
                                  (try rw [show ((3 : Int)).toNat = 3 from rfl] at hx403_2)
                                  (try rw [show 3 * 4 = 12 from rfl] at hx403_2)
                                  (try rw [show ((3 : Int)).toNat = 3 from rfl] at hx403_3)
                                  (try rw [show 3 * 4 = 12 from rfl] at hx403_3)
                                  replace p403 := eq_true p403
                                  replace q403 := eq_true q403
                                  obtain ⟨Ao27, co27, eo27⟩ := Kd.R_slice HO_4.out
                                  subst eo27
                                  have p404 : 0 ≤ (0 : Int) := (by omega)
                                  have q404 : 0 < (t395.length : Int) := of_decide_eq_true (by first | (with_reducible assumption) | assumption)
                                  obtain ⟨ad404, e404, hx404_0, hx404_1, hx404_2, hx404_3⟩ := at_T42 (Kd.R_reads' HO_4.out).2.2 0 p404 q404
                                  cases e404
                                  have qi404 : (0 < t395.length) = True := eq_true (by omega)
                                  (try rw [show ((0 : Int)).toNat = 0 from rfl] at hx404_0)
                                  (try rw [show 0 * 4 = 0 from rfl] at hx404_0)
                                  (try rw [Addr.add_zero'] at hx404_0)
                                  (try rw [show ((0 : Int)).toNat = 0 from rfl] at hx404_1)
                                  (try rw [show 0 * 4 = 0 from rfl] at hx404_1)
                                  (try rw [Addr.add_zero'] at hx404_1)
                                  (try rw [show ((0 : Int)).toNat = 0 from rfl] at hx404_2)
                                  (try rw [show 0 * 4 = 0 from rfl] at hx404_2)
                                  (try rw [Addr.add_zero'] at hx404_2)
                                  (try rw [show ((0 : Int)).toNat = 0 from rfl] at hx404_3)
                                  (try rw [show 0 * 4 = 0 from rfl] at hx404_3)
                                  (try rw [Addr.add_zero'] at hx404_3)
                                  replace p404 := eq_true p404
                                  replace q404 := eq_true q404
                                  have p405 : 0 ≤ (1 : Int) := (by omega)
                                  have q405 : 1 < (t395.length : Int) := of_decide_eq_true (by first | (with_reducible assumption) | assumption)
                                  obtain ⟨ad405, e405, hx405_0, hx405_1, hx405_2, hx405_3⟩ := at_T42 (Kd.R_reads' HO_4.out).2.2 1 p405 q405
                                  obtain rfl : ad404 = ad405 := (by injection e405)
                                  (try simp only [show (1 : Int).toNat = 1 from rfl, Nat.reduceMul, Nat.reduceEqDiff, Go.Addr.add, ↓reduceIte] at hx405_0)
                                  (try simp only [show (1 : Int).toNat = 1 from rfl, Nat.reduceMul, Nat.reduceEqDiff, Go.Addr.add, ↓reduceIte] at hx405_1)
                                  (try simp only [show (1 : Int).toNat = 1 from rfl, Nat.reduceMul, Nat.reduceEqDiff, Go.Addr.add, ↓reduceIte] at hx405_2)
                                  (try simp only [show (1 : Int).toNat = 1 from rfl, Nat.reduceMul, Nat.reduceEqDiff, Go.Addr.add, ↓reduceIte] at hx405_3)
                                  have qi405 : (1 < t395.length) = True := eq_true (by omega)
                                  (try rw [show ((1 : Int)).toNat = 1 from rfl] at hx405_0)
                                  (try rw [show 1 * 4 = 4 from rfl] at hx405_0)
                                  (try rw [show ((1 : Int)).toNat = 1 from rfl] at hx405_1)
                                  (try rw [show 1 * 4 = 4 from rfl] at hx405_1)
                                  (try rw [show ((1 : Int)).toNat = 1 from rfl] at hx405_2)
                                  (try rw [show 1 * 4 = 4 from rfl] at hx405_2)
                                  (try rw [show ((1 : Int)).toNat = 1 from rfl] at hx405_3)
                                  (try rw [show 1 * 4 = 4 from rfl] at hx405_3)
                                  replace p405 := eq_true p405
                                  replace q405 := eq_true q405
                                  have p406 : 0 ≤ (1 : Int) := (by omega)
                                  have q406 : 1 < (t395.length : Int) := of_decide_eq_true (by first | (with_reducible assumption) | assumption)
                                  obtain ⟨ad406, e406, hx406_0, hx406_1, hx406_2, hx406_3⟩ := at_T42 (Kd.R_reads' HO_4.out).2.2 1 p406 q406
                                  obtain rfl : ad404 = ad406 := (by injection e406)
                                  (try simp only [show (1 : Int).toNat = 1 from rfl, Nat.reduceMul, Nat.reduceEqDiff, Go.Addr.add, ↓reduceIte] at hx406_0)
                                  (try simp only [show (1 : Int).toNat = 1 from rfl, Nat.reduceMul, Nat.reduceEqDiff, Go.Addr.add, ↓reduceIte] at hx406_1)
                                  (try simp only [show (1 : Int).toNat = 1 from rfl, Nat.reduceMul, Nat.reduceEqDiff, Go.Addr.add, ↓reduceIte] at hx406_2)
                                  (try simp only [show (1 : Int).toNat = 1 from rfl, Nat.reduceMul, Nat.reduceEqDiff, Go.Addr.add, ↓reduceIte] at hx406_3)
                                  have qi406 : (1 < t395.length) = True := eq_true (by omega)
                                  (try rw [show ((1 : Int)).toNat = 1 from rfl] at hx406_0)
                                  (try rw [show 1 * 4 = 4 from rfl] at hx406_0)
                                  (try rw [show ((1 : Int)).toNat = 1 from rfl] at hx406_1)
                                  (try rw [show 1 * 4 = 4 from rfl] at hx406_1)
                                  (try rw [show ((1 : Int)).toNat = 1 from rfl] at hx406_2)
                                  (try rw [show 1 * 4 = 4 from rfl] at hx406_2)
                                  (try rw [show ((1 : Int)).toNat = 1 from rfl] at hx406_3)
                                  (try rw [show 1 * 4 = 4 from rfl] at hx406_3)
                                  replace p406 := eq_true p406
                                  replace q406 := eq_true q406
                                  go_wp2
                                  go_meet
                                  case rel => exact ⟨_, ((((rd_T42 t395 1).f1).toList == ([35, 35, 46, 80] : List UInt8))), (by first | rfl | (simp; done) | (simp [*]; done) | (simp [*, bne]; done)), H', ⟨by have := HJ2.out; first | omega | exact Nat.le_refl _⟩, ⟨by repeat (first | (with_reducible first | exact HB.out | apply below_alloc | apply pw_below_drewN | apply below_drew1) | exact HB.out)⟩⟩
                                · rw [if_neg c25] at H
                                  have c25b0 : (((rd_T42 t395 1).f0) == 2) = false := beq_eq_false_iff_ne.mpr c25
                                  have c25b1 : (((rd_T42 t395 1).f0) != 2) = true := bne_iff_ne.mpr c25
                                  have H' := Aside0.mk H
                                  clear H
                                  obtain ⟨Ao28, co28, eo28⟩ := Kd.R_slice HO_1.out
                                  subst eo28
                                  have p400 : 0 ≤ (0 : Int) := (by omega)
                                  have q400 : 0 < (t390.length : Int) := of_decide_eq_true (by first | (with_reducible assumption) | assumption)
                                  obtain ⟨ad400, e400, hx400_0, hx400_1, hx400_2, hx400_3⟩ := at_T42 (Kd.R_reads' HO_1.out).2.2 0 p400 q400
                                  cases e400
                                  have qi400 : (0 < t390.length) = True := eq_true (by omega)
                                  (try rw [show ((0 : Int)).toNat = 0 from rfl] at hx400_0)
                                  (try rw [show 0 * 4 = 0 from rfl] at hx400_0)
                                  (try rw [Addr.add_zero'] at hx400_0)
                                  (try rw [show ((0 : Int)).toNat = 0 from rfl] at hx400_1)
                                  (try rw [show 0 * 4 = 0 from rfl] at hx400_1)
                                  (try rw [Addr.add_zero'] at hx400_1)
                                  (try rw [show ((0 : Int)).toNat = 0 from rfl] at hx400_2)
                                  (try rw [show 0 * 4 = 0 from rfl] at hx400_2)
                                  (try rw [Addr.add_zero'] at hx400_2)
                                  (try rw [show ((0 : Int)).toNat = 0 from rfl] at hx400_3)
                                  (try rw [show 0 * 4 = 0 from rfl] at hx400_3)
                                  (try rw [Addr.add_zero'] at hx400_3)
                                  replace p400 := eq_true p400
                                  replace q400 := eq_true q400
                                  have p401 : 0 ≤ (1 : Int) := (by omega)
                                  have q401 : 1 < (t390.length : Int) := of_decide_eq_true (by first | (with_reducible assumption) | assumption)
                                  obtain ⟨ad401, e401, hx401_0, hx401_1, hx401_2, hx401_3⟩ := at_T42 (Kd.R_reads' HO_1.out).2.2 1 p401 q401
                                  obtain rfl : ad400 = ad401 := (by injection e401)
                                  (try simp only [show (1 : Int).toNat = 1 from rfl, Nat.reduceMul, Nat.reduceEqDiff, Go.Addr.add, ↓reduceIte] at hx401_0)
                                  (try simp only [show (1 : Int).toNat = 1 from rfl, Nat.reduceMul, Nat.reduceEqDiff, Go.Addr.add, ↓reduceIte] at hx401_1)
                                  (try simp only [show (1 : Int).toNat = 1 from rfl, Nat.reduceMul, Nat.reduceEqDiff, Go.Addr.add, ↓reduceIte] at hx401_2)
                                  (try simp only [show (1 : Int).toNat = 1 from rfl, Nat.reduceMul, Nat.reduceEqDiff, Go.Addr.add, ↓reduceIte] at hx401_3)
                                  have qi401 : (1 < t390.length) = True := eq_true (by omega)
                                  (try rw [show ((1 : Int)).toNat = 1 from rfl] at hx401_0)
                                  (try rw [show 1 * 4 = 4 from rfl] at hx401_0)
                                  (try rw [show ((1 : Int)).toNat = 1 from rfl] at hx401_1)
                                  (try rw [show 1 * 4 = 4 from rfl] at hx401_1)
                                  (try rw [show ((1 : Int)).toNat = 1 from rfl] at hx401_2)
                                  (try rw [show 1 * 4 = 4 from rfl] at hx401_2)
                                  (try rw [show ((1 : Int)).toNat = 1 from rfl] at hx401_3)
                                  (try rw [show 1 * 4 = 4 from rfl] at hx401_3)
                                  replace p401 := eq_true p401
                                  replace q401 := eq_true q401
                                  have p402 : 0 ≤ (2 : Int) := (by omega)
                                  have q402 : 2 < (t390.length : Int) := of_decide_eq_true (by first | (with_reducible assumption) | assumption)
                                  obtain ⟨ad402, e402, hx402_0, hx402_1, hx402_2, hx402_3⟩ := at_T42 (Kd.R_reads' HO_1.out).2.2 2 p402 q402
                                  obtain rfl : ad400 = ad402 := (by injection e402)
                                  (try simp only [show (2 : Int).toNat = 2 from rfl, Nat.reduceMul, Nat.reduceEqDiff, Go.Addr.add, ↓reduceIte] at hx402_0)
                                  (try simp only [show (2 : Int).toNat = 2 from rfl, Nat.reduceMul, Nat.reduceEqDiff, Go.Addr.add, ↓reduceIte] at hx402_1)
                                  (try simp only [show (2 : Int).toNat = 2 from rfl, Nat.reduceMul, Nat.reduceEqDiff, Go.Addr.add, ↓reduceIte] at hx402_2)
                                  (try simp only [show (2 : Int).toNat = 2 from rfl, Nat.reduceMul, Nat.reduceEqDiff, Go.Addr.add, ↓reduceIte] at hx402_3)
                                  have qi402 : (2 < t390.length) = True := eq_true (by omega)
                                  (try rw [show ((2 : Int)).toNat = 2 from rfl] at hx402_0)
                                  (try rw [show 2 * 4 = 8 from rfl] at hx402_0)
                                  (try rw [show ((2 : Int)).toNat = 2 from rfl] at hx402_1)
                                  (try rw [show 2 * 4 = 8 from rfl] at hx402_1)
                                  (try rw [show ((2 : Int)).toNat = 2 from rfl] at hx402_2)
                                  (try rw [show 2 * 4 = 8 from rfl] at hx402_2)
                                  (try rw [show ((2 : Int)).toNat = 2 from rfl] at hx402_3)
                                  (try rw [show 2 * 4 = 8 from rfl] at hx402_3)
                                  replace p402 := eq_true p402
                                  replace q402 := eq_true q402
                                  have p403 : 0 ≤ (3 : Int) := (by omega)
                                  have q403 : 3 < (t390.length : Int) := of_decide_eq_true (by first | (with_reducible assumption) | assumption)
                                  obtain ⟨ad403, e403, hx403_0, hx403_1, hx403_2, hx403_3⟩ := at_T42 (Kd.R_reads' HO_1.out).2.2 3 p403 q403
                                  obtain rfl : ad400 = ad403 := (by injection e403)
                                  (try simp only [show (3 : Int).toNat = 3 from rfl, Nat.reduceMul, Nat.reduceEqDiff, Go.Addr.add, ↓reduceIte] at hx403_0)
                                  (try simp only [show (3 : Int).toNat = 3 from rfl, Nat.reduceMul, Nat.reduceEqDiff, Go.Addr.add, ↓reduceIte] at hx403_1)
                                  (try simp only [show (3 : Int).toNat = 3 from rfl, Nat.reduceMul, Nat.reduceEqDiff, Go.Addr.add, ↓reduceIte] at hx403_2)
                                  (try simp only [show (3 : Int).toNat = 3 from rfl, Nat.reduceMul, Nat.reduceEqDiff, Go.Addr.add, ↓reduceIte] at hx403_3)
                                  have qi403 : (3 < t390.length) = True := eq_true (by omega)
                                  (try rw [show ((3 : Int)).toNat = 3 from rfl] at hx403_0)
                                  (try rw [show 3 * 4 = 12 from rfl] at hx403_0)
                                  (try rw [show ((3 : Int)).toNat = 3 from rfl] at hx403_1)
                                  (try rw [show 3 * 4 = 12 from rfl] at hx403_1)
                                  (try rw [show ((3 : Int)).toNat = 3 from rfl] at hx403_2)
                                  (try rw [show 3 * 4 = 12 from rfl] at hx403_2)
                                  (try rw [show ((3 : Int)).toNat = 3 from rfl] at hx403_3)
                                  (try rw [show 3 * 4 = 12 from rfl] at hx403_3)
                                  replace p403 := eq_true p403
                                  replace q403 := eq_true q403
                                  obtain ⟨Ao29, co29, eo29⟩ := Kd.R_slice HO_4.out
                                  subst eo29
                                  have p404 : 0 ≤ (0 : Int) := (by omega)
                                  have q404 : 0 < (t395.length : Int) := of_decide_eq_true (by first | (with_reducible assumption) | assumption)
                                  obtain ⟨ad404, e404, hx404_0, hx404_1, hx404_2, hx404_3⟩ := at_T42 (Kd.R_reads' HO_4.out).2.2 0 p404 q404
                                  cases e404
                                  have qi404 : (0 < t395.length) = True := eq_true (by omega)
                                  (try rw [show ((0 : Int)).toNat = 0 from rfl] at hx404_0)
                                  (try rw [show 0 * 4 = 0 from rfl] at hx404_0)
                                  (try rw [Addr.add_zero'] at hx404_0)
                                  (try rw [show ((0 : Int)).toNat = 0 from rfl] at hx404_1)
                                  (try rw [show 0 * 4 = 0 from rfl] at hx404_1)
                                  (try rw [Addr.add_zero'] at hx404_1)
                                  (try rw [show ((0 : Int)).toNat = 0 from rfl] at hx404_2)
                                  (try rw [show 0 * 4 = 0 from rfl] at hx404_2)
                                  (try rw [Addr.add_zero'] at hx404_2)
                                  (try rw [show ((0 : Int)).toNat = 0 from rfl] at hx404_3)
                                  (try rw [show 0 * 4 = 0 from rfl] at hx404_3)
                                  (try rw [Addr.add_zero'] at hx404_3)
                                  replace p404 := eq_true p404
                                  replace q404 := eq_true q404
                                  have p405 : 0 ≤ (1 : Int) := (by omega)
                                  have q405 : 1 < (t395.length : Int) := of_decide_eq_true (by first | (with_reducible assumption) | assumption)
                                  obtain ⟨ad405, e405, hx405_0, hx405_1, hx405_2, hx405_3⟩ := at_T42 (Kd.R_reads' HO_4.out).2.2 1 p405 q405
                                  obtain rfl : ad404 = ad405 := (by injection e405)
                                  (try simp only [show (1 : Int).toNat = 1 from rfl, Nat.reduceMul, Nat.reduceEqDiff, Go.Addr.add, ↓reduceIte] at hx405_0)
                                  (try simp only [show (1 : Int).toNat = 1 from rfl, Nat.reduceMul, Nat.reduceEqDiff, Go.Addr.add, ↓reduceIte] at hx405_1)
                                  (try simp only [show (1 : Int).toNat = 1 from rfl, Nat.reduceMul, Nat.reduceEqDiff, Go.Addr.add, ↓reduceIte] at hx405_2)
                                  (try simp only [show (1 : Int).toNat = 1 from rfl, Nat.reduceMul, Nat.reduceEqDiff, Go.Addr.add, ↓reduceIte] at hx405_3)
                                  have qi405 : (1 < t395.length) = True := eq_true (by omega)
                                  (try rw [show ((1 : Int)).toNat = 1 from rfl] at hx405_0)
                                  (try rw [show 1 * 4 = 4 from rfl] at hx405_0)
                                  (try rw [show ((1 : Int)).toNat = 1 from rfl] at hx405_1)
                                  (try rw [show 1 * 4 = 4 from rfl] at hx405_1)
                                  (try rw [show ((1 : Int)).toNat = 1 from rfl] at hx405_2)
                                  (try rw [show 1 * 4 = 4 from rfl] at hx405_2)
                                  (try rw [show ((1 : Int)).toNat = 1 from rfl] at hx405_3)
                                  (try rw [show 1 * 4 = 4 from rfl] at hx405_3)
                                  replace p405 := eq_true p405
                                  replace q405 := eq_true q405
                                  go_wp2
                                  go_meet
                                  case rel => exact ⟨_, (false), (by first | rfl | (simp; done) | (simp [*]; done) | (simp [*, bne]; done)), H', ⟨by have := HJ2.out; first | omega | exact Nat.le_refl _⟩, ⟨by repeat (first | (with_reducible first | exact HB.out | apply below_alloc | apply pw_below_drewN | apply below_drew1) | exact HB.out)⟩⟩
                              · rw [if_neg c24] at H
                                exact absurd H (by simp)
                            · rw [if_neg c23] at H
                              have c23b0 : (((rd_T42 t395 0).f1).toList == ([114, 111, 119] : List UInt8)) = false := beq_eq_false_iff_ne.mpr c23
                              have c23b1 : (((rd_T42 t395 0).f1).toList != ([114, 111, 119] : List UInt8)) = true := bne_iff_ne.mpr c23
                              have H' := Aside0.mk H
                              clear H
                              obtain ⟨Ao30, co30, eo30⟩ := Kd.R_slice HO_1.out
                              subst eo30
                              have p400 : 0 ≤ (0 : Int) := (by omega)
                              have q400 : 0 < (t390.length : Int) := of_decide_eq_true (by first | (with_reducible assumption) | assumption)
                              obtain ⟨ad400, e400, hx400_0, hx400_1, hx400_2, hx400_3⟩ := at_T42 (Kd.R_reads' HO_1.out).2.2 0 p400 q400
                              cases e400
                              have qi400 : (0 < t390.length) = True := eq_true (by omega)
                              (try rw [show ((0 : Int)).toNat = 0 from rfl] at hx400_0)
                              (try rw [show 0 * 4 = 0 from rfl] at hx400_0)
                              (try rw [Addr.add_zero'] at hx400_0)
                              (try rw [show ((0 : Int)).toNat = 0 from rfl] at hx400_1)
                              (try rw [show 0 * 4 = 0 from rfl] at hx400_1)
                              (try rw [Addr.add_zero'] at hx400_1)
                              (try rw [show ((0 : Int)).toNat = 0 from rfl] at hx400_2)
                              (try rw [show 0 * 4 = 0 from rfl] at hx400_2)
                              (try rw [Addr.add_zero'] at hx400_2)
                              (try rw [show ((0 : Int)).toNat = 0 from rfl] at hx400_3)
                              (try rw [show 0 * 4 = 0 from rfl] at hx400_3)
                              (try rw [Addr.add_zero'] at hx400_3)
                              replace p400 := eq_true p400
                              replace q400 := eq_true q400
                              have p401 : 0 ≤ (1 : Int) := (by omega)
                              have q401 : 1 < (t390.length : Int) := of_decide_eq_true (by first | (with_reducible assumption) | assumption)
                              obtain ⟨ad401, e401, hx401_0, hx401_1, hx401_2, hx401_3⟩ := at_T42 (Kd.R_reads' HO_1.out).2.2 1 p401 q401
                              obtain rfl : ad400 = ad401 := (by injection e401)
                              (try simp only [show (1 : Int).toNat = 1 from rfl, Nat.reduceMul, Nat.reduceEqDiff, Go.Addr.add, ↓reduceIte] at hx401_0)
                              (try simp only [show (1 : Int).toNat = 1 from rfl, Nat.reduceMul, Nat.reduceEqDiff, Go.Addr.add, ↓reduceIte] at hx401_1)
                              (try simp only [show (1 : Int).toNat = 1 from rfl, Nat.reduceMul, Nat.reduceEqDiff, Go.Addr.add, ↓reduceIte] at hx401_2)
                              (try simp only [show (1 : Int).toNat = 1 from rfl, Nat.reduceMul, Nat.reduceEqDiff, Go.Addr.add, ↓reduceIte] at hx401_3)
                              have qi401 : (1 < t390.length) = True := eq_true (by omega)
                              (try rw [show ((1 : Int)).toNat = 1 from rfl] at hx401_0)
                              (try rw [show 1 * 4 = 4 from rfl] at hx401_0)
                              (try rw [show ((1 : Int)).toNat = 1 from rfl] at hx401_1)
                              (try rw [show 1 * 4 = 4 from rfl] at hx401_1)
                              (try rw [show ((1 : Int)).toNat = 1 from rfl] at hx401_2)
                              (try rw [show 1 * 4 = 4 from rfl] at hx401_2)
                              (try rw [show ((1 : Int)).toNat = 1 from rfl] at hx401_3)
                              (try rw [show 1 * 4 = 4 from rfl] at hx401_3)
                              replace p401 := eq_true p401
                              replace q401 := eq_true q401
                              have p402 : 0 ≤ (2 : Int) := (by omega)
                              have q402 : 2 < (t390.length : Int) := of_decide_eq_true (by first | (with_reducible assumption) | assumption)
                              obtain ⟨ad402, e402, hx402_0, hx402_1, hx402_2, hx402_3⟩ := at_T42 (Kd.R_reads' HO_1.out).2.2 2 p402 q402
                              obtain rfl : ad400 = ad402 := (by injection e402)
                              (try simp only [show (2 : Int).toNat = 2 from rfl, Nat.reduceMul, Nat.reduceEqDiff, Go.Addr.add, ↓reduceIte] at hx402_0)
                              (try simp only [show (2 : Int).toNat = 2 from rfl, Nat.reduceMul, Nat.reduceEqDiff, Go.Addr.add, ↓reduceIte] at hx402_1)
                              (try simp only [show (2 : Int).toNat = 2 from rfl, Nat.reduceMul, Nat.reduceEqDiff, Go.Addr.add, ↓reduceIte] at hx402_2)
                              (try simp only [show (2 : Int).toNat = 2 from rfl, Nat.reduceMul, Nat.reduceEqDiff, Go.Addr.add, ↓reduceIte] at hx402_3)
                              have qi402 : (2 < t390.length) = True := eq_true (by omega)
                              (try rw [show ((2 : Int)).toNat = 2 from rfl] at hx402_0)
                              (try rw [show 2 * 4 = 8 from rfl] at hx402_0)
                              (try rw [show ((2 : Int)).toNat = 2 from rfl] at hx402_1)
                              (try rw [show 2 * 4 = 8 from rfl] at hx402_1)
                              (try rw [show ((2 : Int)).toNat = 2 from rfl] at hx402_2)
                              (try rw [show 2 * 4 = 8 from rfl] at hx402_2)
                              (try rw [show ((2 : Int)).toNat = 2 from rfl] at hx402_3)
                              (try rw [show 2 * 4 = 8 from rfl] at hx402_3)
                              replace p402 := eq_true p402
                              replace q402 := eq_true q402
                              have p403 : 0 ≤ (3 : Int) := (by omega)
                              have q403 : 3 < (t390.length : Int) := of_decide_eq_true (by first | (with_reducible assumption) | assumption)
                              obtain ⟨ad403, e403, hx403_0, hx403_1, hx403_2, hx403_3⟩ := at_T42 (Kd.R_reads' HO_1.out).2.2 3 p403 q403
                              obtain rfl : ad400 = ad403 := (by injection e403)
                              (try simp only [show (3 : Int).toNat = 3 from rfl, Nat.reduceMul, Nat.reduceEqDiff, Go.Addr.add, ↓reduceIte] at hx403_0)
                              (try simp only [show (3 : Int).toNat = 3 from rfl, Nat.reduceMul, Nat.reduceEqDiff, Go.Addr.add, ↓reduceIte] at hx403_1)
                              (try simp only [show (3 : Int).toNat = 3 from rfl, Nat.reduceMul, Nat.reduceEqDiff, Go.Addr.add, ↓reduceIte] at hx403_2)
                              (try simp only [show (3 : Int).toNat = 3 from rfl, Nat.reduceMul, Nat.reduceEqDiff, Go.Addr.add, ↓reduceIte] at hx403_3)
                              have qi403 : (3 < t390.length) = True := eq_true (by omega)
                              (try rw [show ((3 : Int)).toNat = 3 from rfl] at hx403_0)
                              (try rw [show 3 * 4 = 12 from rfl] at hx403_0)
                              (try rw [show ((3 : Int)).toNat = 3 from rfl] at hx403_1)
                              (try rw [show 3 * 4 = 12 from rfl] at hx403_1)
                              (try rw [show ((3 : Int)).toNat = 3 from rfl] at hx403_2)
                              (try rw [show 3 * 4 = 12 from rfl] at hx403_2)
                              (try rw [show ((3 : Int)).toNat = 3 from rfl] at hx403_3)
                              (try rw [show 3 * 4 = 12 from rfl] at hx403_3)
                              replace p403 := eq_true p403
                              replace q403 := eq_true q403
                              obtain ⟨Ao31, co31, eo31⟩ := Kd.R_slice HO_4.out
                              subst eo31
                              have p404 : 0 ≤ (0 : Int) := (by omega)
                              have q404 : 0 < (t395.length : Int) := of_decide_eq_true (by first | (with_reducible assumption) | assumption)
                              obtain ⟨ad404, e404, hx404_0, hx404_1, hx404_2, hx404_3⟩ := at_T42 (Kd.R_reads' HO_4.out).2.2 0 p404 q404
                              cases e404
                              have qi404 : (0 < t395.length) = True := eq_true (by omega)
                              (try rw [show ((0 : Int)).toNat = 0 from rfl] at hx404_0)
                              (try rw [show 0 * 4 = 0 from rfl] at hx404_0)
                              (try rw [Addr.add_zero'] at hx404_0)
                              (try rw [show ((0 : Int)).toNat = 0 from rfl] at hx404_1)
                              (try rw [show 0 * 4 = 0 from rfl] at hx404_1)
                              (try rw [Addr.add_zero'] at hx404_1)
                              (try rw [show ((0 : Int)).toNat = 0 from rfl] at hx404_2)
                              (try rw [show 0 * 4 = 0 from rfl] at hx404_2)
                              (try rw [Addr.add_zero'] at hx404_2)
                              (try rw [show ((0 : Int)).toNat = 0 from rfl] at hx404_3)
                              (try rw [show 0 * 4 = 0 from rfl] at hx404_3)
                              (try rw [Addr.add_zero'] at hx404_3)
                              replace p404 := eq_true p404
                              replace q404 := eq_true q404
                              go_wp2
                              go_meet
                              case rel => exact ⟨_, (false), (by first | rfl | (simp; done) | (simp [*]; done) | (simp [*, bne]; done)), H', ⟨by have := HJ2.out; first | omega | exact Nat.le_refl _⟩, ⟨by repeat (first | (with_reducible first | exact HB.out | apply below_alloc | apply pw_below_drewN | apply below_drew1) | exact HB.out)⟩⟩
                          · rw [if_neg c22] at H
                            exact absurd H (by simp)
                        · rw [if_neg c21] at H
                          have c21b0 : (((rd_T42 t390 3).f0) == 4) = false := beq_eq_false_iff_ne.mpr c21
                          have c21b1 : (((rd_T42 t390 3).f0) != 4) = true := bne_iff_ne.mpr c21
                          have H' := Aside0.mk H
                          clear H
                          obtain ⟨Ao32, co32, eo32⟩ := Kd.R_slice HO_1.out
                          subst eo32
                          have p400 : 0 ≤ (0 : Int) := (by omega)
                          have q400 : 0 < (t390.length : Int) := of_decide_eq_true (by first | (with_reducible assumption) | assumption)
                          obtain ⟨ad400, e400, hx400_0, hx400_1, hx400_2, hx400_3⟩ := at_T42 (Kd.R_reads' HO_1.out).2.2 0 p400 q400
                          cases e400
                          have qi400 : (0 < t390.length) = True := eq_true (by omega)
                          (try rw [show ((0 : Int)).toNat = 0 from rfl] at hx400_0)
                          (try rw [show 0 * 4 = 0 from rfl] at hx400_0)
                          (try rw [Addr.add_zero'] at hx400_0)
                          (try rw [show ((0 : Int)).toNat = 0 from rfl] at hx400_1)
                          (try rw [show 0 * 4 = 0 from rfl] at hx400_1)
                          (try rw [Addr.add_zero'] at hx400_1)
                          (try rw [show ((0 : Int)).toNat = 0 from rfl] at hx400_2)
                          (try rw [show 0 * 4 = 0 from rfl] at hx400_2)
                          (try rw [Addr.add_zero'] at hx400_2)
                          (try rw [show ((0 : Int)).toNat = 0 from rfl] at hx400_3)
                          (try rw [show 0 * 4 = 0 from rfl] at hx400_3)
                          (try rw [Addr.add_zero'] at hx400_3)
                          replace p400 := eq_true p400
                          replace q400 := eq_true q400
                          have p401 : 0 ≤ (1 : Int) := (by omega)
                          have q401 : 1 < (t390.length : Int) := of_decide_eq_true (by first | (with_reducible assumption) | assumption)
                          obtain ⟨ad401, e401, hx401_0, hx401_1, hx401_2, hx401_3⟩ := at_T42 (Kd.R_reads' HO_1.out).2.2 1 p401 q401
                          obtain rfl : ad400 = ad401 := (by injection e401)
                          (try simp only [show (1 : Int).toNat = 1 from rfl, Nat.reduceMul, Nat.reduceEqDiff, Go.Addr.add, ↓reduceIte] at hx401_0)
                          (try simp only [show (1 : Int).toNat = 1 from rfl, Nat.reduceMul, Nat.reduceEqDiff, Go.Addr.add, ↓reduceIte] at hx401_1)
                          (try simp only [show (1 : Int).toNat = 1 from rfl, Nat.reduceMul, Nat.reduceEqDiff, Go.Addr.add, ↓reduceIte] at hx401_2)
                          (try simp only [show (1 : Int).toNat = 1 from rfl, Nat.reduceMul, Nat.reduceEqDiff, Go.Addr.add, ↓reduceIte] at hx401_3)
                          have qi401 : (1 < t390.length) = True := eq_true (by omega)
                          (try rw [show ((1 : Int)).toNat = 1 from rfl] at hx401_0)
                          (try rw [show 1 * 4 = 4 from rfl] at hx401_0)
                          (try rw [show ((1 : Int)).toNat = 1 from rfl] at hx401_1)
                          (try rw [show 1 * 4 = 4 from rfl] at hx401_1)
                          (try rw [show ((1 : Int)).toNat = 1 from rfl] at hx401_2)
                          (try rw [show 1 * 4 = 4 from rfl] at hx401_2)
                          (try rw [show ((1 : Int)).toNat = 1 from rfl] at hx401_3)
                          (try rw [show 1 * 4 = 4 from rfl] at hx401_3)
                          replace p401 := eq_true p401
                          replace q401 := eq_true q401
                          have p402 : 0 ≤ (2 : Int) := (by omega)
                          have q402 : 2 < (t390.length : Int) := of_decide_eq_true (by first | (with_reducible assumption) | assumption)
                          obtain ⟨ad402, e402, hx402_0, hx402_1, hx402_2, hx402_3⟩ := at_T42 (Kd.R_reads' HO_1.out).2.2 2 p402 q402
                          obtain rfl : ad400 = ad402 := (by injection e402)
                          (try simp only [show (2 : Int).toNat = 2 from rfl, Nat.reduceMul, Nat.reduceEqDiff, Go.Addr.add, ↓reduceIte] at hx402_0)
                          (try simp only [show (2 : Int).toNat = 2 from rfl, Nat.reduceMul, Nat.reduceEqDiff, Go.Addr.add, ↓reduceIte] at hx402_1)
                          (try simp only [show (2 : Int).toNat = 2 from rfl, Nat.reduceMul, Nat.reduceEqDiff, Go.Addr.add, ↓reduceIte] at hx402_2)
                          (try simp only [show (2 : Int).toNat = 2 from rfl, Nat.reduceMul, Nat.reduceEqDiff, Go.Addr.add, ↓reduceIte] at hx402_3)
                          have qi402 : (2 < t390.length) = True := eq_true (by omega)
                          (try rw [show ((2 : Int)).toNat = 2 from rfl] at hx402_0)
                          (try rw [show 2 * 4 = 8 from rfl] at hx402_0)
                          (try rw [show ((2 : Int)).toNat = 2 from rfl] at hx402_1)
                          (try rw [show 2 * 4 = 8 from rfl] at hx402_1)
                          (try rw [show ((2 : Int)).toNat = 2 from rfl] at hx402_2)
                          (try rw [show 2 * 4 = 8 from rfl] at hx402_2)
                          (try rw [show ((2 : Int)).toNat = 2 from rfl] at hx402_3)
                          (try rw [show 2 * 4 = 8 from rfl] at hx402_3)
                          replace p402 := eq_true p402
                          replace q402 := eq_true q402
                          have p403 : 0 ≤ (3 : Int) := (by omega)
                          have q403 : 3 < (t390.length : Int) := of_decide_eq_true (by first | (with_reducible assumption) | assumption)
                          obtain ⟨ad403, e403, hx403_0, hx403_1, hx403_2, hx403_3⟩ := at_T42 (Kd.R_reads' HO_1.out).2.2 3 p403 q403
                          obtain rfl : ad400 = ad403 := (by injection e403)
                          (try simp only [show (3 : Int).toNat = 3 from rfl, Nat.reduceMul, Nat.reduceEqDiff, Go.Addr.add, ↓reduceIte] at hx403_0)
                          (try simp only [show (3 : Int).toNat = 3 from rfl, Nat.reduceMul, Nat.reduceEqDiff, Go.Addr.add, ↓reduceIte] at hx403_1)
                          (try simp only [show (3 : Int).toNat = 3 from rfl, Nat.reduceMul, Nat.reduceEqDiff, Go.Addr.add, ↓reduceIte] at hx403_2)
                          (try simp only [show (3 : Int).toNat = 3 from rfl, Nat.reduceMul, Nat.reduceEqDiff, Go.Addr.add, ↓reduceIte] at hx403_3)
                          have qi403 : (3 < t390.length) = True := eq_true (by omega)
                          (try rw [show ((3 : Int)).toNat = 3 from rfl] at hx403_0)
                          (try rw [show 3 * 4 = 12 from rfl] at hx403_0)
                          (try rw [show ((3 : Int)).toNat = 3 from rfl] at hx403_1)
                          (try rw [show 3 * 4 = 12 from rfl] at hx403_1)
                          (try rw [show ((3 : Int)).toNat = 3 from rfl] at hx403_2)
                          (try rw [show 3 * 4 = 12 from rfl] at hx403_2)
                          (try rw [show ((3 : Int)).toNat = 3 from rfl] at hx403_3)
                          (try rw [show 3 * 4 = 12 from rfl] at hx403_3)
                          replace p403 := eq_true p403
                          replace q403 := eq_true q403
                          go_wp2
                          go_meet
                          case rel => exact ⟨_, (false), (by first | rfl | (simp; done) | (simp [*]; done) | (simp [*, bne]; done)), H', ⟨by have := HJ2.out; first | omega | exact Nat.le_refl _⟩, ⟨by repeat (first | (with_reducible first | exact HB.out | apply below_alloc | apply pw_below_drewN | apply below_drew1) | exact HB.out)⟩⟩
                      · rw [if_neg c20] at H
                        exact absurd H (by simp)
                    · rw [if_neg c19] at H
                      have c19b0 : (((rd_T42 t390 2).f2) == 12) = false := beq_eq_false_iff_ne.mpr c19
                      have c19b1 : (((rd_T42 t390 2).f2) != 12) = true := bne_iff_ne.mpr c19
                      have H' := Aside0.mk H
                      clear H
                      obtain ⟨Ao33, co33, eo33⟩ := Kd.R_slice HO_1.out
                      subst eo33
                      have p400 : 0 ≤ (0 : Int) := (by omega)
                      have q400 : 0 < (t390.length : Int) := of_decide_eq_true (by first | (with_reducible assumption) | assumption)
                      obtain ⟨ad400, e400, hx400_0, hx400_1, hx400_2, hx400_3⟩ := at_T42 (Kd.R_reads' HO_1.out).2.2 0 p400 q400
                      cases e400
                      have qi400 : (0 < t390.length) = True := eq_true (by omega)
                      (try rw [show ((0 : Int)).toNat = 0 from rfl] at hx400_0)
                      (try rw [show 0 * 4 = 0 from rfl] at hx400_0)
                      (try rw [Addr.add_zero'] at hx400_0)
                      (try rw [show ((0 : Int)).toNat = 0 from rfl] at hx400_1)
                      (try rw [show 0 * 4 = 0 from rfl] at hx400_1)
                      (try rw [Addr.add_zero'] at hx400_1)
                      (try rw [show ((0 : Int)).toNat = 0 from rfl] at hx400_2)
                      (try rw [show 0 * 4 = 0 from rfl] at hx400_2)
                      (try rw [Addr.add_zero'] at hx400_2)
                      (try rw [show ((0 : Int)).toNat = 0 from rfl] at hx400_3)
                      (try rw [show 0 * 4 = 0 from rfl] at hx400_3)
                      (try rw [Addr.add_zero'] at hx400_3)
                      replace p400 := eq_true p400
                      replace q400 := eq_true q400
                      have p401 : 0 ≤ (1 : Int) := (by omega)
                      have q401 : 1 < (t390.length : Int) := of_decide_eq_true (by first | (with_reducible assumption) | assumption)
                      obtain ⟨ad401, e401, hx401_0, hx401_1, hx401_2, hx401_3⟩ := at_T42 (Kd.R_reads' HO_1.out).2.2 1 p401 q401
                      obtain rfl : ad400 = ad401 := (by injection e401)
                      (try simp only [show (1 : Int).toNat = 1 from rfl, Nat.reduceMul, Nat.reduceEqDiff, Go.Addr.add, ↓reduceIte] at hx401_0)
                      (try simp only [show (1 : Int).toNat = 1 from rfl, Nat.reduceMul, Nat.reduceEqDiff, Go.Addr.add, ↓reduceIte] at hx401_1)
                      (try simp only [show (1 : Int).toNat = 1 from rfl, Nat.reduceMul, Nat.reduceEqDiff, Go.Addr.add, ↓reduceIte] at hx401_2)
                      (try simp only [show (1 : Int).toNat = 1 from rfl, Nat.reduceMul, Nat.reduceEqDiff, Go.Addr.add, ↓reduceIte] at hx401_3)
                      have qi401 : (1 < t390.length) = True := eq_true (by omega)
                      (try rw [show ((1 : Int)).toNat = 1 from rfl] at hx401_0)
                      (try rw [show 1 * 4 = 4 from rfl] at hx401_0)
                      (try rw [show ((1 : Int)).toNat = 1 from rfl] at hx401_1)
                      (try rw [show 1 * 4 = 4 from rfl] at hx401_1)
                      (try rw [show ((1 : Int)).toNat = 1 from rfl] at hx401_2)
                      (try rw [show 1 * 4 = 4 from rfl] at hx401_2)
                      (try rw [show ((1 : Int)).toNat = 1 from rfl] at hx401_3)
                      (try rw [show 1 * 4 = 4 from rfl] at hx401_3)
                      replace p401 := eq_true p401
                      replace q401 := eq_true q401
                      have p402 : 0 ≤ (2 : Int) := (by omega)
                      have q402 : 2 < (t390.length : Int) := of_decide_eq_true (by first | (with_reducible assumption) | assumption)
                      obtain ⟨ad402, e402, hx402_0, hx402_1, hx402_2, hx402_3⟩ := at_T42 (Kd.R_reads' HO_1.out).2.2 2 p402 q402
                      obtain rfl : ad400 = ad402 := (by injection e402)
                      (try simp only [show (2 : Int).toNat = 2 from rfl, Nat.reduceMul, Nat.reduceEqDiff, Go.Addr.add, ↓reduceIte] at hx402_0)
                      (try simp only [show (2 : Int).toNat = 2 from rfl, Nat.reduceMul, Nat.reduceEqDiff, Go.Addr.add, ↓reduceIte] at hx402_1)
                      (try simp only [show (2 : Int).toNat = 2 from rfl, Nat.reduceMul, Nat.reduceEqDiff, Go.Addr.add, ↓reduceIte] at hx402_2)
                      (try simp only [show (2 : Int).toNat = 2 from rfl, Nat.reduceMul, Nat.reduceEqDiff, Go.Addr.add, ↓reduceIte] at hx402_3)
                      have qi402 : (2 < t390.length) = True := eq_true (by omega)
                      (try rw [show ((2 : Int)).toNat = 2 from rfl] at hx402_0)
                      (try rw [show 2 * 4 = 8 from rfl] at hx402_0)
                      (try rw [show ((2 : Int)).toNat = 2 from rfl] at hx402_1)
                      (try rw [show 2 * 4 = 8 from rfl] at hx402_1)
                      (try rw [show ((2 : Int)).toNat = 2 from rfl] at hx402_2)
                      (try rw [show 2 * 4 = 8 from rfl] at hx402_2)
                      (try rw [show ((2 : Int)).toNat = 2 from rfl] at hx402_3)
                      (try rw [show 2 * 4 = 8 from rfl] at hx402_3)
                      replace p402 := eq_true p402
                      replace q402 := eq_true q402
                      go_wp2
                      go_meet
                      case rel => exact ⟨_, (false), (by first | rfl | (simp; done) | (simp [*]; done) | (simp [*, bne]; done)), H', ⟨by have := HJ2.out; first | omega | exact Nat.le_refl _⟩, ⟨by repeat (first | (with_reducible first | exact HB.out | apply below_alloc | apply pw_below_drewN | apply below_drew1) | exact HB.out)⟩⟩
                  · rw [if_neg c18] at H
                    exact absurd H (by simp)
                · rw [if_neg c17] at H
                  have c17b0 : (((rd_T42 t390 1).f1).toList == ([99, 111, 108, 100, 45, 49] : List UInt8)) = false := beq_eq_false_iff_ne.mpr c17
                  have c17b1 : (((rd_T42 t390 1).f1).toList != ([99, 111, 108, 100, 45, 49] : List UInt8)) = true := bne_iff_ne.mpr c17
                  have H' := Aside0.mk H
                  clear H
                  obtain ⟨Ao34, co34, eo34⟩ := Kd.R_slice HO_1.out
                  subst eo34
                  have p400 : 0 ≤ (0 : Int) := (by omega)
                  have q400 : 0 < (t390.length : Int) := of_decide_eq_true (by first | (with_reducible assumption) | assumption)
                  obtain ⟨ad400, e400, hx400_0, hx400_1, hx400_2, hx400_3⟩ := at_T42 (Kd.R_reads' HO_1.out).2.2 0 p400 q400
                  cases e400
                  have qi400 : (0 < t390.length) = True := eq_true (by omega)
                  (try rw [show ((0 : Int)).toNat = 0 from rfl] at hx400_0)
                  (try rw [show 0 * 4 = 0 from rfl] at hx400_0)
                  (try rw [Addr.add_zero'] at hx400_0)
                  (try rw [show ((0 : Int)).toNat = 0 from rfl] at hx400_1)
                  (try rw [show 0 * 4 = 0 from rfl] at hx400_1)
                  (try rw [Addr.add_zero'] at hx400_1)
                  (try rw [show ((0 : Int)).toNat = 0 from rfl] at hx400_2)
                  (try rw [show 0 * 4 = 0 from rfl] at hx400_2)
                  (try rw [Addr.add_zero'] at hx400_2)
                  (try rw [show ((0 : Int)).toNat = 0 from rfl] at hx400_3)
                  (try rw [show 0 * 4 = 0 from rfl] at hx400_3)
                  (try rw [Addr.add_zero'] at hx400_3)
                  replace p400 := eq_true p400
                  replace q400 := eq_true q400
                  have p401 : 0 ≤ (1 : Int) := (by omega)
                  have q401 : 1 < (t390.length : Int) := of_decide_eq_true (by first | (with_reducible assumption) | assumption)
                  obtain ⟨ad401, e401, hx401_0, hx401_1, hx401_2, hx401_3⟩ := at_T42 (Kd.R_reads' HO_1.out).2.2 1 p401 q401
                  obtain rfl : ad400 = ad401 := (by injection e401)
                  (try simp only [show (1 : Int).toNat = 1 from rfl, Nat.reduceMul, Nat.reduceEqDiff, Go.Addr.add, ↓reduceIte] at hx401_0)
                  (try simp only [show (1 : Int).toNat = 1 from rfl, Nat.reduceMul, Nat.reduceEqDiff, Go.Addr.add, ↓reduceIte] at hx401_1)
                  (try simp only [show (1 : Int).toNat = 1 from rfl, Nat.reduceMul, Nat.reduceEqDiff, Go.Addr.add, ↓reduceIte] at hx401_2)
                  (try simp only [show (1 : Int).toNat = 1 from rfl, Nat.reduceMul, Nat.reduceEqDiff, Go.Addr.add, ↓reduceIte] at hx401_3)
                  have qi401 : (1 < t390.length) = True := eq_true (by omega)
                  (try rw [show ((1 : Int)).toNat = 1 from rfl] at hx401_0)
                  (try rw [show 1 * 4 = 4 from rfl] at hx401_0)
                  (try rw [show ((1 : Int)).toNat = 1 from rfl] at hx401_1)
                  (try rw [show 1 * 4 = 4 from rfl] at hx401_1)
                  (try rw [show ((1 : Int)).toNat = 1 from rfl] at hx401_2)
                  (try rw [show 1 * 4 = 4 from rfl] at hx401_2)
                  (try rw [show ((1 : Int)).toNat = 1 from rfl] at hx401_3)
                  (try rw [show 1 * 4 = 4 from rfl] at hx401_3)
                  replace p401 := eq_true p401
                  replace q401 := eq_true q401
                  go_wp2
                  go_meet
                  case rel => exact ⟨_, (false), (by first | rfl | (simp; done) | (simp [*]; done) | (simp [*, bne]; done)), H', ⟨by have := HJ2.out; first | omega | exact Nat.le_refl _⟩, ⟨by repeat (first | (with_reducible first | exact HB.out | apply below_alloc | apply pw_below_drewN | apply below_drew1) | exact HB.out)⟩⟩
              · rw [if_neg c16] at H
                exact absurd H (by simp)
            · rw [if_neg c15] at H
              have c15b0 : (((rd_T42 t390 0).f1).toList == ([122, 111, 110, 101] : List UInt8)) = false := beq_eq_false_iff_ne.mpr c15
              have c15b1 : (((rd_T42 t390 0).f1).toList != ([122, 111, 110, 101] : List UInt8)) = true := bne_iff_ne.mpr c15
              have H' := Aside0.mk H
              clear H
              obtain ⟨Ao35, co35, eo35⟩ := Kd.R_slice HO_1.out
              subst eo35
              have p400 : 0 ≤ (0 : Int) := (by omega)
              have q400 : 0 < (t390.length : Int) := of_decide_eq_true (by first | (with_reducible assumption) | assumption)
              obtain ⟨ad400, e400, hx400_0, hx400_1, hx400_2, hx400_3⟩ := at_T42 (Kd.R_reads' HO_1.out).2.2 0 p400 q400
              cases e400
              have qi400 : (0 < t390.length) = True := eq_true (by omega)
              (try rw [show ((0 : Int)).toNat = 0 from rfl] at hx400_0)
              (try rw [show 0 * 4 = 0 from rfl] at hx400_0)
              (try rw [Addr.add_zero'] at hx400_0)
              (try rw [show ((0 : Int)).toNat = 0 from rfl] at hx400_1)
              (try rw [show 0 * 4 = 0 from rfl] at hx400_1)
              (try rw [Addr.add_zero'] at hx400_1)
              (try rw [show ((0 : Int)).toNat = 0 from rfl] at hx400_2)
              (try rw [show 0 * 4 = 0 from rfl] at hx400_2)
              (try rw [Addr.add_zero'] at hx400_2)
              (try rw [show ((0 : Int)).toNat = 0 from rfl] at hx400_3)
              (try rw [show 0 * 4 = 0 from rfl] at hx400_3)
              (try rw [Addr.add_zero'] at hx400_3)
              replace p400 := eq_true p400
              replace q400 := eq_true q400
              go_wp2
              go_meet
              case rel => exact ⟨_, (false), (by first | rfl | (simp; done) | (simp [*]; done) | (simp [*, bne]; done)), H', ⟨by have := HJ2.out; first | omega | exact Nat.le_refl _⟩, ⟨by repeat (first | (with_reducible first | exact HB.out | apply below_alloc | apply pw_below_drewN | apply below_drew1) | exact HB.out)⟩⟩
          · rw [if_neg c14] at H
            exact absurd H (by simp)
        case rest =>
          clear HC13
          try clear c1
          try clear c2
          try clear p2
          try clear p4
          try clear q4
          try clear hx4
          try clear qi4
          try clear c14
          try clear c15
          try clear c15b0
          try clear c15b1
          try clear c16
          try clear c17
          try clear c17b0
          try clear c17b1
          try clear c18
          try clear c19
          try clear c19b0
          try clear c19b1
          try clear c20
          try clear c21
          try clear c21b0
          try clear c21b1
          try clear c22
          try clear c23
          try clear c23b0
          try clear c23b1
          try clear c24
          try clear c25
          try clear c25b0
          try clear c25b1
          try clear hx400_0
          try clear hx400_1
          try clear hx400_2
          try clear hx400_3
          try clear hx401_0
          try clear hx401_1
          try clear hx401_2
          try clear hx401_3
          try clear hx402_0
          try clear hx402_1
          try clear hx402_2
          try clear hx402_3
          try clear hx403_0
          try clear hx403_1
          try clear hx403_2
          try clear hx403_3
          try clear hx404_0
          try clear hx404_1
          try clear hx404_2
          try clear hx404_3
          try clear hx405_0
          try clear hx405_1
          try clear hx405_2
          try clear hx405_3
          try clear hx406_0
          try clear hx406_1
          try clear hx406_2
          try clear hx406_3
          try clear p400
          try clear p401
          try clear p402
          try clear p403
          try clear p404
          try clear p405
          try clear p406
          try clear q400
          try clear q401
          try clear q402
          try clear q403
          try clear q404
          try clear q405
          try clear q406
          obtain ⟨kq, x7_12, rfl, HA, HJ12, HB⟩ := hcut
          cases kq with
          | zero => exact absurd HA.out (by simp [taquinlaw09_small.j1])
          | succ kj12 =>
            have H := HA.out
            clear HA
            simp only [taquinlaw09_small.j1] at H
            by_cases c36 : x7_12 = true
            · subst c36
              have H1 : ((taquinlaw09_bad.f (⟨#[48, 49]⟩ : ByteArray)).bind fun t407 => (if t407 = true then ((taquinlaw09_bad.f (⟨#[49, 97]⟩ : ByteArray)).bind fun t408 => (if t408 = true then ((taquinlaw09_bad.f (⟨#[45, 49]⟩ : ByteArray)).bind fun t409 => (if t409 = true then ((taquinlaw09_bad.f (⟨#[34, 97]⟩ : ByteArray)).bind fun t410 => (if t410 = true then ((lex_Word.f (⟨#[97, 45, 49]⟩ : ByteArray)).bind fun t411 => (if t411 = true then ((lex_Word.f (⟨#[45, 97]⟩ : ByteArray)).bind fun t412 => (some (!t412))) else (some false))) else (some false))) else (some false))) else (some false))) else (some false))) = some r := by rw [if_pos rfl] at H; exact H
              clear H
              have H := H1
              clear H1
              replace H := Option.bind_eq_some_iff.mp H
              obtain ⟨t407, A370, H⟩ := H
              replace H : (if t407 = true then ((taquinlaw09_bad.f (⟨#[49, 97]⟩ : ByteArray)).bind fun t408 => (if t408 = true then ((taquinlaw09_bad.f (⟨#[45, 49]⟩ : ByteArray)).bind fun t409 => (if t409 = true then ((taquinlaw09_bad.f (⟨#[34, 97]⟩ : ByteArray)).bind fun t410 => (if t410 = true then ((lex_Word.f (⟨#[97, 45, 49]⟩ : ByteArray)).bind fun t411 => (if t411 = true then ((lex_Word.f (⟨#[45, 97]⟩ : ByteArray)).bind fun t412 => (some (!t412))) else (some false))) else (some false))) else (some false))) else (some false))) else (some false)) = some r := H
              have A37 := Aside0.mk A370
              clear A370
              by_cases c38 : t407 = true
              · subst c38
                have H1 : ((taquinlaw09_bad.f (⟨#[49, 97]⟩ : ByteArray)).bind fun t408 => (if t408 = true then ((taquinlaw09_bad.f (⟨#[45, 49]⟩ : ByteArray)).bind fun t409 => (if t409 = true then ((taquinlaw09_bad.f (⟨#[34, 97]⟩ : ByteArray)).bind fun t410 => (if t410 = true then ((lex_Word.f (⟨#[97, 45, 49]⟩ : ByteArray)).bind fun t411 => (if t411 = true then ((lex_Word.f (⟨#[45, 97]⟩ : ByteArray)).bind fun t412 => (some (!t412))) else (some false))) else (some false))) else (some false))) else (some false))) = some r := by rw [if_pos rfl] at H; exact H
                clear H
                have H := H1
                clear H1
                replace H := Option.bind_eq_some_iff.mp H
                obtain ⟨t408, A390, H⟩ := H
                replace H : (if t408 = true then ((taquinlaw09_bad.f (⟨#[45, 49]⟩ : ByteArray)).bind fun t409 => (if t409 = true then ((taquinlaw09_bad.f (⟨#[34, 97]⟩ : ByteArray)).bind fun t410 => (if t410 = true then ((lex_Word.f (⟨#[97, 45, 49]⟩ : ByteArray)).bind fun t411 => (if t411 = true then ((lex_Word.f (⟨#[45, 97]⟩ : ByteArray)).bind fun t412 => (some (!t412))) else (some false))) else (some false))) else (some false))) else (some false)) = some r := H
                have A39 := Aside0.mk A390
                clear A390
                by_cases c40 : t408 = true
                · subst c40
                  have H1 : ((taquinlaw09_bad.f (⟨#[45, 49]⟩ : ByteArray)).bind fun t409 => (if t409 = true then ((taquinlaw09_bad.f (⟨#[34, 97]⟩ : ByteArray)).bind fun t410 => (if t410 = true then ((lex_Word.f (⟨#[97, 45, 49]⟩ : ByteArray)).bind fun t411 => (if t411 = true then ((lex_Word.f (⟨#[45, 97]⟩ : ByteArray)).bind fun t412 => (some (!t412))) else (some false))) else (some false))) else (some false))) = some r := by rw [if_pos rfl] at H; exact H
                  clear H
                  have H := H1
                  clear H1
                  replace H := Option.bind_eq_some_iff.mp H
                  obtain ⟨t409, A410, H⟩ := H
                  replace H : (if t409 = true then ((taquinlaw09_bad.f (⟨#[34, 97]⟩ : ByteArray)).bind fun t410 => (if t410 = true then ((lex_Word.f (⟨#[97, 45, 49]⟩ : ByteArray)).bind fun t411 => (if t411 = true then ((lex_Word.f (⟨#[45, 97]⟩ : ByteArray)).bind fun t412 => (some (!t412))) else (some false))) else (some false))) else (some false)) = some r := H
                  have A41 := Aside0.mk A410
                  clear A410
                  by_cases c42 : t409 = true
                  · subst c42
                    have H1 : ((taquinlaw09_bad.f (⟨#[34, 97]⟩ : ByteArray)).bind fun t410 => (if t410 = true then ((lex_Word.f (⟨#[97, 45, 49]⟩ : ByteArray)).bind fun t411 => (if t411 = true then ((lex_Word.f (⟨#[45, 97]⟩ : ByteArray)).bind fun t412 => (some (!t412))) else (some false))) else (some false))) = some r := by rw [if_pos rfl] at H; exact H
                    clear H
                    have H := H1
                    clear H1
                    replace H := Option.bind_eq_some_iff.mp H
                    obtain ⟨t410, A430, H⟩ := H
                    replace H : (if t410 = true then ((lex_Word.f (⟨#[97, 45, 49]⟩ : ByteArray)).bind fun t411 => (if t411 = true then ((lex_Word.f (⟨#[45, 97]⟩ : ByteArray)).bind fun t412 => (some (!t412))) else (some false))) else (some false)) = some r := H
                    have A43 := Aside0.mk A430
                    clear A430
                    by_cases c44 : t410 = true
                    · subst c44
                      have H1 : ((lex_Word.f (⟨#[97, 45, 49]⟩ : ByteArray)).bind fun t411 => (if t411 = true then ((lex_Word.f (⟨#[45, 97]⟩ : ByteArray)).bind fun t412 => (some (!t412))) else (some false))) = some r := by rw [if_pos rfl] at H; exact H
                      clear H
                      have H := H1
                      clear H1
                      replace H := Option.bind_eq_some_iff.mp H
                      obtain ⟨t411, A450, H⟩ := H
                      replace H : (if t411 = true then ((lex_Word.f (⟨#[45, 97]⟩ : ByteArray)).bind fun t412 => (some (!t412))) else (some false)) = some r := H
                      have A45 := Aside0.mk A450
                      clear A450
                      by_cases c46 : t411 = true
                      · subst c46
                        have H1 : ((lex_Word.f (⟨#[45, 97]⟩ : ByteArray)).bind fun t412 => (some (!t412))) = some r := by rw [if_pos rfl] at H; exact H
                        clear H
                        have H := H1
                        clear H1
                        replace H := Option.bind_eq_some_iff.mp H
                        obtain ⟨t412, A470, H⟩ := H
                        replace H : (some (!t412)) = some r := H
                        have A47 := Aside0.mk A470
                        clear A470
                        obtain rfl := Option.some.inj H
                        go_wp2_with (first | (go_at_call 57; (with_reducible refine (taquinlaw09_bad.calls (⟨#[48, 49]⟩ : ByteArray) true _ A37.out (LaidP.below hLd (by repeat (first | (with_reducible first | exact HB.out | apply below_alloc | apply pw_below_drewN | apply below_drew1) | exact HB.out)))).mono ?_); rintro e w48 ⟨rfl, hb⟩; have n0_ := Aside0.mk (below_step (by repeat (first | (with_reducible first | exact HB.out | apply below_alloc | apply pw_below_drewN | apply below_drew1) | exact HB.out)) hb); clear HB; have HB := n0_; clear n0_; (try clear hb); (try clear hb2); (try clear hk); (try clear hi)) | (go_at_call 57; (with_reducible refine (taquinlaw09_bad.calls (⟨#[49, 97]⟩ : ByteArray) true _ A39.out (LaidP.below hLd (by repeat (first | (with_reducible first | exact HB.out | apply below_alloc | apply pw_below_drewN | apply below_drew1) | exact HB.out)))).mono ?_); rintro e w49 ⟨rfl, hb⟩; have n0_ := Aside0.mk (below_step (by repeat (first | (with_reducible first | exact HB.out | apply below_alloc | apply pw_below_drewN | apply below_drew1) | exact HB.out)) hb); clear HB; have HB := n0_; clear n0_; (try clear hb); (try clear hb2); (try clear hk); (try clear hi)) | (go_at_call 57; (with_reducible refine (taquinlaw09_bad.calls (⟨#[45, 49]⟩ : ByteArray) true _ A41.out (LaidP.below hLd (by repeat (first | (with_reducible first | exact HB.out | apply below_alloc | apply pw_below_drewN | apply below_drew1) | exact HB.out)))).mono ?_); rintro e w50 ⟨rfl, hb⟩; have n0_ := Aside0.mk (below_step (by repeat (first | (with_reducible first | exact HB.out | apply below_alloc | apply pw_below_drewN | apply below_drew1) | exact HB.out)) hb); clear HB; have HB := n0_; clear n0_; (try clear hb); (try clear hb2); (try clear hk); (try clear hi)) | (go_at_call 57; (with_reducible refine (taquinlaw09_bad.calls (⟨#[34, 97]⟩ : ByteArray) true _ A43.out (LaidP.below hLd (by repeat (first | (with_reducible first | exact HB.out | apply below_alloc | apply pw_below_drewN | apply below_drew1) | exact HB.out)))).mono ?_); rintro e w51 ⟨rfl, hb⟩; have n0_ := Aside0.mk (below_step (by repeat (first | (with_reducible first | exact HB.out | apply below_alloc | apply pw_below_drewN | apply below_drew1) | exact HB.out)) hb); clear HB; have HB := n0_; clear n0_; (try clear hb); (try clear hb2); (try clear hk); (try clear hi)) | (go_at_call 27; (with_reducible refine (lex_Word.calls (⟨#[97, 45, 49]⟩ : ByteArray) true _ A45.out).mono ?_); rintro e w' ⟨rfl, ⟨nd, rfl⟩⟩) | (go_at_call 27; (with_reducible refine (lex_Word.calls (⟨#[45, 97]⟩ : ByteArray) t412 _ A47.out).mono ?_); rintro e w' ⟨rfl, ⟨nd, rfl⟩⟩))
                        go_ret
                        exact ⟨by first | rfl | (simp [errW_none, errW_some] <;> rfl) | (simp [*, errW_none, errW_some] <;> rfl), by repeat (first | (with_reducible first | exact HB.out | apply below_alloc | apply pw_below_drewN | apply below_drew1) | exact HB.out)⟩
                      · replace c46 := Bool.eq_false_iff.mpr c46
                        subst c46
                        have H1 : (some false) = some r := by rw [if_neg (show ¬ (false = true) by decide)] at H; exact H
                        clear H
                        have H := H1
                        clear H1
                        obtain rfl := Option.some.inj H
                        go_wp2_with (first | (go_at_call 57; (with_reducible refine (taquinlaw09_bad.calls (⟨#[48, 49]⟩ : ByteArray) true _ A37.out (LaidP.below hLd (by repeat (first | (with_reducible first | exact HB.out | apply below_alloc | apply pw_below_drewN | apply below_drew1) | exact HB.out)))).mono ?_); rintro e w52 ⟨rfl, hb⟩; have n0_ := Aside0.mk (below_step (by repeat (first | (with_reducible first | exact HB.out | apply below_alloc | apply pw_below_drewN | apply below_drew1) | exact HB.out)) hb); clear HB; have HB := n0_; clear n0_; (try clear hb); (try clear hb2); (try clear hk); (try clear hi)) | (go_at_call 57; (with_reducible refine (taquinlaw09_bad.calls (⟨#[49, 97]⟩ : ByteArray) true _ A39.out (LaidP.below hLd (by repeat (first | (with_reducible first | exact HB.out | apply below_alloc | apply pw_below_drewN | apply below_drew1) | exact HB.out)))).mono ?_); rintro e w53 ⟨rfl, hb⟩; have n0_ := Aside0.mk (below_step (by repeat (first | (with_reducible first | exact HB.out | apply below_alloc | apply pw_below_drewN | apply below_drew1) | exact HB.out)) hb); clear HB; have HB := n0_; clear n0_; (try clear hb); (try clear hb2); (try clear hk); (try clear hi)) | (go_at_call 57; (with_reducible refine (taquinlaw09_bad.calls (⟨#[45, 49]⟩ : ByteArray) true _ A41.out (LaidP.below hLd (by repeat (first | (with_reducible first | exact HB.out | apply below_alloc | apply pw_below_drewN | apply below_drew1) | exact HB.out)))).mono ?_); rintro e w54 ⟨rfl, hb⟩; have n0_ := Aside0.mk (below_step (by repeat (first | (with_reducible first | exact HB.out | apply below_alloc | apply pw_below_drewN | apply below_drew1) | exact HB.out)) hb); clear HB; have HB := n0_; clear n0_; (try clear hb); (try clear hb2); (try clear hk); (try clear hi)) | (go_at_call 57; (with_reducible refine (taquinlaw09_bad.calls (⟨#[34, 97]⟩ : ByteArray) true _ A43.out (LaidP.below hLd (by repeat (first | (with_reducible first | exact HB.out | apply below_alloc | apply pw_below_drewN | apply below_drew1) | exact HB.out)))).mono ?_); rintro e w55 ⟨rfl, hb⟩; have n0_ := Aside0.mk (below_step (by repeat (first | (with_reducible first | exact HB.out | apply below_alloc | apply pw_below_drewN | apply below_drew1) | exact HB.out)) hb); clear HB; have HB := n0_; clear n0_; (try clear hb); (try clear hb2); (try clear hk); (try clear hi)) | (go_at_call 27; (with_reducible refine (lex_Word.calls (⟨#[97, 45, 49]⟩ : ByteArray) false _ A45.out).mono ?_); rintro e w' ⟨rfl, ⟨nd, rfl⟩⟩))
                        go_ret
                        exact ⟨by first | rfl | (simp [errW_none, errW_some] <;> rfl) | (simp [*, errW_none, errW_some] <;> rfl), by repeat (first | (with_reducible first | exact HB.out | apply below_alloc | apply pw_below_drewN | apply below_drew1) | exact HB.out)⟩
                    · replace c44 := Bool.eq_false_iff.mpr c44
                      subst c44
                      have H1 : (some false) = some r := by rw [if_neg (show ¬ (false = true) by decide)] at H; exact H
                      clear H
                      have H := H1
                      clear H1
                      obtain rfl := Option.some.inj H
                      go_wp2_with (first | (go_at_call 57; (with_reducible refine (taquinlaw09_bad.calls (⟨#[48, 49]⟩ : ByteArray) true _ A37.out (LaidP.below hLd (by repeat (first | (with_reducible first | exact HB.out | apply below_alloc | apply pw_below_drewN | apply below_drew1) | exact HB.out)))).mono ?_); rintro e w56 ⟨rfl, hb⟩; have n0_ := Aside0.mk (below_step (by repeat (first | (with_reducible first | exact HB.out | apply below_alloc | apply pw_below_drewN | apply below_drew1) | exact HB.out)) hb); clear HB; have HB := n0_; clear n0_; (try clear hb); (try clear hb2); (try clear hk); (try clear hi)) | (go_at_call 57; (with_reducible refine (taquinlaw09_bad.calls (⟨#[49, 97]⟩ : ByteArray) true _ A39.out (LaidP.below hLd (by repeat (first | (with_reducible first | exact HB.out | apply below_alloc | apply pw_below_drewN | apply below_drew1) | exact HB.out)))).mono ?_); rintro e w57 ⟨rfl, hb⟩; have n0_ := Aside0.mk (below_step (by repeat (first | (with_reducible first | exact HB.out | apply below_alloc | apply pw_below_drewN | apply below_drew1) | exact HB.out)) hb); clear HB; have HB := n0_; clear n0_; (try clear hb); (try clear hb2); (try clear hk); (try clear hi)) | (go_at_call 57; (with_reducible refine (taquinlaw09_bad.calls (⟨#[45, 49]⟩ : ByteArray) true _ A41.out (LaidP.below hLd (by repeat (first | (with_reducible first | exact HB.out | apply below_alloc | apply pw_below_drewN | apply below_drew1) | exact HB.out)))).mono ?_); rintro e w58 ⟨rfl, hb⟩; have n0_ := Aside0.mk (below_step (by repeat (first | (with_reducible first | exact HB.out | apply below_alloc | apply pw_below_drewN | apply below_drew1) | exact HB.out)) hb); clear HB; have HB := n0_; clear n0_; (try clear hb); (try clear hb2); (try clear hk); (try clear hi)) | (go_at_call 57; (with_reducible refine (taquinlaw09_bad.calls (⟨#[34, 97]⟩ : ByteArray) false _ A43.out (LaidP.below hLd (by repeat (first | (with_reducible first | exact HB.out | apply below_alloc | apply pw_below_drewN | apply below_drew1) | exact HB.out)))).mono ?_); rintro e w59 ⟨rfl, hb⟩; have n0_ := Aside0.mk (below_step (by repeat (first | (with_reducible first | exact HB.out | apply below_alloc | apply pw_below_drewN | apply below_drew1) | exact HB.out)) hb); clear HB; have HB := n0_; clear n0_; (try clear hb); (try clear hb2); (try clear hk); (try clear hi)))
                      go_ret
                      exact ⟨by first | rfl | (simp [errW_none, errW_some] <;> rfl) | (simp [*, errW_none, errW_some] <;> rfl), by repeat (first | (with_reducible first | exact HB.out | apply below_alloc | apply pw_below_drewN | apply below_drew1) | exact HB.out)⟩
                  · replace c42 := Bool.eq_false_iff.mpr c42
                    subst c42
                    have H1 : (some false) = some r := by rw [if_neg (show ¬ (false = true) by decide)] at H; exact H
                    clear H
                    have H := H1
                    clear H1
                    obtain rfl := Option.some.inj H
                    go_wp2_with (first | (go_at_call 57; (with_reducible refine (taquinlaw09_bad.calls (⟨#[48, 49]⟩ : ByteArray) true _ A37.out (LaidP.below hLd (by repeat (first | (with_reducible first | exact HB.out | apply below_alloc | apply pw_below_drewN | apply below_drew1) | exact HB.out)))).mono ?_); rintro e w60 ⟨rfl, hb⟩; have n0_ := Aside0.mk (below_step (by repeat (first | (with_reducible first | exact HB.out | apply below_alloc | apply pw_below_drewN | apply below_drew1) | exact HB.out)) hb); clear HB; have HB := n0_; clear n0_; (try clear hb); (try clear hb2); (try clear hk); (try clear hi)) | (go_at_call 57; (with_reducible refine (taquinlaw09_bad.calls (⟨#[49, 97]⟩ : ByteArray) true _ A39.out (LaidP.below hLd (by repeat (first | (with_reducible first | exact HB.out | apply below_alloc | apply pw_below_drewN | apply below_drew1) | exact HB.out)))).mono ?_); rintro e w61 ⟨rfl, hb⟩; have n0_ := Aside0.mk (below_step (by repeat (first | (with_reducible first | exact HB.out | apply below_alloc | apply pw_below_drewN | apply below_drew1) | exact HB.out)) hb); clear HB; have HB := n0_; clear n0_; (try clear hb); (try clear hb2); (try clear hk); (try clear hi)) | (go_at_call 57; (with_reducible refine (taquinlaw09_bad.calls (⟨#[45, 49]⟩ : ByteArray) false _ A41.out (LaidP.below hLd (by repeat (first | (with_reducible first | exact HB.out | apply below_alloc | apply pw_below_drewN | apply below_drew1) | exact HB.out)))).mono ?_); rintro e w62 ⟨rfl, hb⟩; have n0_ := Aside0.mk (below_step (by repeat (first | (with_reducible first | exact HB.out | apply below_alloc | apply pw_below_drewN | apply below_drew1) | exact HB.out)) hb); clear HB; have HB := n0_; clear n0_; (try clear hb); (try clear hb2); (try clear hk); (try clear hi)))
                    go_ret
                    exact ⟨by first | rfl | (simp [errW_none, errW_some] <;> rfl) | (simp [*, errW_none, errW_some] <;> rfl), by repeat (first | (with_reducible first | exact HB.out | apply below_alloc | apply pw_below_drewN | apply below_drew1) | exact HB.out)⟩
                · replace c40 := Bool.eq_false_iff.mpr c40
                  subst c40
                  have H1 : (some false) = some r := by rw [if_neg (show ¬ (false = true) by decide)] at H; exact H
                  clear H
                  have H := H1
                  clear H1
                  obtain rfl := Option.some.inj H
                  go_wp2_with (first | (go_at_call 57; (with_reducible refine (taquinlaw09_bad.calls (⟨#[48, 49]⟩ : ByteArray) true _ A37.out (LaidP.below hLd (by repeat (first | (with_reducible first | exact HB.out | apply below_alloc | apply pw_below_drewN | apply below_drew1) | exact HB.out)))).mono ?_); rintro e w63 ⟨rfl, hb⟩; have n0_ := Aside0.mk (below_step (by repeat (first | (with_reducible first | exact HB.out | apply below_alloc | apply pw_below_drewN | apply below_drew1) | exact HB.out)) hb); clear HB; have HB := n0_; clear n0_; (try clear hb); (try clear hb2); (try clear hk); (try clear hi)) | (go_at_call 57; (with_reducible refine (taquinlaw09_bad.calls (⟨#[49, 97]⟩ : ByteArray) false _ A39.out (LaidP.below hLd (by repeat (first | (with_reducible first | exact HB.out | apply below_alloc | apply pw_below_drewN | apply below_drew1) | exact HB.out)))).mono ?_); rintro e w64 ⟨rfl, hb⟩; have n0_ := Aside0.mk (below_step (by repeat (first | (with_reducible first | exact HB.out | apply below_alloc | apply pw_below_drewN | apply below_drew1) | exact HB.out)) hb); clear HB; have HB := n0_; clear n0_; (try clear hb); (try clear hb2); (try clear hk); (try clear hi)))
                  go_ret
                  exact ⟨by first | rfl | (simp [errW_none, errW_some] <;> rfl) | (simp [*, errW_none, errW_some] <;> rfl), by repeat (first | (with_reducible first | exact HB.out | apply below_alloc | apply pw_below_drewN | apply below_drew1) | exact HB.out)⟩
              · replace c38 := Bool.eq_false_iff.mpr c38
                subst c38
                have H1 : (some false) = some r := by rw [if_neg (show ¬ (false = true) by decide)] at H; exact H
                clear H
                have H := H1
                clear H1
                obtain rfl := Option.some.inj H
                go_wp2_with (first | (go_at_call 57; (with_reducible refine (taquinlaw09_bad.calls (⟨#[48, 49]⟩ : ByteArray) false _ A37.out (LaidP.below hLd (by repeat (first | (with_reducible first | exact HB.out | apply below_alloc | apply pw_below_drewN | apply below_drew1) | exact HB.out)))).mono ?_); rintro e w65 ⟨rfl, hb⟩; have n0_ := Aside0.mk (below_step (by repeat (first | (with_reducible first | exact HB.out | apply below_alloc | apply pw_below_drewN | apply below_drew1) | exact HB.out)) hb); clear HB; have HB := n0_; clear n0_; (try clear hb); (try clear hb2); (try clear hk); (try clear hi)))
                go_ret
                exact ⟨by first | rfl | (simp [errW_none, errW_some] <;> rfl) | (simp [*, errW_none, errW_some] <;> rfl), by repeat (first | (with_reducible first | exact HB.out | apply below_alloc | apply pw_below_drewN | apply below_drew1) | exact HB.out)⟩
            · replace c36 := Bool.eq_false_iff.mpr c36
              subst c36
              have H1 : (some false) = some r := by rw [if_neg (show ¬ (false = true) by decide)] at H; exact H
              clear H
              have H := H1
              clear H1
              obtain rfl := Option.some.inj H
              go_wp2
              go_ret
              exact ⟨by first | rfl | (simp [errW_none, errW_some] <;> rfl) | (simp [*, errW_none, errW_some] <;> rfl), by repeat (first | (with_reducible first | exact HB.out | apply below_alloc | apply pw_below_drewN | apply below_drew1) | exact HB.out)⟩

end Go.Proofs.YteifffaonigidaaDoor.M
