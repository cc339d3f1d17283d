-- Printed by wip/tools/myprint.py (an own program; its engine is the kit's print): checked by Lean.
import Derived.Test.YteifffaonigidaaDoorMx0
import Derived.Test.YteifffaonigidaaDoorTxA
import Derived.Test.YteifffaonigidaaDoorTxB
import Derived.Test.YteifffaonigidaaDoorTxE
import Derived.Test.YteifffaonigidaaDoorTxF
namespace Go.Proofs.YteifffaonigidaaDoor.M
open Go.RowKit Go.Proofs.YteifffaonigidaaDoorW.PrintWords Go.Proofs.YteifffaonigidaaDoorW.PrintLast Go.Proofs.YteifffaonigidaaDoorW.PrintMore
attribute [local go_sem] max2_int min2_int max_two min_two max_three min_three max_four min_four   -- for this text's walks alone
set_option linter.unusedVariables false
set_option linter.unusedSimpArgs false

/-! ### taquinlaw02_small: function 13 -/
mutual
def taquinlaw02_small.j0 : Nat → Bool → Bool → Int → Bool → List ByteArray → List ByteArray → Bool → Option (Bool)
  | 0, _, _, _, _, _, _, _ => none
  | k + 1, x2, x4, x5, x6, x7, x8, x31 => if x31 = true then (some false) else (if x2 = true then (taquinlaw02_small.j1 k false) else (if x4 = true then (taquinlaw02_small.j1 k false) else (if x6 = true then (if x5 = (-9223372036854775808) then ((text_Quote.f (⟨#[97, 34, 10, 200]⟩ : ByteArray)).bind fun t113 => (if t113.toList = ([34, 97, 92, 34, 92, 110, 92, 120, 99, 56, 34] : List UInt8) then (if 1 < (x7.length : Int) then (if (rdOf ByteArray.empty x7 1).toList = ([] : List UInt8) then (if 2 < (x7.length : Int) then (if (rdOf ByteArray.empty x7 2).toList = ([98] : List UInt8) then (if 1 < (x8.length : Int) then (taquinlaw02_small.j1 k ((rdOf ByteArray.empty x8 1).toList == ([98] : List UInt8))) else (none)) else (taquinlaw02_small.j1 k false)) else (none)) else (taquinlaw02_small.j1 k false)) else (none)) else (taquinlaw02_small.j1 k false))) else (taquinlaw02_small.j1 k false)) else (taquinlaw02_small.j1 k false))))
def taquinlaw02_small.j1 : Nat → Bool → Option (Bool)
  | 0, _ => none
  | k + 1, x9 => if x9 = true then ((text_Pattern.f (⟨#[97, 42, 91, 33, 120, 45, 122, 93, 63]⟩ : ByteArray) (⟨#[97, 98, 99, 100]⟩ : ByteArray)).bind fun t117 => (if t117 = true then ((text_Pattern.f (⟨#[91, 93, 93]⟩ : ByteArray) (⟨#[93]⟩ : ByteArray)).bind fun t118 => (if t118 = true then ((text_Pattern.f (⟨#[91, 97]⟩ : ByteArray) (⟨#[91, 97]⟩ : ByteArray)).bind fun t119 => (if t119 = true then ((text_Pattern.f (⟨#[92, 42]⟩ : ByteArray) (⟨#[42]⟩ : ByteArray)).bind fun t120 => (if t120 = true then ((text_Pattern.f (⟨#[92, 42]⟩ : ByteArray) (⟨#[97, 98]⟩ : ByteArray)).bind fun t121 => (some (!t121))) else (some false))) else (some false))) else (some false))) else (some false))) else (some false)
end
def taquinlaw02_small.f (k : Nat)  : Option (Bool) := (text_Int.f (⟨#[45, 48]⟩ : ByteArray)).bind fun bt101 => ((text_Int.f (⟨#[48, 48, 55]⟩ : ByteArray)).bind fun bt103 => ((text_Int.f (⟨#[45, 57, 50, 50, 51, 51, 55, 50, 48, 51, 54, 56, 53, 52, 55, 55, 53, 56, 48, 56]⟩ : ByteArray)).bind fun bt105 => ((text_Lines.f (⟨#[97, 10, 10, 98]⟩ : ByteArray)).bind fun t107 => ((text_Fields.f (⟨#[32, 97, 32, 32, 98, 10]⟩ : ByteArray)).bind fun t110 => (if (t107.length : Int) = 3 then (taquinlaw02_small.j0 k bt101.2 bt103.2 bt105.1 bt105.2 t107 t110 ((t110.length : Int) != 2)) else (taquinlaw02_small.j0 k bt101.2 bt103.2 bt105.1 bt105.2 t107 t110 true))))))
theorem taquinlaw02_small.mono_l : ∀ k, (∀ y0 y1 y2 y3 y4 y5 y6, LeO (taquinlaw02_small.j0 k y0 y1 y2 y3 y4 y5 y6) (taquinlaw02_small.j0 (k + 1) y0 y1 y2 y3 y4 y5 y6)) ∧ (∀ y0, LeO (taquinlaw02_small.j1 k y0) (taquinlaw02_small.j1 (k + 1) y0))
  | 0 => ⟨fun _ _ _ _ _ _ _ r h => by simp [taquinlaw02_small.j0] at h, fun _ r h => by simp [taquinlaw02_small.j1] at h⟩
  | k + 1 => by
    obtain ⟨ih0, ih1⟩ := taquinlaw02_small.mono_l k
    refine ⟨?_, ?_⟩
    · intro y0 y1 y2 y3 y4 y5 y6
      unfold taquinlaw02_small.j0
      repeat' first
      | (with_reducible exact ih0 _ _ _ _ _ _ _)
      | (with_reducible exact ih1 _)
      | (with_reducible exact LeO.refl _)
      | (with_reducible exact LeO.none _)
      | (with_reducible refine LeO.ite ?_ ?_)
      | (with_reducible refine LeO.bind ?_ (fun _ => ?_))
      | exact ih0 _ _ _ _ _ _ _
      | exact ih1 _
      | exact LeO.none _
      | refine LeO.ite ?_ ?_
      | refine LeO.bind ?_ (fun _ => ?_)
    · intro y0
      unfold taquinlaw02_small.j1
      repeat' first
      | (with_reducible exact ih0 _ _ _ _ _ _ _)
      | (with_reducible exact ih1 _)
      | (with_reducible exact LeO.refl _)
      | (with_reducible exact LeO.none _)
      | (with_reducible refine LeO.ite ?_ ?_)
      | (with_reducible refine LeO.bind ?_ (fun _ => ?_))
      | exact ih0 _ _ _ _ _ _ _
      | exact ih1 _
      | exact LeO.none _
      | refine LeO.ite ?_ ?_
      | refine LeO.bind ?_ (fun _ => ?_)
theorem taquinlaw02_small.mono : ∀ k, LeO (taquinlaw02_small.f k ) (taquinlaw02_small.f (k + 1) ) := by
  intro  k
  obtain ⟨ih0, ih1⟩ := taquinlaw02_small.mono_l k
  unfold taquinlaw02_small.f
  repeat' first
      | (with_reducible exact ih0 _ _ _ _ _ _ _)
      | (with_reducible exact ih1 _)
      | (with_reducible exact LeO.refl _)
      | (with_reducible exact LeO.none _)
      | (with_reducible refine LeO.ite ?_ ?_)
      | (with_reducible refine LeO.bind ?_ (fun _ => ?_))
      | exact ih0 _ _ _ _ _ _ _
      | exact ih1 _
      | exact LeO.none _
      | refine LeO.ite ?_ ?_
      | refine LeO.bind ?_ (fun _ => ?_)
set_option maxHeartbeats 8000000 in
set_option maxRecDepth 100000 in
theorem taquinlaw02_small.calls (k : Nat)  (r : Bool) (w : World) (h : taquinlaw02_small.f k  = some r) (hLd : LaidP w) :
    Calls Tryd.prog 13 #[] w fun e w' => e = .returned (.bool r) ∧ Below w.heap.size w w' := by
  have HB := Aside0.mk (Below.refl w.heap.size w)
  have H : ((text_Int.f (⟨#[45, 48]⟩ : ByteArray)).bind fun bt101 => ((text_Int.f (⟨#[48, 48, 55]⟩ : ByteArray)).bind fun bt103 => ((text_Int.f (⟨#[45, 57, 50, 50, 51, 51, 55, 50, 48, 51, 54, 56, 53, 52, 55, 55, 53, 56, 48, 56]⟩ : ByteArray)).bind fun bt105 => ((text_Lines.f (⟨#[97, 10, 10, 98]⟩ : ByteArray)).bind fun t107 => ((text_Fields.f (⟨#[32, 97, 32, 32, 98, 10]⟩ : ByteArray)).bind fun t110 => (if (t107.length : Int) = 3 then (taquinlaw02_small.j0 k bt101.2 bt103.2 bt105.1 bt105.2 t107 t110 ((t110.length : Int) != 2)) else (taquinlaw02_small.j0 k bt101.2 bt103.2 bt105.1 bt105.2 t107 t110 true))))))) = some r := h
  clear h
  replace H := Option.bind_eq_some_iff.mp H
  obtain ⟨⟨t101, t102⟩, A10, H⟩ := H
  replace H : ((text_Int.f (⟨#[48, 48, 55]⟩ : ByteArray)).bind fun bt103 => ((text_Int.f (⟨#[45, 57, 50, 50, 51, 51, 55, 50, 48, 51, 54, 56, 53, 52, 55, 55, 53, 56, 48, 56]⟩ : ByteArray)).bind fun bt105 => ((text_Lines.f (⟨#[97, 10, 10, 98]⟩ : ByteArray)).bind fun t107 => ((text_Fields.f (⟨#[32, 97, 32, 32, 98, 10]⟩ : ByteArray)).bind fun t110 => (if (t107.length : Int) = 3 then (taquinlaw02_small.j0 k t102 bt103.2 bt105.1 bt105.2 t107 t110 ((t110.length : Int) != 2)) else (taquinlaw02_small.j0 k t102 bt103.2 bt105.1 bt105.2 t107 t110 true)))))) = some r := H
  have A1 := Aside0.mk A10
  clear A10
  replace H := Option.bind_eq_some_iff.mp H
  obtain ⟨⟨t103, t104⟩, A20, H⟩ := H
  replace H : ((text_Int.f (⟨#[45, 57, 50, 50, 51, 51, 55, 50, 48, 51, 54, 56, 53, 52, 55, 55, 53, 56, 48, 56]⟩ : ByteArray)).bind fun bt105 => ((text_Lines.f (⟨#[97, 10, 10, 98]⟩ : ByteArray)).bind fun t107 => ((text_Fields.f (⟨#[32, 97, 32, 32, 98, 10]⟩ : ByteArray)).bind fun t110 => (if (t107.length : Int) = 3 then (taquinlaw02_small.j0 k t102 t104 bt105.1 bt105.2 t107 t110 ((t110.length : Int) != 2)) else (taquinlaw02_small.j0 k t102 t104 bt105.1 bt105.2 t107 t110 true))))) = some r := H
  have A2 := Aside0.mk A20
  clear A20
  replace H := Option.bind_eq_some_iff.mp H
  obtain ⟨⟨t105, t106⟩, A30, H⟩ := H
  replace H : ((text_Lines.f (⟨#[97, 10, 10, 98]⟩ : ByteArray)).bind fun t107 => ((text_Fields.f (⟨#[32, 97, 32, 32, 98, 10]⟩ : ByteArray)).bind fun t110 => (if (t107.length : Int) = 3 then (taquinlaw02_small.j0 k t102 t104 t105 t106 t107 t110 ((t110.length : Int) != 2)) else (taquinlaw02_small.j0 k t102 t104 t105 t106 t107 t110 true)))) = some r := H
  have A3 := Aside0.mk A30
  clear A30
  replace H := Option.bind_eq_some_iff.mp H
  obtain ⟨t107, A40, H⟩ := H
  replace H : ((text_Fields.f (⟨#[32, 97, 32, 32, 98, 10]⟩ : ByteArray)).bind fun t110 => (if (t107.length : Int) = 3 then (taquinlaw02_small.j0 k t102 t104 t105 t106 t107 t110 ((t110.length : Int) != 2)) else (taquinlaw02_small.j0 k t102 t104 t105 t106 t107 t110 true))) = some r := H
  have A4 := Aside0.mk A40
  clear A40
  replace H := Option.bind_eq_some_iff.mp H
  obtain ⟨t110, A50, H⟩ := H
  replace H : (if (t107.length : Int) = 3 then (taquinlaw02_small.j0 k t102 t104 t105 t106 t107 t110 ((t110.length : Int) != 2)) else (taquinlaw02_small.j0 k t102 t104 t105 t106 t107 t110 true)) = some r := H
  have A5 := Aside0.mk A50
  clear A50
  have HC6 := Aside0.mk H
  clear H
  go_enter Tryd.func13, Tryd.ntmps13
  go_upto_region 6 with (first | ((with_reducible refine gate_callee (f := 20) rfl ?_); refine goesL_ (some 11) rfl rfl Tryd.func20 (by kernel_rfl) rfl #[.string (⟨#[45, 48]⟩ : ByteArray)] rfl (by (try simp only [List.map_toArray, List.map_cons, List.map_nil]); first | done | rfl | (simp only [List.length_drop, List.length_take]; rfl)) ?_; (with_reducible refine (text_Int.calls (⟨#[45, 48]⟩ : ByteArray) t101 t102 _ A1.out (LaidP.below hLd (by repeat (first | (with_reducible first | exact HB.out | apply below_alloc | apply pw_below_drewN | apply below_drew1) | exact HB.out)))).mono ?_); rintro e w7 ⟨rfl, hb⟩; refine ⟨_, rfl, ?_⟩; have n0_ := Aside0.mk (below_step (by repeat (first | (with_reducible first | exact HB.out | apply below_alloc | apply pw_below_drewN | apply below_drew1) | exact HB.out)) hb); clear HB; have HB := n0_; clear n0_; (try clear hb); (try clear hb2); (try clear hk); (try clear hi)) | ((with_reducible refine gate_callee (f := 20) rfl ?_); refine goesL_ (some 15) rfl rfl Tryd.func20 (by kernel_rfl) rfl #[.string (⟨#[48, 48, 55]⟩ : ByteArray)] rfl (by (try simp only [List.map_toArray, List.map_cons, List.map_nil]); first | done | rfl | (simp only [List.length_drop, List.length_take]; rfl)) ?_; (with_reducible refine (text_Int.calls (⟨#[48, 48, 55]⟩ : ByteArray) t103 t104 _ A2.out (LaidP.below hLd (by repeat (first | (with_reducible first | exact HB.out | apply below_alloc | apply pw_below_drewN | apply below_drew1) | exact HB.out)))).mono ?_); rintro e w8 ⟨rfl, hb⟩; refine ⟨_, rfl, ?_⟩; have n0_ := Aside0.mk (below_step (by repeat (first | (with_reducible first | exact HB.out | apply below_alloc | apply pw_below_drewN | apply below_drew1) | exact HB.out)) hb); clear HB; have HB := n0_; clear n0_; (try clear hb); (try clear hb2); (try clear hk); (try clear hi)) | ((with_reducible refine gate_callee (f := 20) rfl ?_); refine goesL_ (some 19) rfl rfl Tryd.func20 (by kernel_rfl) rfl #[.string (⟨#[45, 57, 50, 50, 51, 51, 55, 50, 48, 51, 54, 56, 53, 52, 55, 55, 53, 56, 48, 56]⟩ : ByteArray)] rfl (by (try simp only [List.map_toArray, List.map_cons, List.map_nil]); first | done | rfl | (simp only [List.length_drop, List.length_take]; rfl)) ?_; (with_reducible refine (text_Int.calls (⟨#[45, 57, 50, 50, 51, 51, 55, 50, 48, 51, 54, 56, 53, 52, 55, 55, 53, 56, 48, 56]⟩ : ByteArray) t105 t106 _ A3.out (LaidP.below hLd (by repeat (first | (with_reducible first | exact HB.out | apply below_alloc | apply pw_below_drewN | apply below_drew1) | exact HB.out)))).mono ?_); rintro e w9 ⟨rfl, hb⟩; refine ⟨_, rfl, ?_⟩; have n0_ := Aside0.mk (below_step (by repeat (first | (with_reducible first | exact HB.out | apply below_alloc | apply pw_below_drewN | apply below_drew1) | exact HB.out)) hb); clear HB; have HB := n0_; clear n0_; (try clear hb); (try clear hb2); (try clear hk); (try clear hi)) | ((with_reducible refine gate_callee (f := 15) rfl ?_); refine goesL_ (some 22) rfl rfl Tryd.func15 (by kernel_rfl) rfl #[.string (⟨#[97, 10, 10, 98]⟩ : ByteArray)] rfl (by (try simp only [List.map_toArray, List.map_cons, List.map_nil]); first | done | rfl | (simp only [List.length_drop, List.length_take]; rfl)) ?_; (with_reducible refine (text_Lines.calls (⟨#[97, 10, 10, 98]⟩ : ByteArray) t107 _ A4.out (LaidP.below hLd (by repeat (first | (with_reducible first | exact HB.out | apply below_alloc | apply pw_below_drewN | apply below_drew1) | exact HB.out)))).mono ?_); rintro e w10 ⟨v108, rfl, ho0, hb⟩; refine ⟨_, rfl, ?_⟩; have n0_ := Aside0.mk (Kd.R_lower ho0 (below_size (by repeat (first | (with_reducible first | exact HB.out | apply below_alloc | apply pw_below_drewN | apply below_drew1) | exact HB.out)))); have n1_ := Aside0.mk (below_step (by repeat (first | (with_reducible first | exact HB.out | apply below_alloc | apply pw_below_drewN | apply below_drew1) | exact HB.out)) hb); clear HB; have HO109 := n0_; have HB := n1_; clear n0_ n1_; (try clear hb); (try clear hb2); (try clear hk); (try clear hi); (try clear ho0)) | ((with_reducible refine gate_callee (f := 17) rfl ?_); refine goesL_ (some 23) rfl rfl Tryd.func17 (by kernel_rfl) rfl #[.string (⟨#[32, 97, 32, 32, 98, 10]⟩ : ByteArray)] rfl (by (try simp only [List.map_toArray, List.map_cons, List.map_nil]); first | done | rfl | (simp only [List.length_drop, List.length_take]; rfl)) ?_; (with_reducible refine (text_Fields.calls (⟨#[32, 97, 32, 32, 98, 10]⟩ : ByteArray) t110 _ A5.out).mono ?_); rintro e w11 ⟨v111, rfl, ho0, hb⟩; refine ⟨_, rfl, ?_⟩; have n0_ := Aside0.mk (Kd.R_elder' (by (with_reducible repeat (first | apply Kd.R_alloc | apply Kd.R_drewN | apply Kd.R_drew)); exact HO109.out) (Kd.R_base ho0) hb); have n1_ := Aside0.mk (Kd.R_lower (Kd.R_new' ho0 (Kd.R_lt (by (with_reducible repeat (first | apply Kd.R_alloc | apply Kd.R_drewN | apply Kd.R_drew)); exact HO109.out))) (below_size (by repeat (first | (with_reducible first | exact HB.out | apply below_alloc | apply pw_below_drewN | apply below_drew1) | exact HB.out)))); have n2_ := Aside0.mk (below_step (by repeat (first | (with_reducible first | exact HB.out | apply below_alloc | apply pw_below_drewN | apply below_drew1) | exact HB.out)) hb); clear HO109; clear HB; have HO109 := n0_; have HO112 := n1_; have HB := n2_; clear n0_ n1_ n2_; (try clear hb); (try clear hb2); (try clear hk); (try clear hi); (try clear ho0)))
  (try simp only [Act.put, List.setIfInBounds_toArray, List.set_cons_zero, List.set_cons_succ])
  go_cut [31] (fun v31 wc => ∃ (kq : Nat) (x31_5 : Bool), v31 = .bool x31_5 ∧ Aside0 (taquinlaw02_small.j0 kq t102 t104 t105 t106 t107 t110 x31_5 = some r) ∧ Aside0 (kq ≤ k) ∧ Aside0 (Kd.R Kd.string 9 wc w.heap.size (fun k_ => some k_ ≠ (v111 : Value).ownBlock) v108 t107) ∧ Aside0 (Kd.R Kd.string 9 wc w.heap.size (fun k_ => some k_ ≠ (v108 : Value).ownBlock) v111 t110) ∧ Aside0 (Below w.heap.size w wc))
  case first =>
    have H := HC6.out
    clear HC6
    by_cases c12 : (t107.length : Int) = 3
    · rw [if_pos c12] at H
      have c12b0 : ((t107.length : Int) == 3) = true := beq_iff_eq.mpr c12
      have c12b1 : ((t107.length : Int) != 3) = false := bne_eq_false_iff_eq.mpr c12
      clear c12
      (first | rw [c12b0] | (simp only [i64_w, i32_w]; rw [c12b0]) | skip)
      have H' := Aside0.mk H
      clear H
      obtain ⟨Ao13, co13, eo13⟩ := Kd.R_slice HO109.out
      subst eo13
      obtain ⟨Ao14, co14, eo14⟩ := Kd.R_slice HO112.out
      subst eo14
      go_wp2
      go_meet
      case rel => exact ⟨_, (((t110.length : Int) != 2)), (by first | rfl | (simp; done) | (simp [*]; done) | (simp [*, bne]; done)), H', ⟨by first | omega | exact Nat.le_refl _⟩, ⟨by (with_reducible repeat (first | apply Kd.R_alloc | apply Kd.R_drewN | apply Kd.R_drew)); exact Kd.R_mono HO109.out (fun _ hk => hk.2)⟩, ⟨by (with_reducible repeat (first | apply Kd.R_alloc | apply Kd.R_drewN | apply Kd.R_drew)); exact Kd.R_mono HO112.out (fun _ hk => hk.2)⟩, ⟨by repeat (first | (with_reducible first | exact HB.out | apply below_alloc | apply pw_below_drewN | apply below_drew1) | exact HB.out)⟩⟩
    · rw [if_neg c12] at H
      have c12b0 : ((t107.length : Int) == 3) = false := beq_eq_false_iff_ne.mpr c12
      have c12b1 : ((t107.length : Int) != 3) = true := bne_iff_ne.mpr c12
      (first | rw [c12b0] | (simp only [i64_w, i32_w]; rw [c12b0]) | skip)
      have H' := Aside0.mk H
      clear H
      obtain ⟨Ao15, co15, eo15⟩ := Kd.R_slice HO109.out
      subst eo15
      go_wp2
      go_meet
      case rel => exact ⟨_, (true), (by first | rfl | (simp; done) | (simp [*]; done) | (simp [*, bne]; done)), H', ⟨by first | omega | exact Nat.le_refl _⟩, ⟨by (with_reducible repeat (first | apply Kd.R_alloc | apply Kd.R_drewN | apply Kd.R_drew)); exact Kd.R_mono HO109.out (fun _ hk => hk.2)⟩, ⟨by (with_reducible repeat (first | apply Kd.R_alloc | apply Kd.R_drewN | apply Kd.R_drew)); exact Kd.R_mono HO112.out (fun _ hk => hk.2)⟩, ⟨by repeat (first | (with_reducible first | exact HB.out | apply below_alloc | apply pw_below_drewN | apply below_drew1) | exact HB.out)⟩⟩
  case rest =>
    clear HC6
    try clear c1
    try clear c2
    try clear p2
    try clear c12
    try clear c12b0
    try clear c12b1
    try clear c13
    try clear c15
    obtain ⟨kq, x31_5, rfl, HA, HJ5, HO_7, HO_8, HB⟩ := hcut
    cases kq with
    | zero => exact absurd HA.out (by simp [taquinlaw02_small.j0])
    | succ kj5 =>
      have H := HA.out
      clear HA
      simp only [taquinlaw02_small.j0] at H
      by_cases c16 : x31_5 = true
      · subst c16
        have H1 : (some false) = some r := by rw [if_pos rfl] at H; exact H
        clear H
        have H := H1
        clear H1
        obtain rfl := Option.some.inj H
        go_wp2
        go_ret
        exact ⟨by first | rfl | (simp [errW_none, errW_some] <;> rfl) | (simp [*, errW_none, errW_some] <;> rfl), by repeat (first | (with_reducible first | exact HB.out | apply below_alloc | apply pw_below_drewN | apply below_drew1) | exact HB.out)⟩
      · replace c16 := Bool.eq_false_iff.mpr c16
        subst c16
        have H1 : (if t102 = true then (taquinlaw02_small.j1 kj5 false) else (if t104 = true then (taquinlaw02_small.j1 kj5 false) else (if t106 = true then (if t105 = (-9223372036854775808) then ((text_Quote.f (⟨#[97, 34, 10, 200]⟩ : ByteArray)).bind fun t113 => (if t113.toList = ([34, 97, 92, 34, 92, 110, 92, 120, 99, 56, 34] : List UInt8) then (if 1 < (t107.length : Int) then (if (rdOf ByteArray.empty t107 1).toList = ([] : List UInt8) then (if 2 < (t107.length : Int) then (if (rdOf ByteArray.empty t107 2).toList = ([98] : List UInt8) then (if 1 < (t110.length : Int) then (taquinlaw02_small.j1 kj5 ((rdOf ByteArray.empty t110 1).toList == ([98] : List UInt8))) else (none)) else (taquinlaw02_small.j1 kj5 false)) else (none)) else (taquinlaw02_small.j1 kj5 false)) else (none)) else (taquinlaw02_small.j1 kj5 false))) else (taquinlaw02_small.j1 kj5 false)) else (taquinlaw02_small.j1 kj5 false)))) = some r := by rw [if_neg (show ¬ (false = true) by decide)] at H; exact H
        clear H
        have H := H1
        clear H1
        have HC17 := Aside0.mk H
        clear H
        go_upto_region 8 with (fail)
        go_cut [9] (fun v9 wc => ∃ (kq : Nat) (x9_16 : Bool), v9 = .bool x9_16 ∧ Aside0 (taquinlaw02_small.j1 kq x9_16 = some r) ∧ Aside0 (kq ≤ kj5) ∧ Aside0 (Below w.heap.size w wc))
        case first =>
          have H := HC17.out
          clear HC17
          by_cases c18 : t102 = true
          · subst c18
            have H1 : (taquinlaw02_small.j1 kj5 false) = some r := by rw [if_pos rfl] at H; exact H
            clear H
            have H := H1
            clear H1
            have H' := Aside0.mk H
            clear H
            go_wp2
            go_meet
            case rel => exact ⟨_, (false), (by first | rfl | (simp; done) | (simp [*]; done) | (simp [*, bne]; done)), H', ⟨by have := HJ5.out; first | omega | exact Nat.le_refl _⟩, ⟨by repeat (first | (with_reducible first | exact HB.out | apply below_alloc | apply pw_below_drewN | apply below_drew1) | exact HB.out)⟩⟩
          · replace c18 := Bool.eq_false_iff.mpr c18
            subst c18
            have H1 : (if t104 = true then (taquinlaw02_small.j1 kj5 false) else (if t106 = true then (if t105 = (-9223372036854775808) then ((text_Quote.f (⟨#[97, 34, 10, 200]⟩ : ByteArray)).bind fun t113 => (if t113.toList = ([34, 97, 92, 34, 92, 110, 92, 120, 99, 56, 34] : List UInt8) then (if 1 < (t107.length : Int) then (if (rdOf ByteArray.empty t107 1).toList = ([] : List UInt8) then (if 2 < (t107.length : Int) then (if (rdOf ByteArray.empty t107 2).toList = ([98] : List UInt8) then (if 1 < (t110.length : Int) then (taquinlaw02_small.j1 kj5 ((rdOf ByteArray.empty t110 1).toList == ([98] : List UInt8))) else (none)) else (taquinlaw02_small.j1 kj5 false)) else (none)) else (taquinlaw02_small.j1 kj5 false)) else (none)) else (taquinlaw02_small.j1 kj5 false))) else (taquinlaw02_small.j1 kj5 false)) else (taquinlaw02_small.j1 kj5 false))) = some r := by rw [if_neg (show ¬ (false = true) by decide)] at H; exact H
            clear H
            have H := H1
            clear H1
            by_cases c19 : t104 = true
            · subst c19
              have H1 : (taquinlaw02_small.j1 kj5 false) = some r := by rw [if_pos rfl] at H; exact H
              clear H
              have H := H1
              clear H1
              have H' := Aside0.mk H
              clear H
              go_wp2
              go_meet
              case rel => exact ⟨_, (false), (by first | rfl | (simp; done) | (simp [*]; done) | (simp [*, bne]; done)), H', ⟨by have := HJ5.out; first | omega | exact Nat.le_refl _⟩, ⟨by repeat (first | (with_reducible first | exact HB.out | apply below_alloc | apply pw_below_drewN | apply below_drew1) | exact HB.out)⟩⟩
            · replace c19 := Bool.eq_false_iff.mpr c19
              subst c19
              have H1 : (if t106 = true then (if t105 = (-9223372036854775808) then ((text_Quote.f (⟨#[97, 34, 10, 200]⟩ : ByteArray)).bind fun t113 => (if t113.toList = ([34, 97, 92, 34, 92, 110, 92, 120, 99, 56, 34] : List UInt8) then (if 1 < (t107.length : Int) then (if (rdOf ByteArray.empty t107 1).toList = ([] : List UInt8) then (if 2 < (t107.length : Int) then (if (rdOf ByteArray.empty t107 2).toList = ([98] : List UInt8) then (if 1 < (t110.length : Int) then (taquinlaw02_small.j1 kj5 ((rdOf ByteArray.empty t110 1).toList == ([98] : List UInt8))) else (none)) else (taquinlaw02_small.j1 kj5 false)) else (none)) else (taquinlaw02_small.j1 kj5 false)) else (none)) else (taquinlaw02_small.j1 kj5 false))) else (taquinlaw02_small.j1 kj5 false)) else (taquinlaw02_small.j1 kj5 false)) = some r := by rw [if_neg (show ¬ (false = true) by decide)] at H; exact H
              clear H
              have H := H1
              clear H1
              by_cases c20 : t106 = true
              · subst c20
                have H1 : (if t105 = (-9223372036854775808) then ((text_Quote.f (⟨#[97, 34, 10, 200]⟩ : ByteArray)).bind fun t113 => (if t113.toList = ([34, 97, 92, 34, 92, 110, 92, 120, 99, 56, 34] : List UInt8) then (if 1 < (t107.length : Int) then (if (rdOf ByteArray.empty t107 1).toList = ([] : List UInt8) then (if 2 < (t107.length : Int) then (if (rdOf ByteArray.empty t107 2).toList = ([98] : List UInt8) then (if 1 < (t110.length : Int) then (taquinlaw02_small.j1 kj5 ((rdOf ByteArray.empty t110 1).toList == ([98] : List UInt8))) else (none)) else (taquinlaw02_small.j1 kj5 false)) else (none)) else (taquinlaw02_small.j1 kj5 false)) else (none)) else (taquinlaw02_small.j1 kj5 false))) else (taquinlaw02_small.j1 kj5 false)) = some r := by rw [if_pos rfl] at H; exact H
                clear H
                have H := H1
                clear H1
                by_cases c21 : t105 = (-9223372036854775808)
                · rw [if_pos c21] at H
                  have c21b0 : (t105 == (-9223372036854775808)) = true := beq_iff_eq.mpr c21
                  have c21b1 : (t105 != (-9223372036854775808)) = false := bne_eq_false_iff_eq.mpr c21
                  clear c21
                  (first | rw [c21b0] | (simp only [i64_w, i32_w]; rw [c21b0]) | skip)
                  replace H := Option.bind_eq_some_iff.mp H
                  obtain ⟨t113, A220, H⟩ := H
                  replace H : (if t113.toList = ([34, 97, 92, 34, 92, 110, 92, 120, 99, 56, 34] : List UInt8) then (if 1 < (t107.length : Int) then (if (rdOf ByteArray.empty t107 1).toList = ([] : List UInt8) then (if 2 < (t107.length : Int) then (if (rdOf ByteArray.empty t107 2).toList = ([98] : List UInt8) then (if 1 < (t110.length : Int) then (taquinlaw02_small.j1 kj5 ((rdOf ByteArray.empty t110 1).toList == ([98] : List UInt8))) else (none)) else (taquinlaw02_small.j1 kj5 false)) else (none)) else (taquinlaw02_small.j1 kj5 false)) else (none)) else (taquinlaw02_small.j1 kj5 false)) = some r := H
                  have A22 := Aside0.mk A220
                  clear A220
                  by_cases c23 : t113.toList = ([34, 97, 92, 34, 92, 110, 92, 120, 99, 56, 34] : List UInt8)
                  · rw [if_pos c23] at H
                    have c23b0 : (t113.toList == ([34, 97, 92, 34, 92, 110, 92, 120, 99, 56, 34] : List UInt8)) = true := beq_iff_eq.mpr c23
                    have c23b1 : (t113.toList != ([34, 97, 92, 34, 92, 110, 92, 120, 99, 56, 34] : List UInt8)) = false := bne_eq_false_iff_eq.mpr c23
                    clear c23
                    by_cases c24 : 1 < (t107.length : Int)
                    · rw [if_pos c24] at H
                      have c24b0 : decide (1 < (t107.length : Int)) = true := decide_eq_true c24
                      have c24b1 : decide (1 < t107.length) = true := decide_eq_true (by omega)
                      clear c24
                      by_cases c25 : (rdOf ByteArray.empty t107 1).toList = ([] : List UInt8)
                      · rw [if_pos c25] at H
                        have c25b0 : ((rdOf ByteArray.empty t107 1).toList == ([] : List UInt8)) = true := beq_iff_eq.mpr c25
                        have c25b1 : ((rdOf ByteArray.empty t107 1).toList != ([] : List UInt8)) = false := bne_eq_false_iff_eq.mpr c25
                        clear c25
                        by_cases c26 : 2 < (t107.length : Int)
                        · rw [if_pos c26] at H
                          have c26b0 : decide (2 < (t107.length : Int)) = true := decide_eq_true c26
                          have c26b1 : decide (2 < t107.length) = true := decide_eq_true (by omega)
                          clear c26
                          by_cases c27 : (rdOf ByteArray.empty t107 2).toList = ([98] : List UInt8)
                          · rw [if_pos c27] at H
                            have c27b0 : ((rdOf ByteArray.empty t107 2).toList == ([98] : List UInt8)) = true := beq_iff_eq.mpr c27
                            have c27b1 : ((rdOf ByteArray.empty t107 2).toList != ([98] : List UInt8)) = false := bne_eq_false_iff_eq.mpr c27
                            clear c27
                            by_cases c28 : 1 < (t110.length : Int)
                            · rw [if_pos c28] at H
                              have c28b0 : decide (1 < (t110.length : Int)) = true := decide_eq_true c28
                              have c28b1 : decide (1 < t110.length) = true := decide_eq_true (by omega)
                              clear c28
                              have H' := Aside0.mk H
                              clear H
                              go_wp2_with (first | (go_at_call 23; (with_reducible refine (text_Quote.calls (⟨#[97, 34, 10, 200]⟩ : ByteArray) t113 _ A22.out).mono ?_); rintro e w29 ⟨rfl, hb⟩; have n0_ := Aside0.mk (Kd.R_below (by (with_reducible repeat (first | apply Kd.R_alloc | apply Kd.R_drewN | apply Kd.R_drew)); exact HO_7.out) hb); have n1_ := Aside0.mk (Kd.R_below (by (with_reducible repeat (first | apply Kd.R_alloc | apply Kd.R_drewN | apply Kd.R_drew)); exact HO_8.out) hb); have n2_ := Aside0.mk (below_step (by repeat (first | (with_reducible first | exact HB.out | apply below_alloc | apply pw_below_drewN | apply below_drew1) | exact HB.out)) hb); clear HO_7; clear HO_8; clear HB; have HO_7 := n0_; have HO_8 := n1_; have HB := n2_; clear n0_ n1_ n2_; (try clear hb); (try clear hb2); (try clear hk); (try clear hi); obtain ⟨Ao30, co30, eo30⟩ := Kd.R_slice HO_7.out; subst eo30; have p114 : 0 ≤ (1 : Int) := (by omega); have q114 : 1 < (t107.length : Int) := of_decide_eq_true (by first | (with_reducible assumption) | assumption); obtain ⟨ad114, e114, hx114_0⟩ := Kd.at_string (Kd.R_reads' HO_7.out).2.2 1 p114 q114; cases e114; (try simp only [show (1 : Int).toNat = 1 from rfl, Nat.reduceMul, Nat.reduceEqDiff, Go.Addr.add, ↓reduceIte] at hx114_0); have qi114 : (1 < t107.length) = True := eq_true (by omega); (try rw [show ((1 : Int)).toNat = 1 from rfl] at hx114_0); replace p114 := eq_true p114; replace q114 := eq_true q114; have p115 : 0 ≤ (2 : Int) := (by omega); have q115 : 2 < (t107.length : Int) := of_decide_eq_true (by first | (with_reducible assumption) | assumption); obtain ⟨ad115, e115, hx115_0⟩ := Kd.at_string (Kd.R_reads' HO_7.out).2.2 2 p115 q115; obtain rfl : ad114 = ad115 := (by injection e115); (try simp only [show (2 : Int).toNat = 2 from rfl, Nat.reduceMul, Nat.reduceEqDiff, Go.Addr.add, ↓reduceIte] at hx115_0); have qi115 : (2 < t107.length) = True := eq_true (by omega); (try rw [show ((2 : Int)).toNat = 2 from rfl] at hx115_0); replace p115 := eq_true p115; replace q115 := eq_true q115; obtain ⟨Ao31, co31, eo31⟩ := Kd.R_slice HO_8.out; subst eo31; have p116 : 0 ≤ (1 : Int) := (by omega); have q116 : 1 < (t110.length : Int) := of_decide_eq_true (by first | (with_reducible assumption) | assumption); obtain ⟨ad116, e116, hx116_0⟩ := Kd.at_string (Kd.R_reads' HO_8.out).2.2 1 p116 q116; cases e116; (try simp only [show (1 : Int).toNat = 1 from rfl, Nat.reduceMul, Nat.reduceEqDiff, Go.Addr.add, ↓reduceIte] at hx116_0); have qi116 : (1 < t110.length) = True := eq_true (by omega); (try rw [show ((1 : Int)).toNat = 1 from rfl] at hx116_0); replace p116 := eq_true p116; replace q116 := eq_true q116))
                              go_meet
                              case rel => exact ⟨_, (((rdOf ByteArray.empty t110 1).toList == ([98] : List UInt8))), (by first | rfl | (simp; done) | (simp [*]; done) | (simp [*, bne]; done)), H', ⟨by have := HJ5.out; first | omega | exact Nat.le_refl _⟩, ⟨by repeat (first | (with_reducible first | exact HB.out | apply below_alloc | apply pw_below_drewN | apply below_drew1) | exact HB.out)⟩⟩
                            · rw [if_neg c28] at H
                              exact absurd H (by simp)
                          · rw [if_neg c27] at H
                            have c27b0 : ((rdOf ByteArray.empty t107 2).toList == ([98] : List UInt8)) = false := beq_eq_false_iff_ne.mpr c27
                            have c27b1 : ((rdOf ByteArray.empty t107 2).toList != ([98] : List UInt8)) = true := bne_iff_ne.mpr c27
                            have H' := Aside0.mk H
                            clear H
                            go_wp2_with (first | (go_at_call 23; (with_reducible refine (text_Quote.calls (⟨#[97, 34, 10, 200]⟩ : ByteArray) t113 _ A22.out).mono ?_); rintro e w32 ⟨rfl, hb⟩; have n0_ := Aside0.mk (Kd.R_below (by (with_reducible repeat (first | apply Kd.R_alloc | apply Kd.R_drewN | apply Kd.R_drew)); exact HO_7.out) hb); have n1_ := Aside0.mk (Kd.R_below (by (with_reducible repeat (first | apply Kd.R_alloc | apply Kd.R_drewN | apply Kd.R_drew)); exact HO_8.out) hb); have n2_ := Aside0.mk (below_step (by repeat (first | (with_reducible first | exact HB.out | apply below_alloc | apply pw_below_drewN | apply below_drew1) | exact HB.out)) hb); clear HO_7; clear HO_8; clear HB; have HO_7 := n0_; have HO_8 := n1_; have HB := n2_; clear n0_ n1_ n2_; (try clear hb); (try clear hb2); (try clear hk); (try clear hi); obtain ⟨Ao33, co33, eo33⟩ := Kd.R_slice HO_7.out; subst eo33; have p114 : 0 ≤ (1 : Int) := (by omega); have q114 : 1 < (t107.length : Int) := of_decide_eq_true (by first | (with_reducible assumption) | assumption); obtain ⟨ad114, e114, hx114_0⟩ := Kd.at_string (Kd.R_reads' HO_7.out).2.2 1 p114 q114; cases e114; (try simp only [show (1 : Int).toNat = 1 from rfl, Nat.reduceMul, Nat.reduceEqDiff, Go.Addr.add, ↓reduceIte] at hx114_0); have qi114 : (1 < t107.length) = True := eq_true (by omega); (try rw [show ((1 : Int)).toNat = 1 from rfl] at hx114_0); replace p114 := eq_true p114; replace q114 := eq_true q114; have p115 : 0 ≤ (2 : Int) := (by omega); have q115 : 2 < (t107.length : Int) := of_decide_eq_true (by first | (with_reducible assumption) | assumption); obtain ⟨ad115, e115, hx115_0⟩ := Kd.at_string (Kd.R_reads' HO_7.out).2.2 2 p115 q115; obtain rfl : ad114 = ad115 := (by injection e115); (try simp only [show (2 : Int).toNat = 2 from rfl, Nat.reduceMul, Nat.reduceEqDiff, Go.Addr.add, ↓reduceIte] at hx115_0); have qi115 : (2 < t107.length) = True := eq_true (by omega); (try rw [show ((2 : Int)).toNat = 2 from rfl] at hx115_0); replace p115 := eq_true p115; replace q115 := eq_true q115))
                            go_meet
                            case rel => exact ⟨_, (false), (by first | rfl | (simp; done) | (simp [*]; done) | (simp [*, bne]; done)), H', ⟨by have := HJ5.out; first | omega | exact Nat.le_refl _⟩, ⟨by repeat (first | (with_reducible first | exact HB.out | apply below_alloc | apply pw_below_drewN | apply below_drew1) | exact HB.out)⟩⟩
                        · rw [if_neg c26] at H
                          exact absurd H (by simp)
                      · rw [if_neg c25] at H
                        have c25b0 : ((rdOf ByteArray.empty t107 1).toList == ([] : List UInt8)) = false := beq_eq_false_iff_ne.mpr c25
                        have c25b1 : ((rdOf ByteArray.empty t107 1).toList != ([] : List UInt8)) = true := bne_iff_ne.mpr c25
                        have H' := Aside0.mk H
                        clear H
                        go_wp2_with (first | (go_at_call 23; (with_reducible refine (text_Quote.calls (⟨#[97, 34, 10, 200]⟩ : ByteArray) t113 _ A22.out).mono ?_); rintro e w34 ⟨rfl, hb⟩; have n0_ := Aside0.mk (Kd.R_below (by (with_reducible repeat (first | apply Kd.R_alloc | apply Kd.R_drewN | apply Kd.R_drew)); exact HO_7.out) hb); have n1_ := Aside0.mk (Kd.R_below (by (with_reducible repeat (first | apply Kd.R_alloc | apply Kd.R_drewN | apply Kd.R_drew)); exact HO_8.out) hb); have n2_ := Aside0.mk (below_step (by repeat (first | (with_reducible first | exact HB.out | apply below_alloc | apply pw_below_drewN | apply below_drew1) | exact HB.out)) hb); clear HO_7; clear HO_8; clear HB; have HO_7 := n0_; have HO_8 := n1_; have HB := n2_; clear n0_ n1_ n2_; (try clear hb); (try clear hb2); (try clear hk); (try clear hi); obtain ⟨Ao35, co35, eo35⟩ := Kd.R_slice HO_7.out; subst eo35; have p114 : 0 ≤ (1 : Int) := (by omega); have q114 : 1 < (t107.length : Int) := of_decide_eq_true (by first | (with_reducible assumption) | assumption); obtain ⟨ad114, e114, hx114_0⟩ := Kd.at_string (Kd.R_reads' HO_7.out).2.2 1 p114 q114; cases e114; (try simp only [show (1 : Int).toNat = 1 from rfl, Nat.reduceMul, Nat.reduceEqDiff, Go.Addr.add, ↓reduceIte] at hx114_0); have qi114 : (1 < t107.length) = True := eq_true (by omega); (try rw [show ((1 : Int)).toNat = 1 from rfl] at hx114_0); replace p114 := eq_true p114; replace q114 := eq_true q114))
                        go_meet
                        case rel => exact ⟨_, (false), (by first | rfl | (simp; done) | (simp [*]; done) | (simp [*, bne]; done)), H', ⟨by have := HJ5.out; first | omega | exact Nat.le_refl _⟩, ⟨by repeat (first | (with_reducible first | exact HB.out | apply below_alloc | apply pw_below_drewN | apply below_drew1) | exact HB.out)⟩⟩
                    · rw [if_neg c24] at H
                      exact absurd H (by simp)
                  · rw [if_neg c23] at H
                    have c23b0 : (t113.toList == ([34, 97, 92, 34, 92, 110, 92, 120, 99, 56, 34] : List UInt8)) = false := beq_eq_false_iff_ne.mpr c23
                    have c23b1 : (t113.toList != ([34, 97, 92, 34, 92, 110, 92, 120, 99, 56, 34] : List UInt8)) = true := bne_iff_ne.mpr c23
                    have H' := Aside0.mk H
                    clear H
                    go_wp2_with (first | (go_at_call 23; (with_reducible refine (text_Quote.calls (⟨#[97, 34, 10, 200]⟩ : ByteArray) t113 _ A22.out).mono ?_); rintro e w36 ⟨rfl, hb⟩; have n0_ := Aside0.mk (Kd.R_below (by (with_reducible repeat (first | apply Kd.R_alloc | apply Kd.R_drewN | apply Kd.R_drew)); exact HO_7.out) hb); have n1_ := Aside0.mk (Kd.R_below (by (with_reducible repeat (first | apply Kd.R_alloc | apply Kd.R_drewN | apply Kd.R_drew)); exact HO_8.out) hb); have n2_ := Aside0.mk (below_step (by repeat (first | (with_reducible first | exact HB.out | apply below_alloc | apply pw_below_drewN | apply below_drew1) | exact HB.out)) hb); clear HO_7; clear HO_8; clear HB; have HO_7 := n0_; have HO_8 := n1_; have HB := n2_; clear n0_ n1_ n2_; (try clear hb); (try clear hb2); (try clear hk); (try clear hi)))
                    go_meet
                    case rel => exact ⟨_, (false), (by first | rfl | (simp; done) | (simp [*]; done) | (simp [*, bne]; done)), H', ⟨by have := HJ5.out; first | omega | exact Nat.le_refl _⟩, ⟨by repeat (first | (with_reducible first | exact HB.out | apply below_alloc | apply pw_below_drewN | apply below_drew1) | exact HB.out)⟩⟩
                · rw [if_neg c21] at H
                  have c21b0 : (t105 == (-9223372036854775808)) = false := beq_eq_false_iff_ne.mpr c21
                  have c21b1 : (t105 != (-9223372036854775808)) = true := bne_iff_ne.mpr c21
                  (first | rw [c21b0] | (simp only [i64_w, i32_w]; rw [c21b0]) | skip)
                  have H' := Aside0.mk H
                  clear H
                  go_wp2
                  go_meet
                  case rel => exact ⟨_, (false), (by first | rfl | (simp; done) | (simp [*]; done) | (simp [*, bne]; done)), H', ⟨by have := HJ5.out; first | omega | exact Nat.le_refl _⟩, ⟨by repeat (first | (with_reducible first | exact HB.out | apply below_alloc | apply pw_below_drewN | apply below_drew1) | exact HB.out)⟩⟩
              · replace c20 := Bool.eq_false_iff.mpr c20
                subst c20
                have H1 : (taquinlaw02_small.j1 kj5 false) = some r := by rw [if_neg (show ¬ (false = true) by decide)] at H; exact H
                clear H
                have H := H1
                clear H1
                have H' := Aside0.mk H
                clear H
                go_wp2
                go_meet
                case rel => exact ⟨_, (false), (by first | rfl | (simp; done) | (simp [*]; done) | (simp [*, bne]; done)), H', ⟨by have := HJ5.out; first | omega | exact Nat.le_refl _⟩, ⟨by repeat (first | (with_reducible first | exact HB.out | apply below_alloc | apply pw_below_drewN | apply below_drew1) | exact HB.out)⟩⟩
        case rest =>
          clear HC17
          try clear c1
          try clear p1
          try clear q1
          try clear hx1
          try clear qi1
          try clear c2
          try clear p2
          try clear p11
          try clear q11
          try clear hx11
          try clear qi11
          try clear c12
          try clear c12b0
          try clear c12b1
          try clear c13
          try clear c15
          try clear c16
          try clear c17
          try clear c18
          try clear c19
          try clear c20
          try clear c21
          try clear c21b0
          try clear c21b1
          try clear c23
          try clear c23b0
          try clear c23b1
          try clear c24
          try clear c24b0
          try clear c24b1
          try clear c25
          try clear c25b0
          try clear c25b1
          try clear c26
          try clear c26b0
          try clear c26b1
          try clear c27
          try clear c27b0
          try clear c27b1
          try clear c28
          try clear c28b0
          try clear c28b1
          try clear hx114_0
          try clear hx115_0
          try clear hx116_0
          try clear p114
          try clear p115
          try clear p116
          try clear p2
          try clear q114
          try clear q115
          try clear q116
          obtain ⟨kq, x9_16, rfl, HA, HJ16, HB⟩ := hcut
          cases kq with
          | zero => exact absurd HA.out (by simp [taquinlaw02_small.j1])
          | succ kj16 =>
            have H := HA.out
            clear HA
            simp only [taquinlaw02_small.j1] at H
            by_cases c37 : x9_16 = true
            · subst c37
              have H1 : ((text_Pattern.f (⟨#[97, 42, 91, 33, 120, 45, 122, 93, 63]⟩ : ByteArray) (⟨#[97, 98, 99, 100]⟩ : ByteArray)).bind fun t117 => (if t117 = true then ((text_Pattern.f (⟨#[91, 93, 93]⟩ : ByteArray) (⟨#[93]⟩ : ByteArray)).bind fun t118 => (if t118 = true then ((text_Pattern.f (⟨#[91, 97]⟩ : ByteArray) (⟨#[91, 97]⟩ : ByteArray)).bind fun t119 => (if t119 = true then ((text_Pattern.f (⟨#[92, 42]⟩ : ByteArray) (⟨#[42]⟩ : ByteArray)).bind fun t120 => (if t120 = true then ((text_Pattern.f (⟨#[92, 42]⟩ : ByteArray) (⟨#[97, 98]⟩ : ByteArray)).bind fun t121 => (some (!t121))) else (some false))) else (some false))) else (some false))) else (some false))) = some r := by rw [if_pos rfl] at H; exact H
              clear H
              have H := H1
              clear H1
              replace H := Option.bind_eq_some_iff.mp H
              obtain ⟨t117, A380, H⟩ := H
              replace H : (if t117 = true then ((text_Pattern.f (⟨#[91, 93, 93]⟩ : ByteArray) (⟨#[93]⟩ : ByteArray)).bind fun t118 => (if t118 = true then ((text_Pattern.f (⟨#[91, 97]⟩ : ByteArray) (⟨#[91, 97]⟩ : ByteArray)).bind fun t119 => (if t119 = true then ((text_Pattern.f (⟨#[92, 42]⟩ : ByteArray) (⟨#[42]⟩ : ByteArray)).bind fun t120 => (if t120 = true then ((text_Pattern.f (⟨#[92, 42]⟩ : ByteArray) (⟨#[97, 98]⟩ : ByteArray)).bind fun t121 => (some (!t121))) else (some false))) else (some false))) else (some false))) else (some false)) = some r := H
              have A38 := Aside0.mk A380
              clear A380
              by_cases c39 : t117 = true
              · subst c39
                have H1 : ((text_Pattern.f (⟨#[91, 93, 93]⟩ : ByteArray) (⟨#[93]⟩ : ByteArray)).bind fun t118 => (if t118 = true then ((text_Pattern.f (⟨#[91, 97]⟩ : ByteArray) (⟨#[91, 97]⟩ : ByteArray)).bind fun t119 => (if t119 = true then ((text_Pattern.f (⟨#[92, 42]⟩ : ByteArray) (⟨#[42]⟩ : ByteArray)).bind fun t120 => (if t120 = true then ((text_Pattern.f (⟨#[92, 42]⟩ : ByteArray) (⟨#[97, 98]⟩ : ByteArray)).bind fun t121 => (some (!t121))) else (some false))) else (some false))) else (some false))) = some r := by rw [if_pos rfl] at H; exact H
                clear H
                have H := H1
                clear H1
                replace H := Option.bind_eq_some_iff.mp H
                obtain ⟨t118, A400, H⟩ := H
                replace H : (if t118 = true then ((text_Pattern.f (⟨#[91, 97]⟩ : ByteArray) (⟨#[91, 97]⟩ : ByteArray)).bind fun t119 => (if t119 = true then ((text_Pattern.f (⟨#[92, 42]⟩ : ByteArray) (⟨#[42]⟩ : ByteArray)).bind fun t120 => (if t120 = true then ((text_Pattern.f (⟨#[92, 42]⟩ : ByteArray) (⟨#[97, 98]⟩ : ByteArray)).bind fun t121 => (some (!t121))) else (some false))) else (some false))) else (some false)) = some r := H
                have A40 := Aside0.mk A400
                clear A400
                by_cases c41 : t118 = true
                · subst c41
                  have H1 : ((text_Pattern.f (⟨#[91, 97]⟩ : ByteArray) (⟨#[91, 97]⟩ : ByteArray)).bind fun t119 => (if t119 = true then ((text_Pattern.f (⟨#[92, 42]⟩ : ByteArray) (⟨#[42]⟩ : ByteArray)).bind fun t120 => (if t120 = true then ((text_Pattern.f (⟨#[92, 42]⟩ : ByteArray) (⟨#[97, 98]⟩ : ByteArray)).bind fun t121 => (some (!t121))) else (some false))) else (some false))) = some r := by rw [if_pos rfl] at H; exact H
                  clear H
                  have H := H1
                  clear H1
                  replace H := Option.bind_eq_some_iff.mp H
                  obtain ⟨t119, A420, H⟩ := H
                  replace H : (if t119 = true then ((text_Pattern.f (⟨#[92, 42]⟩ : ByteArray) (⟨#[42]⟩ : ByteArray)).bind fun t120 => (if t120 = true then ((text_Pattern.f (⟨#[92, 42]⟩ : ByteArray) (⟨#[97, 98]⟩ : ByteArray)).bind fun t121 => (some (!t121))) else (some false))) else (some false)) = some r := H
                  have A42 := Aside0.mk A420
                  clear A420
                  by_cases c43 : t119 = true
                  · subst c43
                    have H1 : ((text_Pattern.f (⟨#[92, 42]⟩ : ByteArray) (⟨#[42]⟩ : ByteArray)).bind fun t120 => (if t120 = true then ((text_Pattern.f (⟨#[92, 42]⟩ : ByteArray) (⟨#[97, 98]⟩ : ByteArray)).bind fun t121 => (some (!t121))) else (some false))) = some r := by rw [if_pos rfl] at H; exact H
                    clear H
                    have H := H1
                    clear H1
                    replace H := Option.bind_eq_some_iff.mp H
                    obtain ⟨t120, A440, H⟩ := H
                    replace H : (if t120 = true then ((text_Pattern.f (⟨#[92, 42]⟩ : ByteArray) (⟨#[97, 98]⟩ : ByteArray)).bind fun t121 => (some (!t121))) else (some false)) = some r := H
                    have A44 := Aside0.mk A440
                    clear A440
                    by_cases c45 : t120 = true
                    · subst c45
                      have H1 : ((text_Pattern.f (⟨#[92, 42]⟩ : ByteArray) (⟨#[97, 98]⟩ : ByteArray)).bind fun t121 => (some (!t121))) = some r := by rw [if_pos rfl] at H; exact H
                      clear H
                      have H := H1
                      clear H1
                      replace H := Option.bind_eq_some_iff.mp H
                      obtain ⟨t121, A460, H⟩ := H
                      replace H : (some (!t121)) = some r := H
                      have A46 := Aside0.mk A460
                      clear A460
                      obtain rfl := Option.some.inj H
                      go_wp2_with (first | (go_at_call 18; (with_reducible refine (text_Pattern.calls (⟨#[97, 42, 91, 33, 120, 45, 122, 93, 63]⟩ : ByteArray) (⟨#[97, 98, 99, 100]⟩ : ByteArray) true _ A38.out).mono ?_); rintro e w47 ⟨rfl, hb⟩; have n0_ := Aside0.mk (below_step (by repeat (first | (with_reducible first | exact HB.out | apply below_alloc | apply pw_below_drewN | apply below_drew1) | exact HB.out)) hb); clear HB; have HB := n0_; clear n0_; (try clear hb); (try clear hb2); (try clear hk); (try clear hi)) | (go_at_call 18; (with_reducible refine (text_Pattern.calls (⟨#[91, 93, 93]⟩ : ByteArray) (⟨#[93]⟩ : ByteArray) true _ A40.out).mono ?_); rintro e w48 ⟨rfl, hb⟩; have n0_ := Aside0.mk (below_step (by repeat (first | (with_reducible first | exact HB.out | apply below_alloc | apply pw_below_drewN | apply below_drew1) | exact HB.out)) hb); clear HB; have HB := n0_; clear n0_; (try clear hb); (try clear hb2); (try clear hk); (try clear hi)) | (go_at_call 18; (with_reducible refine (text_Pattern.calls (⟨#[91, 97]⟩ : ByteArray) (⟨#[91, 97]⟩ : ByteArray) true _ A42.out).mono ?_); rintro e w49 ⟨rfl, hb⟩; have n0_ := Aside0.mk (below_step (by repeat (first | (with_reducible first | exact HB.out | apply below_alloc | apply pw_below_drewN | apply below_drew1) | exact HB.out)) hb); clear HB; have HB := n0_; clear n0_; (try clear hb); (try clear hb2); (try clear hk); (try clear hi)) | (go_at_call 18; (with_reducible refine (text_Pattern.calls (⟨#[92, 42]⟩ : ByteArray) (⟨#[42]⟩ : ByteArray) true _ A44.out).mono ?_); rintro e w50 ⟨rfl, hb⟩; have n0_ := Aside0.mk (below_step (by repeat (first | (with_reducible first | exact HB.out | apply below_alloc | apply pw_below_drewN | apply below_drew1) | exact HB.out)) hb); clear HB; have HB := n0_; clear n0_; (try clear hb); (try clear hb2); (try clear hk); (try clear hi)) | (go_at_call 18; (with_reducible refine (text_Pattern.calls (⟨#[92, 42]⟩ : ByteArray) (⟨#[97, 98]⟩ : ByteArray) t121 _ A46.out).mono ?_); rintro e w51 ⟨rfl, hb⟩; have n0_ := Aside0.mk (below_step (by repeat (first | (with_reducible first | exact HB.out | apply below_alloc | apply pw_below_drewN | apply below_drew1) | exact HB.out)) hb); clear HB; have HB := n0_; clear n0_; (try clear hb); (try clear hb2); (try clear hk); (try clear hi)))
                      go_ret
                      exact ⟨by first | rfl | (simp [errW_none, errW_some] <;> rfl) | (simp [*, errW_none, errW_some] <;> rfl), by repeat (first | (with_reducible first | exact HB.out | apply below_alloc | apply pw_below_drewN | apply below_drew1) | exact HB.out)⟩
                    · replace c45 := Bool.eq_false_iff.mpr c45
                      subst c45
                      have H1 : (some false) = some r := by rw [if_neg (show ¬ (false = true) by decide)] at H; exact H
                      clear H
                      have H := H1
                      clear H1
                      obtain rfl := Option.some.inj H
                      go_wp2_with (first | (go_at_call 18; (with_reducible refine (text_Pattern.calls (⟨#[97, 42, 91, 33, 120, 45, 122, 93, 63]⟩ : ByteArray) (⟨#[97, 98, 99, 100]⟩ : ByteArray) true _ A38.out).mono ?_); rintro e w52 ⟨rfl, hb⟩; have n0_ := Aside0.mk (below_step (by repeat (first | (with_reducible first | exact HB.out | apply below_alloc | apply pw_below_drewN | apply below_drew1) | exact HB.out)) hb); clear HB; have HB := n0_; clear n0_; (try clear hb); (try clear hb2); (try clear hk); (try clear hi)) | (go_at_call 18; (with_reducible refine (text_Pattern.calls (⟨#[91, 93, 93]⟩ : ByteArray) (⟨#[93]⟩ : ByteArray) true _ A40.out).mono ?_); rintro e w53 ⟨rfl, hb⟩; have n0_ := Aside0.mk (below_step (by repeat (first | (with_reducible first | exact HB.out | apply below_alloc | apply pw_below_drewN | apply below_drew1) | exact HB.out)) hb); clear HB; have HB := n0_; clear n0_; (try clear hb); (try clear hb2); (try clear hk); (try clear hi)) | (go_at_call 18; (with_reducible refine (text_Pattern.calls (⟨#[91, 97]⟩ : ByteArray) (⟨#[91, 97]⟩ : ByteArray) true _ A42.out).mono ?_); rintro e w54 ⟨rfl, hb⟩; have n0_ := Aside0.mk (below_step (by repeat (first | (with_reducible first | exact HB.out | apply below_alloc | apply pw_below_drewN | apply below_drew1) | exact HB.out)) hb); clear HB; have HB := n0_; clear n0_; (try clear hb); (try clear hb2); (try clear hk); (try clear hi)) | (go_at_call 18; (with_reducible refine (text_Pattern.calls (⟨#[92, 42]⟩ : ByteArray) (⟨#[42]⟩ : ByteArray) false _ A44.out).mono ?_); rintro e w55 ⟨rfl, hb⟩; have n0_ := Aside0.mk (below_step (by repeat (first | (with_reducible first | exact HB.out | apply below_alloc | apply pw_below_drewN | apply below_drew1) | exact HB.out)) hb); clear HB; have HB := n0_; clear n0_; (try clear hb); (try clear hb2); (try clear hk); (try clear hi)))
                      go_ret
                      exact ⟨by first | rfl | (simp [errW_none, errW_some] <;> rfl) | (simp [*, errW_none, errW_some] <;> rfl), by repeat (first | (with_reducible first | exact HB.out | apply below_alloc | apply pw_below_drewN | apply below_drew1) | exact HB.out)⟩
                  · replace c43 := Bool.eq_false_iff.mpr c43
                    subst c43
                    have H1 : (some false) = some r := by rw [if_neg (show ¬ (false = true) by decide)] at H; exact H
                    clear H
                    have H := H1
                    clear H1
                    obtain rfl := Option.some.inj H
                    go_wp2_with (first | (go_at_call 18; (with_reducible refine (text_Pattern.calls (⟨#[97, 42, 91, 33, 120, 45, 122, 93, 63]⟩ : ByteArray) (⟨#[97, 98, 99, 100]⟩ : ByteArray) true _ A38.out).mono ?_); rintro e w56 ⟨rfl, hb⟩; have n0_ := Aside0.mk (below_step (by repeat (first | (with_reducible first | exact HB.out | apply below_alloc | apply pw_below_drewN | apply below_drew1) | exact HB.out)) hb); clear HB; have HB := n0_; clear n0_; (try clear hb); (try clear hb2); (try clear hk); (try clear hi)) | (go_at_call 18; (with_reducible refine (text_Pattern.calls (⟨#[91, 93, 93]⟩ : ByteArray) (⟨#[93]⟩ : ByteArray) true _ A40.out).mono ?_); rintro e w57 ⟨rfl, hb⟩; have n0_ := Aside0.mk (below_step (by repeat (first | (with_reducible first | exact HB.out | apply below_alloc | apply pw_below_drewN | apply below_drew1) | exact HB.out)) hb); clear HB; have HB := n0_; clear n0_; (try clear hb); (try clear hb2); (try clear hk); (try clear hi)) | (go_at_call 18; (with_reducible refine (text_Pattern.calls (⟨#[91, 97]⟩ : ByteArray) (⟨#[91, 97]⟩ : ByteArray) false _ A42.out).mono ?_); rintro e w58 ⟨rfl, hb⟩; have n0_ := Aside0.mk (below_step (by repeat (first | (with_reducible first | exact HB.out | apply below_alloc | apply pw_below_drewN | apply below_drew1) | exact HB.out)) hb); clear HB; have HB := n0_; clear n0_; (try clear hb); (try clear hb2); (try clear hk); (try clear hi)))
                    go_ret
                    exact ⟨by first | rfl | (simp [errW_none, errW_some] <;> rfl) | (simp [*, errW_none, errW_some] <;> rfl), by repeat (first | (with_reducible first | exact HB.out | apply below_alloc | apply pw_below_drewN | apply below_drew1) | exact HB.out)⟩
                · replace c41 := Bool.eq_false_iff.mpr c41
                  subst c41
                  have H1 : (some false) = some r := by rw [if_neg (show ¬ (false = true) by decide)] at H; exact H
                  clear H
                  have H := H1
                  clear H1
                  obtain rfl := Option.some.inj H
                  go_wp2_with (first | (go_at_call 18; (with_reducible refine (text_Pattern.calls (⟨#[97, 42, 91, 33, 120, 45, 122, 93, 63]⟩ : ByteArray) (⟨#[97, 98, 99, 100]⟩ : ByteArray) true _ A38.out).mono ?_); rintro e w59 ⟨rfl, hb⟩; have n0_ := Aside0.mk (below_step (by repeat (first | (with_reducible first | exact HB.out | apply below_alloc | apply pw_below_drewN | apply below_drew1) | exact HB.out)) hb); clear HB; have HB := n0_; clear n0_; (try clear hb); (try clear hb2); (try clear hk); (try clear hi)) | (go_at_call 18; (with_reducible refine (text_Pattern.calls (⟨#[91, 93, 93]⟩ : ByteArray) (⟨#[93]⟩ : ByteArray) false _ A40.out).mono ?_); rintro e w60 ⟨rfl, hb⟩; have n0_ := Aside0.mk (below_step (by repeat (first | (with_reducible first | exact HB.out | apply below_alloc | apply pw_below_drewN | apply below_drew1) | exact HB.out)) hb); clear HB; have HB := n0_; clear n0_; (try clear hb); (try clear hb2); (try clear hk); (try clear hi)))
                  go_ret
                  exact ⟨by first | rfl | (simp [errW_none, errW_some] <;> rfl) | (simp [*, errW_none, errW_some] <;> rfl), by repeat (first | (with_reducible first | exact HB.out | apply below_alloc | apply pw_below_drewN | apply below_drew1) | exact HB.out)⟩
              · replace c39 := Bool.eq_false_iff.mpr c39
                subst c39
                have H1 : (some false) = some r := by rw [if_neg (show ¬ (false = true) by decide)] at H; exact H
                clear H
                have H := H1
                clear H1
                obtain rfl := Option.some.inj H
                go_wp2_with (first | (go_at_call 18; (with_reducible refine (text_Pattern.calls (⟨#[97, 42, 91, 33, 120, 45, 122, 93, 63]⟩ : ByteArray) (⟨#[97, 98, 99, 100]⟩ : ByteArray) false _ A38.out).mono ?_); rintro e w61 ⟨rfl, hb⟩; have n0_ := Aside0.mk (below_step (by repeat (first | (with_reducible first | exact HB.out | apply below_alloc | apply pw_below_drewN | apply below_drew1) | exact HB.out)) hb); clear HB; have HB := n0_; clear n0_; (try clear hb); (try clear hb2); (try clear hk); (try clear hi)))
                go_ret
                exact ⟨by first | rfl | (simp [errW_none, errW_some] <;> rfl) | (simp [*, errW_none, errW_some] <;> rfl), by repeat (first | (with_reducible first | exact HB.out | apply below_alloc | apply pw_below_drewN | apply below_drew1) | exact HB.out)⟩
            · replace c37 := Bool.eq_false_iff.mpr c37
              subst c37
              have H1 : (some false) = some r := by rw [if_neg (show ¬ (false = true) by decide)] at H; exact H
              clear H
              have H := H1
              clear H1
              obtain rfl := Option.some.inj H
              go_wp2
              go_ret
              exact ⟨by first | rfl | (simp [errW_none, errW_some] <;> rfl) | (simp [*, errW_none, errW_some] <;> rfl), by repeat (first | (with_reducible first | exact HB.out | apply below_alloc | apply pw_below_drewN | apply below_drew1) | exact HB.out)⟩

/-! ### taquinref02_Same: function 14 -/
def taquinref02_Same.l0 : Nat → List ByteArray → List ByteArray → Int → Option (Bool)
  | 0, _, _, _ => none
  | k + 1, x0, x1, x5 => if x5 < (x0.length : Int) then (if 0 ≤ x5 then (if x5 < (x1.length : Int) then (if (rdOf ByteArray.empty x0 x5).toList = (rdOf ByteArray.empty x1 x5).toList then (taquinref02_Same.l0 k x0 x1 (wrap64 (x5 + 1))) else (some false)) else (none)) else (none)) else (some true)
def taquinref02_Same.f (k : Nat) (l0 : List ByteArray) (l1 : List ByteArray) : Option (Bool) := if (l0.length : Int) = (l1.length : Int) then (taquinref02_Same.l0 k l0 l1 0) else (some false)
theorem taquinref02_Same.mono_l : ∀ k, (∀ y0 y1 y2, LeO (taquinref02_Same.l0 k y0 y1 y2) (taquinref02_Same.l0 (k + 1) y0 y1 y2))
  | 0 => fun _ _ _ r h => by simp [taquinref02_Same.l0] at h
  | k + 1 => by
    have ih0 := taquinref02_Same.mono_l k
    · intro y0 y1 y2
      unfold taquinref02_Same.l0
      repeat' first
      | (with_reducible exact ih0 _ _ _)
      | (with_reducible exact LeO.refl _)
      | (with_reducible exact LeO.none _)
      | (with_reducible refine LeO.ite ?_ ?_)
      | (with_reducible refine LeO.bind ?_ (fun _ => ?_))
      | exact ih0 _ _ _
      | exact LeO.none _
      | refine LeO.ite ?_ ?_
      | refine LeO.bind ?_ (fun _ => ?_)
theorem taquinref02_Same.mono : ∀ a0 a1 k, LeO (taquinref02_Same.f k a0 a1) (taquinref02_Same.f (k + 1) a0 a1) := by
  intro a0 a1 k
  have ih0 := taquinref02_Same.mono_l k
  unfold taquinref02_Same.f
  repeat' first
      | (with_reducible exact ih0 _ _ _)
      | (with_reducible exact LeO.refl _)
      | (with_reducible exact LeO.none _)
      | (with_reducible refine LeO.ite ?_ ?_)
      | (with_reducible refine LeO.bind ?_ (fun _ => ?_))
      | exact ih0 _ _ _
      | exact LeO.none _
      | refine LeO.ite ?_ ?_
      | refine LeO.bind ?_ (fun _ => ?_)
set_option maxHeartbeats 8000000 in
set_option maxRecDepth 100000 in
theorem taquinref02_Same.calls (k : Nat) (A0 : Option Addr) (c0 : Nat) (l0 : List ByteArray) (A1 : Option Addr) (c1 : Nat) (l1 : List ByteArray) (r : Bool) (w : World) (hr0 : Kd.C Kd.string w A0 l0.length l0) (hc0 : l0.length ≤ c0) (hr1 : Kd.C Kd.string w A1 l1.length l1) (hc1 : l1.length ≤ c1) (h : taquinref02_Same.f k l0 l1 = some r) :
    Calls Tryd.prog 14 #[.slice A0 l0.length c0, .slice A1 l1.length c1] w fun e w' => e = .returned (.bool r) ∧ Drawn0 w w' := by
  have HR0 := Aside0.mk hr0
  have HC0 := Aside0.mk hc0
  clear hr0 hc0
  have HR1 := Aside0.mk hr1
  have HC1 := Aside0.mk hc1
  clear hr1 hc1
  have H : (if (l0.length : Int) = (l1.length : Int) then (taquinref02_Same.l0 k l0 l1 0) else (some false)) = some r := h
  clear h
  by_cases c3 : (l0.length : Int) = (l1.length : Int)
  · rw [if_pos c3] at H
    have c3b0 : ((l0.length : Int) == (l1.length : Int)) = true := beq_iff_eq.mpr c3
    have c3b1 : ((l0.length : Int) != (l1.length : Int)) = false := bne_eq_false_iff_eq.mpr c3
    have c3b2 : (l0.length == l1.length) = true := by first | simpa using c3 | (simp at c3 ⊢; omega)
    clear c3
    have H' := Aside0.mk H
    clear H
    go_enter Tryd.func14, Tryd.ntmps14
    go_wp2
    repeat (go_quiet (fail); try go_wp2)
    go_loopg [5] k (fun kq v5 w' => ∃ (x5_1 : Int), v5 = .int .i64 x5_1 ∧ Aside0 (taquinref02_Same.l0 kq l0 l1 x5_1 = some r) ∧ Aside0 (kq ≤ k) ∧ Drawn0 w w')
    case atStart => exact ⟨(0), (by first | rfl | (simp; done) | (simp [*]; done)), H', ⟨Nat.le_refl _⟩, by repeat (first | exact Drawn0.refl _ | apply Drawn0.step)⟩
    case round =>
      clear H'
      try clear c1
      try clear p2
      try clear c3
      try clear c3b0
      try clear c3b1
      try clear c3b2
      obtain ⟨x5_1, rfl, HA, HK1, ⟨m1, rfl⟩⟩ := hrel
      cases gk with
      | zero => exact absurd HA.out (by simp [taquinref02_Same.l0])
      | succ k1 =>
        have H := HA.out
        clear HA
        simp only [taquinref02_Same.l0] at H
        by_cases c4 : x5_1 < (l0.length : Int)
        · rw [if_pos c4] at H
          have c4b0 : decide (x5_1 < (l0.length : Int)) = true := decide_eq_true c4
          clear c4
          by_cases c5 : 0 ≤ x5_1
          · rw [if_pos c5] at H
            have c5b0 : decide (0 ≤ x5_1) = true := decide_eq_true c5
            clear c5
            by_cases c6 : x5_1 < (l1.length : Int)
            · rw [if_pos c6] at H
              have c6b0 : decide (x5_1 < (l1.length : Int)) = true := decide_eq_true c6
              clear c6
              by_cases c7 : (rdOf ByteArray.empty l0 x5_1).toList = (rdOf ByteArray.empty l1 x5_1).toList
              · rw [if_pos c7] at H
                have c7b0 : ((rdOf ByteArray.empty l0 x5_1).toList == (rdOf ByteArray.empty l1 x5_1).toList) = true := beq_iff_eq.mpr c7
                have c7b1 : ((rdOf ByteArray.empty l0 x5_1).toList != (rdOf ByteArray.empty l1 x5_1).toList) = false := bne_eq_false_iff_eq.mpr c7
                clear c7
                have H' := Aside0.mk H
                clear H
                have p122 : 0 ≤ (x5_1 : Int) := of_decide_eq_true (by first | (with_reducible assumption) | assumption)
                have q122 : x5_1 < (l0.length : Int) := of_decide_eq_true (by first | (with_reducible assumption) | assumption)
                obtain ⟨ad122, e122, hx122_0⟩ := Kd.at_string HR0.out x5_1 p122 q122
                cases e122
                replace p122 := eq_true p122
                replace q122 := eq_true q122
                have p123 : 0 ≤ (x5_1 : Int) := of_decide_eq_true (by first | (with_reducible assumption) | assumption)
                have q123 : x5_1 < (l1.length : Int) := of_decide_eq_true (by first | (with_reducible assumption) | assumption)
                obtain ⟨ad123, e123, hx123_0⟩ := Kd.at_string HR1.out x5_1 p123 q123
                cases e123
                replace p123 := eq_true p123
                replace q123 := eq_true q123
                go_wp2
                repeat (go_quiet (fail); try go_wp2)
                go_roundg k1
                case measure => have := HK1.out; omega
                case rel => exact ⟨(wrap64 (x5_1 + 1)), (by first | rfl | (simp; done) | (simp [*]; done) | (simp [*, bne]; done)), H', ⟨by have := HK1.out; omega⟩, by repeat (first | exact Drawn0.refl _ | apply Drawn0.step)⟩
              · rw [if_neg c7] at H
                have c7b0 : ((rdOf ByteArray.empty l0 x5_1).toList == (rdOf ByteArray.empty l1 x5_1).toList) = false := beq_eq_false_iff_ne.mpr c7
                have c7b1 : ((rdOf ByteArray.empty l0 x5_1).toList != (rdOf ByteArray.empty l1 x5_1).toList) = true := bne_iff_ne.mpr c7
                obtain rfl := Option.some.inj H
                have p122 : 0 ≤ (x5_1 : Int) := of_decide_eq_true (by first | (with_reducible assumption) | assumption)
                have q122 : x5_1 < (l0.length : Int) := of_decide_eq_true (by first | (with_reducible assumption) | assumption)
                obtain ⟨ad122, e122, hx122_0⟩ := Kd.at_string HR0.out x5_1 p122 q122
                cases e122
                replace p122 := eq_true p122
                replace q122 := eq_true q122
                have p123 : 0 ≤ (x5_1 : Int) := of_decide_eq_true (by first | (with_reducible assumption) | assumption)
                have q123 : x5_1 < (l1.length : Int) := of_decide_eq_true (by first | (with_reducible assumption) | assumption)
                obtain ⟨ad123, e123, hx123_0⟩ := Kd.at_string HR1.out x5_1 p123 q123
                cases e123
                replace p123 := eq_true p123
                replace q123 := eq_true q123
                go_wp2
                repeat (go_quiet (fail); try go_wp2)
                go_ret
                exact ⟨by first | rfl | (simp; done) | (simp [*]; done), by repeat (first | exact Drawn0.refl _ | apply Drawn0.step)⟩
            · rw [if_neg c6] at H
              exact absurd H (by simp)
          · rw [if_neg c5] at H
            exact absurd H (by simp)
        · rw [if_neg c4] at H
          have c4b0 : decide (x5_1 < (l0.length : Int)) = false := decide_eq_false c4
          clear c4
          obtain rfl := Option.some.inj H
          go_wp2
          repeat (go_quiet (fail); try go_wp2)
          go_ret
          exact ⟨by first | rfl | (simp; done) | (simp [*]; done), by repeat (first | exact Drawn0.refl _ | apply Drawn0.step)⟩
  · rw [if_neg c3] at H
    have c3b0 : ((l0.length : Int) == (l1.length : Int)) = false := beq_eq_false_iff_ne.mpr c3
    have c3b1 : ((l0.length : Int) != (l1.length : Int)) = true := bne_iff_ne.mpr c3
    have c3b2 : (l0.length == l1.length) = false := by first | simpa using c3 | (simp at c3 ⊢; omega)
    obtain rfl := Option.some.inj H
    go_enter Tryd.func14, Tryd.ntmps14
    go_wp2
    repeat (go_quiet (fail); try go_wp2)
    go_ret
    exact ⟨by first | rfl | (simp; done) | (simp [*]; done), by repeat (first | exact Drawn0.refl _ | apply Drawn0.step)⟩

end Go.Proofs.YteifffaonigidaaDoor.M
