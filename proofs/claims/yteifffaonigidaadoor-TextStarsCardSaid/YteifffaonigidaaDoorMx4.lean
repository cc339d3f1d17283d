-- Printed by wip/tools/myprint.py (an own program; its engine is the kit's print): checked by Lean.
import Derived.Test.YteifffaonigidaaDoorMx0
import Derived.Test.YteifffaonigidaaDoorMx2
import Derived.Test.YteifffaonigidaaDoorTxC
import Derived.Test.YteifffaonigidaaDoorTxF
namespace Go.Proofs.YteifffaonigidaaDoor.M
open Go.RowKit Go.Proofs.YteifffaonigidaaDoorW.PrintWords Go.Proofs.YteifffaonigidaaDoorW.PrintLast Go.Proofs.YteifffaonigidaaDoorW.PrintMore
attribute [local go_sem] max2_int min2_int max_two min_two max_three min_three max_four min_four   -- for this text's walks alone
set_option linter.unusedVariables false
set_option linter.unusedSimpArgs false

/-! ### taquinlaw02_TextStars: function 4 -/
mutual
def taquinlaw02_TextStars.j0 : Nat → ByteArray → ByteArray → ByteArray → Bool → Bool → Option (Bool)
  | 0, _, _, _, _, _ => none
  | k + 1, x0, x1, x2, x7, x24 => if x24 = true then (some x7) else (taquinlaw02_TextStars.l0 k x0 x1 x2 x7 false false 0)
def taquinlaw02_TextStars.l0 : Nat → ByteArray → ByteArray → ByteArray → Bool → Bool → Bool → Int → Option (Bool)
  | 0, _, _, _, _, _, _, _ => none
  | k + 1, x0, x1, x2, x7, x8, x9, x10 => if x10 ≤ (x1.size : Int) then (if x8 = true then (if x9 = true then (taquinlaw02_TextStars.l0 k x0 x1 x2 x7 true true (wrap64 (x10 + 1))) else (if 0 ≤ x10 then ((text_Pattern.f x0 (x1.extract 0 (x10 : Int).toNat)).bind fun t154 => (taquinlaw02_TextStars.l0 k x0 x1 x2 x7 true t154 (wrap64 (x10 + 1)))) else (none))) else (if 0 ≤ x10 then ((text_Pattern.f x0 (x1.extract (x10 : Int).toNat x1.size)).bind fun t155 => (if x9 = true then (taquinlaw02_TextStars.l0 k x0 x1 x2 x7 t155 true (wrap64 (x10 + 1))) else ((text_Pattern.f x0 (x1.extract 0 (x10 : Int).toNat)).bind fun t156 => (taquinlaw02_TextStars.l0 k x0 x1 x2 x7 t155 t156 (wrap64 (x10 + 1)))))) else (none))) else (if 1 + x0.size ≤ 9223372036854775807 then ((text_Pattern.f ((⟨#[42]⟩ : ByteArray) ++ x0) x1).bind fun t157 => (if (t157 != x8) = true then (taquinlaw02_TextStars.j2 k x0 x1 x2 x7 x9 true) else ((text_Pattern.f ((⟨#[63]⟩ : ByteArray) ++ x0) x1).bind fun t158 => (if x1.toList = ([] : List UInt8) then (taquinlaw02_TextStars.j2 k x0 x1 x2 x7 x9 (t158 != false)) else (if 0 ≤ (mn 1 (x1.size : Int)) then (if (mn 1 (x1.size : Int)) ≤ (x1.size : Int) then ((text_Pattern.f x0 (x1.extract ((mn 1 (x1.size : Int)) : Int).toNat x1.size)).bind fun t159 => (taquinlaw02_TextStars.j2 k x0 x1 x2 x7 x9 (t158 != t159))) else (none)) else (none)))))) else (none))
def taquinlaw02_TextStars.j2 : Nat → ByteArray → ByteArray → ByteArray → Bool → Bool → Bool → Option (Bool)
  | 0, _, _, _, _, _, _ => none
  | k + 1, x0, x1, x2, x7, x9, x71 => if x71 = true then (some false) else ((text_Escape.f x2).bind fun t160 => (if t160.size + x0.size ≤ 9223372036854775807 then (if x2.size + x1.size ≤ 9223372036854775807 then ((text_Pattern.f (t160 ++ x0) (x2 ++ x1)).bind fun t161 => ((text_Pattern.f x0 x1).bind fun t162 => (if (t161 != t162) = true then (some false) else (if x7 = true then (if x0.toList = ([] : List UInt8) then (if x0.size + 1 ≤ 9223372036854775807 then ((text_Pattern.f (x0 ++ (⟨#[42]⟩ : ByteArray)) x1).bind fun t163 => (some (t163 == x9))) else (none)) else (if 0 ≤ (wrap64 ((x0.size : Int) - 1)) then (if (wrap64 ((x0.size : Int) - 1)) < (x0.size : Int) then (if (bt x0 (wrap64 ((x0.size : Int) - 1))) = 92 then (some true) else (if x0.size + 1 ≤ 9223372036854775807 then ((text_Pattern.f (x0 ++ (⟨#[42]⟩ : ByteArray)) x1).bind fun t164 => (some (t164 == x9))) else (none))) else (none)) else (none))) else (some false))))) else (none)) else (none)))
end
def taquinlaw02_TextStars.f (k : Nat) (a0 : ByteArray) (a1 : ByteArray) (a2 : ByteArray) : Option (Bool) := (taquinlaw02_small.f k).bind fun t153 => (if (a0.size : Int) > 60 then (taquinlaw02_TextStars.j0 k a0 a1 a2 t153 true) else (if (a1.size : Int) > 100 then (taquinlaw02_TextStars.j0 k a0 a1 a2 t153 true) else (taquinlaw02_TextStars.j0 k a0 a1 a2 t153 (decide ((a2.size : Int) > 100)))))
theorem taquinlaw02_TextStars.mono_l : ∀ k, (∀ y0 y1 y2 y3 y4, LeO (taquinlaw02_TextStars.j0 k y0 y1 y2 y3 y4) (taquinlaw02_TextStars.j0 (k + 1) y0 y1 y2 y3 y4)) ∧ (∀ y0 y1 y2 y3 y4 y5 y6, LeO (taquinlaw02_TextStars.l0 k y0 y1 y2 y3 y4 y5 y6) (taquinlaw02_TextStars.l0 (k + 1) y0 y1 y2 y3 y4 y5 y6)) ∧ (∀ y0 y1 y2 y3 y4 y5, LeO (taquinlaw02_TextStars.j2 k y0 y1 y2 y3 y4 y5) (taquinlaw02_TextStars.j2 (k + 1) y0 y1 y2 y3 y4 y5))
  | 0 => ⟨fun _ _ _ _ _ r h => by simp [taquinlaw02_TextStars.j0] at h, fun _ _ _ _ _ _ _ r h => by simp [taquinlaw02_TextStars.l0] at h, fun _ _ _ _ _ _ r h => by simp [taquinlaw02_TextStars.j2] at h⟩
  | k + 1 => by
    obtain ⟨ih0, ih1, ih2⟩ := taquinlaw02_TextStars.mono_l k
    refine ⟨?_, ?_, ?_⟩
    · intro y0 y1 y2 y3 y4
      unfold taquinlaw02_TextStars.j0
      repeat' first
      | (with_reducible exact ih0 _ _ _ _ _)
      | (with_reducible exact ih1 _ _ _ _ _ _ _)
      | (with_reducible exact ih2 _ _ _ _ _ _)
      | (with_reducible exact taquinlaw02_small.mono _)
      | (with_reducible exact LeO.refl _)
      | (with_reducible exact LeO.none _)
      | (with_reducible refine LeO.ite ?_ ?_)
      | (with_reducible refine LeO.bind ?_ (fun _ => ?_))
      | exact ih0 _ _ _ _ _
      | exact ih1 _ _ _ _ _ _ _
      | exact ih2 _ _ _ _ _ _
      | exact taquinlaw02_small.mono _
      | exact LeO.none _
      | refine LeO.ite ?_ ?_
      | refine LeO.bind ?_ (fun _ => ?_)
    · intro y0 y1 y2 y3 y4 y5 y6
      unfold taquinlaw02_TextStars.l0
      repeat' first
      | (with_reducible exact ih0 _ _ _ _ _)
      | (with_reducible exact ih1 _ _ _ _ _ _ _)
      | (with_reducible exact ih2 _ _ _ _ _ _)
      | (with_reducible exact taquinlaw02_small.mono _)
      | (with_reducible exact LeO.refl _)
      | (with_reducible exact LeO.none _)
      | (with_reducible refine LeO.ite ?_ ?_)
      | (with_reducible refine LeO.bind ?_ (fun _ => ?_))
      | exact ih0 _ _ _ _ _
      | exact ih1 _ _ _ _ _ _ _
      | exact ih2 _ _ _ _ _ _
      | exact taquinlaw02_small.mono _
      | exact LeO.none _
      | refine LeO.ite ?_ ?_
      | refine LeO.bind ?_ (fun _ => ?_)
    · intro y0 y1 y2 y3 y4 y5
      unfold taquinlaw02_TextStars.j2
      repeat' first
      | (with_reducible exact ih0 _ _ _ _ _)
      | (with_reducible exact ih1 _ _ _ _ _ _ _)
      | (with_reducible exact ih2 _ _ _ _ _ _)
      | (with_reducible exact taquinlaw02_small.mono _)
      | (with_reducible exact LeO.refl _)
      | (with_reducible exact LeO.none _)
      | (with_reducible refine LeO.ite ?_ ?_)
      | (with_reducible refine LeO.bind ?_ (fun _ => ?_))
      | exact ih0 _ _ _ _ _
      | exact ih1 _ _ _ _ _ _ _
      | exact ih2 _ _ _ _ _ _
      | exact taquinlaw02_small.mono _
      | exact LeO.none _
      | refine LeO.ite ?_ ?_
      | refine LeO.bind ?_ (fun _ => ?_)
theorem taquinlaw02_TextStars.mono : ∀ a0 a1 a2 k, LeO (taquinlaw02_TextStars.f k a0 a1 a2) (taquinlaw02_TextStars.f (k + 1) a0 a1 a2) := by
  intro a0 a1 a2 k
  obtain ⟨ih0, ih1, ih2⟩ := taquinlaw02_TextStars.mono_l k
  unfold taquinlaw02_TextStars.f
  repeat' first
      | (with_reducible exact ih0 _ _ _ _ _)
      | (with_reducible exact ih1 _ _ _ _ _ _ _)
      | (with_reducible exact ih2 _ _ _ _ _ _)
      | (with_reducible exact taquinlaw02_small.mono _)
      | (with_reducible exact LeO.refl _)
      | (with_reducible exact LeO.none _)
      | (with_reducible refine LeO.ite ?_ ?_)
      | (with_reducible refine LeO.bind ?_ (fun _ => ?_))
      | exact ih0 _ _ _ _ _
      | exact ih1 _ _ _ _ _ _ _
      | exact ih2 _ _ _ _ _ _
      | exact taquinlaw02_small.mono _
      | exact LeO.none _
      | refine LeO.ite ?_ ?_
      | refine LeO.bind ?_ (fun _ => ?_)
set_option maxHeartbeats 8000000 in
set_option maxRecDepth 100000 in
theorem taquinlaw02_TextStars.calls (k : Nat) (a0 : ByteArray) (a1 : ByteArray) (a2 : ByteArray) (r : Bool) (w : World) (h : taquinlaw02_TextStars.f k a0 a1 a2 = some r) (hLd : LaidP w) :
    Calls Tryd.prog 4 #[.string a0, .string a1, .string a2] w fun e w' => e = .returned (.bool r) ∧ Below w.heap.size w w' := by
  have HB := Aside0.mk (Below.refl w.heap.size w)
  have H : ((taquinlaw02_small.f k).bind fun t153 => (if (a0.size : Int) > 60 then (taquinlaw02_TextStars.j0 k a0 a1 a2 t153 true) else (if (a1.size : Int) > 100 then (taquinlaw02_TextStars.j0 k a0 a1 a2 t153 true) else (taquinlaw02_TextStars.j0 k a0 a1 a2 t153 (decide ((a2.size : Int) > 100)))))) = some r := h
  clear h
  replace H := Option.bind_eq_some_iff.mp H
  obtain ⟨t153, A40, H⟩ := H
  replace H : (if (a0.size : Int) > 60 then (taquinlaw02_TextStars.j0 k a0 a1 a2 t153 true) else (if (a1.size : Int) > 100 then (taquinlaw02_TextStars.j0 k a0 a1 a2 t153 true) else (taquinlaw02_TextStars.j0 k a0 a1 a2 t153 (decide ((a2.size : Int) > 100))))) = some r := H
  have A4 := Aside0.mk A40
  clear A40
  have HC5 := Aside0.mk H
  clear H
  go_enter Tryd.func4, Tryd.ntmps4
  go_upto_region 2 with (first | ((with_reducible refine gate_callee (f := 13) rfl ?_); refine goesL_ (some 11) rfl rfl Tryd.func13 (by kernel_rfl) rfl #[] rfl (by (try simp only [List.map_toArray, List.map_cons, List.map_nil]); first | done | rfl | (simp only [List.length_drop, List.length_take]; rfl)) ?_; (with_reducible refine (taquinlaw02_small.calls k  t153 _ A4.out (LaidP.below hLd (by repeat (first | (with_reducible first | exact HB.out | apply below_alloc | apply pw_below_drewN | apply below_drew1) | exact HB.out)))).mono ?_); rintro e w6 ⟨rfl, hb⟩; refine ⟨_, rfl, ?_⟩; have n0_ := Aside0.mk (below_step (by repeat (first | (with_reducible first | exact HB.out | apply below_alloc | apply pw_below_drewN | apply below_drew1) | exact HB.out)) hb); clear HB; have HB := n0_; clear n0_; (try clear hb); (try clear hb2); (try clear hk); (try clear hi)))
  (try simp only [Act.put, List.setIfInBounds_toArray, List.set_cons_zero, List.set_cons_succ])
  go_cut [24] (fun v24 wc => ∃ (kq : Nat) (x24_4 : Bool), v24 = .bool x24_4 ∧ Aside0 (taquinlaw02_TextStars.j0 kq a0 a1 a2 t153 x24_4 = some r) ∧ Aside0 (kq ≤ k) ∧ Aside0 (Below w.heap.size w wc))
  case first =>
    have H := HC5.out
    clear HC5
    by_cases c7 : (a0.size : Int) > 60
    · rw [if_pos c7] at H
      have c7b0 : decide (60 < (a0.size : Int)) = true := decide_eq_true c7
      have c7b1 : decide (60 < a0.size) = true := decide_eq_true (by omega)
      clear c7
      (first | rw [c7b0] | (simp only [i64_w, i32_w]; rw [c7b0]) | skip)
      have H' := Aside0.mk H
      clear H
      go_wp2
      go_meet
      case rel => exact ⟨_, (true), (by first | rfl | (simp; done) | (simp [*]; done) | (simp [*, bne]; done)), H', ⟨by first | omega | exact Nat.le_refl _⟩, ⟨by repeat (first | (with_reducible first | exact HB.out | apply below_alloc | apply pw_below_drewN | apply below_drew1) | exact HB.out)⟩⟩
    · rw [if_neg c7] at H
      have c7b0 : decide (60 < (a0.size : Int)) = false := decide_eq_false c7
      have c7b1 : decide (60 < a0.size) = false := decide_eq_false (by omega)
      clear c7
      (first | rw [c7b0] | (simp only [i64_w, i32_w]; rw [c7b0]) | skip)
      by_cases c8 : (a1.size : Int) > 100
      · rw [if_pos c8] at H
        have c8b0 : decide (100 < (a1.size : Int)) = true := decide_eq_true c8
        have c8b1 : decide (100 < a1.size) = true := decide_eq_true (by omega)
        clear c8
        have H' := Aside0.mk H
        clear H
        go_wp2
        go_meet
        case rel => exact ⟨_, (true), (by first | rfl | (simp; done) | (simp [*]; done) | (simp [*, bne]; done)), H', ⟨by first | omega | exact Nat.le_refl _⟩, ⟨by repeat (first | (with_reducible first | exact HB.out | apply below_alloc | apply pw_below_drewN | apply below_drew1) | exact HB.out)⟩⟩
      · rw [if_neg c8] at H
        have c8b0 : decide (100 < (a1.size : Int)) = false := decide_eq_false c8
        have c8b1 : decide (100 < a1.size) = false := decide_eq_false (by omega)
        clear c8
        have H' := Aside0.mk H
        clear H
        go_wp2
        go_meet
        case rel => exact ⟨_, (decide ((a2.size : Int) > 100)), (by first | rfl | (simp; done) | (simp [*]; done) | (simp [*, bne]; done)), H', ⟨by first | omega | exact Nat.le_refl _⟩, ⟨by repeat (first | (with_reducible first | exact HB.out | apply below_alloc | apply pw_below_drewN | apply below_drew1) | exact HB.out)⟩⟩
  case rest =>
    clear HC5
    try clear c1
    try clear p2
    try clear c4
    try clear c7
    try clear c7b0
    try clear c7b1
    try clear c8
    try clear c8b0
    try clear c8b1
    obtain ⟨kq, x24_4, rfl, HA, HJ4, HB⟩ := hcut
    cases kq with
    | zero => exact absurd HA.out (by simp [taquinlaw02_TextStars.j0])
    | succ kj4 =>
      have H := HA.out
      clear HA
      simp only [taquinlaw02_TextStars.j0] at H
      by_cases c9 : x24_4 = true
      · subst c9
        have H1 : (some t153) = some r := by rw [if_pos rfl] at H; exact H
        clear H
        have H := H1
        clear H1
        obtain rfl := Option.some.inj H
        go_wp2
        go_ret
        exact ⟨by first | rfl | (simp [errW_none, errW_some] <;> rfl) | (simp [*, errW_none, errW_some] <;> rfl), by repeat (first | (with_reducible first | exact HB.out | apply below_alloc | apply pw_below_drewN | apply below_drew1) | exact HB.out)⟩
      · replace c9 := Bool.eq_false_iff.mpr c9
        subst c9
        have H1 : (taquinlaw02_TextStars.l0 kj4 a0 a1 a2 t153 false false 0) = some r := by rw [if_neg (show ¬ (false = true) by decide)] at H; exact H
        clear H
        have H := H1
        clear H1
        have H' := Aside0.mk H
        clear H
        go_wp2
        go_loopg [8, 9, 10] kj4 (fun kq v8 v9 v10 w' => ∃ (x8_2 : Bool) (x9_2 : Bool) (x10_2 : Int), v8 = .bool x8_2 ∧ v9 = .bool x9_2 ∧ v10 = .int .i64 x10_2 ∧ Aside0 (taquinlaw02_TextStars.l0 kq a0 a1 a2 t153 x8_2 x9_2 x10_2 = some r) ∧ Aside0 (kq ≤ kj4) ∧ Aside0 (Below w.heap.size w w'))
        case atStart => exact ⟨(false), (false), (0), (by first | rfl | (simp; done) | (simp [*]; done)), (by first | rfl | (simp; done) | (simp [*]; done)), (by first | rfl | (simp; done) | (simp [*]; done)), H', ⟨Nat.le_refl _⟩, ⟨by repeat (first | (with_reducible first | exact HB.out | apply below_alloc | apply pw_below_drewN | apply below_drew1) | exact HB.out)⟩⟩
        case round =>
          clear H'
          try clear c1
          try clear p2
          try clear c4
          try clear c7
          try clear c7b0
          try clear c7b1
          try clear c8
          try clear c8b0
          try clear c8b1
          try clear c9
          try clear p2
          obtain ⟨x8_2, x9_2, x10_2, rfl, rfl, rfl, HA, HK2, HB⟩ := hrel
          cases gk with
          | zero => exact absurd HA.out (by simp [taquinlaw02_TextStars.l0])
          | succ k2 =>
            have H := HA.out
            clear HA
            simp only [taquinlaw02_TextStars.l0] at H
            by_cases c10 : x10_2 ≤ (a1.size : Int)
            · rw [if_pos c10] at H
              have c10b0 : decide (x10_2 ≤ (a1.size : Int)) = true := decide_eq_true c10
              clear c10
              by_cases c11 : x8_2 = true
              · subst c11
                have H1 : (if x9_2 = true then (taquinlaw02_TextStars.l0 k2 a0 a1 a2 t153 true true (wrap64 (x10_2 + 1))) else (if 0 ≤ x10_2 then ((text_Pattern.f a0 (a1.extract 0 (x10_2 : Int).toNat)).bind fun t154 => (taquinlaw02_TextStars.l0 k2 a0 a1 a2 t153 true t154 (wrap64 (x10_2 + 1)))) else (none))) = some r := by rw [if_pos rfl] at H; exact H
                clear H
                have H := H1
                clear H1
                by_cases c12 : x9_2 = true
                · subst c12
                  have H1 : (taquinlaw02_TextStars.l0 k2 a0 a1 a2 t153 true true (wrap64 (x10_2 + 1))) = some r := by rw [if_pos rfl] at H; exact H
                  clear H
                  have H := H1
                  clear H1
                  have H' := Aside0.mk H
                  clear H
                  go_wp2
                  go_roundg k2
                  case measure => have := HJ4.out; have := HK2.out; omega
                  case rel => exact ⟨(true), (true), (wrap64 (x10_2 + 1)), (by first | rfl | (simp; done) | (simp [*]; done) | (simp [*, bne]; done)), (by first | rfl | (simp; done) | (simp [*]; done) | (simp [*, bne]; done)), (by first | rfl | (simp; done) | (simp [*]; done) | (simp [*, bne]; done)), H', ⟨by have := HJ4.out; have := HK2.out; omega⟩, ⟨by repeat (first | (with_reducible first | exact HB.out | apply below_alloc | apply pw_below_drewN | apply below_drew1) | exact HB.out)⟩⟩
                · replace c12 := Bool.eq_false_iff.mpr c12
                  subst c12
                  have H1 : (if 0 ≤ x10_2 then ((text_Pattern.f a0 (a1.extract 0 (x10_2 : Int).toNat)).bind fun t154 => (taquinlaw02_TextStars.l0 k2 a0 a1 a2 t153 true t154 (wrap64 (x10_2 + 1)))) else (none)) = some r := by rw [if_neg (show ¬ (false = true) by decide)] at H; exact H
                  clear H
                  have H := H1
                  clear H1
                  by_cases c13 : 0 ≤ x10_2
                  · rw [if_pos c13] at H
                    have c13b0 := eq_true c13
                    have c13b1 : decide (0 ≤ x10_2) = true := decide_eq_true c13
                    clear c13
                    have c14b0 := eq_true (of_decide_eq_true (by first | (with_reducible assumption) | assumption) : x10_2 ≤ (a1.size : Int))
                    replace H := Option.bind_eq_some_iff.mp H
                    obtain ⟨t154, A150, H⟩ := H
                    replace H : (taquinlaw02_TextStars.l0 k2 a0 a1 a2 t153 true t154 (wrap64 (x10_2 + 1))) = some r := H
                    have A15 := Aside0.mk A150
                    clear A150
                    have H' := Aside0.mk H
                    clear H
                    go_wp2_with (first | (go_at_call 18; (with_reducible refine (text_Pattern.calls a0 (a1.extract 0 (x10_2 : Int).toNat) t154 _ A15.out).mono ?_); rintro e w16 ⟨rfl, hb⟩; have n0_ := Aside0.mk (below_step (by repeat (first | (with_reducible first | exact HB.out | apply below_alloc | apply pw_below_drewN | apply below_drew1) | exact HB.out)) hb); clear HB; have HB := n0_; clear n0_; (try clear hb); (try clear hb2); (try clear hk); (try clear hi)))
                    go_roundg k2
                    case measure => have := HJ4.out; have := HK2.out; omega
                    case rel => exact ⟨(true), (t154), (wrap64 (x10_2 + 1)), (by first | rfl | (simp; done) | (simp [*]; done) | (simp [*, bne]; done)), (by first | rfl | (simp; done) | (simp [*]; done) | (simp [*, bne]; done)), (by first | rfl | (simp; done) | (simp [*]; done) | (simp [*, bne]; done)), H', ⟨by have := HJ4.out; have := HK2.out; omega⟩, ⟨by repeat (first | (with_reducible first | exact HB.out | apply below_alloc | apply pw_below_drewN | apply below_drew1) | exact HB.out)⟩⟩
                  · rw [if_neg c13] at H
                    exact absurd H (by simp)
              · replace c11 := Bool.eq_false_iff.mpr c11
                subst c11
                have H1 : (if 0 ≤ x10_2 then ((text_Pattern.f a0 (a1.extract (x10_2 : Int).toNat a1.size)).bind fun t155 => (if x9_2 = true then (taquinlaw02_TextStars.l0 k2 a0 a1 a2 t153 t155 true (wrap64 (x10_2 + 1))) else ((text_Pattern.f a0 (a1.extract 0 (x10_2 : Int).toNat)).bind fun t156 => (taquinlaw02_TextStars.l0 k2 a0 a1 a2 t153 t155 t156 (wrap64 (x10_2 + 1)))))) else (none)) = some r := by rw [if_neg (show ¬ (false = true) by decide)] at H; exact H
                clear H
                have H := H1
                clear H1
                by_cases c17 : 0 ≤ x10_2
                · rw [if_pos c17] at H
                  have c17b0 := eq_true c17
                  have c17b1 : decide (0 ≤ x10_2) = true := decide_eq_true c17
                  clear c17
                  have c18b0 := eq_true (of_decide_eq_true (by first | (with_reducible assumption) | assumption) : x10_2 ≤ (a1.size : Int))
                  replace H := Option.bind_eq_some_iff.mp H
                  obtain ⟨t155, A190, H⟩ := H
                  replace H : (if x9_2 = true then (taquinlaw02_TextStars.l0 k2 a0 a1 a2 t153 t155 true (wrap64 (x10_2 + 1))) else ((text_Pattern.f a0 (a1.extract 0 (x10_2 : Int).toNat)).bind fun t156 => (taquinlaw02_TextStars.l0 k2 a0 a1 a2 t153 t155 t156 (wrap64 (x10_2 + 1))))) = some r := H
                  have A19 := Aside0.mk A190
                  clear A190
                  by_cases c20 : x9_2 = true
                  · subst c20
                    have H1 : (taquinlaw02_TextStars.l0 k2 a0 a1 a2 t153 t155 true (wrap64 (x10_2 + 1))) = some r := by rw [if_pos rfl] at H; exact H
                    clear H
                    have H := H1
                    clear H1
                    have H' := Aside0.mk H
                    clear H
                    go_wp2_with (first | (go_at_call 18; (with_reducible refine (text_Pattern.calls a0 (a1.extract (x10_2 : Int).toNat a1.size) t155 _ A19.out).mono ?_); rintro e w21 ⟨rfl, hb⟩; have n0_ := Aside0.mk (below_step (by repeat (first | (with_reducible first | exact HB.out | apply below_alloc | apply pw_below_drewN | apply below_drew1) | exact HB.out)) hb); clear HB; have HB := n0_; clear n0_; (try clear hb); (try clear hb2); (try clear hk); (try clear hi)))
                    go_roundg k2
                    case measure => have := HJ4.out; have := HK2.out; omega
                    case rel => exact ⟨(t155), (true), (wrap64 (x10_2 + 1)), (by first | rfl | (simp; done) | (simp [*]; done) | (simp [*, bne]; done)), (by first | rfl | (simp; done) | (simp [*]; done) | (simp [*, bne]; done)), (by first | rfl | (simp; done) | (simp [*]; done) | (simp [*, bne]; done)), H', ⟨by have := HJ4.out; have := HK2.out; omega⟩, ⟨by repeat (first | (with_reducible first | exact HB.out | apply below_alloc | apply pw_below_drewN | apply below_drew1) | exact HB.out)⟩⟩
                  · replace c20 := Bool.eq_false_iff.mpr c20
                    subst c20
                    have H1 : ((text_Pattern.f a0 (a1.extract 0 (x10_2 : Int).toNat)).bind fun t156 => (taquinlaw02_TextStars.l0 k2 a0 a1 a2 t153 t155 t156 (wrap64 (x10_2 + 1)))) = some r := by rw [if_neg (show ¬ (false = true) by decide)] at H; exact H
                    clear H
                    have H := H1
                    clear H1
                    have c22b0 := eq_true (of_decide_eq_true (by first | (with_reducible assumption) | assumption) : 0 ≤ x10_2)
                    have c23b0 := eq_true (of_decide_eq_true (by first | (with_reducible assumption) | assumption) : x10_2 ≤ (a1.size : Int))
                    replace H := Option.bind_eq_some_iff.mp H
                    obtain ⟨t156, A240, H⟩ := H
                    replace H : (taquinlaw02_TextStars.l0 k2 a0 a1 a2 t153 t155 t156 (wrap64 (x10_2 + 1))) = some r := H
                    have A24 := Aside0.mk A240
                    clear A240
                    have H' := Aside0.mk H
                    clear H
                    go_wp2_with (first | (go_at_call 18; (with_reducible refine (text_Pattern.calls a0 (a1.extract (x10_2 : Int).toNat a1.size) t155 _ A19.out).mono ?_); rintro e w25 ⟨rfl, hb⟩; have n0_ := Aside0.mk (below_step (by repeat (first | (with_reducible first | exact HB.out | apply below_alloc | apply pw_below_drewN | apply below_drew1) | exact HB.out)) hb); clear HB; have HB := n0_; clear n0_; (try clear hb); (try clear hb2); (try clear hk); (try clear hi)) | (go_at_call 18; (with_reducible refine (text_Pattern.calls a0 (a1.extract 0 (x10_2 : Int).toNat) t156 _ A24.out).mono ?_); rintro e w26 ⟨rfl, hb⟩; have n0_ := Aside0.mk (below_step (by repeat (first | (with_reducible first | exact HB.out | apply below_alloc | apply pw_below_drewN | apply below_drew1) | exact HB.out)) hb); clear HB; have HB := n0_; clear n0_; (try clear hb); (try clear hb2); (try clear hk); (try clear hi)))
                    go_roundg k2
                    case measure => have := HJ4.out; have := HK2.out; omega
                    case rel => exact ⟨(t155), (t156), (wrap64 (x10_2 + 1)), (by first | rfl | (simp; done) | (simp [*]; done) | (simp [*, bne]; done)), (by first | rfl | (simp; done) | (simp [*]; done) | (simp [*, bne]; done)), (by first | rfl | (simp; done) | (simp [*]; done) | (simp [*, bne]; done)), H', ⟨by have := HJ4.out; have := HK2.out; omega⟩, ⟨by repeat (first | (with_reducible first | exact HB.out | apply below_alloc | apply pw_below_drewN | apply below_drew1) | exact HB.out)⟩⟩
                · rw [if_neg c17] at H
                  exact absurd H (by simp)
            · rw [if_neg c10] at H
              have c10b0 : decide (x10_2 ≤ (a1.size : Int)) = false := decide_eq_false c10
              clear c10
              have HC27 := Aside0.mk H
              clear H
              go_upto_region 11 with (fail)
              go_cut [71] (fun v71 wc => ∃ (kq : Nat) (x71_26 : Bool), v71 = .bool x71_26 ∧ Aside0 (taquinlaw02_TextStars.j2 kq a0 a1 a2 t153 x9_2 x71_26 = some r) ∧ Aside0 (kq ≤ k2) ∧ Aside0 (Below w.heap.size w wc))
              case first =>
                have H := HC27.out
                clear HC27
                by_cases c28 : 1 + a0.size ≤ 9223372036854775807
                · rw [if_pos c28] at H
                  have c28b0 := eq_true c28
                  have c28b1 : decide (1 + a0.size ≤ 9223372036854775807) = true := decide_eq_true c28
                  try have c28b2 : (9223372036854775807 < 1 + a0.size) = False := eq_false (Nat.not_lt.2 c28)
                  replace H := Option.bind_eq_some_iff.mp H
                  obtain ⟨t157, A290, H⟩ := H
                  replace H : (if (t157 != x8_2) = true then (taquinlaw02_TextStars.j2 k2 a0 a1 a2 t153 x9_2 true) else ((text_Pattern.f ((⟨#[63]⟩ : ByteArray) ++ a0) a1).bind fun t158 => (if a1.toList = ([] : List UInt8) then (taquinlaw02_TextStars.j2 k2 a0 a1 a2 t153 x9_2 (t158 != false)) else (if 0 ≤ (mn 1 (a1.size : Int)) then (if (mn 1 (a1.size : Int)) ≤ (a1.size : Int) then ((text_Pattern.f a0 (a1.extract ((mn 1 (a1.size : Int)) : Int).toNat a1.size)).bind fun t159 => (taquinlaw02_TextStars.j2 k2 a0 a1 a2 t153 x9_2 (t158 != t159))) else (none)) else (none))))) = some r := H
                  have A29 := Aside0.mk A290
                  clear A290
                  by_cases c30 : (t157 != x8_2) = true
                  · rw [if_pos c30] at H
                    have c30b0 : (t157 != x8_2) = true := c30
                    (try (have c30b1 : decide (t157 = x8_2) = false := by simpa using c30))
                    (try (have c30b2 : (t157 == x8_2) = false := by simpa using c30))
                    (try (have c30b3 : ¬ (t157 = x8_2) := by simpa using c30))
                    clear c30
                    (first | rw [c30b0] | (simp only [i64_w, i32_w]; rw [c30b0]) | skip)
                    have H' := Aside0.mk H
                    clear H
                    go_wp2_with (first | ((with_reducible refine gate_callee (f := 18) rfl ?_); refine goesL_ (some 51) rfl rfl Tryd.func18 (by kernel_rfl) rfl #[.string ((⟨#[42]⟩ : ByteArray) ++ a0), .string a1] rfl (by (try simp only [List.map_toArray, List.map_cons, List.map_nil]); first | done | rfl | (simp only [List.length_drop, List.length_take]; rfl)) ?_; (with_reducible refine (text_Pattern.calls ((⟨#[42]⟩ : ByteArray) ++ a0) a1 t157 _ A29.out).mono ?_); rintro e w31 ⟨rfl, hb⟩; refine ⟨_, rfl, ?_⟩; have n0_ := Aside0.mk (below_step (by repeat (first | (with_reducible first | exact HB.out | apply below_alloc | apply pw_below_drewN | apply below_drew1) | exact HB.out)) hb); clear HB; have HB := n0_; clear n0_; (try clear hb); (try clear hb2); (try clear hk); (try clear hi)))
                    go_meet
                    case rel => exact ⟨_, (true), (by first | rfl | (simp; done) | (simp [*]; done) | (simp [*, bne]; done)), H', ⟨by have := HJ4.out; have := HK2.out; first | omega | exact Nat.le_refl _⟩, ⟨by repeat (first | (with_reducible first | exact HB.out | apply below_alloc | apply pw_below_drewN | apply below_drew1) | exact HB.out)⟩⟩
                  · rw [if_neg c30] at H
                    have c30b0 : (t157 != x8_2) = false := by simpa using c30
                    (try (have c30b1 : decide (t157 = x8_2) = true := by simpa using c30))
                    (try (have c30b2 : (t157 == x8_2) = true := by simpa using c30))
                    clear c30
                    (first | rw [c30b0] | (simp only [i64_w, i32_w]; rw [c30b0]) | skip)
                    replace H := Option.bind_eq_some_iff.mp H
                    obtain ⟨t158, A320, H⟩ := H
                    replace H : (if a1.toList = ([] : List UInt8) then (taquinlaw02_TextStars.j2 k2 a0 a1 a2 t153 x9_2 (t158 != false)) else (if 0 ≤ (mn 1 (a1.size : Int)) then (if (mn 1 (a1.size : Int)) ≤ (a1.size : Int) then ((text_Pattern.f a0 (a1.extract ((mn 1 (a1.size : Int)) : Int).toNat a1.size)).bind fun t159 => (taquinlaw02_TextStars.j2 k2 a0 a1 a2 t153 x9_2 (t158 != t159))) else (none)) else (none))) = some r := H
                    have A32 := Aside0.mk A320
                    clear A320
                    by_cases c33 : a1.toList = ([] : List UInt8)
                    · rw [if_pos c33] at H
                      have c33b0 : (a1.toList == ([] : List UInt8)) = true := beq_iff_eq.mpr c33
                      have c33b1 : (a1.toList != ([] : List UInt8)) = false := bne_eq_false_iff_eq.mpr c33
                      clear c33
                      have H' := Aside0.mk H
                      clear H
                      go_wp2_with (first | ((with_reducible refine gate_callee (f := 18) rfl ?_); refine goesL_ (some 51) rfl rfl Tryd.func18 (by kernel_rfl) rfl #[.string ((⟨#[42]⟩ : ByteArray) ++ a0), .string a1] rfl (by (try simp only [List.map_toArray, List.map_cons, List.map_nil]); first | done | rfl | (simp only [List.length_drop, List.length_take]; rfl)) ?_; (with_reducible refine (text_Pattern.calls ((⟨#[42]⟩ : ByteArray) ++ a0) a1 t157 _ A29.out).mono ?_); rintro e w34 ⟨rfl, hb⟩; refine ⟨_, rfl, ?_⟩; have n0_ := Aside0.mk (below_step (by repeat (first | (with_reducible first | exact HB.out | apply below_alloc | apply pw_below_drewN | apply below_drew1) | exact HB.out)) hb); clear HB; have HB := n0_; clear n0_; (try clear hb); (try clear hb2); (try clear hk); (try clear hi)) | (go_at_call 18; (with_reducible refine (text_Pattern.calls ((⟨#[63]⟩ : ByteArray) ++ a0) a1 t158 _ A32.out).mono ?_); rintro e w35 ⟨rfl, hb⟩; have n0_ := Aside0.mk (below_step (by repeat (first | (with_reducible first | exact HB.out | apply below_alloc | apply pw_below_drewN | apply below_drew1) | exact HB.out)) hb); clear HB; have HB := n0_; clear n0_; (try clear hb); (try clear hb2); (try clear hk); (try clear hi)))
                      go_meet
                      case rel => exact ⟨_, ((t158 != false)), (by first | rfl | (simp; done) | (simp [*]; done) | (simp [*, bne]; done)), H', ⟨by have := HJ4.out; have := HK2.out; first | omega | exact Nat.le_refl _⟩, ⟨by repeat (first | (with_reducible first | exact HB.out | apply below_alloc | apply pw_below_drewN | apply below_drew1) | exact HB.out)⟩⟩
                    · rw [if_neg c33] at H
                      have c33b0 : (a1.toList == ([] : List UInt8)) = false := beq_eq_false_iff_ne.mpr c33
                      have c33b1 : (a1.toList != ([] : List UInt8)) = true := bne_iff_ne.mpr c33
                      obtain ⟨ji36, hji36⟩ : ∃ j_ : Int, (mn 1 (a1.size : Int)) = j_ := ⟨_, rfl⟩
                      replace H : (if 0 ≤ (ji36) then (if (ji36) ≤ (a1.size : Int) then ((text_Pattern.f a0 (a1.extract ((ji36) : Int).toNat a1.size)).bind fun t159 => (taquinlaw02_TextStars.j2 k2 a0 a1 a2 t153 x9_2 (t158 != t159))) else (none)) else (none)) = some r := by first | (rw [hji36] at H; exact H) | (simp only [hji36] at H ⊢; exact H)
                      (try rw [hji36] at A29)
                      (try rw [hji36] at A32)
                      have hji36_ : (if (a1.size : Int) < 1 then (a1.size : Int) else 1) = ji36 := hji36
                      by_cases c37 : 0 ≤ (ji36)
                      · rw [if_pos c37] at H
                        have c37b0 := eq_true c37
                        have c37b1 : decide (0 ≤ (ji36)) = true := decide_eq_true c37
                        clear c37
                        by_cases c38 : (ji36) ≤ (a1.size : Int)
                        · rw [if_pos c38] at H
                          have c38b0 := eq_true c38
                          have c38b1 : decide ((ji36) ≤ (a1.size : Int)) = true := decide_eq_true c38
                          clear c38
                          replace H := Option.bind_eq_some_iff.mp H
                          obtain ⟨t159, A390, H⟩ := H
                          replace H : (taquinlaw02_TextStars.j2 k2 a0 a1 a2 t153 x9_2 (t158 != t159)) = some r := H
                          have A39 := Aside0.mk A390
                          clear A390
                          have H' := Aside0.mk H
                          clear H
                          go_wp2_with (first | ((with_reducible refine gate_callee (f := 18) rfl ?_); refine goesL_ (some 51) rfl rfl Tryd.func18 (by kernel_rfl) rfl #[.string ((⟨#[42]⟩ : ByteArray) ++ a0), .string a1] rfl (by (try simp only [List.map_toArray, List.map_cons, List.map_nil]); first | done | rfl | (simp only [List.length_drop, List.length_take]; rfl)) ?_; (with_reducible refine (text_Pattern.calls ((⟨#[42]⟩ : ByteArray) ++ a0) a1 t157 _ A29.out).mono ?_); rintro e w40 ⟨rfl, hb⟩; refine ⟨_, rfl, ?_⟩; have n0_ := Aside0.mk (below_step (by repeat (first | (with_reducible first | exact HB.out | apply below_alloc | apply pw_below_drewN | apply below_drew1) | exact HB.out)) hb); clear HB; have HB := n0_; clear n0_; (try clear hb); (try clear hb2); (try clear hk); (try clear hi)) | (go_at_call 18; (with_reducible refine (text_Pattern.calls ((⟨#[63]⟩ : ByteArray) ++ a0) a1 t158 _ A32.out).mono ?_); rintro e w41 ⟨rfl, hb⟩; have n0_ := Aside0.mk (below_step (by repeat (first | (with_reducible first | exact HB.out | apply below_alloc | apply pw_below_drewN | apply below_drew1) | exact HB.out)) hb); clear HB; have HB := n0_; clear n0_; (try clear hb); (try clear hb2); (try clear hk); (try clear hi)) | (go_at_call 18; (with_reducible refine (text_Pattern.calls a0 (a1.extract ((ji36) : Int).toNat a1.size) t159 _ A39.out).mono ?_); rintro e w42 ⟨rfl, hb⟩; have n0_ := Aside0.mk (below_step (by repeat (first | (with_reducible first | exact HB.out | apply below_alloc | apply pw_below_drewN | apply below_drew1) | exact HB.out)) hb); clear HB; have HB := n0_; clear n0_; (try clear hb); (try clear hb2); (try clear hk); (try clear hi)))
                          go_meet
                          case rel => exact ⟨_, ((t158 != t159)), (by first | rfl | (simp; done) | (simp [*]; done) | (simp [*, bne]; done)), (by first | (with_reducible exact H') | (rw [hji36]; exact H') | (simp only [hji36]; exact H') | (simp only [hji36]; exact H')), ⟨by have := HJ4.out; have := HK2.out; first | omega | exact Nat.le_refl _⟩, ⟨by repeat (first | (with_reducible first | exact HB.out | apply below_alloc | apply pw_below_drewN | apply below_drew1) | exact HB.out)⟩⟩
                        · rw [if_neg c38] at H
                          exact absurd H (by simp)
                      · rw [if_neg c37] at H
                        exact absurd H (by simp)
                · rw [if_neg c28] at H
                  exact absurd H (by simp)
              case rest =>
                clear HC27
                try clear c1
                try clear c2
                try clear p2
                try clear c3
                try clear c4
                try clear p6
                try clear c7
                try clear c7b0
                try clear c7b1
                try clear c8
                try clear c8b0
                try clear c8b1
                try clear c9
                try clear c10
                try clear c10b0
                try clear c11
                try clear c12
                try clear c13
                try clear c13b0
                try clear c13b1
                try clear c14
                try clear c14b0
                try clear c17
                try clear c17b0
                try clear c17b1
                try clear c18
                try clear c18b0
                try clear c20
                try clear c22
                try clear c22b0
                try clear c23
                try clear c23b0
                try clear c28
                try clear c28b0
                try clear c28b1
                try clear c28b2
                try clear c30
                try clear c30b0
                try clear c30b1
                try clear c30b2
                try clear c33
                try clear c33b0
                try clear c33b1
                try clear c37
                try clear c37b0
                try clear c37b1
                try clear c38
                try clear c38b0
                try clear c38b1
                try clear p2
                obtain ⟨kq, x71_26, rfl, HA, HJ26, HB⟩ := hcut
                cases kq with
                | zero => exact absurd HA.out (by simp [taquinlaw02_TextStars.j2])
                | succ kj26 =>
                  have H := HA.out
                  clear HA
                  simp only [taquinlaw02_TextStars.j2] at H
                  by_cases c43 : x71_26 = true
                  · subst c43
                    have H1 : (some false) = some r := by rw [if_pos rfl] at H; exact H
                    clear H
                    have H := H1
                    clear H1
                    obtain rfl := Option.some.inj H
                    go_wp2
                    go_ret
                    exact ⟨by first | rfl | (simp [errW_none, errW_some] <;> rfl) | (simp [*, errW_none, errW_some] <;> rfl), by repeat (first | (with_reducible first | exact HB.out | apply below_alloc | apply pw_below_drewN | apply below_drew1) | exact HB.out)⟩
                  · replace c43 := Bool.eq_false_iff.mpr c43
                    subst c43
                    have H1 : ((text_Escape.f a2).bind fun t160 => (if t160.size + a0.size ≤ 9223372036854775807 then (if a2.size + a1.size ≤ 9223372036854775807 then ((text_Pattern.f (t160 ++ a0) (a2 ++ a1)).bind fun t161 => ((text_Pattern.f a0 a1).bind fun t162 => (if (t161 != t162) = true then (some false) else (if t153 = true then (if a0.toList = ([] : List UInt8) then (if a0.size + 1 ≤ 9223372036854775807 then ((text_Pattern.f (a0 ++ (⟨#[42]⟩ : ByteArray)) a1).bind fun t163 => (some (t163 == x9_2))) else (none)) else (if 0 ≤ (wrap64 ((a0.size : Int) - 1)) then (if (wrap64 ((a0.size : Int) - 1)) < (a0.size : Int) then (if (bt a0 (wrap64 ((a0.size : Int) - 1))) = 92 then (some true) else (if a0.size + 1 ≤ 9223372036854775807 then ((text_Pattern.f (a0 ++ (⟨#[42]⟩ : ByteArray)) a1).bind fun t164 => (some (t164 == x9_2))) else (none))) else (none)) else (none))) else (some false))))) else (none)) else (none))) = some r := by rw [if_neg (show ¬ (false = true) by decide)] at H; exact H
                    clear H
                    have H := H1
                    clear H1
                    replace H := Option.bind_eq_some_iff.mp H
                    obtain ⟨t160, A440, H⟩ := H
                    replace H : (if t160.size + a0.size ≤ 9223372036854775807 then (if a2.size + a1.size ≤ 9223372036854775807 then ((text_Pattern.f (t160 ++ a0) (a2 ++ a1)).bind fun t161 => ((text_Pattern.f a0 a1).bind fun t162 => (if (t161 != t162) = true then (some false) else (if t153 = true then (if a0.toList = ([] : List UInt8) then (if a0.size + 1 ≤ 9223372036854775807 then ((text_Pattern.f (a0 ++ (⟨#[42]⟩ : ByteArray)) a1).bind fun t163 => (some (t163 == x9_2))) else (none)) else (if 0 ≤ (wrap64 ((a0.size : Int) - 1)) then (if (wrap64 ((a0.size : Int) - 1)) < (a0.size : Int) then (if (bt a0 (wrap64 ((a0.size : Int) - 1))) = 92 then (some true) else (if a0.size + 1 ≤ 9223372036854775807 then ((text_Pattern.f (a0 ++ (⟨#[42]⟩ : ByteArray)) a1).bind fun t164 => (some (t164 == x9_2))) else (none))) else (none)) else (none))) else (some false))))) else (none)) else (none)) = some r := H
                    have A44 := Aside0.mk A440
                    clear A440
                    by_cases c45 : t160.size + a0.size ≤ 9223372036854775807
                    · rw [if_pos c45] at H
                      have c45b0 := eq_true c45
                      have c45b1 : decide (t160.size + a0.size ≤ 9223372036854775807) = true := decide_eq_true c45
                      try have c45b2 : (9223372036854775807 < t160.size + a0.size) = False := eq_false (Nat.not_lt.2 c45)
                      by_cases c46 : a2.size + a1.size ≤ 9223372036854775807
                      · rw [if_pos c46] at H
                        have c46b0 := eq_true c46
                        have c46b1 : decide (a2.size + a1.size ≤ 9223372036854775807) = true := decide_eq_true c46
                        try have c46b2 : (9223372036854775807 < a2.size + a1.size) = False := eq_false (Nat.not_lt.2 c46)
                        replace H := Option.bind_eq_some_iff.mp H
                        obtain ⟨t161, A470, H⟩ := H
                        replace H : ((text_Pattern.f a0 a1).bind fun t162 => (if (t161 != t162) = true then (some false) else (if t153 = true then (if a0.toList = ([] : List UInt8) then (if a0.size + 1 ≤ 9223372036854775807 then ((text_Pattern.f (a0 ++ (⟨#[42]⟩ : ByteArray)) a1).bind fun t163 => (some (t163 == x9_2))) else (none)) else (if 0 ≤ (wrap64 ((a0.size : Int) - 1)) then (if (wrap64 ((a0.size : Int) - 1)) < (a0.size : Int) then (if (bt a0 (wrap64 ((a0.size : Int) - 1))) = 92 then (some true) else (if a0.size + 1 ≤ 9223372036854775807 then ((text_Pattern.f (a0 ++ (⟨#[42]⟩ : ByteArray)) a1).bind fun t164 => (some (t164 == x9_2))) else (none))) else (none)) else (none))) else (some false)))) = some r := H
                        have A47 := Aside0.mk A470
                        clear A470
                        replace H := Option.bind_eq_some_iff.mp H
                        obtain ⟨t162, A480, H⟩ := H
                        replace H : (if (t161 != t162) = true then (some false) else (if t153 = true then (if a0.toList = ([] : List UInt8) then (if a0.size + 1 ≤ 9223372036854775807 then ((text_Pattern.f (a0 ++ (⟨#[42]⟩ : ByteArray)) a1).bind fun t163 => (some (t163 == x9_2))) else (none)) else (if 0 ≤ (wrap64 ((a0.size : Int) - 1)) then (if (wrap64 ((a0.size : Int) - 1)) < (a0.size : Int) then (if (bt a0 (wrap64 ((a0.size : Int) - 1))) = 92 then (some true) else (if a0.size + 1 ≤ 9223372036854775807 then ((text_Pattern.f (a0 ++ (⟨#[42]⟩ : ByteArray)) a1).bind fun t164 => (some (t164 == x9_2))) else (none))) else (none)) else (none))) else (some false))) = some r := H
                        have A48 := Aside0.mk A480
                        clear A480
                        by_cases c49 : (t161 != t162) = true
                        · rw [if_pos c49] at H
                          have c49b0 : (t161 != t162) = true := c49
                          (try (have c49b1 : decide (t161 = t162) = false := by simpa using c49))
                          (try (have c49b2 : (t161 == t162) = false := by simpa using c49))
                          (try (have c49b3 : ¬ (t161 = t162) := by simpa using c49))
                          clear c49
                          obtain rfl := Option.some.inj H
                          go_wp2_with (first | ((with_reducible refine gate_callee (f := 19) rfl ?_); refine goesL_ (some 73) rfl rfl Tryd.func19 (by kernel_rfl) rfl #[.string a2] rfl (by (try simp only [List.map_toArray, List.map_cons, List.map_nil]); first | done | rfl | (simp only [List.length_drop, List.length_take]; rfl)) ?_; (with_reducible refine (text_Escape.calls a2 t160 _ A44.out).mono ?_); rintro e w50 ⟨rfl, hb⟩; refine ⟨_, rfl, ?_⟩; have n0_ := Aside0.mk (below_step (by repeat (first | (with_reducible first | exact HB.out | apply below_alloc | apply pw_below_drewN | apply below_drew1) | exact HB.out)) hb); clear HB; have HB := n0_; clear n0_; (try clear hb); (try clear hb2); (try clear hk); (try clear hi)) | ((with_reducible refine gate_callee (f := 18) rfl ?_); refine goesL_ (some 79) rfl rfl Tryd.func18 (by kernel_rfl) rfl #[.string (t160 ++ a0), .string (a2 ++ a1)] rfl (by (try simp only [List.map_toArray, List.map_cons, List.map_nil]); first | done | rfl | (simp only [List.length_drop, List.length_take]; rfl)) ?_; (with_reducible refine (text_Pattern.calls (t160 ++ a0) (a2 ++ a1) t161 _ A47.out).mono ?_); rintro e w51 ⟨rfl, hb⟩; refine ⟨_, rfl, ?_⟩; have n0_ := Aside0.mk (below_step (by repeat (first | (with_reducible first | exact HB.out | apply below_alloc | apply pw_below_drewN | apply below_drew1) | exact HB.out)) hb); clear HB; have HB := n0_; clear n0_; (try clear hb); (try clear hb2); (try clear hk); (try clear hi)) | ((with_reducible refine gate_callee (f := 18) rfl ?_); refine goesL_ (some 82) rfl rfl Tryd.func18 (by kernel_rfl) rfl #[.string a0, .string a1] rfl (by (try simp only [List.map_toArray, List.map_cons, List.map_nil]); first | done | rfl | (simp only [List.length_drop, List.length_take]; rfl)) ?_; (with_reducible refine (text_Pattern.calls a0 a1 t162 _ A48.out).mono ?_); rintro e w52 ⟨rfl, hb⟩; refine ⟨_, rfl, ?_⟩; have n0_ := Aside0.mk (below_step (by repeat (first | (with_reducible first | exact HB.out | apply below_alloc | apply pw_below_drewN | apply below_drew1) | exact HB.out)) hb); clear HB; have HB := n0_; clear n0_; (try clear hb); (try clear hb2); (try clear hk); (try clear hi)))
                          go_ret
                          exact ⟨by first | rfl | (simp [errW_none, errW_some] <;> rfl) | (simp [*, errW_none, errW_some] <;> rfl), by repeat (first | (with_reducible first | exact HB.out | apply below_alloc | apply pw_below_drewN | apply below_drew1) | exact HB.out)⟩
                        · rw [if_neg c49] at H
                          have c49b0 : (t161 != t162) = false := by simpa using c49
                          (try (have c49b1 : decide (t161 = t162) = true := by simpa using c49))
                          (try (have c49b2 : (t161 == t162) = true := by simpa using c49))
                          clear c49
                          by_cases c53 : t153 = true
                          · subst c53
                            have H1 : (if a0.toList = ([] : List UInt8) then (if a0.size + 1 ≤ 9223372036854775807 then ((text_Pattern.f (a0 ++ (⟨#[42]⟩ : ByteArray)) a1).bind fun t163 => (some (t163 == x9_2))) else (none)) else (if 0 ≤ (wrap64 ((a0.size : Int) - 1)) then (if (wrap64 ((a0.size : Int) - 1)) < (a0.size : Int) then (if (bt a0 (wrap64 ((a0.size : Int) - 1))) = 92 then (some true) else (if a0.size + 1 ≤ 9223372036854775807 then ((text_Pattern.f (a0 ++ (⟨#[42]⟩ : ByteArray)) a1).bind fun t164 => (some (t164 == x9_2))) else (none))) else (none)) else (none))) = some r := by rw [if_pos rfl] at H; exact H
                            clear H
                            have H := H1
                            clear H1
                            by_cases c54 : a0.toList = ([] : List UInt8)
                            · rw [if_pos c54] at H
                              have c54b0 : (a0.toList == ([] : List UInt8)) = true := beq_iff_eq.mpr c54
                              have c54b1 : (a0.toList != ([] : List UInt8)) = false := bne_eq_false_iff_eq.mpr c54
                              clear c54
                              by_cases c55 : a0.size + 1 ≤ 9223372036854775807
                              · rw [if_pos c55] at H
                                have c55b0 := eq_true c55
                                have c55b1 : decide (a0.size + 1 ≤ 9223372036854775807) = true := decide_eq_true c55
                                try have c55b2 : (9223372036854775807 < a0.size + 1) = False := eq_false (Nat.not_lt.2 c55)
                                replace H := Option.bind_eq_some_iff.mp H
                                obtain ⟨t163, A560, H⟩ := H
                                replace H : (some (t163 == x9_2)) = some r := H
                                have A56 := Aside0.mk A560
                                clear A560
                                obtain rfl := Option.some.inj H
                                go_wp2_with (first | ((with_reducible refine gate_callee (f := 19) rfl ?_); refine goesL_ (some 73) rfl rfl Tryd.func19 (by kernel_rfl) rfl #[.string a2] rfl (by (try simp only [List.map_toArray, List.map_cons, List.map_nil]); first | done | rfl | (simp only [List.length_drop, List.length_take]; rfl)) ?_; (with_reducible refine (text_Escape.calls a2 t160 _ A44.out).mono ?_); rintro e w57 ⟨rfl, hb⟩; refine ⟨_, rfl, ?_⟩; have n0_ := Aside0.mk (below_step (by repeat (first | (with_reducible first | exact HB.out | apply below_alloc | apply pw_below_drewN | apply below_drew1) | exact HB.out)) hb); clear HB; have HB := n0_; clear n0_; (try clear hb); (try clear hb2); (try clear hk); (try clear hi)) | ((with_reducible refine gate_callee (f := 18) rfl ?_); refine goesL_ (some 79) rfl rfl Tryd.func18 (by kernel_rfl) rfl #[.string (t160 ++ a0), .string (a2 ++ a1)] rfl (by (try simp only [List.map_toArray, List.map_cons, List.map_nil]); first | done | rfl | (simp only [List.length_drop, List.length_take]; rfl)) ?_; (with_reducible refine (text_Pattern.calls (t160 ++ a0) (a2 ++ a1) t161 _ A47.out).mono ?_); rintro e w58 ⟨rfl, hb⟩; refine ⟨_, rfl, ?_⟩; have n0_ := Aside0.mk (below_step (by repeat (first | (with_reducible first | exact HB.out | apply below_alloc | apply pw_below_drewN | apply below_drew1) | exact HB.out)) hb); clear HB; have HB := n0_; clear n0_; (try clear hb); (try clear hb2); (try clear hk); (try clear hi)) | ((with_reducible refine gate_callee (f := 18) rfl ?_); refine goesL_ (some 82) rfl rfl Tryd.func18 (by kernel_rfl) rfl #[.string a0, .string a1] rfl (by (try simp only [List.map_toArray, List.map_cons, List.map_nil]); first | done | rfl | (simp only [List.length_drop, List.length_take]; rfl)) ?_; (with_reducible refine (text_Pattern.calls a0 a1 t162 _ A48.out).mono ?_); rintro e w59 ⟨rfl, hb⟩; refine ⟨_, rfl, ?_⟩; have n0_ := Aside0.mk (below_step (by repeat (first | (with_reducible first | exact HB.out | apply below_alloc | apply pw_below_drewN | apply below_drew1) | exact HB.out)) hb); clear HB; have HB := n0_; clear n0_; (try clear hb); (try clear hb2); (try clear hk); (try clear hi)) | (go_at_call 18; (with_reducible refine (text_Pattern.calls (a0 ++ (⟨#[42]⟩ : ByteArray)) a1 t163 _ A56.out).mono ?_); rintro e w60 ⟨rfl, hb⟩; have n0_ := Aside0.mk (below_step (by repeat (first | (with_reducible first | exact HB.out | apply below_alloc | apply pw_below_drewN | apply below_drew1) | exact HB.out)) hb); clear HB; have HB := n0_; clear n0_; (try clear hb); (try clear hb2); (try clear hk); (try clear hi)))
                                go_ret
                                exact ⟨by first | rfl | (simp [errW_none, errW_some] <;> rfl) | (simp [*, errW_none, errW_some] <;> rfl), by repeat (first | (with_reducible first | exact HB.out | apply below_alloc | apply pw_below_drewN | apply below_drew1) | exact HB.out)⟩
                              · rw [if_neg c55] at H
                                exact absurd H (by simp)
                            · rw [if_neg c54] at H
                              have c54b0 : (a0.toList == ([] : List UInt8)) = false := beq_eq_false_iff_ne.mpr c54
                              have c54b1 : (a0.toList != ([] : List UInt8)) = true := bne_iff_ne.mpr c54
                              obtain ⟨ji61, hji61⟩ : ∃ j_ : Int, (wrap64 ((a0.size : Int) - 1)) = j_ := ⟨_, rfl⟩
                              replace H : (if 0 ≤ (ji61) then (if (ji61) < (a0.size : Int) then (if (bt a0 (ji61)) = 92 then (some true) else (if a0.size + 1 ≤ 9223372036854775807 then ((text_Pattern.f (a0 ++ (⟨#[42]⟩ : ByteArray)) a1).bind fun t164 => (some (t164 == x9_2))) else (none))) else (none)) else (none)) = some r := by first | (rw [hji61] at H; exact H) | (simp only [hji61] at H ⊢; exact H)
                              (try rw [hji61] at A44)
                              (try rw [hji61] at A47)
                              (try rw [hji61] at A48)
                              have hji61w : (IntKind.i64.wrap ((a0.size : Int) - 1)) = ji61 := (i64_w _).trans hji61
                              by_cases c62 : 0 ≤ (ji61)
                              · rw [if_pos c62] at H
                                have c62b0 : decide (0 ≤ (ji61)) = true := decide_eq_true c62
                                clear c62
                                by_cases c63 : (ji61) < (a0.size : Int)
                                · rw [if_pos c63] at H
                                  have c63b0 : decide ((ji61) < (a0.size : Int)) = true := decide_eq_true c63
                                  clear c63
                                  by_cases c65 : (bt a0 (ji61)) = 92
                                  · rw [if_pos c65] at H
                                    have c65b0 : ((bt a0 (ji61)) == 92) = true := beq_iff_eq.mpr c65
                                    have c65b1 : ((bt a0 (ji61)) != 92) = false := bne_eq_false_iff_eq.mpr c65
                                    clear c65
                                    obtain rfl := Option.some.inj H
                                    go_wp2_with (first | ((with_reducible refine gate_callee (f := 19) rfl ?_); refine goesL_ (some 73) rfl rfl Tryd.func19 (by kernel_rfl) rfl #[.string a2] rfl (by (try simp only [List.map_toArray, List.map_cons, List.map_nil]); first | done | rfl | (simp only [List.length_drop, List.length_take]; rfl)) ?_; (with_reducible refine (text_Escape.calls a2 t160 _ A44.out).mono ?_); rintro e w66 ⟨rfl, hb⟩; refine ⟨_, rfl, ?_⟩; have n0_ := Aside0.mk (below_step (by repeat (first | (with_reducible first | exact HB.out | apply below_alloc | apply pw_below_drewN | apply below_drew1) | exact HB.out)) hb); clear HB; have HB := n0_; clear n0_; (try clear hb); (try clear hb2); (try clear hk); (try clear hi)) | ((with_reducible refine gate_callee (f := 18) rfl ?_); refine goesL_ (some 79) rfl rfl Tryd.func18 (by kernel_rfl) rfl #[.string (t160 ++ a0), .string (a2 ++ a1)] rfl (by (try simp only [List.map_toArray, List.map_cons, List.map_nil]); first | done | rfl | (simp only [List.length_drop, List.length_take]; rfl)) ?_; (with_reducible refine (text_Pattern.calls (t160 ++ a0) (a2 ++ a1) t161 _ A47.out).mono ?_); rintro e w67 ⟨rfl, hb⟩; refine ⟨_, rfl, ?_⟩; have n0_ := Aside0.mk (below_step (by repeat (first | (with_reducible first | exact HB.out | apply below_alloc | apply pw_below_drewN | apply below_drew1) | exact HB.out)) hb); clear HB; have HB := n0_; clear n0_; (try clear hb); (try clear hb2); (try clear hk); (try clear hi)) | ((with_reducible refine gate_callee (f := 18) rfl ?_); refine goesL_ (some 82) rfl rfl Tryd.func18 (by kernel_rfl) rfl #[.string a0, .string a1] rfl (by (try simp only [List.map_toArray, List.map_cons, List.map_nil]); first | done | rfl | (simp only [List.length_drop, List.length_take]; rfl)) ?_; (with_reducible refine (text_Pattern.calls a0 a1 t162 _ A48.out).mono ?_); rintro e w68 ⟨rfl, hb⟩; refine ⟨_, rfl, ?_⟩; have n0_ := Aside0.mk (below_step (by repeat (first | (with_reducible first | exact HB.out | apply below_alloc | apply pw_below_drewN | apply below_drew1) | exact HB.out)) hb); clear HB; have HB := n0_; clear n0_; (try clear hb); (try clear hb2); (try clear hk); (try clear hi); have p64 : 0 ≤ ((ji61) : Int) := of_decide_eq_true (by first | (with_reducible assumption) | assumption); have q64 : (ji61) < (a0.size : Int) := of_decide_eq_true (by first | (with_reducible assumption) | assumption); have hx64 := bt_at a0 (ji61); replace p64 := eq_true p64; replace q64 := eq_true q64))
                                    go_ret
                                    exact ⟨by first | rfl | (simp [errW_none, errW_some] <;> rfl) | (simp only [← hji61]; first | rfl | (simp [errW_none, errW_some] <;> rfl)) | (simp [*, errW_none, errW_some] <;> rfl), by repeat (first | (with_reducible first | exact HB.out | apply below_alloc | apply pw_below_drewN | apply below_drew1) | exact HB.out)⟩
                                  · rw [if_neg c65] at H
                                    have c65b0 : ((bt a0 (ji61)) == 92) = false := beq_eq_false_iff_ne.mpr c65
                                    have c65b1 : ((bt a0 (ji61)) != 92) = true := bne_iff_ne.mpr c65
                                    by_cases c69 : a0.size + 1 ≤ 9223372036854775807
                                    · rw [if_pos c69] at H
                                      have c69b0 := eq_true c69
                                      have c69b1 : decide (a0.size + 1 ≤ 9223372036854775807) = true := decide_eq_true c69
                                      try have c69b2 : (9223372036854775807 < a0.size + 1) = False := eq_false (Nat.not_lt.2 c69)
                                      replace H := Option.bind_eq_some_iff.mp H
                                      obtain ⟨t164, A700, H⟩ := H
                                      replace H : (some (t164 == x9_2)) = some r := H
                                      have A70 := Aside0.mk A700
                                      clear A700
                                      obtain rfl := Option.some.inj H
                                      go_wp2_with (first | ((with_reducible refine gate_callee (f := 19) rfl ?_); refine goesL_ (some 73) rfl rfl Tryd.func19 (by kernel_rfl) rfl #[.string a2] rfl (by (try simp only [List.map_toArray, List.map_cons, List.map_nil]); first | done | rfl | (simp only [List.length_drop, List.length_take]; rfl)) ?_; (with_reducible refine (text_Escape.calls a2 t160 _ A44.out).mono ?_); rintro e w71 ⟨rfl, hb⟩; refine ⟨_, rfl, ?_⟩; have n0_ := Aside0.mk (below_step (by repeat (first | (with_reducible first | exact HB.out | apply below_alloc | apply pw_below_drewN | apply below_drew1) | exact HB.out)) hb); clear HB; have HB := n0_; clear n0_; (try clear hb); (try clear hb2); (try clear hk); (try clear hi)) | ((with_reducible refine gate_callee (f := 18) rfl ?_); refine goesL_ (some 79) rfl rfl Tryd.func18 (by kernel_rfl) rfl #[.string (t160 ++ a0), .string (a2 ++ a1)] rfl (by (try simp only [List.map_toArray, List.map_cons, List.map_nil]); first | done | rfl | (simp only [List.length_drop, List.length_take]; rfl)) ?_; (with_reducible refine (text_Pattern.calls (t160 ++ a0) (a2 ++ a1) t161 _ A47.out).mono ?_); rintro e w72 ⟨rfl, hb⟩; refine ⟨_, rfl, ?_⟩; have n0_ := Aside0.mk (below_step (by repeat (first | (with_reducible first | exact HB.out | apply below_alloc | apply pw_below_drewN | apply below_drew1) | exact HB.out)) hb); clear HB; have HB := n0_; clear n0_; (try clear hb); (try clear hb2); (try clear hk); (try clear hi)) | ((with_reducible refine gate_callee (f := 18) rfl ?_); refine goesL_ (some 82) rfl rfl Tryd.func18 (by kernel_rfl) rfl #[.string a0, .string a1] rfl (by (try simp only [List.map_toArray, List.map_cons, List.map_nil]); first | done | rfl | (simp only [List.length_drop, List.length_take]; rfl)) ?_; (with_reducible refine (text_Pattern.calls a0 a1 t162 _ A48.out).mono ?_); rintro e w73 ⟨rfl, hb⟩; refine ⟨_, rfl, ?_⟩; have n0_ := Aside0.mk (below_step (by repeat (first | (with_reducible first | exact HB.out | apply below_alloc | apply pw_below_drewN | apply below_drew1) | exact HB.out)) hb); clear HB; have HB := n0_; clear n0_; (try clear hb); (try clear hb2); (try clear hk); (try clear hi); have p64 : 0 ≤ ((ji61) : Int) := of_decide_eq_true (by first | (with_reducible assumption) | assumption); have q64 : (ji61) < (a0.size : Int) := of_decide_eq_true (by first | (with_reducible assumption) | assumption); have hx64 := bt_at a0 (ji61); replace p64 := eq_true p64; replace q64 := eq_true q64) | (go_at_call 18; (with_reducible refine (text_Pattern.calls (a0 ++ (⟨#[42]⟩ : ByteArray)) a1 t164 _ A70.out).mono ?_); rintro e w74 ⟨rfl, hb⟩; have n0_ := Aside0.mk (below_step (by repeat (first | (with_reducible first | exact HB.out | apply below_alloc | apply pw_below_drewN | apply below_drew1) | exact HB.out)) hb); clear HB; have HB := n0_; clear n0_; (try clear hb); (try clear hb2); (try clear hk); (try clear hi)))
                                      go_ret
                                      exact ⟨by first | rfl | (simp [errW_none, errW_some] <;> rfl) | (simp only [← hji61]; first | rfl | (simp [errW_none, errW_some] <;> rfl)) | (simp [*, errW_none, errW_some] <;> rfl), by repeat (first | (with_reducible first | exact HB.out | apply below_alloc | apply pw_below_drewN | apply below_drew1) | exact HB.out)⟩
                                    · rw [if_neg c69] at H
                                      exact absurd H (by simp)
                                · rw [if_neg c63] at H
                                  exact absurd H (by simp)
                              · rw [if_neg c62] at H
                                exact absurd H (by simp)
                          · replace c53 := Bool.eq_false_iff.mpr c53
                            subst c53
                            have H1 : (some false) = some r := by rw [if_neg (show ¬ (false = true) by decide)] at H; exact H
                            clear H
                            have H := H1
                            clear H1
                            obtain rfl := Option.some.inj H
                            go_wp2_with (first | ((with_reducible refine gate_callee (f := 19) rfl ?_); refine goesL_ (some 73) rfl rfl Tryd.func19 (by kernel_rfl) rfl #[.string a2] rfl (by (try simp only [List.map_toArray, List.map_cons, List.map_nil]); first | done | rfl | (simp only [List.length_drop, List.length_take]; rfl)) ?_; (with_reducible refine (text_Escape.calls a2 t160 _ A44.out).mono ?_); rintro e w75 ⟨rfl, hb⟩; refine ⟨_, rfl, ?_⟩; have n0_ := Aside0.mk (below_step (by repeat (first | (with_reducible first | exact HB.out | apply below_alloc | apply pw_below_drewN | apply below_drew1) | exact HB.out)) hb); clear HB; have HB := n0_; clear n0_; (try clear hb); (try clear hb2); (try clear hk); (try clear hi)) | ((with_reducible refine gate_callee (f := 18) rfl ?_); refine goesL_ (some 79) rfl rfl Tryd.func18 (by kernel_rfl) rfl #[.string (t160 ++ a0), .string (a2 ++ a1)] rfl (by (try simp only [List.map_toArray, List.map_cons, List.map_nil]); first | done | rfl | (simp only [List.length_drop, List.length_take]; rfl)) ?_; (with_reducible refine (text_Pattern.calls (t160 ++ a0) (a2 ++ a1) t161 _ A47.out).mono ?_); rintro e w76 ⟨rfl, hb⟩; refine ⟨_, rfl, ?_⟩; have n0_ := Aside0.mk (below_step (by repeat (first | (with_reducible first | exact HB.out | apply below_alloc | apply pw_below_drewN | apply below_drew1) | exact HB.out)) hb); clear HB; have HB := n0_; clear n0_; (try clear hb); (try clear hb2); (try clear hk); (try clear hi)) | ((with_reducible refine gate_callee (f := 18) rfl ?_); refine goesL_ (some 82) rfl rfl Tryd.func18 (by kernel_rfl) rfl #[.string a0, .string a1] rfl (by (try simp only [List.map_toArray, List.map_cons, List.map_nil]); first | done | rfl | (simp only [List.length_drop, List.length_take]; rfl)) ?_; (with_reducible refine (text_Pattern.calls a0 a1 t162 _ A48.out).mono ?_); rintro e w77 ⟨rfl, hb⟩; refine ⟨_, rfl, ?_⟩; have n0_ := Aside0.mk (below_step (by repeat (first | (with_reducible first | exact HB.out | apply below_alloc | apply pw_below_drewN | apply below_drew1) | exact HB.out)) hb); clear HB; have HB := n0_; clear n0_; (try clear hb); (try clear hb2); (try clear hk); (try clear hi)))
                            go_ret
                            exact ⟨by first | rfl | (simp [errW_none, errW_some] <;> rfl) | (simp [*, errW_none, errW_some] <;> rfl), by repeat (first | (with_reducible first | exact HB.out | apply below_alloc | apply pw_below_drewN | apply below_drew1) | exact HB.out)⟩
                      · rw [if_neg c46] at H
                        exact absurd H (by simp)
                    · rw [if_neg c45] at H
                      exact absurd H (by simp)

end Go.Proofs.YteifffaonigidaaDoor.M
