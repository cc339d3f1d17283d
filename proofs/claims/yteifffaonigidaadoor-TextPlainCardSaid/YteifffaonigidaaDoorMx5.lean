-- Printed by wip/tools/myprint.py (an own program; its engine is the kit's print): checked by Lean.
import Derived.Test.YteifffaonigidaaDoorMx0
import Derived.Test.YteifffaonigidaaDoorMx2
import Derived.Test.YteifffaonigidaaDoorTxA
import Derived.Test.YteifffaonigidaaDoorTxB
import Derived.Test.YteifffaonigidaaDoorTxC
import Derived.Test.YteifffaonigidaaDoorTxD
import Derived.Test.YteifffaonigidaaDoorTxF
import Derived.Test.YteifffaonigidaaDoorTxG
namespace Go.Proofs.YteifffaonigidaaDoor.M
open Go.RowKit Go.Proofs.YteifffaonigidaaDoorW.PrintWords Go.Proofs.YteifffaonigidaaDoorW.PrintLast Go.Proofs.YteifffaonigidaaDoorW.PrintMore
attribute [local go_sem] max2_int min2_int max_two min_two max_three min_three max_four min_four   -- for this text's walks alone
set_option linter.unusedVariables false
set_option linter.unusedSimpArgs false

/-! ### taquinlaw02_TextBack: function 5 -/
def taquinlaw02_TextBack.j0 : Nat → Int → ByteArray → Bool → Int → Bool → ByteArray → Bool → Int → Bool → ByteArray → Bool → Bool → Option (Bool)
  | 0, _, _, _, _, _, _, _, _, _, _, _, _ => none
  | k + 1, x0, x1, x5, x6, x7, x8, x9, x10, x11, x12, x13, x54 => if x54 = true then (some false) else (if x5 = true then (if x7 = true then (if x6 = x0 then (if x9 = true then (if x8.toList = x1.toList then (if x11 = true then ((text_Decimal.f x10).bind fun t176 => (if t176.toList = x1.toList then (if x13 = true then ((text_Quote.f x12).bind fun t177 => (some (t177.toList == x1.toList))) else (some true)) else (some false))) else (if x13 = true then ((text_Quote.f x12).bind fun t178 => (some (t178.toList == x1.toList))) else (some true))) else (some false)) else (some false)) else (some false)) else (some false)) else (some false))
def taquinlaw02_TextBack.f (k : Nat) (a0 : Int) (a1 : ByteArray) : Option (Bool) := (taquinlaw02_small.f k).bind fun t165 => (if (a1.size : Int) > 300 then (some t165) else ((text_Decimal.f a0).bind fun t166 => ((text_Int.f t166).bind fun bt167 => ((text_Quote.f a1).bind fun t169 => ((text_Unquote.f t169).bind fun bt170 => ((text_Int.f a1).bind fun bt172 => ((text_Unquote.f a1).bind fun bt174 => (if bt172.2 = true then (if bt174.2 = true then (taquinlaw02_TextBack.j0 k a0 a1 t165 bt167.1 bt167.2 bt170.1 bt170.2 bt172.1 bt172.2 bt174.1 bt174.2 false) else (taquinlaw02_TextBack.j0 k a0 a1 t165 bt167.1 bt167.2 bt170.1 bt170.2 bt172.1 bt172.2 bt174.1 bt174.2 (bt174.1.toList != ([] : List UInt8)))) else (if bt172.1 = 0 then (if bt174.2 = true then (taquinlaw02_TextBack.j0 k a0 a1 t165 bt167.1 bt167.2 bt170.1 bt170.2 bt172.1 bt172.2 bt174.1 bt174.2 false) else (taquinlaw02_TextBack.j0 k a0 a1 t165 bt167.1 bt167.2 bt170.1 bt170.2 bt172.1 bt172.2 bt174.1 bt174.2 (bt174.1.toList != ([] : List UInt8)))) else (taquinlaw02_TextBack.j0 k a0 a1 t165 bt167.1 bt167.2 bt170.1 bt170.2 bt172.1 bt172.2 bt174.1 bt174.2 true))))))))))
theorem taquinlaw02_TextBack.mono_l : ∀ k, (∀ y0 y1 y2 y3 y4 y5 y6 y7 y8 y9 y10 y11, LeO (taquinlaw02_TextBack.j0 k y0 y1 y2 y3 y4 y5 y6 y7 y8 y9 y10 y11) (taquinlaw02_TextBack.j0 (k + 1) y0 y1 y2 y3 y4 y5 y6 y7 y8 y9 y10 y11))
  | 0 => fun _ _ _ _ _ _ _ _ _ _ _ _ r h => by simp [taquinlaw02_TextBack.j0] at h
  | k + 1 => by
    have ih0 := taquinlaw02_TextBack.mono_l k
    · intro y0 y1 y2 y3 y4 y5 y6 y7 y8 y9 y10 y11
      unfold taquinlaw02_TextBack.j0
      repeat' first
      | (with_reducible exact ih0 _ _ _ _ _ _ _ _ _ _ _ _)
      | (with_reducible exact taquinlaw02_small.mono _)
      | (with_reducible exact LeO.refl _)
      | (with_reducible exact LeO.none _)
      | (with_reducible refine LeO.ite ?_ ?_)
      | (with_reducible refine LeO.bind ?_ (fun _ => ?_))
      | exact ih0 _ _ _ _ _ _ _ _ _ _ _ _
      | exact taquinlaw02_small.mono _
      | exact LeO.none _
      | refine LeO.ite ?_ ?_
      | refine LeO.bind ?_ (fun _ => ?_)
theorem taquinlaw02_TextBack.mono : ∀ a0 a1 k, LeO (taquinlaw02_TextBack.f k a0 a1) (taquinlaw02_TextBack.f (k + 1) a0 a1) := by
  intro a0 a1 k
  have ih0 := taquinlaw02_TextBack.mono_l k
  unfold taquinlaw02_TextBack.f
  repeat' first
      | (with_reducible exact ih0 _ _ _ _ _ _ _ _ _ _ _ _)
      | (with_reducible exact taquinlaw02_small.mono _)
      | (with_reducible exact LeO.refl _)
      | (with_reducible exact LeO.none _)
      | (with_reducible refine LeO.ite ?_ ?_)
      | (with_reducible refine LeO.bind ?_ (fun _ => ?_))
      | exact ih0 _ _ _ _ _ _ _ _ _ _ _ _
      | exact taquinlaw02_small.mono _
      | exact LeO.none _
      | refine LeO.ite ?_ ?_
      | refine LeO.bind ?_ (fun _ => ?_)
set_option maxHeartbeats 8000000 in
set_option maxRecDepth 100000 in
theorem taquinlaw02_TextBack.calls (k : Nat) (a0 : Int) (a1 : ByteArray) (r : Bool) (w : World) (h : taquinlaw02_TextBack.f k a0 a1 = some r) (hLd : LaidP w) :
    Calls Tryd.prog 5 #[.int .i64 a0, .string a1] w fun e w' => e = .returned (.bool r) ∧ Below w.heap.size w w' := by
  have HB := Aside0.mk (Below.refl w.heap.size w)
  have H : ((taquinlaw02_small.f k).bind fun t165 => (if (a1.size : Int) > 300 then (some t165) else ((text_Decimal.f a0).bind fun t166 => ((text_Int.f t166).bind fun bt167 => ((text_Quote.f a1).bind fun t169 => ((text_Unquote.f t169).bind fun bt170 => ((text_Int.f a1).bind fun bt172 => ((text_Unquote.f a1).bind fun bt174 => (if bt172.2 = true then (if bt174.2 = true then (taquinlaw02_TextBack.j0 k a0 a1 t165 bt167.1 bt167.2 bt170.1 bt170.2 bt172.1 bt172.2 bt174.1 bt174.2 false) else (taquinlaw02_TextBack.j0 k a0 a1 t165 bt167.1 bt167.2 bt170.1 bt170.2 bt172.1 bt172.2 bt174.1 bt174.2 (bt174.1.toList != ([] : List UInt8)))) else (if bt172.1 = 0 then (if bt174.2 = true then (taquinlaw02_TextBack.j0 k a0 a1 t165 bt167.1 bt167.2 bt170.1 bt170.2 bt172.1 bt172.2 bt174.1 bt174.2 false) else (taquinlaw02_TextBack.j0 k a0 a1 t165 bt167.1 bt167.2 bt170.1 bt170.2 bt172.1 bt172.2 bt174.1 bt174.2 (bt174.1.toList != ([] : List UInt8)))) else (taquinlaw02_TextBack.j0 k a0 a1 t165 bt167.1 bt167.2 bt170.1 bt170.2 bt172.1 bt172.2 bt174.1 bt174.2 true))))))))))) = some r := h
  clear h
  replace H := Option.bind_eq_some_iff.mp H
  obtain ⟨t165, A30, H⟩ := H
  replace H : (if (a1.size : Int) > 300 then (some t165) else ((text_Decimal.f a0).bind fun t166 => ((text_Int.f t166).bind fun bt167 => ((text_Quote.f a1).bind fun t169 => ((text_Unquote.f t169).bind fun bt170 => ((text_Int.f a1).bind fun bt172 => ((text_Unquote.f a1).bind fun bt174 => (if bt172.2 = true then (if bt174.2 = true then (taquinlaw02_TextBack.j0 k a0 a1 t165 bt167.1 bt167.2 bt170.1 bt170.2 bt172.1 bt172.2 bt174.1 bt174.2 false) else (taquinlaw02_TextBack.j0 k a0 a1 t165 bt167.1 bt167.2 bt170.1 bt170.2 bt172.1 bt172.2 bt174.1 bt174.2 (bt174.1.toList != ([] : List UInt8)))) else (if bt172.1 = 0 then (if bt174.2 = true then (taquinlaw02_TextBack.j0 k a0 a1 t165 bt167.1 bt167.2 bt170.1 bt170.2 bt172.1 bt172.2 bt174.1 bt174.2 false) else (taquinlaw02_TextBack.j0 k a0 a1 t165 bt167.1 bt167.2 bt170.1 bt170.2 bt172.1 bt172.2 bt174.1 bt174.2 (bt174.1.toList != ([] : List UInt8)))) else (taquinlaw02_TextBack.j0 k a0 a1 t165 bt167.1 bt167.2 bt170.1 bt170.2 bt172.1 bt172.2 bt174.1 bt174.2 true)))))))))) = some r := H
  have A3 := Aside0.mk A30
  clear A30
  by_cases c4 : (a1.size : Int) > 300
  · rw [if_pos c4] at H
    have c4b0 : decide (300 < (a1.size : Int)) = true := decide_eq_true c4
    have c4b1 : decide (300 < a1.size) = true := decide_eq_true (by omega)
    clear c4
    obtain rfl := Option.some.inj H
    go_enter Tryd.func5, Tryd.ntmps5
    go_wp2_with (first | ((with_reducible refine gate_callee (f := 13) rfl ?_); refine goesL_ (some 14) rfl rfl Tryd.func13 (by kernel_rfl) rfl #[] rfl (by (try simp only [List.map_toArray, List.map_cons, List.map_nil]); first | done | rfl | (simp only [List.length_drop, List.length_take]; rfl)) ?_; (with_reducible refine (taquinlaw02_small.calls k  t165 _ A3.out (LaidP.below hLd (by repeat (first | (with_reducible first | exact HB.out | apply below_alloc | apply pw_below_drewN | apply below_drew1) | exact HB.out)))).mono ?_); rintro e w5 ⟨rfl, hb⟩; refine ⟨_, rfl, ?_⟩; have n0_ := Aside0.mk (below_step (by repeat (first | (with_reducible first | exact HB.out | apply below_alloc | apply pw_below_drewN | apply below_drew1) | exact HB.out)) hb); clear HB; have HB := n0_; clear n0_; (try clear hb); (try clear hb2); (try clear hk); (try clear hi)))
    go_ret
    exact ⟨by first | rfl | (simp [errW_none, errW_some] <;> rfl) | (simp [*, errW_none, errW_some] <;> rfl), by repeat (first | (with_reducible first | exact HB.out | apply below_alloc | apply pw_below_drewN | apply below_drew1) | exact HB.out)⟩
  · rw [if_neg c4] at H
    have c4b0 : decide (300 < (a1.size : Int)) = false := decide_eq_false c4
    have c4b1 : decide (300 < a1.size) = false := decide_eq_false (by omega)
    clear c4
    replace H := Option.bind_eq_some_iff.mp H
    obtain ⟨t166, A60, H⟩ := H
    replace H : ((text_Int.f t166).bind fun bt167 => ((text_Quote.f a1).bind fun t169 => ((text_Unquote.f t169).bind fun bt170 => ((text_Int.f a1).bind fun bt172 => ((text_Unquote.f a1).bind fun bt174 => (if bt172.2 = true then (if bt174.2 = true then (taquinlaw02_TextBack.j0 k a0 a1 t165 bt167.1 bt167.2 bt170.1 bt170.2 bt172.1 bt172.2 bt174.1 bt174.2 false) else (taquinlaw02_TextBack.j0 k a0 a1 t165 bt167.1 bt167.2 bt170.1 bt170.2 bt172.1 bt172.2 bt174.1 bt174.2 (bt174.1.toList != ([] : List UInt8)))) else (if bt172.1 = 0 then (if bt174.2 = true then (taquinlaw02_TextBack.j0 k a0 a1 t165 bt167.1 bt167.2 bt170.1 bt170.2 bt172.1 bt172.2 bt174.1 bt174.2 false) else (taquinlaw02_TextBack.j0 k a0 a1 t165 bt167.1 bt167.2 bt170.1 bt170.2 bt172.1 bt172.2 bt174.1 bt174.2 (bt174.1.toList != ([] : List UInt8)))) else (taquinlaw02_TextBack.j0 k a0 a1 t165 bt167.1 bt167.2 bt170.1 bt170.2 bt172.1 bt172.2 bt174.1 bt174.2 true)))))))) = some r := H
    have A6 := Aside0.mk A60
    clear A60
    replace H := Option.bind_eq_some_iff.mp H
    obtain ⟨⟨t167, t168⟩, A70, H⟩ := H
    replace H : ((text_Quote.f a1).bind fun t169 => ((text_Unquote.f t169).bind fun bt170 => ((text_Int.f a1).bind fun bt172 => ((text_Unquote.f a1).bind fun bt174 => (if bt172.2 = true then (if bt174.2 = true then (taquinlaw02_TextBack.j0 k a0 a1 t165 t167 t168 bt170.1 bt170.2 bt172.1 bt172.2 bt174.1 bt174.2 false) else (taquinlaw02_TextBack.j0 k a0 a1 t165 t167 t168 bt170.1 bt170.2 bt172.1 bt172.2 bt174.1 bt174.2 (bt174.1.toList != ([] : List UInt8)))) else (if bt172.1 = 0 then (if bt174.2 = true then (taquinlaw02_TextBack.j0 k a0 a1 t165 t167 t168 bt170.1 bt170.2 bt172.1 bt172.2 bt174.1 bt174.2 false) else (taquinlaw02_TextBack.j0 k a0 a1 t165 t167 t168 bt170.1 bt170.2 bt172.1 bt172.2 bt174.1 bt174.2 (bt174.1.toList != ([] : List UInt8)))) else (taquinlaw02_TextBack.j0 k a0 a1 t165 t167 t168 bt170.1 bt170.2 bt172.1 bt172.2 bt174.1 bt174.2 true))))))) = some r := H
    have A7 := Aside0.mk A70
    clear A70
    replace H := Option.bind_eq_some_iff.mp H
    obtain ⟨t169, A80, H⟩ := H
    replace H : ((text_Unquote.f t169).bind fun bt170 => ((text_Int.f a1).bind fun bt172 => ((text_Unquote.f a1).bind fun bt174 => (if bt172.2 = true then (if bt174.2 = true then (taquinlaw02_TextBack.j0 k a0 a1 t165 t167 t168 bt170.1 bt170.2 bt172.1 bt172.2 bt174.1 bt174.2 false) else (taquinlaw02_TextBack.j0 k a0 a1 t165 t167 t168 bt170.1 bt170.2 bt172.1 bt172.2 bt174.1 bt174.2 (bt174.1.toList != ([] : List UInt8)))) else (if bt172.1 = 0 then (if bt174.2 = true then (taquinlaw02_TextBack.j0 k a0 a1 t165 t167 t168 bt170.1 bt170.2 bt172.1 bt172.2 bt174.1 bt174.2 false) else (taquinlaw02_TextBack.j0 k a0 a1 t165 t167 t168 bt170.1 bt170.2 bt172.1 bt172.2 bt174.1 bt174.2 (bt174.1.toList != ([] : List UInt8)))) else (taquinlaw02_TextBack.j0 k a0 a1 t165 t167 t168 bt170.1 bt170.2 bt172.1 bt172.2 bt174.1 bt174.2 true)))))) = some r := H
    have A8 := Aside0.mk A80
    clear A80
    replace H := Option.bind_eq_some_iff.mp H
    obtain ⟨⟨t170, t171⟩, A90, H⟩ := H
    replace H : ((text_Int.f a1).bind fun bt172 => ((text_Unquote.f a1).bind fun bt174 => (if bt172.2 = true then (if bt174.2 = true then (taquinlaw02_TextBack.j0 k a0 a1 t165 t167 t168 t170 t171 bt172.1 bt172.2 bt174.1 bt174.2 false) else (taquinlaw02_TextBack.j0 k a0 a1 t165 t167 t168 t170 t171 bt172.1 bt172.2 bt174.1 bt174.2 (bt174.1.toList != ([] : List UInt8)))) else (if bt172.1 = 0 then (if bt174.2 = true then (taquinlaw02_TextBack.j0 k a0 a1 t165 t167 t168 t170 t171 bt172.1 bt172.2 bt174.1 bt174.2 false) else (taquinlaw02_TextBack.j0 k a0 a1 t165 t167 t168 t170 t171 bt172.1 bt172.2 bt174.1 bt174.2 (bt174.1.toList != ([] : List UInt8)))) else (taquinlaw02_TextBack.j0 k a0 a1 t165 t167 t168 t170 t171 bt172.1 bt172.2 bt174.1 bt174.2 true))))) = some r := H
    have A9 := Aside0.mk A90
    clear A90
    replace H := Option.bind_eq_some_iff.mp H
    obtain ⟨⟨t172, t173⟩, A100, H⟩ := H
    replace H : ((text_Unquote.f a1).bind fun bt174 => (if t173 = true then (if bt174.2 = true then (taquinlaw02_TextBack.j0 k a0 a1 t165 t167 t168 t170 t171 t172 t173 bt174.1 bt174.2 false) else (taquinlaw02_TextBack.j0 k a0 a1 t165 t167 t168 t170 t171 t172 t173 bt174.1 bt174.2 (bt174.1.toList != ([] : List UInt8)))) else (if t172 = 0 then (if bt174.2 = true then (taquinlaw02_TextBack.j0 k a0 a1 t165 t167 t168 t170 t171 t172 t173 bt174.1 bt174.2 false) else (taquinlaw02_TextBack.j0 k a0 a1 t165 t167 t168 t170 t171 t172 t173 bt174.1 bt174.2 (bt174.1.toList != ([] : List UInt8)))) else (taquinlaw02_TextBack.j0 k a0 a1 t165 t167 t168 t170 t171 t172 t173 bt174.1 bt174.2 true)))) = some r := H
    have A10 := Aside0.mk A100
    clear A100
    replace H := Option.bind_eq_some_iff.mp H
    obtain ⟨⟨t174, t175⟩, A110, H⟩ := H
    replace H : (if t173 = true then (if t175 = true then (taquinlaw02_TextBack.j0 k a0 a1 t165 t167 t168 t170 t171 t172 t173 t174 t175 false) else (taquinlaw02_TextBack.j0 k a0 a1 t165 t167 t168 t170 t171 t172 t173 t174 t175 (t174.toList != ([] : List UInt8)))) else (if t172 = 0 then (if t175 = true then (taquinlaw02_TextBack.j0 k a0 a1 t165 t167 t168 t170 t171 t172 t173 t174 t175 false) else (taquinlaw02_TextBack.j0 k a0 a1 t165 t167 t168 t170 t171 t172 t173 t174 t175 (t174.toList != ([] : List UInt8)))) else (taquinlaw02_TextBack.j0 k a0 a1 t165 t167 t168 t170 t171 t172 t173 t174 t175 true))) = some r := H
    have A11 := Aside0.mk A110
    clear A110
    have HC12 := Aside0.mk H
    clear H
    go_enter Tryd.func5, Tryd.ntmps5
    go_upto_region 8 with (first | ((with_reducible refine gate_callee (f := 13) rfl ?_); refine goesL_ (some 14) rfl rfl Tryd.func13 (by kernel_rfl) rfl #[] rfl (by (try simp only [List.map_toArray, List.map_cons, List.map_nil]); first | done | rfl | (simp only [List.length_drop, List.length_take]; rfl)) ?_; (with_reducible refine (taquinlaw02_small.calls k  t165 _ A3.out (LaidP.below hLd (by repeat (first | (with_reducible first | exact HB.out | apply below_alloc | apply pw_below_drewN | apply below_drew1) | exact HB.out)))).mono ?_); rintro e w13 ⟨rfl, hb⟩; refine ⟨_, rfl, ?_⟩; have n0_ := Aside0.mk (below_step (by repeat (first | (with_reducible first | exact HB.out | apply below_alloc | apply pw_below_drewN | apply below_drew1) | exact HB.out)) hb); clear HB; have HB := n0_; clear n0_; (try clear hb); (try clear hb2); (try clear hk); (try clear hi)) | ((with_reducible refine gate_callee (f := 21) rfl ?_); refine goesL_ (some 21) rfl rfl Tryd.func21 (by kernel_rfl) rfl #[.int .i64 a0] rfl (by (try simp only [List.map_toArray, List.map_cons, List.map_nil]); first | done | rfl | (simp only [List.length_drop, List.length_take]; rfl)) ?_; (with_reducible refine (text_Decimal.calls a0 t166 _ A6.out (LaidP.below hLd (by repeat (first | (with_reducible first | exact HB.out | apply below_alloc | apply pw_below_drewN | apply below_drew1) | exact HB.out)))).mono ?_); rintro e w14 ⟨rfl, hb⟩; refine ⟨_, rfl, ?_⟩; have n0_ := Aside0.mk (below_step (by repeat (first | (with_reducible first | exact HB.out | apply below_alloc | apply pw_below_drewN | apply below_drew1) | exact HB.out)) hb); clear HB; have HB := n0_; clear n0_; (try clear hb); (try clear hb2); (try clear hk); (try clear hi)) | ((with_reducible refine gate_callee (f := 20) rfl ?_); refine goesL_ (some 22) rfl rfl Tryd.func20 (by kernel_rfl) rfl #[.string t166] rfl (by (try simp only [List.map_toArray, List.map_cons, List.map_nil]); first | done | rfl | (simp only [List.length_drop, List.length_take]; rfl)) ?_; (with_reducible refine (text_Int.calls t166 t167 t168 _ A7.out (LaidP.below hLd (by repeat (first | (with_reducible first | exact HB.out | apply below_alloc | apply pw_below_drewN | apply below_drew1) | exact HB.out)))).mono ?_); rintro e w15 ⟨rfl, hb⟩; refine ⟨_, rfl, ?_⟩; have n0_ := Aside0.mk (below_step (by repeat (first | (with_reducible first | exact HB.out | apply below_alloc | apply pw_below_drewN | apply below_drew1) | exact HB.out)) hb); clear HB; have HB := n0_; clear n0_; (try clear hb); (try clear hb2); (try clear hk); (try clear hi)) | ((with_reducible refine gate_callee (f := 23) rfl ?_); refine goesL_ (some 27) rfl rfl Tryd.func23 (by kernel_rfl) rfl #[.string a1] rfl (by (try simp only [List.map_toArray, List.map_cons, List.map_nil]); first | done | rfl | (simp only [List.length_drop, List.length_take]; rfl)) ?_; (with_reducible refine (text_Quote.calls a1 t169 _ A8.out).mono ?_); rintro e w16 ⟨rfl, hb⟩; refine ⟨_, rfl, ?_⟩; have n0_ := Aside0.mk (below_step (by repeat (first | (with_reducible first | exact HB.out | apply below_alloc | apply pw_below_drewN | apply below_drew1) | exact HB.out)) hb); clear HB; have HB := n0_; clear n0_; (try clear hb); (try clear hb2); (try clear hk); (try clear hi)) | ((with_reducible refine gate_callee (f := 22) rfl ?_); refine goesL_ (some 28) rfl rfl Tryd.func22 (by kernel_rfl) rfl #[.string t169] rfl (by (try simp only [List.map_toArray, List.map_cons, List.map_nil]); first | done | rfl | (simp only [List.length_drop, List.length_take]; rfl)) ?_; (with_reducible refine (text_Unquote.calls t169 t170 t171 _ A9.out).mono ?_); rintro e w17 ⟨rfl, hb⟩; refine ⟨_, rfl, ?_⟩; have n0_ := Aside0.mk (below_step (by repeat (first | (with_reducible first | exact HB.out | apply below_alloc | apply pw_below_drewN | apply below_drew1) | exact HB.out)) hb); clear HB; have HB := n0_; clear n0_; (try clear hb); (try clear hb2); (try clear hk); (try clear hi)) | ((with_reducible refine gate_callee (f := 20) rfl ?_); refine goesL_ (some 33) rfl rfl Tryd.func20 (by kernel_rfl) rfl #[.string a1] rfl (by (try simp only [List.map_toArray, List.map_cons, List.map_nil]); first | done | rfl | (simp only [List.length_drop, List.length_take]; rfl)) ?_; (with_reducible refine (text_Int.calls a1 t172 t173 _ A10.out (LaidP.below hLd (by repeat (first | (with_reducible first | exact HB.out | apply below_alloc | apply pw_below_drewN | apply below_drew1) | exact HB.out)))).mono ?_); rintro e w18 ⟨rfl, hb⟩; refine ⟨_, rfl, ?_⟩; have n0_ := Aside0.mk (below_step (by repeat (first | (with_reducible first | exact HB.out | apply below_alloc | apply pw_below_drewN | apply below_drew1) | exact HB.out)) hb); clear HB; have HB := n0_; clear n0_; (try clear hb); (try clear hb2); (try clear hk); (try clear hi)) | ((with_reducible refine gate_callee (f := 22) rfl ?_); refine goesL_ (some 38) rfl rfl Tryd.func22 (by kernel_rfl) rfl #[.string a1] rfl (by (try simp only [List.map_toArray, List.map_cons, List.map_nil]); first | done | rfl | (simp only [List.length_drop, List.length_take]; rfl)) ?_; (with_reducible refine (text_Unquote.calls a1 t174 t175 _ A11.out).mono ?_); rintro e w19 ⟨rfl, hb⟩; refine ⟨_, rfl, ?_⟩; have n0_ := Aside0.mk (below_step (by repeat (first | (with_reducible first | exact HB.out | apply below_alloc | apply pw_below_drewN | apply below_drew1) | exact HB.out)) hb); clear HB; have HB := n0_; clear n0_; (try clear hb); (try clear hb2); (try clear hk); (try clear hi)))
    (try simp only [Act.put, List.setIfInBounds_toArray, List.set_cons_zero, List.set_cons_succ])
    go_cut [54] (fun v54 wc => ∃ (kq : Nat) (x54_11 : Bool), v54 = .bool x54_11 ∧ Aside0 (taquinlaw02_TextBack.j0 kq a0 a1 t165 t167 t168 t170 t171 t172 t173 t174 t175 x54_11 = some r) ∧ Aside0 (kq ≤ k) ∧ Aside0 (Below w.heap.size w wc))
    case first =>
      have H := HC12.out
      clear HC12
      by_cases c20 : t173 = true
      · subst c20
        have H1 : (if t175 = true then (taquinlaw02_TextBack.j0 k a0 a1 t165 t167 t168 t170 t171 t172 true t174 t175 false) else (taquinlaw02_TextBack.j0 k a0 a1 t165 t167 t168 t170 t171 t172 true t174 t175 (t174.toList != ([] : List UInt8)))) = some r := by rw [if_pos rfl] at H; exact H
        clear H
        have H := H1
        clear H1
        by_cases c21 : t175 = true
        · subst c21
          have H1 : (taquinlaw02_TextBack.j0 k a0 a1 t165 t167 t168 t170 t171 t172 true t174 true false) = some r := by rw [if_pos rfl] at H; exact H
          clear H
          have H := H1
          clear H1
          have H' := Aside0.mk H
          clear H
          go_wp2
          go_meet
          case rel => exact ⟨_, (false), (by first | rfl | (simp; done) | (simp [*]; done) | (simp [*, bne]; done)), H', ⟨by first | omega | exact Nat.le_refl _⟩, ⟨by repeat (first | (with_reducible first | exact HB.out | apply below_alloc | apply pw_below_drewN | apply below_drew1) | exact HB.out)⟩⟩
        · replace c21 := Bool.eq_false_iff.mpr c21
          subst c21
          have H1 : (taquinlaw02_TextBack.j0 k a0 a1 t165 t167 t168 t170 t171 t172 true t174 false (t174.toList != ([] : List UInt8))) = some r := by rw [if_neg (show ¬ (false = true) by decide)] at H; exact H
          clear H
          have H := H1
          clear H1
          have H' := Aside0.mk H
          clear H
          go_wp2
          go_meet
          case rel => exact ⟨_, ((t174.toList != ([] : List UInt8))), (by first | rfl | (simp; done) | (simp [*]; done) | (simp [*, bne]; done)), H', ⟨by first | omega | exact Nat.le_refl _⟩, ⟨by repeat (first | (with_reducible first | exact HB.out | apply below_alloc | apply pw_below_drewN | apply below_drew1) | exact HB.out)⟩⟩
      · replace c20 := Bool.eq_false_iff.mpr c20
        subst c20
        have H1 : (if t172 = 0 then (if t175 = true then (taquinlaw02_TextBack.j0 k a0 a1 t165 t167 t168 t170 t171 t172 false t174 t175 false) else (taquinlaw02_TextBack.j0 k a0 a1 t165 t167 t168 t170 t171 t172 false t174 t175 (t174.toList != ([] : List UInt8)))) else (taquinlaw02_TextBack.j0 k a0 a1 t165 t167 t168 t170 t171 t172 false t174 t175 true)) = some r := by rw [if_neg (show ¬ (false = true) by decide)] at H; exact H
        clear H
        have H := H1
        clear H1
        by_cases c22 : t172 = 0
        · rw [if_pos c22] at H
          have c22b0 : (t172 == 0) = true := beq_iff_eq.mpr c22
          have c22b1 : (t172 != 0) = false := bne_eq_false_iff_eq.mpr c22
          clear c22
          (first | rw [c22b0] | (simp only [i64_w, i32_w]; rw [c22b0]) | skip)
          by_cases c23 : t175 = true
          · subst c23
            have H1 : (taquinlaw02_TextBack.j0 k a0 a1 t165 t167 t168 t170 t171 t172 false t174 true false) = some r := by rw [if_pos rfl] at H; exact H
            clear H
            have H := H1
            clear H1
            have H' := Aside0.mk H
            clear H
            go_wp2
            go_meet
            case rel => exact ⟨_, (false), (by first | rfl | (simp; done) | (simp [*]; done) | (simp [*, bne]; done)), H', ⟨by first | omega | exact Nat.le_refl _⟩, ⟨by repeat (first | (with_reducible first | exact HB.out | apply below_alloc | apply pw_below_drewN | apply below_drew1) | exact HB.out)⟩⟩
          · replace c23 := Bool.eq_false_iff.mpr c23
            subst c23
            have H1 : (taquinlaw02_TextBack.j0 k a0 a1 t165 t167 t168 t170 t171 t172 false t174 false (t174.toList != ([] : List UInt8))) = some r := by rw [if_neg (show ¬ (false = true) by decide)] at H; exact H
            clear H
            have H := H1
            clear H1
            have H' := Aside0.mk H
            clear H
            go_wp2
            go_meet
            case rel => exact ⟨_, ((t174.toList != ([] : List UInt8))), (by first | rfl | (simp; done) | (simp [*]; done) | (simp [*, bne]; done)), H', ⟨by first | omega | exact Nat.le_refl _⟩, ⟨by repeat (first | (with_reducible first | exact HB.out | apply below_alloc | apply pw_below_drewN | apply below_drew1) | exact HB.out)⟩⟩
        · rw [if_neg c22] at H
          have c22b0 : (t172 == 0) = false := beq_eq_false_iff_ne.mpr c22
          have c22b1 : (t172 != 0) = true := bne_iff_ne.mpr c22
          (first | rw [c22b0] | (simp only [i64_w, i32_w]; rw [c22b0]) | skip)
          have H' := Aside0.mk H
          clear H
          go_wp2
          go_meet
          case rel => exact ⟨_, (true), (by first | rfl | (simp; done) | (simp [*]; done) | (simp [*, bne]; done)), H', ⟨by first | omega | exact Nat.le_refl _⟩, ⟨by repeat (first | (with_reducible first | exact HB.out | apply below_alloc | apply pw_below_drewN | apply below_drew1) | exact HB.out)⟩⟩
    case rest =>
      clear HC12
      try clear c1
      try clear c2
      try clear p2
      try clear c4
      try clear c4b0
      try clear c4b1
      try clear c5
      try clear c13
      try clear c20
      try clear c21
      try clear c22
      try clear c22b0
      try clear c22b1
      try clear c23
      obtain ⟨kq, x54_11, rfl, HA, HJ11, HB⟩ := hcut
      cases kq with
      | zero => exact absurd HA.out (by simp [taquinlaw02_TextBack.j0])
      | succ kj11 =>
        have H := HA.out
        clear HA
        simp only [taquinlaw02_TextBack.j0] at H
        by_cases c24 : x54_11 = true
        · subst c24
          have H1 : (some false) = some r := by rw [if_pos rfl] at H; exact H
          clear H
          have H := H1
          clear H1
          obtain rfl := Option.some.inj H
          go_wp2
          go_ret
          exact ⟨by first | rfl | (simp [errW_none, errW_some] <;> rfl) | (simp [*, errW_none, errW_some] <;> rfl), by repeat (first | (with_reducible first | exact HB.out | apply below_alloc | apply pw_below_drewN | apply below_drew1) | exact HB.out)⟩
        · replace c24 := Bool.eq_false_iff.mpr c24
          subst c24
          have H1 : (if t165 = true then (if t168 = true then (if t167 = a0 then (if t171 = true then (if t170.toList = a1.toList then (if t173 = true then ((text_Decimal.f t172).bind fun t176 => (if t176.toList = a1.toList then (if t175 = true then ((text_Quote.f t174).bind fun t177 => (some (t177.toList == a1.toList))) else (some true)) else (some false))) else (if t175 = true then ((text_Quote.f t174).bind fun t178 => (some (t178.toList == a1.toList))) else (some true))) else (some false)) else (some false)) else (some false)) else (some false)) else (some false)) = some r := by rw [if_neg (show ¬ (false = true) by decide)] at H; exact H
          clear H
          have H := H1
          clear H1
          by_cases c25 : t165 = true
          · subst c25
            have H1 : (if t168 = true then (if t167 = a0 then (if t171 = true then (if t170.toList = a1.toList then (if t173 = true then ((text_Decimal.f t172).bind fun t176 => (if t176.toList = a1.toList then (if t175 = true then ((text_Quote.f t174).bind fun t177 => (some (t177.toList == a1.toList))) else (some true)) else (some false))) else (if t175 = true then ((text_Quote.f t174).bind fun t178 => (some (t178.toList == a1.toList))) else (some true))) else (some false)) else (some false)) else (some false)) else (some false)) = some r := by rw [if_pos rfl] at H; exact H
            clear H
            have H := H1
            clear H1
            by_cases c26 : t168 = true
            · subst c26
              have H1 : (if t167 = a0 then (if t171 = true then (if t170.toList = a1.toList then (if t173 = true then ((text_Decimal.f t172).bind fun t176 => (if t176.toList = a1.toList then (if t175 = true then ((text_Quote.f t174).bind fun t177 => (some (t177.toList == a1.toList))) else (some true)) else (some false))) else (if t175 = true then ((text_Quote.f t174).bind fun t178 => (some (t178.toList == a1.toList))) else (some true))) else (some false)) else (some false)) else (some false)) = some r := by rw [if_pos rfl] at H; exact H
              clear H
              have H := H1
              clear H1
              by_cases c27 : t167 = a0
              · rw [if_pos c27] at H
                have c27b0 : (t167 == a0) = true := beq_iff_eq.mpr c27
                have c27b1 : (t167 != a0) = false := bne_eq_false_iff_eq.mpr c27
                clear c27
                by_cases c28 : t171 = true
                · subst c28
                  have H1 : (if t170.toList = a1.toList then (if t173 = true then ((text_Decimal.f t172).bind fun t176 => (if t176.toList = a1.toList then (if t175 = true then ((text_Quote.f t174).bind fun t177 => (some (t177.toList == a1.toList))) else (some true)) else (some false))) else (if t175 = true then ((text_Quote.f t174).bind fun t178 => (some (t178.toList == a1.toList))) else (some true))) else (some false)) = some r := by rw [if_pos rfl] at H; exact H
                  clear H
                  have H := H1
                  clear H1
                  by_cases c29 : t170.toList = a1.toList
                  · rw [if_pos c29] at H
                    have c29b0 : (t170.toList == a1.toList) = true := beq_iff_eq.mpr c29
                    have c29b1 : (t170.toList != a1.toList) = false := bne_eq_false_iff_eq.mpr c29
                    clear c29
                    by_cases c30 : t173 = true
                    · subst c30
                      have H1 : ((text_Decimal.f t172).bind fun t176 => (if t176.toList = a1.toList then (if t175 = true then ((text_Quote.f t174).bind fun t177 => (some (t177.toList == a1.toList))) else (some true)) else (some false))) = some r := by rw [if_pos rfl] at H; exact H
                      clear H
                      have H := H1
                      clear H1
                      replace H := Option.bind_eq_some_iff.mp H
                      obtain ⟨t176, A310, H⟩ := H
                      replace H : (if t176.toList = a1.toList then (if t175 = true then ((text_Quote.f t174).bind fun t177 => (some (t177.toList == a1.toList))) else (some true)) else (some false)) = some r := H
                      have A31 := Aside0.mk A310
                      clear A310
                      by_cases c32 : t176.toList = a1.toList
                      · rw [if_pos c32] at H
                        have c32b0 : (t176.toList == a1.toList) = true := beq_iff_eq.mpr c32
                        have c32b1 : (t176.toList != a1.toList) = false := bne_eq_false_iff_eq.mpr c32
                        clear c32
                        by_cases c33 : t175 = true
                        · subst c33
                          have H1 : ((text_Quote.f t174).bind fun t177 => (some (t177.toList == a1.toList))) = some r := by rw [if_pos rfl] at H; exact H
                          clear H
                          have H := H1
                          clear H1
                          replace H := Option.bind_eq_some_iff.mp H
                          obtain ⟨t177, A340, H⟩ := H
                          replace H : (some (t177.toList == a1.toList)) = some r := H
                          have A34 := Aside0.mk A340
                          clear A340
                          obtain rfl := Option.some.inj H
                          go_wp2_with (first | (go_at_call 21; (with_reducible refine (text_Decimal.calls t172 t176 _ A31.out (LaidP.below hLd (by repeat (first | (with_reducible first | exact HB.out | apply below_alloc | apply pw_below_drewN | apply below_drew1) | exact HB.out)))).mono ?_); rintro e w35 ⟨rfl, hb⟩; have n0_ := Aside0.mk (below_step (by repeat (first | (with_reducible first | exact HB.out | apply below_alloc | apply pw_below_drewN | apply below_drew1) | exact HB.out)) hb); clear HB; have HB := n0_; clear n0_; (try clear hb); (try clear hb2); (try clear hk); (try clear hi)) | (go_at_call 23; (with_reducible refine (text_Quote.calls t174 t177 _ A34.out).mono ?_); rintro e w36 ⟨rfl, hb⟩; have n0_ := Aside0.mk (below_step (by repeat (first | (with_reducible first | exact HB.out | apply below_alloc | apply pw_below_drewN | apply below_drew1) | exact HB.out)) hb); clear HB; have HB := n0_; clear n0_; (try clear hb); (try clear hb2); (try clear hk); (try clear hi)))
                          go_ret
                          exact ⟨by first | rfl | (simp [errW_none, errW_some] <;> rfl) | (simp [*, errW_none, errW_some] <;> rfl), by repeat (first | (with_reducible first | exact HB.out | apply below_alloc | apply pw_below_drewN | apply below_drew1) | exact HB.out)⟩
                        · replace c33 := Bool.eq_false_iff.mpr c33
                          subst c33
                          have H1 : (some true) = some r := by rw [if_neg (show ¬ (false = true) by decide)] at H; exact H
                          clear H
                          have H := H1
                          clear H1
                          obtain rfl := Option.some.inj H
                          go_wp2_with (first | (go_at_call 21; (with_reducible refine (text_Decimal.calls t172 t176 _ A31.out (LaidP.below hLd (by repeat (first | (with_reducible first | exact HB.out | apply below_alloc | apply pw_below_drewN | apply below_drew1) | exact HB.out)))).mono ?_); rintro e w37 ⟨rfl, hb⟩; have n0_ := Aside0.mk (below_step (by repeat (first | (with_reducible first | exact HB.out | apply below_alloc | apply pw_below_drewN | apply below_drew1) | exact HB.out)) hb); clear HB; have HB := n0_; clear n0_; (try clear hb); (try clear hb2); (try clear hk); (try clear hi)))
                          go_ret
                          exact ⟨by first | rfl | (simp [errW_none, errW_some] <;> rfl) | (simp [*, errW_none, errW_some] <;> rfl), by repeat (first | (with_reducible first | exact HB.out | apply below_alloc | apply pw_below_drewN | apply below_drew1) | exact HB.out)⟩
                      · rw [if_neg c32] at H
                        have c32b0 : (t176.toList == a1.toList) = false := beq_eq_false_iff_ne.mpr c32
                        have c32b1 : (t176.toList != a1.toList) = true := bne_iff_ne.mpr c32
                        obtain rfl := Option.some.inj H
                        go_wp2_with (first | (go_at_call 21; (with_reducible refine (text_Decimal.calls t172 t176 _ A31.out (LaidP.below hLd (by repeat (first | (with_reducible first | exact HB.out | apply below_alloc | apply pw_below_drewN | apply below_drew1) | exact HB.out)))).mono ?_); rintro e w38 ⟨rfl, hb⟩; have n0_ := Aside0.mk (below_step (by repeat (first | (with_reducible first | exact HB.out | apply below_alloc | apply pw_below_drewN | apply below_drew1) | exact HB.out)) hb); clear HB; have HB := n0_; clear n0_; (try clear hb); (try clear hb2); (try clear hk); (try clear hi)))
                        go_ret
                        exact ⟨by first | rfl | (simp [errW_none, errW_some] <;> rfl) | (simp [*, errW_none, errW_some] <;> rfl), by repeat (first | (with_reducible first | exact HB.out | apply below_alloc | apply pw_below_drewN | apply below_drew1) | exact HB.out)⟩
                    · replace c30 := Bool.eq_false_iff.mpr c30
                      subst c30
                      have H1 : (if t175 = true then ((text_Quote.f t174).bind fun t178 => (some (t178.toList == a1.toList))) else (some true)) = some r := by rw [if_neg (show ¬ (false = true) by decide)] at H; exact H
                      clear H
                      have H := H1
                      clear H1
                      by_cases c39 : t175 = true
                      · subst c39
                        have H1 : ((text_Quote.f t174).bind fun t178 => (some (t178.toList == a1.toList))) = some r := by rw [if_pos rfl] at H; exact H
                        clear H
                        have H := H1
                        clear H1
                        replace H := Option.bind_eq_some_iff.mp H
                        obtain ⟨t178, A400, H⟩ := H
                        replace H : (some (t178.toList == a1.toList)) = some r := H
                        have A40 := Aside0.mk A400
                        clear A400
                        obtain rfl := Option.some.inj H
                        go_wp2_with (first | (go_at_call 23; (with_reducible refine (text_Quote.calls t174 t178 _ A40.out).mono ?_); rintro e w41 ⟨rfl, hb⟩; have n0_ := Aside0.mk (below_step (by repeat (first | (with_reducible first | exact HB.out | apply below_alloc | apply pw_below_drewN | apply below_drew1) | exact HB.out)) hb); clear HB; have HB := n0_; clear n0_; (try clear hb); (try clear hb2); (try clear hk); (try clear hi)))
                        go_ret
                        exact ⟨by first | rfl | (simp [errW_none, errW_some] <;> rfl) | (simp [*, errW_none, errW_some] <;> rfl), by repeat (first | (with_reducible first | exact HB.out | apply below_alloc | apply pw_below_drewN | apply below_drew1) | exact HB.out)⟩
                      · replace c39 := Bool.eq_false_iff.mpr c39
                        subst c39
                        have H1 : (some true) = some r := by rw [if_neg (show ¬ (false = true) by decide)] at H; exact H
                        clear H
                        have H := H1
                        clear H1
                        obtain rfl := Option.some.inj H
                        go_wp2
                        go_ret
                        exact ⟨by first | rfl | (simp [errW_none, errW_some] <;> rfl) | (simp [*, errW_none, errW_some] <;> rfl), by repeat (first | (with_reducible first | exact HB.out | apply below_alloc | apply pw_below_drewN | apply below_drew1) | exact HB.out)⟩
                  · rw [if_neg c29] at H
                    have c29b0 : (t170.toList == a1.toList) = false := beq_eq_false_iff_ne.mpr c29
                    have c29b1 : (t170.toList != a1.toList) = true := bne_iff_ne.mpr c29
                    obtain rfl := Option.some.inj H
                    go_wp2
                    go_ret
                    exact ⟨by first | rfl | (simp [errW_none, errW_some] <;> rfl) | (simp [*, errW_none, errW_some] <;> rfl), by repeat (first | (with_reducible first | exact HB.out | apply below_alloc | apply pw_below_drewN | apply below_drew1) | exact HB.out)⟩
                · replace c28 := Bool.eq_false_iff.mpr c28
                  subst c28
                  have H1 : (some false) = some r := by rw [if_neg (show ¬ (false = true) by decide)] at H; exact H
                  clear H
                  have H := H1
                  clear H1
                  obtain rfl := Option.some.inj H
                  go_wp2
                  go_ret
                  exact ⟨by first | rfl | (simp [errW_none, errW_some] <;> rfl) | (simp [*, errW_none, errW_some] <;> rfl), by repeat (first | (with_reducible first | exact HB.out | apply below_alloc | apply pw_below_drewN | apply below_drew1) | exact HB.out)⟩
              · rw [if_neg c27] at H
                have c27b0 : (t167 == a0) = false := beq_eq_false_iff_ne.mpr c27
                have c27b1 : (t167 != a0) = true := bne_iff_ne.mpr c27
                obtain rfl := Option.some.inj H
                go_wp2
                go_ret
                exact ⟨by first | rfl | (simp [errW_none, errW_some] <;> rfl) | (simp [*, errW_none, errW_some] <;> rfl), by repeat (first | (with_reducible first | exact HB.out | apply below_alloc | apply pw_below_drewN | apply below_drew1) | exact HB.out)⟩
            · replace c26 := Bool.eq_false_iff.mpr c26
              subst c26
              have H1 : (some false) = some r := by rw [if_neg (show ¬ (false = true) by decide)] at H; exact H
              clear H
              have H := H1
              clear H1
              obtain rfl := Option.some.inj H
              go_wp2
              go_ret
              exact ⟨by first | rfl | (simp [errW_none, errW_some] <;> rfl) | (simp [*, errW_none, errW_some] <;> rfl), by repeat (first | (with_reducible first | exact HB.out | apply below_alloc | apply pw_below_drewN | apply below_drew1) | exact HB.out)⟩
          · replace c25 := Bool.eq_false_iff.mpr c25
            subst c25
            have H1 : (some false) = some r := by rw [if_neg (show ¬ (false = true) by decide)] at H; exact H
            clear H
            have H := H1
            clear H1
            obtain rfl := Option.some.inj H
            go_wp2
            go_ret
            exact ⟨by first | rfl | (simp [errW_none, errW_some] <;> rfl) | (simp [*, errW_none, errW_some] <;> rfl), by repeat (first | (with_reducible first | exact HB.out | apply below_alloc | apply pw_below_drewN | apply below_drew1) | exact HB.out)⟩

/-! ### taquinlaw02_TextPlain: function 9 -/
mutual
def taquinlaw02_TextPlain.j0 : Nat → ByteArray → ByteArray → Bool → Bool → Option (Bool)
  | 0, _, _, _, _ => none
  | k + 1, x0, x1, x5, x15 => if x15 = true then (some x5) else ((text_Escape.f x1).bind fun t180 => ((text_Magic.f x0).bind fun t181 => (if t181 = true then (taquinlaw02_TextPlain.j1 k x1 x5 t180 false) else ((text_Plain.f x0).bind fun t182 => ((text_Pattern.f x0 t182).bind fun t183 => (if t183 = true then ((text_Pattern.f x0 x1).bind fun t184 => ((text_Plain.f x0).bind fun t185 => (taquinlaw02_TextPlain.j1 k x1 x5 t180 (t184 != (x1.toList == t185.toList))))) else (taquinlaw02_TextPlain.j1 k x1 x5 t180 true)))))))
def taquinlaw02_TextPlain.j1 : Nat → ByteArray → Bool → ByteArray → Bool → Option (Bool)
  | 0, _, _, _, _ => none
  | k + 1, x1, x5, x6, x38 => if x38 = true then (some false) else (if x5 = true then ((text_Magic.f x6).bind fun t186 => (if t186 = true then (some false) else ((text_Plain.f x6).bind fun t187 => (if t187.toList = x1.toList then ((text_Pattern.f x6 x1).bind fun t188 => (some t188)) else (some false))))) else (some false))
end
def taquinlaw02_TextPlain.f (k : Nat) (a0 : ByteArray) (a1 : ByteArray) : Option (Bool) := (taquinlaw02_small.f k).bind fun t179 => (if (a0.size : Int) > 100 then (taquinlaw02_TextPlain.j0 k a0 a1 t179 true) else (taquinlaw02_TextPlain.j0 k a0 a1 t179 (decide ((a1.size : Int) > 300))))
theorem taquinlaw02_TextPlain.mono_l : ∀ k, (∀ y0 y1 y2 y3, LeO (taquinlaw02_TextPlain.j0 k y0 y1 y2 y3) (taquinlaw02_TextPlain.j0 (k + 1) y0 y1 y2 y3)) ∧ (∀ y0 y1 y2 y3, LeO (taquinlaw02_TextPlain.j1 k y0 y1 y2 y3) (taquinlaw02_TextPlain.j1 (k + 1) y0 y1 y2 y3))
  | 0 => ⟨fun _ _ _ _ r h => by simp [taquinlaw02_TextPlain.j0] at h, fun _ _ _ _ r h => by simp [taquinlaw02_TextPlain.j1] at h⟩
  | k + 1 => by
    obtain ⟨ih0, ih1⟩ := taquinlaw02_TextPlain.mono_l k
    refine ⟨?_, ?_⟩
    · intro y0 y1 y2 y3
      unfold taquinlaw02_TextPlain.j0
      repeat' first
      | (with_reducible exact ih0 _ _ _ _)
      | (with_reducible exact ih1 _ _ _ _)
      | (with_reducible exact taquinlaw02_small.mono _)
      | (with_reducible exact LeO.refl _)
      | (with_reducible exact LeO.none _)
      | (with_reducible refine LeO.ite ?_ ?_)
      | (with_reducible refine LeO.bind ?_ (fun _ => ?_))
      | exact ih0 _ _ _ _
      | exact ih1 _ _ _ _
      | exact taquinlaw02_small.mono _
      | exact LeO.none _
      | refine LeO.ite ?_ ?_
      | refine LeO.bind ?_ (fun _ => ?_)
    · intro y0 y1 y2 y3
      unfold taquinlaw02_TextPlain.j1
      repeat' first
      | (with_reducible exact ih0 _ _ _ _)
      | (with_reducible exact ih1 _ _ _ _)
      | (with_reducible exact taquinlaw02_small.mono _)
      | (with_reducible exact LeO.refl _)
      | (with_reducible exact LeO.none _)
      | (with_reducible refine LeO.ite ?_ ?_)
      | (with_reducible refine LeO.bind ?_ (fun _ => ?_))
      | exact ih0 _ _ _ _
      | exact ih1 _ _ _ _
      | exact taquinlaw02_small.mono _
      | exact LeO.none _
      | refine LeO.ite ?_ ?_
      | refine LeO.bind ?_ (fun _ => ?_)
theorem taquinlaw02_TextPlain.mono : ∀ a0 a1 k, LeO (taquinlaw02_TextPlain.f k a0 a1) (taquinlaw02_TextPlain.f (k + 1) a0 a1) := by
  intro a0 a1 k
  obtain ⟨ih0, ih1⟩ := taquinlaw02_TextPlain.mono_l k
  unfold taquinlaw02_TextPlain.f
  repeat' first
      | (with_reducible exact ih0 _ _ _ _)
      | (with_reducible exact ih1 _ _ _ _)
      | (with_reducible exact taquinlaw02_small.mono _)
      | (with_reducible exact LeO.refl _)
      | (with_reducible exact LeO.none _)
      | (with_reducible refine LeO.ite ?_ ?_)
      | (with_reducible refine LeO.bind ?_ (fun _ => ?_))
      | exact ih0 _ _ _ _
      | exact ih1 _ _ _ _
      | exact taquinlaw02_small.mono _
      | exact LeO.none _
      | refine LeO.ite ?_ ?_
      | refine LeO.bind ?_ (fun _ => ?_)
set_option maxHeartbeats 8000000 in
set_option maxRecDepth 100000 in
theorem taquinlaw02_TextPlain.calls (k : Nat) (a0 : ByteArray) (a1 : ByteArray) (r : Bool) (w : World) (h : taquinlaw02_TextPlain.f k a0 a1 = some r) (hLd : LaidP w) :
    Calls Tryd.prog 9 #[.string a0, .string a1] w fun e w' => e = .returned (.bool r) ∧ Below w.heap.size w w' := by
  have HB := Aside0.mk (Below.refl w.heap.size w)
  have H : ((taquinlaw02_small.f k).bind fun t179 => (if (a0.size : Int) > 100 then (taquinlaw02_TextPlain.j0 k a0 a1 t179 true) else (taquinlaw02_TextPlain.j0 k a0 a1 t179 (decide ((a1.size : Int) > 300))))) = some r := h
  clear h
  replace H := Option.bind_eq_some_iff.mp H
  obtain ⟨t179, A30, H⟩ := H
  replace H : (if (a0.size : Int) > 100 then (taquinlaw02_TextPlain.j0 k a0 a1 t179 true) else (taquinlaw02_TextPlain.j0 k a0 a1 t179 (decide ((a1.size : Int) > 300)))) = some r := H
  have A3 := Aside0.mk A30
  clear A30
  have HC4 := Aside0.mk H
  clear H
  go_enter Tryd.func9, Tryd.ntmps9
  go_upto_region 2 with (first | ((with_reducible refine gate_callee (f := 13) rfl ?_); refine goesL_ (some 7) rfl rfl Tryd.func13 (by kernel_rfl) rfl #[] rfl (by (try simp only [List.map_toArray, List.map_cons, List.map_nil]); first | done | rfl | (simp only [List.length_drop, List.length_take]; rfl)) ?_; (with_reducible refine (taquinlaw02_small.calls k  t179 _ A3.out (LaidP.below hLd (by repeat (first | (with_reducible first | exact HB.out | apply below_alloc | apply pw_below_drewN | apply below_drew1) | exact HB.out)))).mono ?_); rintro e w5 ⟨rfl, hb⟩; refine ⟨_, rfl, ?_⟩; have n0_ := Aside0.mk (below_step (by repeat (first | (with_reducible first | exact HB.out | apply below_alloc | apply pw_below_drewN | apply below_drew1) | exact HB.out)) hb); clear HB; have HB := n0_; clear n0_; (try clear hb); (try clear hb2); (try clear hk); (try clear hi)))
  (try simp only [Act.put, List.setIfInBounds_toArray, List.set_cons_zero, List.set_cons_succ])
  go_cut [15] (fun v15 wc => ∃ (kq : Nat) (x15_3 : Bool), v15 = .bool x15_3 ∧ Aside0 (taquinlaw02_TextPlain.j0 kq a0 a1 t179 x15_3 = some r) ∧ Aside0 (kq ≤ k) ∧ Aside0 (Below w.heap.size w wc))
  case first =>
    have H := HC4.out
    clear HC4
    by_cases c6 : (a0.size : Int) > 100
    · rw [if_pos c6] at H
      have c6b0 : decide (100 < (a0.size : Int)) = true := decide_eq_true c6
      have c6b1 : decide (100 < a0.size) = true := decide_eq_true (by omega)
      clear c6
      (first | rw [c6b0] | (simp only [i64_w, i32_w]; rw [c6b0]) | skip)
      have H' := Aside0.mk H
      clear H
      go_wp2
      go_meet
      case rel => exact ⟨_, (true), (by first | rfl | (simp; done) | (simp [*]; done) | (simp [*, bne]; done)), H', ⟨by first | omega | exact Nat.le_refl _⟩, ⟨by repeat (first | (with_reducible first | exact HB.out | apply below_alloc | apply pw_below_drewN | apply below_drew1) | exact HB.out)⟩⟩
    · rw [if_neg c6] at H
      have c6b0 : decide (100 < (a0.size : Int)) = false := decide_eq_false c6
      have c6b1 : decide (100 < a0.size) = false := decide_eq_false (by omega)
      clear c6
      (first | rw [c6b0] | (simp only [i64_w, i32_w]; rw [c6b0]) | skip)
      have H' := Aside0.mk H
      clear H
      go_wp2
      go_meet
      case rel => exact ⟨_, (decide ((a1.size : Int) > 300)), (by first | rfl | (simp; done) | (simp [*]; done) | (simp [*, bne]; done)), H', ⟨by first | omega | exact Nat.le_refl _⟩, ⟨by repeat (first | (with_reducible first | exact HB.out | apply below_alloc | apply pw_below_drewN | apply below_drew1) | exact HB.out)⟩⟩
  case rest =>
    clear HC4
    try clear c1
    try clear p2
    try clear c6
    try clear c6b0
    try clear c6b1
    obtain ⟨kq, x15_3, rfl, HA, HJ3, HB⟩ := hcut
    cases kq with
    | zero => exact absurd HA.out (by simp [taquinlaw02_TextPlain.j0])
    | succ kj3 =>
      have H := HA.out
      clear HA
      simp only [taquinlaw02_TextPlain.j0] at H
      by_cases c7 : x15_3 = true
      · subst c7
        have H1 : (some t179) = some r := by rw [if_pos rfl] at H; exact H
        clear H
        have H := H1
        clear H1
        obtain rfl := Option.some.inj H
        go_wp2
        go_ret
        exact ⟨by first | rfl | (simp [errW_none, errW_some] <;> rfl) | (simp [*, errW_none, errW_some] <;> rfl), by repeat (first | (with_reducible first | exact HB.out | apply below_alloc | apply pw_below_drewN | apply below_drew1) | exact HB.out)⟩
      · replace c7 := Bool.eq_false_iff.mpr c7
        subst c7
        have H1 : ((text_Escape.f a1).bind fun t180 => ((text_Magic.f a0).bind fun t181 => (if t181 = true then (taquinlaw02_TextPlain.j1 kj3 a1 t179 t180 false) else ((text_Plain.f a0).bind fun t182 => ((text_Pattern.f a0 t182).bind fun t183 => (if t183 = true then ((text_Pattern.f a0 a1).bind fun t184 => ((text_Plain.f a0).bind fun t185 => (taquinlaw02_TextPlain.j1 kj3 a1 t179 t180 (t184 != (a1.toList == t185.toList))))) else (taquinlaw02_TextPlain.j1 kj3 a1 t179 t180 true))))))) = some r := by rw [if_neg (show ¬ (false = true) by decide)] at H; exact H
        clear H
        have H := H1
        clear H1
        replace H := Option.bind_eq_some_iff.mp H
        obtain ⟨t180, A80, H⟩ := H
        replace H : ((text_Magic.f a0).bind fun t181 => (if t181 = true then (taquinlaw02_TextPlain.j1 kj3 a1 t179 t180 false) else ((text_Plain.f a0).bind fun t182 => ((text_Pattern.f a0 t182).bind fun t183 => (if t183 = true then ((text_Pattern.f a0 a1).bind fun t184 => ((text_Plain.f a0).bind fun t185 => (taquinlaw02_TextPlain.j1 kj3 a1 t179 t180 (t184 != (a1.toList == t185.toList))))) else (taquinlaw02_TextPlain.j1 kj3 a1 t179 t180 true)))))) = some r := H
        have A8 := Aside0.mk A80
        clear A80
        have HC9 := Aside0.mk H
        clear H
        go_upto_region 5 with (first | ((with_reducible refine gate_callee (f := 19) rfl ?_); refine goesL_ (some 18) rfl rfl Tryd.func19 (by kernel_rfl) rfl #[.string a1] rfl (by (try simp only [List.map_toArray, List.map_cons, List.map_nil]); first | done | rfl | (simp only [List.length_drop, List.length_take]; rfl)) ?_; (with_reducible refine (text_Escape.calls a1 t180 _ A8.out).mono ?_); rintro e w10 ⟨rfl, hb⟩; refine ⟨_, rfl, ?_⟩; have n0_ := Aside0.mk (below_step (by repeat (first | (with_reducible first | exact HB.out | apply below_alloc | apply pw_below_drewN | apply below_drew1) | exact HB.out)) hb); clear HB; have HB := n0_; clear n0_; (try clear hb); (try clear hb2); (try clear hk); (try clear hi)))
        (try simp only [Act.put, List.setIfInBounds_toArray, List.set_cons_zero, List.set_cons_succ])
        go_cut [38] (fun v38 wc => ∃ (kq : Nat) (x38_8 : Bool), v38 = .bool x38_8 ∧ Aside0 (taquinlaw02_TextPlain.j1 kq a1 t179 t180 x38_8 = some r) ∧ Aside0 (kq ≤ kj3) ∧ Aside0 (Below w.heap.size w wc))
        case first =>
          have H := HC9.out
          clear HC9
          replace H := Option.bind_eq_some_iff.mp H
          obtain ⟨t181, A110, H⟩ := H
          replace H : (if t181 = true then (taquinlaw02_TextPlain.j1 kj3 a1 t179 t180 false) else ((text_Plain.f a0).bind fun t182 => ((text_Pattern.f a0 t182).bind fun t183 => (if t183 = true then ((text_Pattern.f a0 a1).bind fun t184 => ((text_Plain.f a0).bind fun t185 => (taquinlaw02_TextPlain.j1 kj3 a1 t179 t180 (t184 != (a1.toList == t185.toList))))) else (taquinlaw02_TextPlain.j1 kj3 a1 t179 t180 true))))) = some r := H
          have A11 := Aside0.mk A110
          clear A110
          by_cases c12 : t181 = true
          · subst c12
            have H1 : (taquinlaw02_TextPlain.j1 kj3 a1 t179 t180 false) = some r := by rw [if_pos rfl] at H; exact H
            clear H
            have H := H1
            clear H1
            have H' := Aside0.mk H
            clear H
            go_wp2_with (first | ((with_reducible refine gate_callee (f := 28) rfl ?_); refine goesL_ (some 20) rfl rfl Tryd.func28 (by kernel_rfl) rfl #[.string a0] rfl (by (try simp only [List.map_toArray, List.map_cons, List.map_nil]); first | done | rfl | (simp only [List.length_drop, List.length_take]; rfl)) ?_; (with_reducible refine (text_Magic.calls a0 true _ A11.out).mono ?_); rintro e w13 ⟨rfl, hb⟩; refine ⟨_, rfl, ?_⟩; have n0_ := Aside0.mk (below_step (by repeat (first | (with_reducible first | exact HB.out | apply below_alloc | apply pw_below_drewN | apply below_drew1) | exact HB.out)) hb); clear HB; have HB := n0_; clear n0_; (try clear hb); (try clear hb2); (try clear hk); (try clear hi)))
            go_meet
            case rel => exact ⟨_, (false), (by first | rfl | (simp; done) | (simp [*]; done) | (simp [*, bne]; done)), H', ⟨by have := HJ3.out; first | omega | exact Nat.le_refl _⟩, ⟨by repeat (first | (with_reducible first | exact HB.out | apply below_alloc | apply pw_below_drewN | apply below_drew1) | exact HB.out)⟩⟩
          · replace c12 := Bool.eq_false_iff.mpr c12
            subst c12
            have H1 : ((text_Plain.f a0).bind fun t182 => ((text_Pattern.f a0 t182).bind fun t183 => (if t183 = true then ((text_Pattern.f a0 a1).bind fun t184 => ((text_Plain.f a0).bind fun t185 => (taquinlaw02_TextPlain.j1 kj3 a1 t179 t180 (t184 != (a1.toList == t185.toList))))) else (taquinlaw02_TextPlain.j1 kj3 a1 t179 t180 true)))) = some r := by rw [if_neg (show ¬ (false = true) by decide)] at H; exact H
            clear H
            have H := H1
            clear H1
            replace H := Option.bind_eq_some_iff.mp H
            obtain ⟨t182, A140, H⟩ := H
            replace H : ((text_Pattern.f a0 t182).bind fun t183 => (if t183 = true then ((text_Pattern.f a0 a1).bind fun t184 => ((text_Plain.f a0).bind fun t185 => (taquinlaw02_TextPlain.j1 kj3 a1 t179 t180 (t184 != (a1.toList == t185.toList))))) else (taquinlaw02_TextPlain.j1 kj3 a1 t179 t180 true))) = some r := H
            have A14 := Aside0.mk A140
            clear A140
            replace H := Option.bind_eq_some_iff.mp H
            obtain ⟨t183, A150, H⟩ := H
            replace H : (if t183 = true then ((text_Pattern.f a0 a1).bind fun t184 => ((text_Plain.f a0).bind fun t185 => (taquinlaw02_TextPlain.j1 kj3 a1 t179 t180 (t184 != (a1.toList == t185.toList))))) else (taquinlaw02_TextPlain.j1 kj3 a1 t179 t180 true)) = some r := H
            have A15 := Aside0.mk A150
            clear A150
            by_cases c16 : t183 = true
            · subst c16
              have H1 : ((text_Pattern.f a0 a1).bind fun t184 => ((text_Plain.f a0).bind fun t185 => (taquinlaw02_TextPlain.j1 kj3 a1 t179 t180 (t184 != (a1.toList == t185.toList))))) = some r := by rw [if_pos rfl] at H; exact H
              clear H
              have H := H1
              clear H1
              replace H := Option.bind_eq_some_iff.mp H
              obtain ⟨t184, A170, H⟩ := H
              replace H : ((text_Plain.f a0).bind fun t185 => (taquinlaw02_TextPlain.j1 kj3 a1 t179 t180 (t184 != (a1.toList == t185.toList)))) = some r := H
              have A17 := Aside0.mk A170
              clear A170
              replace H := Option.bind_eq_some_iff.mp H
              obtain ⟨t185, A180, H⟩ := H
              replace H : (taquinlaw02_TextPlain.j1 kj3 a1 t179 t180 (t184 != (a1.toList == t185.toList))) = some r := H
              have A18 := Aside0.mk A180
              try (with_reducible have EA18_A14 := Option.some.inj (A18.out.symm.trans A14.out))
              clear A180
              have H' := Aside0.mk H
              clear H
              go_wp2_with (first | ((with_reducible refine gate_callee (f := 28) rfl ?_); refine goesL_ (some 20) rfl rfl Tryd.func28 (by kernel_rfl) rfl #[.string a0] rfl (by (try simp only [List.map_toArray, List.map_cons, List.map_nil]); first | done | rfl | (simp only [List.length_drop, List.length_take]; rfl)) ?_; (with_reducible refine (text_Magic.calls a0 false _ A11.out).mono ?_); rintro e w19 ⟨rfl, hb⟩; refine ⟨_, rfl, ?_⟩; have n0_ := Aside0.mk (below_step (by repeat (first | (with_reducible first | exact HB.out | apply below_alloc | apply pw_below_drewN | apply below_drew1) | exact HB.out)) hb); clear HB; have HB := n0_; clear n0_; (try clear hb); (try clear hb2); (try clear hk); (try clear hi)) | (go_at_call 29; (with_reducible refine (text_Plain.calls a0 t182 _ A14.out).mono ?_); rintro e w20 ⟨rfl, hb⟩; have n0_ := Aside0.mk (below_step (by repeat (first | (with_reducible first | exact HB.out | apply below_alloc | apply pw_below_drewN | apply below_drew1) | exact HB.out)) hb); clear HB; have HB := n0_; clear n0_; (try clear hb); (try clear hb2); (try clear hk); (try clear hi)) | (go_at_call 18; (with_reducible refine (text_Pattern.calls a0 t182 true _ A15.out).mono ?_); rintro e w21 ⟨rfl, hb⟩; have n0_ := Aside0.mk (below_step (by repeat (first | (with_reducible first | exact HB.out | apply below_alloc | apply pw_below_drewN | apply below_drew1) | exact HB.out)) hb); clear HB; have HB := n0_; clear n0_; (try clear hb); (try clear hb2); (try clear hk); (try clear hi)) | (go_at_call 18; (with_reducible refine (text_Pattern.calls a0 a1 t184 _ A17.out).mono ?_); rintro e w22 ⟨rfl, hb⟩; have n0_ := Aside0.mk (below_step (by repeat (first | (with_reducible first | exact HB.out | apply below_alloc | apply pw_below_drewN | apply below_drew1) | exact HB.out)) hb); clear HB; have HB := n0_; clear n0_; (try clear hb); (try clear hb2); (try clear hk); (try clear hi)) | (go_at_call 29; (with_reducible refine (text_Plain.calls a0 t185 _ A18.out).mono ?_); rintro e w23 ⟨rfl, hb⟩; have n0_ := Aside0.mk (below_step (by repeat (first | (with_reducible first | exact HB.out | apply below_alloc | apply pw_below_drewN | apply below_drew1) | exact HB.out)) hb); clear HB; have HB := n0_; clear n0_; (try clear hb); (try clear hb2); (try clear hk); (try clear hi)))
              go_meet
              case rel => exact ⟨_, ((t184 != (a1.toList == t185.toList))), (by first | rfl | (simp; done) | (simp [*]; done) | (simp [*, bne]; done)), H', ⟨by have := HJ3.out; first | omega | exact Nat.le_refl _⟩, ⟨by repeat (first | (with_reducible first | exact HB.out | apply below_alloc | apply pw_below_drewN | apply below_drew1) | exact HB.out)⟩⟩
            · replace c16 := Bool.eq_false_iff.mpr c16
              subst c16
              have H1 : (taquinlaw02_TextPlain.j1 kj3 a1 t179 t180 true) = some r := by rw [if_neg (show ¬ (false = true) by decide)] at H; exact H
              clear H
              have H := H1
              clear H1
              have H' := Aside0.mk H
              clear H
              go_wp2_with (first | ((with_reducible refine gate_callee (f := 28) rfl ?_); refine goesL_ (some 20) rfl rfl Tryd.func28 (by kernel_rfl) rfl #[.string a0] rfl (by (try simp only [List.map_toArray, List.map_cons, List.map_nil]); first | done | rfl | (simp only [List.length_drop, List.length_take]; rfl)) ?_; (with_reducible refine (text_Magic.calls a0 false _ A11.out).mono ?_); rintro e w24 ⟨rfl, hb⟩; refine ⟨_, rfl, ?_⟩; have n0_ := Aside0.mk (below_step (by repeat (first | (with_reducible first | exact HB.out | apply below_alloc | apply pw_below_drewN | apply below_drew1) | exact HB.out)) hb); clear HB; have HB := n0_; clear n0_; (try clear hb); (try clear hb2); (try clear hk); (try clear hi)) | (go_at_call 29; (with_reducible refine (text_Plain.calls a0 t182 _ A14.out).mono ?_); rintro e w25 ⟨rfl, hb⟩; have n0_ := Aside0.mk (below_step (by repeat (first | (with_reducible first | exact HB.out | apply below_alloc | apply pw_below_drewN | apply below_drew1) | exact HB.out)) hb); clear HB; have HB := n0_; clear n0_; (try clear hb); (try clear hb2); (try clear hk); (try clear hi)) | (go_at_call 18; (with_reducible refine (text_Pattern.calls a0 t182 false _ A15.out).mono ?_); rintro e w26 ⟨rfl, hb⟩; have n0_ := Aside0.mk (below_step (by repeat (first | (with_reducible first | exact HB.out | apply below_alloc | apply pw_below_drewN | apply below_drew1) | exact HB.out)) hb); clear HB; have HB := n0_; clear n0_; (try clear hb); (try clear hb2); (try clear hk); (try clear hi)))
              go_meet
              case rel => exact ⟨_, (true), (by first | rfl | (simp; done) | (simp [*]; done) | (simp [*, bne]; done)), H', ⟨by have := HJ3.out; first | omega | exact Nat.le_refl _⟩, ⟨by repeat (first | (with_reducible first | exact HB.out | apply below_alloc | apply pw_below_drewN | apply below_drew1) | exact HB.out)⟩⟩
        case rest =>
          clear HC9
          try clear c1
          try clear c2
          try clear p2
          try clear c6
          try clear c6b0
          try clear c6b1
          try clear c7
          try clear c9
          try clear c12
          try clear c13
          try clear c16
          try clear c19
          try clear p2
          obtain ⟨kq, x38_8, rfl, HA, HJ8, HB⟩ := hcut
          cases kq with
          | zero => exact absurd HA.out (by simp [taquinlaw02_TextPlain.j1])
          | succ kj8 =>
            have H := HA.out
            clear HA
            simp only [taquinlaw02_TextPlain.j1] at H
            by_cases c27 : x38_8 = true
            · subst c27
              have H1 : (some false) = some r := by rw [if_pos rfl] at H; exact H
              clear H
              have H := H1
              clear H1
              obtain rfl := Option.some.inj H
              go_wp2
              go_ret
              exact ⟨by first | rfl | (simp [errW_none, errW_some] <;> rfl) | (simp [*, errW_none, errW_some] <;> rfl), by repeat (first | (with_reducible first | exact HB.out | apply below_alloc | apply pw_below_drewN | apply below_drew1) | exact HB.out)⟩
            · replace c27 := Bool.eq_false_iff.mpr c27
              subst c27
              have H1 : (if t179 = true then ((text_Magic.f t180).bind fun t186 => (if t186 = true then (some false) else ((text_Plain.f t180).bind fun t187 => (if t187.toList = a1.toList then ((text_Pattern.f t180 a1).bind fun t188 => (some t188)) else (some false))))) else (some false)) = some r := by rw [if_neg (show ¬ (false = true) by decide)] at H; exact H
              clear H
              have H := H1
              clear H1
              by_cases c28 : t179 = true
              · subst c28
                have H1 : ((text_Magic.f t180).bind fun t186 => (if t186 = true then (some false) else ((text_Plain.f t180).bind fun t187 => (if t187.toList = a1.toList then ((text_Pattern.f t180 a1).bind fun t188 => (some t188)) else (some false))))) = some r := by rw [if_pos rfl] at H; exact H
                clear H
                have H := H1
                clear H1
                replace H := Option.bind_eq_some_iff.mp H
                obtain ⟨t186, A290, H⟩ := H
                replace H : (if t186 = true then (some false) else ((text_Plain.f t180).bind fun t187 => (if t187.toList = a1.toList then ((text_Pattern.f t180 a1).bind fun t188 => (some t188)) else (some false)))) = some r := H
                have A29 := Aside0.mk A290
                clear A290
                by_cases c30 : t186 = true
                · subst c30
                  have H1 : (some false) = some r := by rw [if_pos rfl] at H; exact H
                  clear H
                  have H := H1
                  clear H1
                  obtain rfl := Option.some.inj H
                  go_wp2_with (first | (go_at_call 28; (with_reducible refine (text_Magic.calls t180 true _ A29.out).mono ?_); rintro e w31 ⟨rfl, hb⟩; have n0_ := Aside0.mk (below_step (by repeat (first | (with_reducible first | exact HB.out | apply below_alloc | apply pw_below_drewN | apply below_drew1) | exact HB.out)) hb); clear HB; have HB := n0_; clear n0_; (try clear hb); (try clear hb2); (try clear hk); (try clear hi)))
                  go_ret
                  exact ⟨by first | rfl | (simp [errW_none, errW_some] <;> rfl) | (simp [*, errW_none, errW_some] <;> rfl), by repeat (first | (with_reducible first | exact HB.out | apply below_alloc | apply pw_below_drewN | apply below_drew1) | exact HB.out)⟩
                · replace c30 := Bool.eq_false_iff.mpr c30
                  subst c30
                  have H1 : ((text_Plain.f t180).bind fun t187 => (if t187.toList = a1.toList then ((text_Pattern.f t180 a1).bind fun t188 => (some t188)) else (some false))) = some r := by rw [if_neg (show ¬ (false = true) by decide)] at H; exact H
                  clear H
                  have H := H1
                  clear H1
                  replace H := Option.bind_eq_some_iff.mp H
                  obtain ⟨t187, A320, H⟩ := H
                  replace H : (if t187.toList = a1.toList then ((text_Pattern.f t180 a1).bind fun t188 => (some t188)) else (some false)) = some r := H
                  have A32 := Aside0.mk A320
                  clear A320
                  by_cases c33 : t187.toList = a1.toList
                  · rw [if_pos c33] at H
                    have c33b0 : (t187.toList == a1.toList) = true := beq_iff_eq.mpr c33
                    have c33b1 : (t187.toList != a1.toList) = false := bne_eq_false_iff_eq.mpr c33
                    clear c33
                    replace H := Option.bind_eq_some_iff.mp H
                    obtain ⟨t188, A340, H⟩ := H
                    replace H : (some t188) = some r := H
                    have A34 := Aside0.mk A340
                    clear A340
                    obtain rfl := Option.some.inj H
                    go_wp2_with (first | (go_at_call 28; (with_reducible refine (text_Magic.calls t180 false _ A29.out).mono ?_); rintro e w35 ⟨rfl, hb⟩; have n0_ := Aside0.mk (below_step (by repeat (first | (with_reducible first | exact HB.out | apply below_alloc | apply pw_below_drewN | apply below_drew1) | exact HB.out)) hb); clear HB; have HB := n0_; clear n0_; (try clear hb); (try clear hb2); (try clear hk); (try clear hi)) | (go_at_call 29; (with_reducible refine (text_Plain.calls t180 t187 _ A32.out).mono ?_); rintro e w36 ⟨rfl, hb⟩; have n0_ := Aside0.mk (below_step (by repeat (first | (with_reducible first | exact HB.out | apply below_alloc | apply pw_below_drewN | apply below_drew1) | exact HB.out)) hb); clear HB; have HB := n0_; clear n0_; (try clear hb); (try clear hb2); (try clear hk); (try clear hi)) | (go_at_call 18; (with_reducible refine (text_Pattern.calls t180 a1 t188 _ A34.out).mono ?_); rintro e w37 ⟨rfl, hb⟩; have n0_ := Aside0.mk (below_step (by repeat (first | (with_reducible first | exact HB.out | apply below_alloc | apply pw_below_drewN | apply below_drew1) | exact HB.out)) hb); clear HB; have HB := n0_; clear n0_; (try clear hb); (try clear hb2); (try clear hk); (try clear hi)))
                    go_ret
                    exact ⟨by first | rfl | (simp [errW_none, errW_some] <;> rfl) | (simp [*, errW_none, errW_some] <;> rfl), by repeat (first | (with_reducible first | exact HB.out | apply below_alloc | apply pw_below_drewN | apply below_drew1) | exact HB.out)⟩
                  · rw [if_neg c33] at H
                    have c33b0 : (t187.toList == a1.toList) = false := beq_eq_false_iff_ne.mpr c33
                    have c33b1 : (t187.toList != a1.toList) = true := bne_iff_ne.mpr c33
                    obtain rfl := Option.some.inj H
                    go_wp2_with (first | (go_at_call 28; (with_reducible refine (text_Magic.calls t180 false _ A29.out).mono ?_); rintro e w38 ⟨rfl, hb⟩; have n0_ := Aside0.mk (below_step (by repeat (first | (with_reducible first | exact HB.out | apply below_alloc | apply pw_below_drewN | apply below_drew1) | exact HB.out)) hb); clear HB; have HB := n0_; clear n0_; (try clear hb); (try clear hb2); (try clear hk); (try clear hi)) | (go_at_call 29; (with_reducible refine (text_Plain.calls t180 t187 _ A32.out).mono ?_); rintro e w39 ⟨rfl, hb⟩; have n0_ := Aside0.mk (below_step (by repeat (first | (with_reducible first | exact HB.out | apply below_alloc | apply pw_below_drewN | apply below_drew1) | exact HB.out)) hb); clear HB; have HB := n0_; clear n0_; (try clear hb); (try clear hb2); (try clear hk); (try clear hi)))
                    go_ret
                    exact ⟨by first | rfl | (simp [errW_none, errW_some] <;> rfl) | (simp [*, errW_none, errW_some] <;> rfl), by repeat (first | (with_reducible first | exact HB.out | apply below_alloc | apply pw_below_drewN | apply below_drew1) | exact HB.out)⟩
              · replace c28 := Bool.eq_false_iff.mpr c28
                subst c28
                have H1 : (some false) = some r := by rw [if_neg (show ¬ (false = true) by decide)] at H; exact H
                clear H
                have H := H1
                clear H1
                obtain rfl := Option.some.inj H
                go_wp2
                go_ret
                exact ⟨by first | rfl | (simp [errW_none, errW_some] <;> rfl) | (simp [*, errW_none, errW_some] <;> rfl), by repeat (first | (with_reducible first | exact HB.out | apply below_alloc | apply pw_below_drewN | apply below_drew1) | exact HB.out)⟩

/-! ### taquinref02_Decimal: function 36 -/
mutual
def taquinref02_Decimal.j0 : Nat → Int → Bool → Option (ByteArray)
  | 0, _, _ => none
  | k + 1, x0, x8 => if x8 = true then (some (strOfNums (([(wrap64 (48 + x0)) % 256] : List Int)))) else (if x0 > 0 then ((taquinref02_Decimal.f k (wrap64 (Int.tdiv x0 10))).bind fun t192 => ((taquinref02_Decimal.f k (Int.tmod x0 10)).bind fun t193 => (if t192.size + t193.size ≤ 9223372036854775807 then (some (t192 ++ t193)) else (none)))) else (if x0 > (-10) then ((taquinref02_Decimal.f k (wrap64 (-x0))).bind fun t194 => (if 1 + t194.size ≤ 9223372036854775807 then (some ((⟨#[45]⟩ : ByteArray) ++ t194)) else (none))) else ((taquinref02_Decimal.f k (wrap64 (Int.tdiv x0 10))).bind fun t195 => ((taquinref02_Decimal.f k (wrap64 (-(Int.tmod x0 10)))).bind fun t196 => (if t195.size + t196.size ≤ 9223372036854775807 then (some (t195 ++ t196)) else (none))))))
def taquinref02_Decimal.f : Nat → Int → Option (ByteArray)
  | 0, _ => none
  | k + 1, a0 => if a0 ≥ 0 then (taquinref02_Decimal.j0 k a0 (decide (a0 < 10))) else (taquinref02_Decimal.j0 k a0 false)
end
theorem taquinref02_Decimal.mono_l : ∀ k, (∀ y0, LeO (taquinref02_Decimal.f k y0) (taquinref02_Decimal.f (k + 1) y0)) ∧ (∀ y0 y1, LeO (taquinref02_Decimal.j0 k y0 y1) (taquinref02_Decimal.j0 (k + 1) y0 y1))
  | 0 => ⟨fun _ r h => by simp [taquinref02_Decimal.f] at h, fun _ _ r h => by simp [taquinref02_Decimal.j0] at h⟩
  | k + 1 => by
    obtain ⟨ih0, ih1⟩ := taquinref02_Decimal.mono_l k
    refine ⟨?_, ?_⟩
    · intro y0
      unfold taquinref02_Decimal.f
      repeat' first
      | (with_reducible exact ih0 _)
      | (with_reducible exact ih1 _ _)
      | (with_reducible exact LeO.refl _)
      | (with_reducible exact LeO.none _)
      | (with_reducible refine LeO.ite ?_ ?_)
      | (with_reducible refine LeO.bind ?_ (fun _ => ?_))
      | exact ih0 _
      | exact ih1 _ _
      | exact LeO.none _
      | refine LeO.ite ?_ ?_
      | refine LeO.bind ?_ (fun _ => ?_)
    · intro y0 y1
      unfold taquinref02_Decimal.j0
      repeat' first
      | (with_reducible exact ih0 _)
      | (with_reducible exact ih1 _ _)
      | (with_reducible exact LeO.refl _)
      | (with_reducible exact LeO.none _)
      | (with_reducible refine LeO.ite ?_ ?_)
      | (with_reducible refine LeO.bind ?_ (fun _ => ?_))
      | exact ih0 _
      | exact ih1 _ _
      | exact LeO.none _
      | refine LeO.ite ?_ ?_
      | refine LeO.bind ?_ (fun _ => ?_)
theorem taquinref02_Decimal.mono : ∀ a0 k, LeO (taquinref02_Decimal.f k a0) (taquinref02_Decimal.f (k + 1) a0) := by
  intro a0 k
  obtain ⟨ih0, ih1⟩ := taquinref02_Decimal.mono_l k
  exact ih0 a0
set_option maxHeartbeats 8000000 in
set_option maxRecDepth 100000 in
theorem taquinref02_Decimal.calls (k : Nat) : ∀ (a0 : Int) (r : ByteArray) (w : World) (h : taquinref02_Decimal.f k a0 = some r),
    Calls Tryd.prog 36 #[.int .i64 a0] w fun e w' => e = .returned (.string r) ∧ Below w.heap.size w w' := by
  induction k using Nat.strongRecOn with
  | _ k ih =>
  intro a0 r w h
  cases k with
  | zero => exact absurd h (by simp [taquinref02_Decimal.f])
  | succ k =>
  simp only [taquinref02_Decimal.f] at h
  have HB := Aside0.mk (Below.refl w.heap.size w)
  have H : (if a0 ≥ 0 then (taquinref02_Decimal.j0 k a0 (decide (a0 < 10))) else (taquinref02_Decimal.j0 k a0 false)) = some r := h
  clear h
  have HC2 := Aside0.mk H
  clear H
  go_enter Tryd.func36, Tryd.ntmps36
  go_upto_region 1 with (fail)
  go_cut [8] (fun v8 wc => ∃ (kq : Nat) (x8_1 : Bool), v8 = .bool x8_1 ∧ Aside0 (taquinref02_Decimal.j0 kq a0 x8_1 = some r) ∧ Aside0 (kq ≤ k) ∧ Aside0 (Below w.heap.size w wc))
  case first =>
    have H := HC2.out
    clear HC2
    by_cases c3 : a0 ≥ 0
    · rw [if_pos c3] at H
      have c3b0 : decide (0 ≤ a0) = true := decide_eq_true c3
      clear c3
      (first | rw [c3b0] | (simp only [i64_w, i32_w]; rw [c3b0]) | skip)
      have H' := Aside0.mk H
      clear H
      go_wp2
      go_meet
      case rel => exact ⟨_, (decide (a0 < 10)), (by first | rfl | (simp; done) | (simp [*]; done) | (simp [*, bne]; done)), H', ⟨by first | omega | exact Nat.le_refl _⟩, ⟨by repeat (first | (with_reducible first | exact HB.out | apply below_alloc | apply pw_below_drewN | apply below_drew1) | exact HB.out)⟩⟩
    · rw [if_neg c3] at H
      have c3b0 : decide (0 ≤ a0) = false := decide_eq_false c3
      clear c3
      (first | rw [c3b0] | (simp only [i64_w, i32_w]; rw [c3b0]) | skip)
      have H' := Aside0.mk H
      clear H
      go_wp2
      go_meet
      case rel => exact ⟨_, (false), (by first | rfl | (simp; done) | (simp [*]; done) | (simp [*, bne]; done)), H', ⟨by first | omega | exact Nat.le_refl _⟩, ⟨by repeat (first | (with_reducible first | exact HB.out | apply below_alloc | apply pw_below_drewN | apply below_drew1) | exact HB.out)⟩⟩
  case rest =>
    clear HC2
    try clear p2
    try clear c3
    try clear c3b0
    obtain ⟨kq, x8_1, rfl, HA, HJ1, HB⟩ := hcut
    cases kq with
    | zero => exact absurd HA.out (by simp [taquinref02_Decimal.j0])
    | succ kj1 =>
      have H := HA.out
      clear HA
      simp only [taquinref02_Decimal.j0] at H
      by_cases c4 : x8_1 = true
      · subst c4
        have H1 : (some (strOfNums (([(wrap64 (48 + a0)) % 256] : List Int)))) = some r := by rw [if_pos rfl] at H; exact H
        clear H
        have H := H1
        clear H1
        obtain ⟨y189, hy189⟩ : ∃ y_ : List Int, y_ = (([(wrap64 (48 + a0)) % 256] : List Int)) := ⟨_, rfl⟩
        replace H : (some (strOfNums y189)) = some r := by first | (rw [hy189]; with_reducible exact H) | (have H2_ := (Option.bind_some _ _).symm.trans H; rw [hy189]; with_reducible exact H2_) | (have H2_ := (Option.bind_some _ _).symm.trans H; with_reducible exact H2_) | with_reducible exact H | (rw [hy189]; exact H) | exact H
        have Ny189 := Aside0.mk hy189
        clear hy189
        obtain rfl := Option.some.inj H
        go_wp2_with (first | ((with_reducible refine gate_dst (N := 12) rfl ?_); refine Kd.R_lit (Kd.int .u8) _ 5 ?hg (N := 12) ?hd (xs := ([(wrap64 (48 + a0)) % 256] : List Int)) (inner := [.int .u8 ((wrap64 (48 + a0)) % 256)]) (ok := fun _ => True) (okp := fun _ => True) ?hr ?hp (fun _ hk => hk) trivial (Below.refl _ _) (Nat.le_refl _) (by simp) ?_; (case hd => rfl); (case hg => rfl); (case hr => first | (go_simp; done) | (go_simp; rfl)); (case hp => exact (Reps.one (show Kd.M (Kd.int .u8) _ _ _ ((wrap64 (48 + a0)) % 256) [.int .u8 ((wrap64 (48 + a0)) % 256)] from rfl) (Reps.none _ _))); intro v190 w5 ho6 hb hg_ hnew_; clear hg_ hnew_; (first | rw [← Ny189.out] at ho6 | (simp only [Int.reduceToNat] at ho6; rw [← Ny189.out] at ho6)); have n0_ := Aside0.mk (Kd.R_lower ho6 (below_size (by repeat (first | (with_reducible first | exact HB.out | apply below_alloc | apply pw_below_drewN | apply below_drew1) | exact HB.out)))); have n1_ := Aside0.mk (below_step (by repeat (first | (with_reducible first | exact HB.out | apply below_alloc | apply pw_below_drewN | apply below_drew1) | exact HB.out)) hb); clear HB; have HO191 := n0_; have HB := n1_; clear n0_ n1_; clear hb ho6; have hcv7 := own_string (P := Tryd.prog) Tryd.underlying46 Tryd.underlying5 Tryd.underlying9 (Kd.own_of_R HO191.out)))
        go_ret
        exact ⟨by first | rfl | (simp [errW_none, errW_some] <;> rfl) | (simp [*, errW_none, errW_some] <;> rfl), by repeat (first | (with_reducible first | exact HB.out | apply below_alloc | apply pw_below_drewN | apply below_drew1) | exact HB.out)⟩
      · replace c4 := Bool.eq_false_iff.mpr c4
        subst c4
        have H1 : (if a0 > 0 then ((taquinref02_Decimal.f kj1 (wrap64 (Int.tdiv a0 10))).bind fun t192 => ((taquinref02_Decimal.f kj1 (Int.tmod a0 10)).bind fun t193 => (if t192.size + t193.size ≤ 9223372036854775807 then (some (t192 ++ t193)) else (none)))) else (if a0 > (-10) then ((taquinref02_Decimal.f kj1 (wrap64 (-a0))).bind fun t194 => (if 1 + t194.size ≤ 9223372036854775807 then (some ((⟨#[45]⟩ : ByteArray) ++ t194)) else (none))) else ((taquinref02_Decimal.f kj1 (wrap64 (Int.tdiv a0 10))).bind fun t195 => ((taquinref02_Decimal.f kj1 (wrap64 (-(Int.tmod a0 10)))).bind fun t196 => (if t195.size + t196.size ≤ 9223372036854775807 then (some (t195 ++ t196)) else (none)))))) = some r := by rw [if_neg (show ¬ (false = true) by decide)] at H; exact H
        clear H
        have H := H1
        clear H1
        by_cases c8 : a0 > 0
        · rw [if_pos c8] at H
          have c8b0 : decide (0 < a0) = true := decide_eq_true c8
          clear c8
          replace H := Option.bind_eq_some_iff.mp H
          obtain ⟨t192, A90, H⟩ := H
          replace H : ((taquinref02_Decimal.f kj1 (Int.tmod a0 10)).bind fun t193 => (if t192.size + t193.size ≤ 9223372036854775807 then (some (t192 ++ t193)) else (none))) = some r := H
          have A9 := Aside0.mk A90
          clear A90
          replace H := Option.bind_eq_some_iff.mp H
          obtain ⟨t193, A100, H⟩ := H
          replace H : (if t192.size + t193.size ≤ 9223372036854775807 then (some (t192 ++ t193)) else (none)) = some r := H
          have A10 := Aside0.mk A100
          clear A100
          by_cases c11 : t192.size + t193.size ≤ 9223372036854775807
          · rw [if_pos c11] at H
            have c11b0 := eq_true c11
            have c11b1 : decide (t192.size + t193.size ≤ 9223372036854775807) = true := decide_eq_true c11
            try have c11b2 : (9223372036854775807 < t192.size + t193.size) = False := eq_false (Nat.not_lt.2 c11)
            obtain rfl := Option.some.inj H
            go_wp2_with (first | ((with_reducible refine gate_callee (f := 36) rfl ?_); refine goesL_ (some 18) rfl rfl Tryd.func36 (by kernel_rfl) rfl #[.int .i64 (wrap64 (Int.tdiv a0 10))] rfl (by (try simp only [List.map_toArray, List.map_cons, List.map_nil]); first | done | rfl | (simp only [List.length_drop, List.length_take]; rfl)) ?_; (with_reducible refine (ih kj1 (by have := HJ1.out; omega) (wrap64 (Int.tdiv a0 10)) t192 _ A9.out).mono ?_); rintro e w12 ⟨rfl, hb⟩; refine ⟨_, rfl, ?_⟩; have n0_ := Aside0.mk (below_step (by repeat (first | (with_reducible first | exact HB.out | apply below_alloc | apply pw_below_drewN | apply below_drew1) | exact HB.out)) hb); clear HB; have HB := n0_; clear n0_; (try clear hb); (try clear hb2); (try clear hk); (try clear hi)) | ((with_reducible refine gate_callee (f := 36) rfl ?_); refine goesL_ (some 21) rfl rfl Tryd.func36 (by kernel_rfl) rfl #[.int .i64 (Int.tmod a0 10)] rfl (by (try simp only [List.map_toArray, List.map_cons, List.map_nil]); first | done | rfl | (simp only [List.length_drop, List.length_take]; rfl)) ?_; (with_reducible refine (ih kj1 (by have := HJ1.out; omega) (Int.tmod a0 10) t193 _ A10.out).mono ?_); rintro e w13 ⟨rfl, hb⟩; refine ⟨_, rfl, ?_⟩; have n0_ := Aside0.mk (below_step (by repeat (first | (with_reducible first | exact HB.out | apply below_alloc | apply pw_below_drewN | apply below_drew1) | exact HB.out)) hb); clear HB; have HB := n0_; clear n0_; (try clear hb); (try clear hb2); (try clear hk); (try clear hi)))
            go_ret
            exact ⟨by first | rfl | (simp [errW_none, errW_some] <;> rfl) | (simp [*, errW_none, errW_some] <;> rfl), by repeat (first | (with_reducible first | exact HB.out | apply below_alloc | apply pw_below_drewN | apply below_drew1) | exact HB.out)⟩
          · rw [if_neg c11] at H
            exact absurd H (by simp)
        · rw [if_neg c8] at H
          have c8b0 : decide (0 < a0) = false := decide_eq_false c8
          clear c8
          by_cases c14 : a0 > (-10)
          · rw [if_pos c14] at H
            have c14b0 : decide ((-10) < a0) = true := decide_eq_true c14
            clear c14
            replace H := Option.bind_eq_some_iff.mp H
            obtain ⟨t194, A150, H⟩ := H
            replace H : (if 1 + t194.size ≤ 9223372036854775807 then (some ((⟨#[45]⟩ : ByteArray) ++ t194)) else (none)) = some r := H
            have A15 := Aside0.mk A150
            clear A150
            by_cases c16 : 1 + t194.size ≤ 9223372036854775807
            · rw [if_pos c16] at H
              have c16b0 := eq_true c16
              have c16b1 : decide (1 + t194.size ≤ 9223372036854775807) = true := decide_eq_true c16
              try have c16b2 : (9223372036854775807 < 1 + t194.size) = False := eq_false (Nat.not_lt.2 c16)
              obtain rfl := Option.some.inj H
              go_wp2_with (first | ((with_reducible refine gate_callee (f := 36) rfl ?_); refine goesL_ (some 27) rfl rfl Tryd.func36 (by kernel_rfl) rfl #[.int .i64 (wrap64 (-a0))] rfl (by (try simp only [List.map_toArray, List.map_cons, List.map_nil]); first | done | rfl | (simp only [List.length_drop, List.length_take]; rfl)) ?_; (with_reducible refine (ih kj1 (by have := HJ1.out; omega) (wrap64 (-a0)) t194 _ A15.out).mono ?_); rintro e w17 ⟨rfl, hb⟩; refine ⟨_, rfl, ?_⟩; have n0_ := Aside0.mk (below_step (by repeat (first | (with_reducible first | exact HB.out | apply below_alloc | apply pw_below_drewN | apply below_drew1) | exact HB.out)) hb); clear HB; have HB := n0_; clear n0_; (try clear hb); (try clear hb2); (try clear hk); (try clear hi)))
              go_ret
              exact ⟨by first | rfl | (simp [errW_none, errW_some] <;> rfl) | (simp [*, errW_none, errW_some] <;> rfl), by repeat (first | (with_reducible first | exact HB.out | apply below_alloc | apply pw_below_drewN | apply below_drew1) | exact HB.out)⟩
            · rw [if_neg c16] at H
              exact absurd H (by simp)
          · rw [if_neg c14] at H
            have c14b0 : decide ((-10) < a0) = false := decide_eq_false c14
            clear c14
            replace H := Option.bind_eq_some_iff.mp H
            obtain ⟨t195, A180, H⟩ := H
            replace H : ((taquinref02_Decimal.f kj1 (wrap64 (-(Int.tmod a0 10)))).bind fun t196 => (if t195.size + t196.size ≤ 9223372036854775807 then (some (t195 ++ t196)) else (none))) = some r := H
            have A18 := Aside0.mk A180
            clear A180
            replace H := Option.bind_eq_some_iff.mp H
            obtain ⟨t196, A190, H⟩ := H
            replace H : (if t195.size + t196.size ≤ 9223372036854775807 then (some (t195 ++ t196)) else (none)) = some r := H
            have A19 := Aside0.mk A190
            clear A190
            by_cases c20 : t195.size + t196.size ≤ 9223372036854775807
            · rw [if_pos c20] at H
              have c20b0 := eq_true c20
              have c20b1 : decide (t195.size + t196.size ≤ 9223372036854775807) = true := decide_eq_true c20
              try have c20b2 : (9223372036854775807 < t195.size + t196.size) = False := eq_false (Nat.not_lt.2 c20)
              obtain rfl := Option.some.inj H
              go_wp2_with (first | ((with_reducible refine gate_callee (f := 36) rfl ?_); refine goesL_ (some 31) rfl rfl Tryd.func36 (by kernel_rfl) rfl #[.int .i64 (wrap64 (Int.tdiv a0 10))] rfl (by (try simp only [List.map_toArray, List.map_cons, List.map_nil]); first | done | rfl | (simp only [List.length_drop, List.length_take]; rfl)) ?_; (with_reducible refine (ih kj1 (by have := HJ1.out; omega) (wrap64 (Int.tdiv a0 10)) t195 _ A18.out).mono ?_); rintro e w21 ⟨rfl, hb⟩; refine ⟨_, rfl, ?_⟩; have n0_ := Aside0.mk (below_step (by repeat (first | (with_reducible first | exact HB.out | apply below_alloc | apply pw_below_drewN | apply below_drew1) | exact HB.out)) hb); clear HB; have HB := n0_; clear n0_; (try clear hb); (try clear hb2); (try clear hk); (try clear hi)) | ((with_reducible refine gate_callee (f := 36) rfl ?_); refine goesL_ (some 35) rfl rfl Tryd.func36 (by kernel_rfl) rfl #[.int .i64 (wrap64 (-(Int.tmod a0 10)))] rfl (by (try simp only [List.map_toArray, List.map_cons, List.map_nil]); first | done | rfl | (simp only [List.length_drop, List.length_take]; rfl)) ?_; (with_reducible refine (ih kj1 (by have := HJ1.out; omega) (wrap64 (-(Int.tmod a0 10))) t196 _ A19.out).mono ?_); rintro e w22 ⟨rfl, hb⟩; refine ⟨_, rfl, ?_⟩; have n0_ := Aside0.mk (below_step (by repeat (first | (with_reducible first | exact HB.out | apply below_alloc | apply pw_below_drewN | apply below_drew1) | exact HB.out)) hb); clear HB; have HB := n0_; clear n0_; (try clear hb); (try clear hb2); (try clear hk); (try clear hi)))
              go_ret
              exact ⟨by first | rfl | (simp [errW_none, errW_some] <;> rfl) | (simp [*, errW_none, errW_some] <;> rfl), by repeat (first | (with_reducible first | exact HB.out | apply below_alloc | apply pw_below_drewN | apply below_drew1) | exact HB.out)⟩
            · rw [if_neg c20] at H
              exact absurd H (by simp)

end Go.Proofs.YteifffaonigidaaDoor.M
