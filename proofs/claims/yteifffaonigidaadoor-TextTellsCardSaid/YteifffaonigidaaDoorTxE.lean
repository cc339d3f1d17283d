/- The contracts of text.Lines and text.Fields, for every argument shorter than 4294967281 bytes. -/
import Derived.Test.YteifffaonigidaaDoorTxA
namespace Go.Proofs.YteifffaonigidaaDoor.M
open Go.RowKit Go.Proofs.YteifffaonigidaaDoorW.PrintWords Go.Proofs.YteifffaonigidaaDoorW.PrintLast
set_option linter.unusedVariables false
set_option linter.unusedSimpArgs false

theorem reps_strings : ∀ (l : List ByteArray) (w : World) (base : Nat) (ok : Nat → Prop), Reps (Kd.string.M w base ok) 1 l (l.map Value.string)
  | [], _, _, _ => Reps.none _ _
  | s :: l, w, base, ok => Reps.one (show Kd.string.M w base ok s [.string s] from rfl) (reps_strings l w base ok)
/-- A row of strings of the call's own, in the words of the contracts. -/
theorem R_strings {w : World} {base : Nat} {v : Value} {l : List ByteArray} (h : w.ownsRow base 9 1 v l.length (l.map Value.string)) : Kd.R Kd.string 9 w base (fun _ => True) v l :=
  ⟨fun _ _ => trivial, _, h, reps_strings l _ _ _⟩
theorem own_strings (W : World) (base : Nat) (l : List ByteArray) (hb : base ≤ W.heap.size) (hm : l.length ≤ 9223372036854775807) :
    (W.alloc (.cells (l.map Value.string).toArray 9)).ownsRow base 9 1 (.slice (some ⟨W.heap.size, 0, none⟩) l.length l.length) l.length (l.map Value.string) :=
  ⟨by simp, .inr ⟨W.heap.size, l.length, (l.map Value.string).toArray, rfl, hb, heap_alloc_new W _, Nat.le_refl _, hm, by simp, by simp [List.take_of_length_le]⟩⟩

/-! ### Lines -/
def trimB (s : ByteArray) : ByteArray := ⟨(Lib.trimSuffix s.data.toList [10]).toArray⟩
def linesB (s : ByteArray) : List ByteArray := if s.toList = [] then [] else Lib.splitB ⟨#[10]⟩ 0 (Lib.countB (trimB s) ⟨#[10]⟩) (trimB s)
def text_Lines.f (a0 : ByteArray) : Option (List ByteArray) := if a0.size < 4294967281 then some (linesB a0) else none
theorem trim_size (s : ByteArray) : (trimB s).size ≤ s.size := by
  have h : (Lib.trimSuffix s.data.toList [10]).length ≤ s.data.toList.length := by
    unfold Lib.trimSuffix
    split
    · rw [List.length_take]; omega
    · exact Nat.le_refl _
  have h2 : (trimB s).size = (Lib.trimSuffix s.data.toList [10]).length := rfl
  have h3 : s.size = s.data.toList.length := rfl
  omega
theorem count_le (s : ByteArray) : Lib.countB s ⟨#[10]⟩ ≤ s.size := Lib.countB_le ⟨#[10]⟩ (by decide) s.size s (Nat.le_refl _)
theorem text_Lines.calls (a0 : ByteArray) (r : List ByteArray) (w : World) (h : text_Lines.f a0 = some r) (hLd : LaidP w) :
    Calls Tryd.prog 15 #[.string a0] w fun e w' => ∃ v0_ : Value, e = .returned (v0_) ∧ Kd.R Kd.string 9 w' w.heap.size (fun _ => True) v0_ r ∧ Below w.heap.size w w' := by
  unfold text_Lines.f at h
  by_cases hs : a0.size < 4294967281
  · rw [if_pos hs] at h
    obtain rfl := Option.some.inj h
    clear h
    obtain ⟨m, hm⟩ := hLd.mx
    clear hLd
    unfold linesB
    by_cases he : a0.toList = []
    · rw [if_pos he]
      have hN := Kd.R_nil Kd.string 9 w w.heap.size (fun _ => True)
      go_enter Tryd.func15, Tryd.ntmps15
      go_wp2
      go_ret
      exact ⟨_, rfl, hN, Below.refl _ _⟩
    · rw [if_neg he]
      have hT := Lib.hid (Tryd.strings_TrimSuffix a0 ⟨#[10]⟩ w (by omega))
      have hts := trim_size a0
      have hcl := count_le (trimB a0)
      have hS := Lib.hid (Tryd.strings_Split (trimB a0) ⟨#[10]⟩ m w (by omega) hm (by decide))
      have hL := Lib.hid (Lib.splitB_all ⟨#[10]⟩ (by decide) 0 (Lib.countB (trimB a0) ⟨#[10]⟩) (trimB a0) rfl)
      have hO := Lib.hid (own_strings w w.heap.size (Lib.splitB ⟨#[10]⟩ 0 (Lib.countB (trimB a0) ⟨#[10]⟩) (trimB a0)) (Nat.le_refl _) (by rw [hL.out]; omega))
      rw [hL.out] at hO
      clear hm
      have he' : (a0.toList.isEmpty) = false := by simpa using he
      clear he
      go_enter Tryd.func15, Tryd.ntmps15
      go_wp2_with fail
      refine hT.out.mono ?_
      rintro e w1 ⟨rfl, hw⟩
      subst hw
      go_wp2_with fail
      refine hS.out.mono ?_
      rintro e w2 ⟨rfl, rfl⟩
      go_wp2_with fail
      go_ret
      refine ⟨_, rfl, ?_, (Below.refl _ _).alloc (Nat.le_refl _) _⟩
      exact R_strings (by rw [hL.out]; exact hO.out)
  · rw [if_neg hs] at h
    exact absurd h (by simp)

/-! ### Fields -/
def white (x : Nat) : Bool := x == 32 || x == 9 || x == 10
theorem white_call (W : World) (x : Nat) : Calls Tryd.prog 51 #[.int .i32 (x : Int)] W fun e w' => e = .returned (.bool (white x)) ∧ w' = W := by
  by_cases h1 : x = 32
  · have hw := Lib.hid (show white x = true by simp [white, h1])
    have c1 : ((x : Int) == 32) = true := beq_iff_eq.2 (by omega)
    clear h1
    go_enter Tryd.func51, Tryd.ntmps51
    go_wp2
    go_ret
    exact ⟨by rw [hw.out]; rfl, rfl⟩
  · have c1 : ((x : Int) == 32) = false := beq_eq_false_iff_ne.2 (by omega)
    by_cases h2 : x = 9
    · have hw := Lib.hid (show white x = true by simp [white, h2])
      have c2 : ((x : Int) == 9) = true := beq_iff_eq.2 (by omega)
      clear h1 h2
      go_enter Tryd.func51, Tryd.ntmps51
      go_wp2
      go_ret
      exact ⟨by rw [hw.out]; rfl, rfl⟩
    · have c2 : ((x : Int) == 9) = false := beq_eq_false_iff_ne.2 (by omega)
      by_cases h3 : x = 10
      · have hw := Lib.hid (show white x = true by simp [white, h3])
        have c3 : ((x : Int) == 10) = true := beq_iff_eq.2 (by omega)
        clear h1 h2 h3
        go_enter Tryd.func51, Tryd.ntmps51
        go_wp2
        go_ret
        exact ⟨by rw [hw.out]; rfl, rfl⟩
      · have hw := Lib.hid (show white x = false by simp [white, h1, h2, h3])
        have c3 : ((x : Int) == 10) = false := beq_eq_false_iff_ne.2 (by omega)
        clear h1 h2 h3
        go_enter Tryd.func51, Tryd.ntmps51
        go_wp2
        go_ret
        exact ⟨by rw [hw.out]; rfl, rfl⟩
theorem white_pred (w : World) : PredAt Tryd.prog 51 #[] encR white w := fun W x _ =>
  (white_call W x).mono fun _ _ ⟨he, hw⟩ => ⟨he, 0, hw⟩
theorem enters51 : ∀ args w, (callFunc 51 args).run Tryd.prog w = .ok (.enter 51 args) w := enters_of Tryd.func51 (by kernel_rfl) rfl
def text_Fields.f (a0 : ByteArray) : Option (List ByteArray) := if a0.size ≤ 4294967296 then some (Lib.goFieldsP white a0) else none
theorem text_Fields.calls (a0 : ByteArray) (r : List ByteArray) (w : World) (h : text_Fields.f a0 = some r) :
    Calls Tryd.prog 17 #[.string a0] w fun e w' => ∃ v0_ : Value, e = .returned (v0_) ∧ Kd.R Kd.string 9 w' w.heap.size (fun _ => True) v0_ r ∧ Below w.heap.size w w' := by
  unfold text_Fields.f at h
  by_cases hs : a0.size ≤ 4294967296
  · rw [if_pos hs] at h
    obtain rfl := Option.some.inj h
    clear h
    have hF := Lib.hid (Tryd.strings_FieldsFunc 51 #[] enters51 white a0 w hs (white_pred w))
    go_enter Tryd.func17, Tryd.ntmps17
    go_wp2_with fail
    refine hF.out.mono ?_
    rintro e w1 ⟨A, rfl, hA, hO, hB⟩
    have hR := Lib.hid (R_strings hO)
    have hB' := Lib.hid hB
    clear hO hB
    go_wp2_with fail
    go_ret
    exact ⟨_, rfl, hR.out, hB'.out⟩
  · rw [if_neg hs] at h
    exact absurd h (by simp)
end Go.Proofs.YteifffaonigidaaDoor.M
