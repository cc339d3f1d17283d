/- The contract of the scanner's method next: which method takes the token that begins here. -/
import Derived.Test.YteifffaonigidaaDoorLxD
namespace Go.Proofs.YteifffaonigidaaDoor.M
open Go.RowKit Go.Proofs.YteifffaonigidaaDoorW.PrintWords Go.Proofs.YteifffaonigidaaDoorW.PrintLast
open Go.Proofs.YteifffaonigidaaDoor
set_option linter.unusedVariables false
set_option linter.unusedSimpArgs false
/-- The function that next chooses. -/
def nextF (l : List UInt8) : Nat :=
  match l with
  | [] => 78
  | c :: _ => if letterB c = true ∨ digitB c = true then 80 else if c = 34 then 81 else if c = 10 then 82 else 83
theorem letter_call (c : UInt8) (W : World) : Calls Tryd.prog 61 #[.int .u8 (c.toNat : Int)] W fun e w' => e = .returned (.bool (letterB c)) ∧ ∃ m, w' = W.drewN m :=
  (Lq.lex_letter.calls _ _ W (letter_f c)).mono fun e w' ⟨h, m⟩ => let ⟨j, hj⟩ := m; ⟨h, j, hj⟩
theorem digit_call' (c : UInt8) (W : World) : Calls Tryd.prog 79 #[.int .u8 (c.toNat : Int)] W fun e w' => e = .returned (.bool (digitB c)) ∧ ∃ m, w' = W.drewN m :=
  (Lq.lex_digit.calls _ _ W (digit_f c)).mono fun e w' ⟨h, m⟩ => let ⟨j, hj⟩ := m; ⟨h, j, hj⟩
set_option maxHeartbeats 8000000 in
set_option maxRecDepth 100000 in
theorem scanner_next.calls (base g : Nat) (src : ByteArray) (k : Nat) (line : Int) (out : List S42) (w : World) (hS : Scn base w g src (k : Int) line out) (hk : k ≤ src.size) :
    Calls Tryd.prog 59 #[.pointer (some ⟨g, 0, none⟩)] w fun e w' => e = .returned (.func (.func (nextF (src.data.toList.drop k))) #[.pointer (some ⟨g, 0, none⟩)] #[]) ∧ ∃ m, w' = w.drewN m := by
  obtain ⟨v, hb, hg, hr⟩ := hS
  have hc0 : w.cell? ⟨g, 0, none⟩ = some (.string src) := (blk_cell hb 0).trans rfl
  have hc1 : w.cell? ⟨g, 1, none⟩ = some (.int .i64 k) := (blk_cell hb 1).trans rfl
  clear hr hb
  by_cases hlt : k < src.size
  · have hd : src.data.toList.drop k = src[k] :: src.data.toList.drop (k + 1) := drop_at src k hlt
    have hl : ((k : Int) == (src.size : Int)) = false := beq_eq_false_iff_ne.2 (by omega)
    have hlt' : (k : Int) < (src.size : Int) := by omega
    have hCL := letter_call src[k]
    have hCD := digit_call' src[k]
    have hX : ∀ n, nextF (src[k] :: src.data.toList.drop (k + 1)) = n → nextF (src.data.toList.drop k) = n := fun n h => by rw [hd]; exact h
    cases hL : letterB src[k] with
    | true =>
      have hN := Lib.hid (hX 80 (if_pos (Or.inl hL)))
      rw [hL] at hCL
      have HCL := Lib.hid hCL
      clear hCL hCD hX hd
      go_enter Tryd.func59, Tryd.ntmps59
      go_wp2
      repeat (go_quiet (fail); try go_wp2_with (go_at_call 61; refine (HCL.out _).mono ?_; rintro e w' ⟨rfl, m1, rfl⟩))
      go_ret
      rw [hN.out]
      exact ⟨rfl, _, rfl⟩
    | false =>
      rw [hL] at hCL
      have HCL := Lib.hid hCL
      clear hCL
      cases hD : digitB src[k] with
      | true =>
        have hN := Lib.hid (hX 80 (if_pos (Or.inr hD)))
        rw [hD] at hCD
        have HCD := Lib.hid hCD
        clear hCD hX hd
        go_enter Tryd.func59, Tryd.ntmps59
        go_wp2
        repeat (go_quiet (fail); try go_wp2_with (first | (go_at_call 61; refine (HCL.out _).mono ?_; rintro e w' ⟨rfl, m1, rfl⟩) | (go_at_call 79; refine (HCD.out _).mono ?_; rintro e w' ⟨rfl, m2, rfl⟩)))
        go_ret
        rw [hN.out]
        exact ⟨rfl, _, rfl⟩
      | false =>
        rw [hD] at hCD
        have HCD := Lib.hid hCD
        have hno : ¬ (letterB src[k] = true ∨ digitB src[k] = true) := by rw [hL, hD]; simp
        clear hCD
        by_cases h34 : src[k] = 34
        · have hN := Lib.hid (hX 81 ((if_neg hno).trans (if_pos h34)))
          have c1 : ((src[k].toNat : Int) == 34) = true := by rw [h34]; rfl
          clear hX hd hno h34
          go_enter Tryd.func59, Tryd.ntmps59
          go_wp2
          repeat (go_quiet (fail); try go_wp2_with (first | (go_at_call 61; refine (HCL.out _).mono ?_; rintro e w' ⟨rfl, m1, rfl⟩) | (go_at_call 79; refine (HCD.out _).mono ?_; rintro e w' ⟨rfl, m2, rfl⟩)))
          go_ret
          rw [hN.out]
          exact ⟨rfl, _, rfl⟩
        · have hc34 : ((src[k].toNat : Int) == 34) = false := beq_eq_false_iff_ne.2 (fun h => h34 (UInt8.toNat_inj.1 (show src[k].toNat = (34 : UInt8).toNat by have h1 : (34 : UInt8).toNat = 34 := rfl; have h2 : (src[k].toNat : Int) = 34 := h; omega)))
          by_cases h10 : src[k] = 10
          · have hN := Lib.hid (hX 82 ((if_neg hno).trans ((if_neg h34).trans (if_pos h10))))
            have c1 : ((src[k].toNat : Int) == 10) = true := by rw [h10]; rfl
            clear hX hd hno h34 h10
            go_enter Tryd.func59, Tryd.ntmps59
            go_wp2
            repeat (go_quiet (fail); try go_wp2_with (first | (go_at_call 61; refine (HCL.out _).mono ?_; rintro e w' ⟨rfl, m1, rfl⟩) | (go_at_call 79; refine (HCD.out _).mono ?_; rintro e w' ⟨rfl, m2, rfl⟩)))
            go_ret
            rw [hN.out]
            exact ⟨rfl, _, rfl⟩
          · have hN := Lib.hid (hX 83 ((if_neg hno).trans ((if_neg h34).trans (if_neg h10))))
            have c1 : ((src[k].toNat : Int) == 10) = false := beq_eq_false_iff_ne.2 (fun h => h10 (UInt8.toNat_inj.1 (show src[k].toNat = (10 : UInt8).toNat by have h1 : (10 : UInt8).toNat = 10 := rfl; have h2 : (src[k].toNat : Int) = 10 := h; omega)))
            clear hX hd hno h34 h10
            go_enter Tryd.func59, Tryd.ntmps59
            go_wp2
            repeat (go_quiet (fail); try go_wp2_with (first | (go_at_call 61; refine (HCL.out _).mono ?_; rintro e w' ⟨rfl, m1, rfl⟩) | (go_at_call 79; refine (HCD.out _).mono ?_; rintro e w' ⟨rfl, m2, rfl⟩)))
            go_ret
            rw [hN.out]
            exact ⟨rfl, _, rfl⟩
  · obtain rfl : k = src.size := by omega
    have hN := Lib.hid (show nextF (src.data.toList.drop src.size) = 78 by rw [List.drop_of_length_le (show src.data.toList.length ≤ src.size from Nat.le_refl _)]; rfl)
    go_enter Tryd.func59, Tryd.ntmps59
    go_wp2
    repeat (go_quiet (fail); try go_wp2)
    go_ret
    rw [hN.out]
    exact ⟨rfl, _, rfl⟩
end Go.Proofs.YteifffaonigidaaDoor.M
