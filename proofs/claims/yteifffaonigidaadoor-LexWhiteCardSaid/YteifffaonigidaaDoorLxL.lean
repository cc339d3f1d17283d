/- The contract of lex.Lex, for every argument of at most 1000000 bytes. -/
import Derived.Test.YteifffaonigidaaDoorLxK
namespace Go.Proofs.YteifffaonigidaaDoor.M
open Go.RowKit Go.Proofs.YteifffaonigidaaDoorW.PrintWords Go.Proofs.YteifffaonigidaaDoorW.PrintLast
open Go.Proofs.YteifffaonigidaaDoor
set_option linter.unusedVariables false
set_option linter.unusedSimpArgs false
set_option maxHeartbeats 8000000 in
set_option maxRecDepth 100000 in
theorem lex_Lex.calls (a0 : ByteArray) (r1 : List S42) (r2 r3 : Int) (w : World) (h : lex_Lex.f a0 = some (r1, r2, r3)) (hLd : LaidP w) :
    Calls Tryd.prog 25 #[.string a0] w fun e w' => ∃ v0_ : Value, e = .returned (.tuple #[v0_, .int .i64 r2, .int .i64 r3]) ∧ Kd.R k42 42 w' w.heap.size (fun _ => True) v0_ r1 ∧ Below w.heap.size w w' := by
  unfold lex_Lex.f at h
  by_cases hs0 : ¬ a0.size ≤ 1000000
  · rw [if_neg hs0] at h; exact absurd h (by simp)
  have hs := Decidable.not_not.1 hs0
  rw [if_pos hs] at h
  have h := Option.some.inj h
  by_cases hbig : (a0.size : Int) > 20000
  · rw [if_pos hbig] at h
    injection h with h1 h2
    injection h2 with h2 h3
    subst h1; subst h2; subst h3
    have hN := Kd.R_nil k42 42 w w.heap.size (fun _ => True)
    have c1 : decide ((20000 : Int) < (a0.size : Int)) = true := decide_eq_true hbig
    clear hLd
    go_enter Tryd.func25, Tryd.ntmps25
    go_wp2
    go_ret3
    exact ⟨_, rfl, hN, Below.refl _ _⟩
  · rw [if_neg hbig] at h
    have HR := Lib.hid h
    have HL := Lib.hid hLd
    have c1 : decide ((20000 : Int) < (a0.size : Int)) = false := decide_eq_false hbig
    have hN := Lib.hid (Scn.new w a0)
    have hBN : Below w.heap.size w (w.alloc (.cells #[.string a0, .int .i64 0, .int .i64 1, .slice none 0 0] 71)) := (Below.refl _ _).alloc (Nat.le_refl _) _
    have HBN := Lib.hid hBN
    clear h hLd hBN
    go_enter Tryd.func25, Tryd.ntmps25
    go_wp2_with fail
    go_loopg [] (a0.size + 1) (fun n wr => LexRel a0 w n wr)
    case atStart => exact ⟨0, 1, [], by omega, by simp, ⟨Int.le_refl _, by omega⟩, hN, HBN, Or.inl ⟨by omega, Nat.le_refl _, by simp, Lib.hid (by rw [List.drop_zero]; cases lexL a0.data.toList 1 <;> rfl)⟩⟩
    case round =>
      obtain ⟨k, line, out, hk, hout, hline, HS, HB, hst⟩ := hrel
      clear hN HBN
      obtain ⟨v, hb, hg, hr⟩ := HS.out
      obtain ⟨A, c, rfl, hcap, hrd⟩ := hr.2.reads
      have hC : Kd.C k42 wr A out.length out := ReadsRow.imp_ hrd (Below.refl _ _) (fun _ _ hp => k42.K_of_M hp)
      have hc3 : wr.cell? ⟨w.heap.size, 3, none⟩ = some (.slice A out.length c) := (blk_cell hb 3).trans rfl
      have hc2 : wr.cell? ⟨w.heap.size, 2, none⟩ = some (.int .i64 line) := (blk_cell hb 2).trans rfl
      have HRr := Lib.hid hr
      clear hb hr hrd
      rcases hst with ⟨rfl, hol, hlast, hrun⟩ | ⟨rfl, ⟨t, ht, ht4⟩, hfin⟩
      · have hS0 : ∀ m, Scn w.heap.size (wr.drewN m) w.heap.size a0 (k : Int) line out := fun m => HS.out.drewN m
        have hB0 : ∀ m, Below w.heap.size w (wr.drewN m) := fun m => pw_below_drewN HB.out m
        have hcond : (out.length = 0) ∨ (0 < out.length) := by omega
        rcases hcond with hz | hpos
        · have d1 : ((out.length : Int) == 0) = true := beq_iff_eq.2 (by omega)
          have HC := Lib.hid hC
          have HS0 := Lib.hid hS0
          have HB0 := Lib.hid hB0
          clear hC hout hlast hS0 hB0 HS HB HRr
          go_wp2
          repeat (go_quiet (fail); try go_wp2_with fail)
          refine (scanner_skip.calls w.heap.size w.heap.size a0 k line out _ (HS0.out _) hk hs (HB0.out nq).size).mono ?_
          rintro e w2 ⟨⟨v2, rfl⟩, k2, hk2, hd2, hS2, hB2⟩
          have HS2 := Lib.hid hS2
          have HB2 := Lib.hid ((HB0.out nq).trans hB2)
          have HST := Lib.hid (fun m3 => lex_step a0 k k2 line out w (w2.drewN m3) hs hk hk2 hd2 hol hline hrun.out (HS2.out.drewN m3) (pw_below_drewN HB2.out m3) HL.out)
          have HNX := Lib.hid (scanner_next.calls w.heap.size w.heap.size a0 k2 line out w2 HS2.out hk2)
          clear hS2 hB2 HS0 HB0 HC hd2 HS2 HB2
          have hfin : ∀ x, lexL a0.data.toList 1 = .error (x, line) → r1 = [] ∧ r2 = x ∧ r3 = line := by
            intro x hx
            have h := HR.out
            unfold lexR at h
            rw [hx] at h
            injection h with e1 e2
            injection e2 with e2 e3
            exact ⟨e1.symm, e2.symm, e3.symm⟩
          have HF := Lib.hid hfin
          clear hfin hrun
          rcases nextF_cases (a0.data.toList.drop k2) with hF | hF | hF | hF | hF
          all_goals rw [hF] at HST HNX
          all_goals clear hF
          all_goals go_wp2_with fail
          all_goals refine HNX.out.mono ?_
          all_goals rintro e w3 ⟨rfl, m3, rfl⟩
          all_goals go_wp2_with fail
          all_goals refine (HST.out m3).mono ?_
          all_goals rintro e w4 hpost
          all_goals clear HST HNX
          all_goals rcases hpost with ⟨rfl, n', hn', hrel⟩ | ⟨x, hx, rfl, herr, hS4, hB4⟩
          all_goals first
            | (have HRel := Lib.hid hrel
               clear hrel
               go_wp2_with fail
               go_roundg n'
               case measure => exact hn'
               case rel => exact HRel.out)
            | skip
          all_goals
            obtain ⟨q1, q2, q3⟩ := HF.out x herr
            subst q1; subst q2; subst q3
            obtain ⟨v4, hb4, _, _⟩ := hS4
            have hc4 : w4.cell? ⟨w.heap.size, 2, none⟩ = some (.int .i64 r3) := (blk_cell hb4 2).trans rfl
            have hx' : (r2 != 0) = true := bne_iff_ne.2 hx
            have HB4 := Lib.hid hB4
            have HNil := Lib.hid (Kd.R_nil k42 42 w w.heap.size (fun _ => True))
            clear hb4 hB4 hx
            go_wp2
            repeat (go_quiet (fail); try go_wp2_with fail)
            go_ret3
            exact ⟨_, rfl, Kd.R_nil _ _ _ _ _, pw_below_drewN HB4.out _⟩
        · obtain ⟨ad, rfl, hk0, _, _, _⟩ := at_T42 hC ((out.length - 1 : Nat) : Int) (by omega) (by omega)
          have hrd4 : (rd_T42 out ((out.length - 1 : Nat) : Int)).f0 ≠ 4 := by
            unfold rd_T42
            rw [Int.toNat_natCast, List.getD_eq_getElem?_getD, List.getElem?_eq_getElem (by omega)]
            exact hlast _ (by rw [List.getLast?_eq_getElem?, List.getElem?_eq_getElem (by omega)]; rfl)
          rw [Int.toNat_natCast] at hk0
          obtain ⟨kd, hkd⟩ : ∃ x, (rd_T42 out ((out.length - 1 : Nat) : Int)).f0 = x := ⟨_, rfl⟩
          rw [hkd] at hk0 hrd4
          have d0 : (kd != 4) = true := bne_iff_ne.2 hrd4
          have d1 : ((out.length : Int) == 0) = false := beq_eq_false_iff_ne.2 (by omega)
          have d2 : IntKind.i64.wrap ((out.length : Int) - 1) = ((out.length - 1 : Nat) : Int) := by rw [IntWalk.i64_in _ (by omega)]; omega
          have d3 : (0 : Int) ≤ ((out.length - 1 : Nat) : Int) := by omega
          have d4 : ((out.length - 1 : Nat) : Int) < (out.length : Int) := by omega
          have d5 : ((out.length - 1 : Nat) : Int).toNat = out.length - 1 := by omega
          have HC := Lib.hid hC
          have HS0 := Lib.hid hS0
          have HB0 := Lib.hid hB0
          clear hC hrd4 hkd hout hlast hS0 hB0 HS HB HRr
          go_wp2
          repeat (go_quiet (fail); try go_wp2_with fail)
          refine (scanner_skip.calls w.heap.size w.heap.size a0 k line out _ (HS0.out _) hk hs (HB0.out nq).size).mono ?_
          rintro e w2 ⟨⟨v2, rfl⟩, k2, hk2, hd2, hS2, hB2⟩
          have HS2 := Lib.hid hS2
          have HB2 := Lib.hid ((HB0.out nq).trans hB2)
          have HST := Lib.hid (fun m3 => lex_step a0 k k2 line out w (w2.drewN m3) hs hk hk2 hd2 hol hline hrun.out (HS2.out.drewN m3) (pw_below_drewN HB2.out m3) HL.out)
          have HNX := Lib.hid (scanner_next.calls w.heap.size w.heap.size a0 k2 line out w2 HS2.out hk2)
          clear hS2 hB2 HS0 HB0 HC hd2 HS2 HB2
          have hfin : ∀ x, lexL a0.data.toList 1 = .error (x, line) → r1 = [] ∧ r2 = x ∧ r3 = line := by
            intro x hx
            have h := HR.out
            unfold lexR at h
            rw [hx] at h
            injection h with e1 e2
            injection e2 with e2 e3
            exact ⟨e1.symm, e2.symm, e3.symm⟩
          have HF := Lib.hid hfin
          clear hfin hrun
          rcases nextF_cases (a0.data.toList.drop k2) with hF | hF | hF | hF | hF
          all_goals rw [hF] at HST HNX
          all_goals clear hF
          all_goals go_wp2_with fail
          all_goals refine HNX.out.mono ?_
          all_goals rintro e w3 ⟨rfl, m3, rfl⟩
          all_goals go_wp2_with fail
          all_goals refine (HST.out m3).mono ?_
          all_goals rintro e w4 hpost
          all_goals clear HST HNX
          all_goals rcases hpost with ⟨rfl, n', hn', hrel⟩ | ⟨x, hx, rfl, herr, hS4, hB4⟩
          all_goals first
            | (have HRel := Lib.hid hrel
               clear hrel
               go_wp2_with fail
               go_roundg n'
               case measure => exact hn'
               case rel => exact HRel.out)
            | skip
          all_goals
            obtain ⟨q1, q2, q3⟩ := HF.out x herr
            subst q1; subst q2; subst q3
            obtain ⟨v4, hb4, _, _⟩ := hS4
            have hc4 : w4.cell? ⟨w.heap.size, 2, none⟩ = some (.int .i64 r3) := (blk_cell hb4 2).trans rfl
            have hx' : (r2 != 0) = true := bne_iff_ne.2 hx
            have HB4 := Lib.hid hB4
            have HNil := Lib.hid (Kd.R_nil k42 42 w w.heap.size (fun _ => True))
            clear hb4 hB4 hx
            go_wp2
            repeat (go_quiet (fail); try go_wp2_with fail)
            go_ret3
            exact ⟨_, rfl, Kd.R_nil _ _ _ _ _, pw_below_drewN HB4.out _⟩
      · have h := HR.out
        unfold lexR at h
        rw [hfin.out] at h
        injection h with e1 e2
        injection e2 with e2 e3
        subst e1; subst e2; subst e3
        have hpos : 0 < out.length := by
          cases out with
          | nil => simp at ht
          | cons x l => simp
        obtain ⟨ad, rfl, hk0, _, _, _⟩ := at_T42 hC ((out.length - 1 : Nat) : Int) (by omega) (by omega)
        have hrd4 : (rd_T42 out ((out.length - 1 : Nat) : Int)).f0 = 4 := by
          unfold rd_T42
          rw [Int.toNat_natCast]
          rw [List.getLast?_eq_getElem?] at ht
          rw [List.getD_eq_getElem?_getD, ht]
          exact ht4
        rw [hrd4, Int.toNat_natCast] at hk0
        have d1 : ((out.length : Int) == 0) = false := beq_eq_false_iff_ne.2 (by omega)
        have d2 : IntKind.i64.wrap ((out.length : Int) - 1) = ((out.length - 1 : Nat) : Int) := by rw [IntWalk.i64_in _ (by omega)]; omega
        have d3 : (0 : Int) ≤ ((out.length - 1 : Nat) : Int) := by omega
        have d4 : ((out.length - 1 : Nat) : Int) < (out.length : Int) := by omega
        have d5 : ((out.length - 1 : Nat) : Int).toNat = out.length - 1 := by omega
        have HC := Lib.hid hC
        clear hC hrd4 ht ht4 hout hline
        go_wp2
        repeat (go_quiet (fail); try go_wp2)
        go_ret3
        exact ⟨_, rfl, Kd.R_mono (Kd.R_below HRr.out (pw_below_drewN (Below.refl _ _) _)) (fun _ _ => trivial), pw_below_drewN HB.out _⟩
end Go.Proofs.YteifffaonigidaaDoor.M
