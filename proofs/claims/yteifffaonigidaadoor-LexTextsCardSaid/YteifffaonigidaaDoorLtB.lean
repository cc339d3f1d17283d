/- The law LexTexts, walked: it returns true for every string, int and byte. -/
import Derived.Test.YteifffaonigidaaDoorLtA
import Derived.Test.YteifffaonigidaaDoorJnA
namespace Go.Proofs.YteifffaonigidaaDoor.M
open Go.RowKit Go.Proofs.YteifffaonigidaaDoorW.PrintWords Go.Proofs.YteifffaonigidaaDoorW.PrintLast
open Go.Proofs.YteifffaonigidaaDoor.Pure Go.Proofs.YteifffaonigidaaDoor.Pure.Lt
set_option linter.unusedVariables false
set_option linter.unusedSimpArgs false
set_option maxHeartbeats 8000000 in
set_option maxRecDepth 100000 in
theorem texts_big (a0 : ByteArray) (n c : Int) (w : World) (hLd : LaidP w) (hbig : a0.size > 300) :
    Calls Tryd.prog 8 #[.string a0, .int .i64 n, .int .u8 c] w fun e w' => e = .returned (.bool true) ∧ Below w.heap.size w w' := by
  have HSm := Lib.hid (taquinlaw09_small.calls 3 true w Lx.lex_small hLd)
  have d0 : decide ((300 : Int) < (a0.size : Int)) = true := decide_eq_true (by omega)
  go_enter Tryd.func8, Tryd.ntmps8
  go_wp2_with fail
  refine HSm.out.mono ?_
  rintro e w1 ⟨rfl, hB1⟩
  have HB1 := Lib.hid hB1
  clear hB1 HSm
  go_wp2_with fail
  go_ret
  exact ⟨rfl, HB1.out⟩
/-- The first token of a row of two. -/
theorem first_of_two {w : World} {A : Option Addr} {x y : S42} (h : Kd.C k42 w A [x, y].length [x, y]) : ∃ ad, A = some ad ∧ w.cell? ad = some (.int .i64 x.f0) ∧ w.cell? ⟨ad.block, ad.off + 1, none⟩ = some (.string x.f1) ∧ w.cell? ⟨ad.block, ad.off + 2, none⟩ = some (.int .i64 x.f2) ∧ w.cell? ⟨ad.block, ad.off + 3, none⟩ = some (.int .i64 x.f3) := by
  obtain ⟨ad, rfl, x0, x1, x2, x3⟩ := at_T42 h 0 (by omega) (by simp)
  have e : ad.add ((0 : Int).toNat * 4) = ad := by cases ad; simp [Addr.add]
  rw [e] at x0 x1 x2 x3
  exact ⟨ad, rfl, x0, x1, x2, x3⟩
set_option maxHeartbeats 16000000 in
set_option maxRecDepth 100000 in
theorem texts_small (a0 : ByteArray) (n c : Int) (w : World) (hLd : LaidP w) (h300 : a0.size ≤ 300) (hn0 : -9223372036854775808 ≤ n) (hn1 : n ≤ 9223372036854775807) (hc0 : 0 ≤ c) (hc1 : c ≤ 255) :
    Calls Tryd.prog 8 #[.string a0, .int .i64 n, .int .u8 c] w fun e w' => e = .returned (.bool true) ∧ Below w.heap.size w w' := by
  have HSm := Lib.hid (taquinlaw09_small.calls 3 true w Lx.lex_small hLd)
  have d0 : decide ((300 : Int) < (a0.size : Int)) = false := decide_eq_false (by omega)
  have hq : text_Quote.f a0 = some ⟨(quoteL a0.data.toList).toArray⟩ := by unfold text_Quote.f; rw [if_pos (by omega)]
  have HQ := Lib.hid (text_Quote.calls a0 _ · hq)
  have HLq := Lib.hid (lex_call _ _ _ _ (lex_quote a0 h300))
  obtain ⟨b, hb⟩ : ∃ b, wordB a0.data.toList = b := ⟨_, rfl⟩
  have hwf : lex_Word.f a0 = some b := by unfold lex_Word.f; rw [if_pos (by omega), hb]
  have HWd := Lib.hid (lex_Word.calls a0 b · hwf)
  have HL := Lib.hid hLd
  clear hq hwf hLd
  have HBw := Lib.hid hb
  clear hb
  go_enter Tryd.func8, Tryd.ntmps8
  go_wp2_with fail
  refine HSm.out.mono ?_
  rintro e w1 ⟨rfl, hB1⟩
  have HB1 := Lib.hid hB1
  have HL1 := Lib.hid (HL.out.below hB1)
  clear hB1 HSm HL
  go_wp2_with fail
  refine (HQ.out w1).mono ?_
  rintro e w2 ⟨rfl, hB2⟩
  have HB2 := Lib.hid (below_step HB1.out hB2)
  have HL2 := Lib.hid (HL1.out.below hB2)
  clear hB2 HL1 HB1 HQ
  go_wp2_with fail
  refine (HLq.out w2 HL2.out).mono ?_
  rintro e w3 ⟨A, cA, rfl, hcA, hC, hB3⟩
  have HB3 := Lib.hid (below_step HB2.out hB3)
  have HL3 := Lib.hid (HL2.out.below hB3)
  obtain ⟨ad, rfl, x0, x1, x2, x3⟩ := first_of_two hC
  simp only at x0 x1 x2 x3
  clear hB3 HL2 HB2 HLq hC
  go_upto_if 44 with (go_at_call 27; refine (HWd.out _).mono ?_; rintro e w' ⟨rfl, m, rfl⟩)
  go_cut [] (fun wc => Hid (Below w.heap.size w wc) ∧ Hid (LaidP wc))
  case first =>
    cases b with
    | false =>
      go_wp2
      go_meet
      case rel => exact ⟨Lib.hid (pw_below_drewN HB3.out m), Lib.hid (HL3.out.below (pw_below_drewN (Below.refl _ _) m))⟩
    | true =>
      have HLs := Lib.hid (lex_call _ _ _ _ (lex_word a0 h300 HBw.out))
      have HL4 := Lib.hid (HL3.out.below (pw_below_drewN (Below.refl _ _) m))
      clear x0 x1 x2 x3
      go_wp2_with fail
      refine (HLs.out _ HL4.out).mono ?_
      rintro e w5 ⟨A, cB, rfl, hcB, hC, hB5⟩
      have HB5 := Lib.hid (below_step (pw_below_drewN HB3.out m) hB5)
      have HL5 := Lib.hid (HL4.out.below hB5)
      obtain ⟨ae, rfl, x0, x1, x2, x3⟩ := first_of_two hC
      simp only at x0 x1 x2 x3
      clear hB5 HL4 HB3 HL3 HLs hC
      have hpf := part_fin ⟨c.toNat, by omega⟩
      simp only at hpf
      obtain ⟨C, hC⟩ : ∃ C, UInt8.ofNat c.toNat = C := ⟨_, rfl⟩
      rw [hC] at hpf
      have HPF := Lib.hid hpf
      clear hpf
      go_upto_region 13 with fail
      go_cut [14] (fun v14 wc => v14 = .bool (partB C) ∧ wc = w5)
      case first =>
        rcases HPF.out with ⟨k1, k2, kp⟩ | ⟨k1, kp⟩ | ⟨k1, k2, k3, kp⟩ | ⟨k1, kp⟩ | ⟨k1, k2, kp⟩ | ⟨k1, k2, kp⟩ | ⟨k1, k2, kp⟩ | ⟨k1, k2, kp⟩ | ⟨k1, kp⟩
        · have ge97 : decide ((97 : Int) ≤ c) = true := decide_eq_true (by omega)
          have le122 : decide (c ≤ (122 : Int)) = true := decide_eq_true (by omega)
          have KP := Lib.hid kp
          clear kp HPF HB5 HL5 HWd HBw
          go_wp2
          go_meet
          case rel => exact ⟨by rw [KP.out], by first | rfl | trivial⟩
        · have ge97 : decide ((97 : Int) ≤ c) = true := decide_eq_true (by omega)
          have le122 : decide (c ≤ (122 : Int)) = false := decide_eq_false (by omega)
          have ge65 : decide ((65 : Int) ≤ c) = true := decide_eq_true (by omega)
          have le90 : decide (c ≤ (90 : Int)) = false := decide_eq_false (by omega)
          have ge48 : decide ((48 : Int) ≤ c) = true := decide_eq_true (by omega)
          have le57 : decide (c ≤ (57 : Int)) = false := decide_eq_false (by omega)
          have eq95 : (c == 95) = false := beq_eq_false_iff_ne.2 (by omega)
          have eq45 : (c == 45) = false := beq_eq_false_iff_ne.2 (by omega)
          have KP := Lib.hid kp
          clear kp HPF HB5 HL5 HWd HBw
          go_wp2
          go_meet
          case rel => exact ⟨by rw [KP.out], by first | rfl | trivial⟩
        · have ge97 : decide ((97 : Int) ≤ c) = false := decide_eq_false (by omega)
          have ge65 : decide ((65 : Int) ≤ c) = true := decide_eq_true (by omega)
          have le90 : decide (c ≤ (90 : Int)) = false := decide_eq_false (by omega)
          have ge48 : decide ((48 : Int) ≤ c) = true := decide_eq_true (by omega)
          have le57 : decide (c ≤ (57 : Int)) = false := decide_eq_false (by omega)
          have eq95 : (c == 95) = false := beq_eq_false_iff_ne.2 (by omega)
          have eq45 : (c == 45) = false := beq_eq_false_iff_ne.2 (by omega)
          have KP := Lib.hid kp
          clear kp HPF HB5 HL5 HWd HBw
          go_wp2
          go_meet
          case rel => exact ⟨by rw [KP.out], by first | rfl | trivial⟩
        · have ge97 : decide ((97 : Int) ≤ c) = false := decide_eq_false (by omega)
          have ge65 : decide ((65 : Int) ≤ c) = true := decide_eq_true (by omega)
          have le90 : decide (c ≤ (90 : Int)) = false := decide_eq_false (by omega)
          have ge48 : decide ((48 : Int) ≤ c) = true := decide_eq_true (by omega)
          have le57 : decide (c ≤ (57 : Int)) = false := decide_eq_false (by omega)
          have eq95 : (c == 95) = true := beq_iff_eq.2 (by omega)
          have KP := Lib.hid kp
          clear kp HPF HB5 HL5 HWd HBw
          go_wp2
          go_meet
          case rel => exact ⟨by rw [KP.out], by first | rfl | trivial⟩
        · have ge97 : decide ((97 : Int) ≤ c) = false := decide_eq_false (by omega)
          have ge65 : decide ((65 : Int) ≤ c) = true := decide_eq_true (by omega)
          have le90 : decide (c ≤ (90 : Int)) = true := decide_eq_true (by omega)
          have KP := Lib.hid kp
          clear kp HPF HB5 HL5 HWd HBw
          go_wp2
          go_meet
          case rel => exact ⟨by rw [KP.out], by first | rfl | trivial⟩
        · have ge97 : decide ((97 : Int) ≤ c) = false := decide_eq_false (by omega)
          have ge65 : decide ((65 : Int) ≤ c) = false := decide_eq_false (by omega)
          have ge48 : decide ((48 : Int) ≤ c) = true := decide_eq_true (by omega)
          have le57 : decide (c ≤ (57 : Int)) = false := decide_eq_false (by omega)
          have eq95 : (c == 95) = false := beq_eq_false_iff_ne.2 (by omega)
          have eq45 : (c == 45) = false := beq_eq_false_iff_ne.2 (by omega)
          have KP := Lib.hid kp
          clear kp HPF HB5 HL5 HWd HBw
          go_wp2
          go_meet
          case rel => exact ⟨by rw [KP.out], by first | rfl | trivial⟩
        · have ge97 : decide ((97 : Int) ≤ c) = false := decide_eq_false (by omega)
          have ge65 : decide ((65 : Int) ≤ c) = false := decide_eq_false (by omega)
          have ge48 : decide ((48 : Int) ≤ c) = true := decide_eq_true (by omega)
          have le57 : decide (c ≤ (57 : Int)) = true := decide_eq_true (by omega)
          have KP := Lib.hid kp
          clear kp HPF HB5 HL5 HWd HBw
          go_wp2
          go_meet
          case rel => exact ⟨by rw [KP.out], by first | rfl | trivial⟩
        · have ge97 : decide ((97 : Int) ≤ c) = false := decide_eq_false (by omega)
          have ge65 : decide ((65 : Int) ≤ c) = false := decide_eq_false (by omega)
          have ge48 : decide ((48 : Int) ≤ c) = false := decide_eq_false (by omega)
          have eq95 : (c == 95) = false := beq_eq_false_iff_ne.2 (by omega)
          have eq45 : (c == 45) = false := beq_eq_false_iff_ne.2 (by omega)
          have KP := Lib.hid kp
          clear kp HPF HB5 HL5 HWd HBw
          go_wp2
          go_meet
          case rel => exact ⟨by rw [KP.out], by first | rfl | trivial⟩
        · have ge97 : decide ((97 : Int) ≤ c) = false := decide_eq_false (by omega)
          have ge65 : decide ((65 : Int) ≤ c) = false := decide_eq_false (by omega)
          have ge48 : decide ((48 : Int) ≤ c) = false := decide_eq_false (by omega)
          have eq95 : (c == 95) = false := beq_eq_false_iff_ne.2 (by omega)
          have eq45 : (c == 45) = true := beq_iff_eq.2 (by omega)
          have KP := Lib.hid kp
          clear kp HPF HB5 HL5 HWd HBw
          go_wp2
          go_meet
          case rel => exact ⟨by rw [KP.out], by first | rfl | trivial⟩
      case rest =>
        obtain ⟨rfl, rfl⟩ := hcut
        have hw2 : lex_Word.f (a0 ++ strOfNums [c]) = some (partB C && decide (a0.size < 20)) := by
          have e : (a0 ++ strOfNums [c]).data.toList = a0.data.toList ++ [C] := by
            rw [← hC]
            simp [strOfNums]
          have e2 : (a0 ++ strOfNums [c]).size = a0.size + 1 := by
            have : (strOfNums [c]).size = 1 := strOfNums_size _
            rw [ByteArray.size_append, this]
          unfold lex_Word.f
          rw [if_pos (by omega), e, word_more a0 C HBw.out]
        obtain ⟨p, hp⟩ : ∃ p, partB C = p := ⟨_, rfl⟩
        rw [hp] at hw2 ⊢
        have HW2 := Lib.hid (lex_Word.calls (a0 ++ strOfNums [c]) _ · hw2)
        have cs : (9223372036854775807 < a0.size + (strOfNums [c]).size) = False := eq_false (by
          have : (strOfNums [c]).size = 1 := strOfNums_size _
          omega)
        clear hw2 HPF hC hp
        go_wp2_with ((with_reducible refine gate_dst (N := 97) rfl ?_); (try (refine gate_guard (by rfl) ?_; dsimp only)); refine Kd.R_lit (Kd.int .u8) _ 5 ?hg (N := 97) ?hd (xs := ([c] : List Int)) (inner := [.int .u8 c]) (ok := fun _ => True) (okp := fun _ => True) ?hr ?hp (fun _ hk => hk) trivial (Below.refl _ _) (Nat.le_refl _) (by simp) ?_; (case hd => rfl); (case hg => rfl); (case hr => first | (go_simp; done) | (go_simp; rfl)); (case hp => exact (Reps.one (show Kd.M (Kd.int .u8) _ _ _ c [.int .u8 c] from rfl) (Reps.none _ _))); intro v190 w6 ho6 hb6 hg_ hnew_; clear hg_ hnew_; have HB6 := Lib.hid (below_step HB5.out hb6); have HL6 := Lib.hid (HL5.out.below hb6); have hcv7 := own_string (P := Tryd.prog) Tryd.underlying46 Tryd.underlying5 Tryd.underlying9 (Kd.own_of_R ho6); clear hb6 ho6 HB5 HL5)
        refine (HW2.out _).mono ?_
        rintro e w7 ⟨rfl, m2, rfl⟩
        clear HW2 cs hcv7 HWd HBw
        have HB7 := Lib.hid (pw_below_drewN HB6.out m2)
        have HL7 := Lib.hid (HL6.out.below (pw_below_drewN (Below.refl _ _) m2))
        clear HB6 HL6 x0 x1 x2 x3
        cases p with
        | false =>
          go_wp2
          go_meet
          case rel => exact ⟨HB7, HL7⟩
        | true =>
          by_cases h20 : a0.size < 20
          · have d20 : decide ((a0.size : Int) < 20) = true := decide_eq_true (by omega)
            have d20' : decide (a0.size < 20) = true := decide_eq_true h20
            rw [d20']
            go_wp2
            go_meet
            case rel => exact ⟨HB7, HL7⟩
          · have d20 : decide ((a0.size : Int) < 20) = false := decide_eq_false (by omega)
            have d20' : decide (a0.size < 20) = false := decide_eq_false h20
            rw [d20']
            go_wp2
            go_meet
            case rel => exact ⟨HB7, HL7⟩
  case rest =>
    obtain ⟨HB4, HL4⟩ := hcut
    clear x0 x1 x2 x3 HB3 HL3 HWd HBw
    have hdf : text_Decimal.f n = some ⟨(Lib.itoa n).toArray⟩ := by unfold text_Decimal.f; rw [if_pos ⟨hn0, hn1⟩]
    have HD := Lib.hid (fun W => text_Decimal.calls n _ W hdf)
    clear hdf
    by_cases hneg : n < 0
    · have HLd := Lib.hid (lex_call _ _ _ _ (lex_neg n hn0 hneg))
      have dn : decide (n < 0) = true := decide_eq_true hneg
      clear hneg
      go_wp2_with fail
      refine (HD.out _ HL4.out).mono ?_
      rintro e w5 ⟨rfl, hB5⟩
      have HB5 := Lib.hid (below_step HB4.out hB5)
      have HL5 := Lib.hid (HL4.out.below hB5)
      clear hB5 HB4 HL4 HD
      go_wp2_with fail
      refine (HLd.out _ HL5.out).mono ?_
      rintro e w6 ⟨A, cB, rfl, hcB, hC, hB6⟩
      have HB6 := Lib.hid (below_step HB5.out hB6)
      clear hB6 HB5 HL5 HLd hC
      go_wp2_with fail
      go_ret
      exact ⟨rfl, HB6.out⟩
    · have HLd := Lib.hid (lex_call _ _ _ _ (lex_dec n (by omega) hn1))
      have dn : decide (n < 0) = false := decide_eq_false hneg
      clear hneg
      go_wp2_with fail
      refine (HD.out _ HL4.out).mono ?_
      rintro e w5 ⟨rfl, hB5⟩
      have HB5 := Lib.hid (below_step HB4.out hB5)
      have HL5 := Lib.hid (HL4.out.below hB5)
      clear hB5 HB4 HL4
      go_wp2_with fail
      refine (HLd.out _ HL5.out).mono ?_
      rintro e w6 ⟨A, cB, rfl, hcB, hC, hB6⟩
      have HB6 := Lib.hid (below_step HB5.out hB6)
      have HL6 := Lib.hid (HL5.out.below hB6)
      obtain ⟨ae, rfl, x0, x1, x2, x3⟩ := first_of_two hC
      simp only at x0 x1 x2 x3
      have HKS : ∀ W : World, Below w6.heap.size w6 W → W.cell? ae = some (.int .i64 1) ∧ W.cell? ⟨ae.block, ae.off + 1, none⟩ = some (.string ⟨(Lib.itoa n).toArray⟩) ∧ W.cell? ⟨ae.block, ae.off + 2, none⟩ = some (.int .i64 n) ∧ W.cell? ⟨ae.block, ae.off + 3, none⟩ = some (.int .i64 1) := fun W hb =>
        ⟨(hb.cell (World.block_lt_of_cell? w6 _ x0)).trans x0, (hb.cell (World.block_lt_of_cell? w6 _ x1)).trans x1, (hb.cell (World.block_lt_of_cell? w6 _ x2)).trans x2, (hb.cell (World.block_lt_of_cell? w6 _ x3)).trans x3⟩
      have HKS := Lib.hid HKS
      have HD6 : ∀ W, Below w6.heap.size w6 W → Calls Tryd.prog 21 #[.int .i64 n] W fun e w' => e = .returned (.string ⟨(Lib.itoa n).toArray⟩) ∧ Below w6.heap.size w6 w' := fun W hb =>
        (HD.out W (HL6.out.below hb)).mono fun e w' ⟨he, hb'⟩ => ⟨he, hb.trans (hb'.mono hb.size)⟩
      have HD6 := Lib.hid HD6
      clear hB6 HB5 HL5 HLd hC HD HL6
      go_upto_region 21 with fail
      go_region_held3 (fun w' => w'.cell? ae = some (.int .i64 1) ∧ w'.cell? ⟨ae.block, ae.off + 1, none⟩ = some (.string ⟨(Lib.itoa n).toArray⟩) ∧ w'.cell? ⟨ae.block, ae.off + 2, none⟩ = some (.int .i64 n) ∧ w'.cell? ⟨ae.block, ae.off + 3, none⟩ = some (.int .i64 1))
        (first
          | exact ⟨x0, x1, x2, x3⟩
          | (refine HKS.out _ ?_; repeat (first | exact Below.refl _ _ | assumption | apply pw_below_drewN | apply below_drew1)))
        (first
          | (go_simp; go_at_call 21; with_reducible refine (HD6.out _ (by repeat (first | exact Below.refl _ _ | assumption | apply pw_below_drewN | apply below_drew1))).mono ?_; rintro e w7 ⟨rfl, hb7⟩))
      all_goals go_wp2
      all_goals go_ret
      all_goals exact ⟨rfl, below_step HB6.out hb7⟩
theorem texts_all (a0 : ByteArray) (n c : Int) (w : World) (hLd : LaidP w) (hn0 : -9223372036854775808 ≤ n) (hn1 : n ≤ 9223372036854775807) (hc0 : 0 ≤ c) (hc1 : c ≤ 255) :
    Calls Tryd.prog 8 #[.string a0, .int .i64 n, .int .u8 c] w fun e w' => e = .returned (.bool true) ∧ Below w.heap.size w w' := by
  by_cases h : a0.size > 300
  · exact texts_big a0 n c w hLd h
  · exact texts_small a0 n c w hLd (by omega) hn0 hn1 hc0 hc1
def taquinlaw09_LexTexts.f (k : Nat) (a0 : ByteArray) (a1 a2 : Int) : Option Bool := if (-9223372036854775808 ≤ a1 ∧ a1 ≤ 9223372036854775807) ∧ 0 ≤ a2 ∧ a2 ≤ 255 then some true else none
theorem taquinlaw09_LexTexts.calls (k : Nat) (a0 : ByteArray) (a1 a2 : Int) (r : Bool) (w : World) (h : taquinlaw09_LexTexts.f k a0 a1 a2 = some r) (hLd : LaidP w) :
    Calls Tryd.prog 8 #[.string a0, .int .i64 a1, .int .u8 a2] w fun e w' => e = .returned (.bool r) ∧ Below w.heap.size w w' := by
  unfold taquinlaw09_LexTexts.f at h
  by_cases hc : (-9223372036854775808 ≤ a1 ∧ a1 ≤ 9223372036854775807) ∧ 0 ≤ a2 ∧ a2 ≤ 255
  · rw [if_pos hc] at h
    obtain rfl := Option.some.inj h
    exact texts_all a0 a1 a2 w hLd hc.1.1 hc.1.2 hc.2.1 hc.2.2
  · rw [if_neg hc] at h
    exact absurd h (by simp)
end Go.Proofs.YteifffaonigidaaDoor.M
