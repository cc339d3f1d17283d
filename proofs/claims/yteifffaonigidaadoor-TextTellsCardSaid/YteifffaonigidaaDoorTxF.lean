/- The contract of text.Pattern, for every pattern of at most 60000 bytes and every string: it reports whether the parts match. -/
import Derived.Test.YteifffaonigidaaDoorMx0
import Derived.Test.YteifffaonigidaaDoorTxP
import Derived.Test.YteifffaonigidaaDoorTxQ
import Derived.WalkMore
import Derived.Deep.LoopGhost
namespace Go.Proofs.YteifffaonigidaaDoor.M
open Go.RowKit Go.Proofs.YteifffaonigidaaDoorW.PrintWords Go.Proofs.YteifffaonigidaaDoorW.PrintLast
open Go.Proofs.YteifffaonigidaaDoor.PatPlain Go.Proofs.YteifffaonigidaaDoor.T
set_option linter.unusedVariables false
set_option linter.unusedSimpArgs false

def text_Pattern.f (a0 : ByteArray) (a1 : ByteArray) : Option (Bool) := if a0.size ≤ 60000 ∧ a1.size ≤ 9223372036854775000 then some (M (parts a0.data.toList) a1.data.toList) else none

theorem patL_zero (p s : ByteArray) (i st again j : Nat) : patL 0 p s i st again j = none := rfl
set_option maxHeartbeats 2000000 in
theorem pat_walk (p s : ByteArray) (r : Bool) (K : Nat) (w : World) (hp : p.size ≤ 60000) (hs : s.size ≤ 9223372036854775000) (h : patL K p s 0 0 0 0 = some r) :
    Calls Tryd.prog 18 #[.string p, .string s] w fun e w' => e = .returned (.bool r) ∧ Below w.heap.size w w' := by
  have H := Lib.hid h
  clear h
  go_enter Tryd.func18, Tryd.ntmps18
  go_wp2
  go_step3
  go_wp2
  go_step3
  go_wp2
  go_loopg [5, 6, 7, 8, 9, 10] K (fun kq v5 v6 v7 v8 v9 v10 wr => ∃ (i st again j : Nat) (t : Int), v5 = .int .i64 i ∧ v6 = .int .i64 t ∧ v7 = .int .i64 again ∧ v8 = .int .i64 j ∧ Hid (t + 1 = (st : Int)) ∧
    i ≤ p.size ∧ st ≤ p.size ∧ again ≤ s.size ∧ j ≤ s.size ∧ Hid (patL kq p s i st again j = some r) ∧ Hid (Below w.heap.size w wr))
  case atStart => exact ⟨0, 0, 0, 0, -1, rfl, rfl, rfl, rfl, Lib.hid rfl, Nat.zero_le _, Nat.zero_le _, Nat.zero_le _, Nat.zero_le _, H, Lib.hid (Below.refl _ _)⟩
  case round =>
    clear H
    obtain ⟨i, st, again, j, t, rfl, rfl, rfl, rfl, ht, hi1, hst1, hag1, hj1, hA, hB⟩ := hrel
    have ht0 : -1 ≤ t := by have := ht.out; omega
    have ht1 : t ≤ 60000 := by have := ht.out; omega
    have HA := hA.out
    clear hA
    cases gk with
    | zero => exact absurd HA (by rw [patL_zero]; simp)
    | succ gk =>
      simp only [patL] at HA
      by_cases hi : i < p.size
      · have c1 : decide ((i : Int) < (p.size : Int)) = true := decide_eq_true (by omega)
        have c1' : ((i : Int) == (p.size : Int)) = false := beq_eq_false_iff_ne.2 (by omega)
        rw [dif_pos hi] at HA
        by_cases h42 : p[i] = 42
        · rw [if_pos h42] at HA
          have hA := Lib.hid HA
          clear HA
          have c2 : ((p[i].toNat : Int) == 42) = true := by rw [h42]; rfl
          clear h42
          go_wp2
          go_roundg gk
          case measure => omega
          case rel => exact ⟨i + 1, i + 1, j, j, i, by go_num, rfl, rfl, rfl, Lib.hid (by omega), by omega, by omega, by omega, by omega, hA, hB⟩
        · rw [if_neg h42] at HA
          have c2 : ((p[i].toNat : Int) == 42) = false := by
            rw [beq_eq_false_iff_ne]
            intro hh
            exact h42 (UInt8.toNat_inj.1 (by show _ = 42; omega))
          by_cases hj : j < s.size
          · have c3 : decide ((j : Int) < (s.size : Int)) = true := decide_eq_true (by omega)
            rw [dif_pos hj] at HA
            have hone := one_at p i s[j] 130000 hp hi h42 (Nat.le_refl _)
            have hnx := P_next p i hi
            generalize part1 p[i] (p.data.toList.drop (i + 1)) = q at *
            have hC := Lib.hid (fun wx => text_one.calls 130000 p (i : Int) (s[j].toNat : Int) _ _ wx hone)
            clear hone h42
            by_cases hf : fits q.1 s[j] = true
            · rw [if_pos hf] at HA
              have hA := Lib.hid HA
              have hf' := Lib.hid hf
              clear HA hf
              go_wp2_with fail
              refine (hC.out _).mono ?_
              rw [hf'.out]
              rintro e w1 ⟨rfl, hb1⟩
              have hB1 := Lib.hid (hB.out.trans (hb1.mono hB.out.size))
              clear hb1 hC hB
              go_wp2_with fail
              go_roundg gk
              case measure => omega
              case rel => exact ⟨i + 1 + q.2, st, again, j + 1, t, by go_num, rfl, rfl, by go_num, ht, by omega, by omega, by omega, by omega, hA, hB1⟩
            · rw [if_neg hf] at HA
              have hf' := Lib.hid (show fits q.1 s[j] = false by simpa using hf)
              clear hf
              by_cases hb : st = 0 ∨ again = s.size
              · rw [if_pos hb] at HA
                have hrf := Lib.hid (Option.some.inj HA)
                clear HA
                by_cases h0 : st = 0
                · have c9 : decide (t < 0) = true := decide_eq_true (by have := ht.out; omega)
                  clear hb h0
                  go_wp2_with fail
                  refine (hC.out _).mono ?_
                  rw [hf'.out]
                  rintro e w1 ⟨rfl, hb1⟩
                  have hB1 := Lib.hid (hB.out.trans (hb1.mono hB.out.size))
                  clear hb1 hC hB
                  go_wp2_with fail
                  rw [Exit.noGoto_ret]
                  go_ret
                  exact ⟨by rw [← hrf.out]; rfl, hB1.out⟩
                · have c9 : decide (t < 0) = false := decide_eq_false (by have := ht.out; omega)
                  have c10 : ((again : Int) == (s.size : Int)) = true := beq_iff_eq.2 (by omega)
                  clear hb h0
                  go_wp2_with fail
                  refine (hC.out _).mono ?_
                  rw [hf'.out]
                  rintro e w1 ⟨rfl, hb1⟩
                  have hB1 := Lib.hid (hB.out.trans (hb1.mono hB.out.size))
                  clear hb1 hC hB
                  go_wp2_with fail
                  rw [Exit.noGoto_ret]
                  go_ret
                  exact ⟨by rw [← hrf.out]; rfl, hB1.out⟩
              · rw [if_neg hb] at HA
                have hA := Lib.hid HA
                clear HA
                have c9 : decide (t < 0) = false := decide_eq_false (by have := ht.out; omega)
                have c10 : ((again : Int) == (s.size : Int)) = false := beq_eq_false_iff_ne.2 (by omega)
                have hag : again < s.size := by omega
                have hst : (st : Int) = t + 1 := by have := ht.out; omega
                have hstl : st ≤ p.size := by have := ht.out; omega
                have hst' := Lib.hid hst
                clear hb hst
                go_wp2_with fail
                refine (hC.out _).mono ?_
                rw [hf'.out]
                rintro e w1 ⟨rfl, hb1⟩
                have hB1 := Lib.hid (hB.out.trans (hb1.mono hB.out.size))
                clear hb1 hC hB
                go_wp2_with fail
                go_roundg gk
                case measure => omega
                case rel => exact ⟨st, st, again + 1, again + 1, t, by rw [hst'.out], rfl, by go_num, by go_num, ht, by omega, by omega, by omega, by omega, hA, hB1⟩
          · have c3 : decide ((j : Int) < (s.size : Int)) = false := decide_eq_false (by omega)
            rw [dif_neg hj] at HA
            clear h42
            by_cases hb : st = 0 ∨ again = s.size
            · rw [if_pos hb] at HA
              have hrf := Lib.hid (Option.some.inj HA)
              clear HA
              by_cases h0 : st = 0
              · have c9 : decide (t < 0) = true := decide_eq_true (by have := ht.out; omega)
                clear hb h0
                go_wp2_with fail
                rw [Exit.noGoto_ret]
                go_ret
                exact ⟨by rw [← hrf.out]; rfl, hB.out⟩
              · have c9 : decide (t < 0) = false := decide_eq_false (by have := ht.out; omega)
                have c10 : ((again : Int) == (s.size : Int)) = true := beq_iff_eq.2 (by omega)
                clear hb h0
                go_wp2_with fail
                rw [Exit.noGoto_ret]
                go_ret
                exact ⟨by rw [← hrf.out]; rfl, hB.out⟩
            · rw [if_neg hb] at HA
              have hA := Lib.hid HA
              clear HA
              have c9 : decide (t < 0) = false := decide_eq_false (by have := ht.out; omega)
              have c10 : ((again : Int) == (s.size : Int)) = false := beq_eq_false_iff_ne.2 (by omega)
              have hag : again < s.size := by omega
              have hst : (st : Int) = t + 1 := by have := ht.out; omega
              have hstl : st ≤ p.size := by have := ht.out; omega
              have hst' := Lib.hid hst
              clear hb hst
              go_wp2_with fail
              go_roundg gk
              case measure => omega
              case rel => exact ⟨st, st, again + 1, again + 1, t, by rw [hst'.out], rfl, by go_num, by go_num, ht, by omega, by omega, by omega, by omega, hA, hB⟩
      · have c1 : decide ((i : Int) < (p.size : Int)) = false := decide_eq_false (by omega)
        have c1' : ((i : Int) == (p.size : Int)) = true := beq_iff_eq.2 (by omega)
        rw [dif_neg hi] at HA
        by_cases hj : j = s.size
        · rw [if_pos hj] at HA
          have hrf := Lib.hid (Option.some.inj HA)
          clear HA
          have c4 : ((j : Int) == (s.size : Int)) = true := beq_iff_eq.2 (by omega)
          clear hj
          go_wp2_with fail
          rw [Exit.noGoto_ret]
          go_ret
          exact ⟨by rw [← hrf.out]; rfl, hB.out⟩
        · rw [if_neg hj] at HA
          have c4 : ((j : Int) == (s.size : Int)) = false := beq_eq_false_iff_ne.2 (by omega)
          clear hj
          by_cases hb : st = 0 ∨ again = s.size
          · rw [if_pos hb] at HA
            have hrf := Lib.hid (Option.some.inj HA)
            clear HA
            by_cases h0 : st = 0
            · have c9 : decide (t < 0) = true := decide_eq_true (by have := ht.out; omega)
              clear hb h0
              go_wp2_with fail
              rw [Exit.noGoto_ret]
              go_ret
              exact ⟨by rw [← hrf.out]; rfl, hB.out⟩
            · have c9 : decide (t < 0) = false := decide_eq_false (by have := ht.out; omega)
              have c10 : ((again : Int) == (s.size : Int)) = true := beq_iff_eq.2 (by omega)
              clear hb h0
              go_wp2_with fail
              rw [Exit.noGoto_ret]
              go_ret
              exact ⟨by rw [← hrf.out]; rfl, hB.out⟩
          · rw [if_neg hb] at HA
            have hA := Lib.hid HA
            clear HA
            have c9 : decide (t < 0) = false := decide_eq_false (by have := ht.out; omega)
            have c10 : ((again : Int) == (s.size : Int)) = false := beq_eq_false_iff_ne.2 (by omega)
            have hag : again < s.size := by omega
            have hst : (st : Int) = t + 1 := by have := ht.out; omega
            have hstl : st ≤ p.size := by have := ht.out; omega
            have hst' := Lib.hid hst
            clear hb hst
            go_wp2_with fail
            go_roundg gk
            case measure => omega
            case rel => exact ⟨st, st, again + 1, again + 1, t, by rw [hst'.out], rfl, by go_num, by go_num, ht, by omega, by omega, by omega, by omega, hA, hB⟩

theorem text_Pattern.calls (a0 : ByteArray) (a1 : ByteArray) (r : Bool) (w : World) (h : text_Pattern.f a0 a1 = some r) :
    Calls Tryd.prog 18 #[.string a0, .string a1] w fun e w' => e = .returned (.bool r) ∧ Below w.heap.size w w' := by
  unfold text_Pattern.f at h
  by_cases hs : a0.size ≤ 60000 ∧ a1.size ≤ 9223372036854775000
  · rw [if_pos hs] at h
    obtain rfl := Option.some.inj h
    obtain ⟨k, hk⟩ := pat_at a0 a1
    exact pat_walk a0 a1 _ k w hs.1 hs.2 hk
  · rw [if_neg hs] at h
    exact absurd h (by simp)
end Go.Proofs.YteifffaonigidaaDoor.M
