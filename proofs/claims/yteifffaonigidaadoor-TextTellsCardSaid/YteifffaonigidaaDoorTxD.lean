/- The contract of text.Unquote, for every argument that is short enough for a Builder (2^44 bytes). -/
import Derived.Test.YteifffaonigidaaDoorTxC
import Derived.Deep.RegionWith
import Derived.IntWalk
namespace Go.Proofs.YteifffaonigidaaDoor.M
open Go.RowKit Go.Proofs.YteifffaonigidaaDoorW.PrintWords Go.Proofs.YteifffaonigidaaDoorW.PrintLast
set_option linter.unusedVariables false
set_option linter.unusedSimpArgs false

theorem at_list (s : ByteArray) (i : Nat) (h : i < s.size) : s.data.toList[i]'(by simpa using h) = s[i] := rfl
/-- What is written when byte i is to be read next. -/
def Un (w : World) (a0 : ByteArray) (i : Nat) (wr : World) : Prop :=
  ∃ out, Bld w out wr ∧ out ++ ud (innerOf a0.data.toList i) = ud (innerOf a0.data.toList 1) ∧ out.length ≤ i
theorem Un.drew {w : World} {a0 : ByteArray} {i : Nat} {wr : World} (h : Un w a0 i wr) : Un w a0 i wr.drew := by
  obtain ⟨out, hb, he, hl⟩ := h
  exact ⟨out, ⟨hb.is, hb.below.drew⟩, he, hl⟩
theorem hxE (a b : UInt8) : IntKind.u8.wrap (Go.bits .or .i64 (IntKind.i64.wrap (Lib.indexByte [48, 49, 50, 51, 52, 53, 54, 55, 56, 57, 97, 98, 99, 100, 101, 102] a * 16)) (Lib.indexByte [48, 49, 50, 51, 52, 53, 54, 55, 56, 57, 97, 98, 99, 100, 101, 102] b)) = ((hx a b).toNat : Int) := hx_at a b
theorem Un.step {w : World} {a0 : ByteArray} {i j : Nat} {wr : World} {c : UInt8} (h : Un w a0 i wr) (hs : a0.size ≤ 17592186044416) (hi : i < a0.size) (hj : i < j) (hu : ud (innerOf a0.data.toList i) = c :: ud (innerOf a0.data.toList j)) (x : Int) (hx : x = c.toNat) :
    Calls Tryd.prog 48 #[.pointer (some ⟨w.heap.size, 0, none⟩), .int .u8 x] wr fun e w' => e = .returned .nilIface ∧ Hid (Un w a0 j w') := by
  obtain ⟨out, hb, he, hl⟩ := h
  refine (hb.byte c x hx (by omega)).mono fun e w' ⟨h1, h2⟩ => ⟨h1, Lib.hid ⟨out ++ [c], h2, ?_, by simp; omega⟩⟩
  rw [← he, hu]
  simp
theorem Un.finish {w : World} {a0 : ByteArray} {i : Nat} {wr : World} (h : Un w a0 i wr) (hi : a0.size ≤ i + 1) : Bld w (ud (innerOf a0.data.toList 1)) wr := by
  obtain ⟨out, hb, he, hl⟩ := h
  rw [inner_nil _ i (by simpa using hi), ud0, List.append_nil] at he
  exact he ▸ hb

theorem builderF_below {B b : Nat} {bs : List Value} {W W' : World} (h : Lib.IsBuilderF 54 5 B b bs W) (hb : Below W.heap.size W W') : Lib.IsBuilderF 54 5 B b bs W' := by
  have go : ∀ p, Lib.BuilderAtF 54 5 B b p bs W → Lib.BuilderAtF 54 5 B b p bs W' := fun p h => by
    have hlt := h.lt
    obtain ⟨hB, v, hv, hown, hne⟩ := h
    exact ⟨hB, v, (hb.block b hlt).trans hv, hown.kept (row := none) ⟨hb.os, hb.tape, hb.output, hb.size, fun k hk _ => hb.block k hk⟩ (Classical.em _), hne⟩
  exact h.imp (go _) (go _)

/-- The end of Unquote: the text is read, quoted, compared, and read again. -/
theorem unq_end (t : List UInt8) (w wr : World) (h : Bld w t wr) :
    Calls Tryd.prog 49 #[.pointer (some ⟨w.heap.size, 0, none⟩)] wr fun e w' => e = .returned (.string ⟨t.toArray⟩) ∧ Hid (Lib.IsBuilderF 54 5 w.heap.size w.heap.size (Lib.byteCells t) w' ∧ Below w.heap.size w w') :=
  (Tryd.Builder_String_any_f w.heap.size w.heap.size t wr (Lib.IsBuilderF.of h.is) h.below.size).mono fun e w' ⟨he, h1, h2⟩ => ⟨he, Lib.hid ⟨h1, h.below.trans h2⟩⟩
theorem unq_quote (t : List UInt8) (w w1 : World) (ht : t.length ≤ 17592186044416) (h : Lib.IsBuilderF 54 5 w.heap.size w.heap.size (Lib.byteCells t) w1 ∧ Below w.heap.size w w1) :
    Calls Tryd.prog 23 #[.string ⟨t.toArray⟩] w1 fun e w' => e = .returned (.string ⟨(quoteL t).toArray⟩) ∧ Hid (Lib.IsBuilderF 54 5 w.heap.size w.heap.size (Lib.byteCells t) w' ∧ Below w.heap.size w w') :=
  (text_Quote.calls ⟨t.toArray⟩ ⟨(quoteL t).toArray⟩ w1 (by unfold text_Quote.f; rw [if_pos (by simpa [ByteArray.size] using ht)])).mono fun e w' ⟨he, h1⟩ => ⟨he, Lib.hid ⟨builderF_below h.1 h1, h.2.trans (h1.mono h.2.size)⟩⟩
theorem unq_again (t : List UInt8) (w w1 : World) (h : Lib.IsBuilderF 54 5 w.heap.size w.heap.size (Lib.byteCells t) w1 ∧ Below w.heap.size w w1) :
    Calls Tryd.prog 49 #[.pointer (some ⟨w.heap.size, 0, none⟩)] w1 fun e w' => e = .returned (.string ⟨t.toArray⟩) ∧ Below w.heap.size w w' :=
  (Tryd.Builder_String_any_f w.heap.size w.heap.size t w1 h.1 h.2.size).mono fun e w' ⟨he, h1, h2⟩ => ⟨he, h.2.trans h2⟩
theorem ud_len : ∀ (n : Nat) (l : List UInt8), l.length ≤ n → (ud l).length ≤ l.length
  | _, [], _ => by rw [ud0]; exact Nat.le_refl _
  | 0, c :: r, h => by simp at h
  | n + 1, c :: r, h => by
    simp only [List.length_cons] at h
    by_cases hc : c = 92
    · subst hc
      cases r with
      | nil => rw [ud2]; exact Nat.le_refl _
      | cons d r =>
        simp only [List.length_cons] at h
        by_cases h1 : d = 110
        · subst h1
          rw [ud3]
          have := ud_len n r (by omega)
          simp only [List.length_cons]
          omega
        · by_cases h2 : d = 120
          · subst h2
            cases r with
            | nil => rw [ud5]; simp
            | cons a r =>
              cases r with
              | nil => rw [ud6]; have := ud_len n [a] (by simp at h ⊢; omega); simp only [List.length_cons] at this ⊢; omega
              | cons b r =>
                rw [ud4]
                simp only [List.length_cons] at h
                have := ud_len n r (by omega)
                simp only [List.length_cons]
                omega
          · rw [ud7 _ _ h1 h2]
            have := ud_len n r (by omega)
            simp only [List.length_cons]
            omega
    · rw [ud1 _ _ hc]
      have := ud_len n r (by omega)
      simp only [List.length_cons]
      omega

set_option maxHeartbeats 1600000 in
theorem text_Unquote.calls (a0 : ByteArray) (r1 : ByteArray) (r2 : Bool) (w : World) (h : text_Unquote.f a0 = some (r1, r2)) :
    Calls Tryd.prog 22 #[.string a0] w fun e w' => e = .returned (.tuple #[.string r1, .bool r2]) ∧ Below w.heap.size w w' := by
  unfold text_Unquote.f at h
  by_cases hs : a0.size ≤ 17592186044416
  · rw [if_pos hs] at h
    obtain ⟨h1, h2⟩ := Prod.mk.inj (Option.some.inj h)
    clear h
    have H1 := Lib.hid h1
    have H2 := Lib.hid h2
    clear h1 h2
    go_enter Tryd.func22, Tryd.ntmps22
    have hN := Lib.hid (show Un w a0 1 (w.alloc (.cells #[.pointer none, .slice none 0 0] 54)) from ⟨[], Bld.new w, rfl, by simp⟩)
    go_wp2
    go_loopw [5] (fun v5 wr => ∃ i : Nat, 1 ≤ i ∧ v5 = .int .i64 i ∧ Hid (Un w a0 i wr)) (fun i _ => a0.size - (intOf i).toNat)
    case atStart => exact ⟨1, Nat.le_refl _, rfl, hN⟩
    case round =>
      obtain ⟨i, hi1, rfl, hU⟩ := hrel
      clear hN
      by_cases hlt : i + 1 < a0.size
      · have hlt' : (i : Int) < (a0.size : Int) - 1 := by omega
        have hl : i + 1 < a0.data.toList.length := by simpa using hlt
        by_cases hc : a0[i] = 92
        · have c1 : ((a0[i].toNat : Int) != 92) = false := by rw [hc]; rfl
          by_cases hn : i + 2 < a0.size
          · have hn' : (i : Int) + 1 < (a0.size : Int) - 1 := by omega
            have hl2 : i + 2 < a0.data.toList.length := by simpa using hn
            by_cases h1 : a0[i + 1] = 110
            · have d1 : ((a0[i + 1].toNat : Int) == 110) = true := by rw [h1]; rfl
              have HS := Lib.hid (hU.out.step hs (by omega) (show i < i + 2 by omega) (ud_n _ i hl2 hc h1) 10 rfl)
              clear hU hc h1
              go_wp2_with fail
              refine HS.out.mono ?_
              rintro e w1 ⟨rfl, hU⟩
              clear HS
              go_wp2_with fail
              go_roundw
              case rel => exact ⟨i + 2, by omega, by go_num, hU⟩
              case measure => simp [intOf]; omega
            · have d1 : ((a0[i + 1].toNat : Int) == 110) = false := by
                rw [beq_eq_false_iff_ne]
                intro hh
                exact h1 (UInt8.toNat_inj.1 (by show _ = 110; omega))
              by_cases h2 : a0[i + 1] = 120
              · have d2 : ((a0[i + 1].toNat : Int) == 120) = true := by rw [h2]; rfl
                by_cases hm : i + 4 < a0.size
                · have hm' : (i : Int) + 3 < (a0.size : Int) - 1 := by omega
                  have hl4 : i + 4 < a0.data.toList.length := by simpa using hm
                  have hux : ud (innerOf a0.data.toList i) = hx a0[i + 2] a0[i + 3] :: ud (innerOf a0.data.toList (i + 4)) := ud_x _ i hl4 hc h2
                  have HS := Lib.hid ((Un.drew hU.out).step hs (by omega) (show i < i + 4 by omega) hux _ (hxE _ _))
                  clear hux hU
                  clear hc h1 h2
                  go_wp2_with fail
                  have f1 : (0 : Int) ≤ (i : Int) + 2 := by omega
                  have f2 : (0 : Int) ≤ (i : Int) + 3 := by omega
                  have f3 : (i : Int) + 2 < (a0.size : Int) := by omega
                  have f4 : (i : Int) + 3 < (a0.size : Int) := by omega
                  have e1 : IntKind.i64.wrap ((i : Int) + 1 + 1) = (i : Int) + 2 := by rw [IntWalk.i64_in _ (by omega)]; omega
                  have e2 : IntKind.i64.wrap ((i : Int) + 1 + 2) = (i : Int) + 3 := by rw [IntWalk.i64_in _ (by omega)]; omega
                  have e3 : ((i : Int) + 2).toNat = i + 2 := by omega
                  have e4 : ((i : Int) + 3).toNat = i + 3 := by omega
                  go_region_with (first | (go_at_call 53; refine (Tryd.strings_IndexByte _ _ _).mono ?_; rintro e w' ⟨rfl, rfl⟩) | (go_at_call 48; refine HS.out.mono ?_; rintro e w1 ⟨rfl, hU⟩))
                  all_goals clear HS
                  all_goals go_wp2_with fail
                  all_goals exact ⟨⟨i + 4, by omega, by go_num, hU⟩, by simp [intOf]; omega⟩
                · have hm' : (a0.size : Int) - 1 ≤ (i : Int) + 3 := by omega
                  have HS := Lib.hid (hU.out.step hs (by omega) (show i < i + 2 by omega) (by rw [ud_xshort _ i hl2 hc h2 (by simpa using hm)]; rw [← h2]) (a0[i + 1].toNat : Int) rfl)
                  clear hU hc h1 h2
                  go_wp2_with fail
                  refine HS.out.mono ?_
                  rintro e w1 ⟨rfl, hU⟩
                  clear HS
                  go_wp2_with fail
                  go_roundw
                  case rel => exact ⟨i + 2, by omega, by go_num, hU⟩
                  case measure => simp [intOf]; omega
              · have d2 : ((a0[i + 1].toNat : Int) == 120) = false := by
                  rw [beq_eq_false_iff_ne]
                  intro hh
                  exact h2 (UInt8.toNat_inj.1 (by show _ = 120; omega))
                have HS := Lib.hid (hU.out.step hs (by omega) (show i < i + 2 by omega) (ud_else _ i hl2 hc h1 h2) (a0[i + 1].toNat : Int) rfl)
                clear hU hc h1 h2
                go_wp2_with fail
                refine HS.out.mono ?_
                rintro e w1 ⟨rfl, hU⟩
                clear HS
                go_wp2_with fail
                go_roundw
                case rel => exact ⟨i + 2, by omega, by go_num, hU⟩
                case measure => simp [intOf]; omega
          · have hn' : (a0.size : Int) - 1 ≤ (i : Int) + 1 := by omega
            have HS := Lib.hid (hU.out.step hs (by omega) (Nat.lt_succ_self i) (by rw [ud_last _ i hl hc (by simpa using hn)]; rw [← hc]) (a0[i].toNat : Int) rfl)
            clear hU hc
            go_wp2_with fail
            refine HS.out.mono ?_
            rintro e w1 ⟨rfl, hU⟩
            clear HS
            go_wp2_with fail
            go_roundw
            case rel => exact ⟨i + 1, by omega, by go_num, hU⟩
            case measure => simp [intOf]; omega
        · have c1 : ((a0[i].toNat : Int) != 92) = true := by
            rw [bne_iff_ne]
            intro hh
            exact hc (UInt8.toNat_inj.1 (by show _ = 92; omega))
          have HS := Lib.hid (hU.out.step hs (by omega) (Nat.lt_succ_self i) (ud_plain _ i hl hc) _ rfl)
          clear hU hc
          go_wp2_with fail
          refine HS.out.mono ?_
          rintro e w1 ⟨rfl, hU⟩
          clear HS
          go_wp2_with fail
          go_roundw
          case rel => exact ⟨i + 1, by omega, by go_num, hU⟩
          case measure => simp [intOf]; omega
      · have hlt' : (a0.size : Int) - 1 ≤ (i : Int) := by omega
        have hB := Lib.hid (hU.out.finish (by omega))
        clear hU
        have htl : (ud (innerOf a0.data.toList 1)).length ≤ 17592186044416 := by
          have := ud_len _ _ (Nat.le_refl (innerOf a0.data.toList 1).length)
          have h2 : (innerOf a0.data.toList 1).length ≤ a0.data.toList.length := by unfold innerOf; simp; omega
          simp only [Array.length_toList] at h2
          have h3 : a0.data.size = a0.size := rfl
          omega
        by_cases hq : quoteL (ud (innerOf a0.data.toList 1)) = a0.data.toList
        · have hq' := Lib.hid (show (!(quoteL (ud (innerOf a0.data.toList 1)) == a0.toList)) = false by rw [ByteArray.toList_eq, hq]; simp)
          have hf := Lib.hid (show unquoteL a0.data.toList = (ud (innerOf a0.data.toList 1), true) by unfold unquoteL; rw [if_pos hq])
          clear hq
          generalize ud (innerOf a0.data.toList 1) = t at *
          go_wp2_with fail
          refine (unq_end t w _ hB.out).mono ?_
          rintro e w1 ⟨rfl, hF⟩
          clear hB
          go_wp2_with fail
          refine (unq_quote t w _ htl hF.out).mono ?_
          rintro e w2 ⟨rfl, hF2⟩
          clear hF
          have hq := hq'.out
          go_wp2_with fail
          refine (unq_again t w _ hF2.out).mono ?_
          rintro e w3 ⟨rfl, hb⟩
          clear hF2
          go_wp2_with fail
          go_ret2
          refine ⟨?_, hb⟩
          rw [← H1.out, ← H2.out, hf.out]
          rfl
        · have hq' := Lib.hid (show (!(quoteL (ud (innerOf a0.data.toList 1)) == a0.toList)) = true by rw [ByteArray.toList_eq]; simpa using hq)
          have hf := Lib.hid (show unquoteL a0.data.toList = ([], false) by unfold unquoteL; rw [if_neg hq])
          clear hq
          generalize ud (innerOf a0.data.toList 1) = t at *
          go_wp2_with fail
          refine (unq_end t w _ hB.out).mono ?_
          rintro e w1 ⟨rfl, hF⟩
          clear hB
          go_wp2_with fail
          refine (unq_quote t w _ htl hF.out).mono ?_
          rintro e w2 ⟨rfl, hF2⟩
          clear hF
          have hq := hq'.out
          have hb := Lib.hid hF2.out.2
          clear hF2
          go_wp2_with fail
          go_ret2
          refine ⟨?_, hb.out⟩
          rw [← H1.out, ← H2.out, hf.out]
          rfl
  · rw [if_neg hs] at h
    exact absurd h (by simp)
end Go.Proofs.YteifffaonigidaaDoor.M
