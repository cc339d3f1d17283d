/- What the reference of layer 9 answers for one token: as the program's. Plain facts about the printed functions. -/
import Derived.Test.YteifffaonigidaaDoorPrB
import Derived.Test.YteifffaonigidaaDoorMx18
import Derived.Test.YteifffaonigidaaDoorLxL
import Derived.Test.YteifffaonigidaaDoorPuF
namespace Go.Proofs.YteifffaonigidaaDoor.Pure
open Go.RowKit Go.Proofs.YteifffaonigidaaDoor.M Go.Proofs.YteifffaonigidaaDoorW.PrintWords Go.Proofs.YteifffaonigidaaDoorW.PrintLast
set_option linter.unusedVariables false
namespace Rf
theorem letter_fin : ∀ c : Fin 256, taquinref09_letter.f (c.val : Int) = some (letterB (UInt8.ofNat c.val)) := by decide +kernel
theorem letter (c : UInt8) : taquinref09_letter.f (c.toNat : Int) = some (letterB c) := by
  have h := letter_fin ⟨c.toNat, c.toNat_lt⟩
  simpa only [UInt8.ofNat_toNat] using h
theorem digit9_fin : ∀ c : Fin 256, taquinref09_digit.f (c.val : Int) = some (digitB (UInt8.ofNat c.val)) := by decide +kernel
theorem digit9 (c : UInt8) : taquinref09_digit.f (c.toNat : Int) = some (digitB c) := by
  have h := digit9_fin ⟨c.toNat, c.toNat_lt⟩
  simpa only [UInt8.ofNat_toNat] using h
theorem part_fin : ∀ c : Fin 256, taquinref09_part.f (c.val : Int) = some (partB (UInt8.ofNat c.val)) := by decide +kernel
theorem part (c : UInt8) : taquinref09_part.f (c.toNat : Int) = some (partB c) := by
  have h := part_fin ⟨c.toNat, c.toNat_lt⟩
  simpa only [UInt8.ofNat_toNat] using h
theorem dropE (a0 : ByteArray) : a0.data.toList.drop a0.size = [] := List.drop_eq_nil_of_le (by simp)
/-! ### Word -/
theorem word_loop (a0 : ByteArray) (hs : a0.size ≤ 1000000) : ∀ (d i : Nat), i + d = a0.size → Evt (fun k => taquinref09_Word.l0 k a0 (i : Int)) ((a0.data.toList.drop i).all partB)
  | 0, i, hi => by
    obtain rfl : i = a0.size := by omega
    rw [dropE]
    refine (Evt.const _).step fun k => ?_
    simp only [taquinref09_Word.l0]
    rw [if_neg (by omega)]
    rfl
  | d + 1, i, hi => by
    have hlt : i < a0.size := by omega
    have hb := btN a0 i hlt
    have ih := word_loop a0 hs d (i + 1) (by omega)
    rw [dropN a0 i hlt, List.all_cons]
    cases hp : partB a0[i] with
    | true =>
      refine Evt.step (g := fun k => taquinref09_Word.l0 k a0 ((i + 1 : Nat) : Int)) ih fun k => ?_
      simp only [taquinref09_Word.l0]
      rw [if_pos (by omega), if_pos (by omega), hb, part, Option.bind_some, if_pos hp, W1 i (by omega)]
    | false =>
      refine (Evt.const _).step fun k => ?_
      simp only [taquinref09_Word.l0]
      rw [if_pos (by omega), if_pos (by omega), hb, part, Option.bind_some, if_neg (by rw [hp]; decide)]
      rfl
theorem headB (a0 : ByteArray) (h : 0 < a0.size) : a0.data.toList.headD 0 = a0[0] ∧ bt a0 0 = (a0[0].toNat : Int) := by
  have h1 := dropN a0 0 h
  rw [List.drop_zero] at h1
  exact ⟨by rw [h1]; rfl, btN a0 0 h⟩
theorem Word (a0 : ByteArray) (hs : a0.size ≤ 1000000) : Evt (fun k => taquinref09_Word.f k a0) (wordB a0.data.toList) := by
  have hlen : a0.data.toList.length = a0.size := rfl
  have kt : Evt (fun k => taquinref09_Word.j0 k a0 true) false := by
    refine (Evt.const _).step fun k => ?_
    simp only [taquinref09_Word.j0]
    rw [if_pos trivial]
  unfold wordB
  rw [hlen]
  by_cases h1 : a0.size < 1
  · rw [decide_eq_false (show ¬ 1 ≤ a0.size by omega), Bool.and_false, Bool.false_and, Bool.false_and]
    refine kt.same fun k => ?_
    unfold taquinref09_Word.f
    rw [if_pos (by omega)]
  · by_cases h20 : a0.size > 20
    · rw [decide_eq_false (show ¬ a0.size ≤ 20 by omega), Bool.and_false, Bool.false_and]
      refine kt.same fun k => ?_
      unfold taquinref09_Word.f
      rw [if_neg (by omega), if_pos (by omega)]
    · obtain ⟨hh, hb⟩ := headB a0 (by omega)
      rw [decide_eq_true (show 1 ≤ a0.size by omega), decide_eq_true (show a0.size ≤ 20 by omega), Bool.and_true, Bool.and_true, hh]
      cases hl : letterB a0[0] with
      | true =>
        rw [Bool.and_true]
        have h := word_loop a0 hs a0.size 0 (by omega)
        rw [List.drop_zero] at h
        have kf : Evt (fun k => taquinref09_Word.j0 k a0 false) (a0.data.toList.all partB) := by
          refine h.step fun k => ?_
          simp only [taquinref09_Word.j0]
          rw [if_neg (by decide)]
          rfl
        refine kf.same fun k => ?_
        unfold taquinref09_Word.f
        rw [if_neg (by omega), if_neg (by omega), if_pos (by omega), hb, letter, hl, Option.bind_some]
        rfl
      | false =>
        rw [Bool.and_false]
        refine kt.same fun k => ?_
        unfold taquinref09_Word.f
        rw [if_neg (by omega), if_neg (by omega), if_pos (by omega), hb, letter, hl, Option.bind_some]
        rfl
/-! ### word -/
def noTok (e : Int) : Int × ByteArray × Int × Int × Int := (0, ⟨#[]⟩, 0, 0, e)
def wsel (s : ByteArray) (b : Bool) : Int × ByteArray × Int × Int × Int :=
  if b = true then
    if 1 < s.size ∧ s.data.toList.headD 0 = 48 then noTok 11
    else if (intOfText s.data.toList).2 = true then (1, s, (intOfText s.data.toList).1, 0, 0) else noTok 3
  else if wordB s.data.toList = true then (0, s, 0, 0, 0) else noTok 11
theorem word_stop (a0 : ByteArray) (hs : a0.size ≤ 1000000) (b : Bool) : Evt (fun k => taquinref09_word.l0 k a0 b (a0.size : Int)) (wsel a0 b) := by
  cases b with
  | true =>
    have kt : Evt (fun k => taquinref09_word.j1 k a0 true) (noTok 11) := by
      refine (Evt.const _).step fun k => ?_
      simp only [taquinref09_word.j1]
      rw [if_pos trivial]
      rfl
    have kf : Evt (fun k => taquinref09_word.j1 k a0 false) (if (intOfText a0.data.toList).2 = true then (1, a0, (intOfText a0.data.toList).1, 0, 0) else noTok 3) := by
      refine ((int_ a0).bind (g := fun _ t => if t.2 = true then some (1, a0, t.1, 0, 0) else some (0, (⟨#[]⟩ : ByteArray), 0, 0, 3)) ((Evt.const _).same fun k => ?_)).step fun k => ?_
      · split <;> rfl
      · simp only [taquinref09_word.j1]
        rw [if_neg (by decide)]
    unfold wsel
    rw [if_pos rfl]
    by_cases h1 : 1 < a0.size
    · obtain ⟨hh, hb⟩ := headB a0 (by omega)
      by_cases h48 : a0[0] = 48
      · rw [if_pos ⟨h1, hh.trans h48⟩]
        refine kt.step fun k => ?_
        simp only [taquinref09_word.l0]
        rw [if_neg (by omega), if_pos trivial, if_pos (by omega), if_pos (by omega), hb, h48]
        rfl
      · rw [if_neg (fun h => h48 (hh ▸ h.2))]
        refine kf.step fun k => ?_
        simp only [taquinref09_word.l0]
        rw [if_neg (by omega), if_pos trivial, if_pos (by omega), if_pos (by omega), hb, show (((a0[0].toNat : Nat) : Int) == 48) = false from beq_eq_false_iff_ne.2 (fun h => h48 (UInt8.toNat_inj.1 (by show _ = 48; omega)))]
    · rw [if_neg (fun h => h1 h.1)]
      refine kf.step fun k => ?_
      simp only [taquinref09_word.l0]
      rw [if_neg (by omega), if_pos trivial, if_neg (by omega)]
  | false =>
    unfold wsel
    rw [if_neg (by decide)]
    refine ((Word a0 hs).bind (g := fun _ t => if t = true then some (0, a0, 0, 0, 0) else some (0, (⟨#[]⟩ : ByteArray), 0, 0, 11)) ((Evt.const _).same fun k => ?_)).step fun k => ?_
    · split <;> rfl
    · simp only [taquinref09_word.l0]
      rw [if_neg (by omega), if_neg (by decide)]
theorem word_run (a0 : ByteArray) (hs : a0.size ≤ 1000000) : ∀ (d i : Nat) (b : Bool), i + d = a0.size → Evt (fun k => taquinref09_word.l0 k a0 b (i : Int)) (wsel a0 (b && (a0.data.toList.drop i).all digitB))
  | 0, i, b, hi => by
    obtain rfl : i = a0.size := by omega
    rw [dropE, List.all_nil, Bool.and_true]
    exact word_stop a0 hs b
  | d + 1, i, b, hi => by
    have hlt : i < a0.size := by omega
    have hb := btN a0 i hlt
    rw [dropN a0 i hlt, List.all_cons]
    cases b with
    | true =>
      have ih := word_run a0 hs d (i + 1) (digitB a0[i]) (by omega)
      refine Evt.step (g := fun k => taquinref09_word.l0 k a0 (digitB a0[i]) ((i + 1 : Nat) : Int)) ih fun k => ?_
      simp only [taquinref09_word.l0]
      rw [if_pos (by omega), if_pos trivial, if_pos (by omega), hb, digit9, Option.bind_some, W1 i (by omega)]
    | false =>
      have ih := word_run a0 hs d (i + 1) false (by omega)
      refine Evt.step (g := fun k => taquinref09_word.l0 k a0 false ((i + 1 : Nat) : Int)) ih fun k => ?_
      simp only [taquinref09_word.l0]
      rw [if_pos (by omega), if_neg (by decide), W1 i (by omega)]
theorem word_ (a0 : ByteArray) (hs : a0.size ≤ 1000000) : Evt (fun k => taquinref09_word.f k a0) (wsel a0 (a0.data.toList.all digitB)) := by
  have h := word_run a0 hs a0.size 0 true (by omega)
  rw [List.drop_zero, Bool.true_and] at h
  exact h.same fun k => rfl
/-! ### quoted -/
theorem scan34 (r : List UInt8) : scanQ (34 :: r) = some 0 := by
  cases r with
  | nil => rfl
  | cons d r => unfold scanQ; rfl
theorem scan92 (d : UInt8) (r : List UInt8) : scanQ (92 :: d :: r) = (scanQ r).map (· + 2) := by
  conv => lhs; unfold scanQ
  rfl
theorem scanO (c : UInt8) (r : List UInt8) (h : c ≠ 34) (h2 : c ≠ 92) : scanQ (c :: r) = (scanQ r).map (· + 1) := by
  cases r with
  | nil => simp [scanQ, h]
  | cons d r =>
    conv => lhs; unfold scanQ
    rw [if_neg h, if_neg h2]
def noTokE (e : Int) : Int × ByteArray × Int × Int × Int × Int := (0, ⟨#[]⟩, 0, 0, 0, e)
def qres (a0 : ByteArray) (at_ : Nat) (o : Option Nat) : Int × ByteArray × Int × Int × Int × Int :=
  match o with
  | none => noTokE 11
  | some e => if (unquoteL (a0.extract at_ (e + 1)).data.toList).2 = true then (2, ⟨(unquoteL (a0.extract at_ (e + 1)).data.toList).1.toArray⟩, 0, 0, ((e + 1 : Nat) : Int), 0) else noTokE 11
theorem quoted_run (a0 : ByteArray) (hs : a0.size ≤ 1000000) (at_ : Nat) : ∀ (d i back : Nat), i + d = a0.size → at_ < i → back ≤ i → Evt (fun k => taquinref09_quoted.l0 k a0 (at_ : Int) (back : Int) (i : Int)) (qres a0 at_ (if back % 2 = 0 then (scanQ (a0.data.toList.drop i)).map (i + ·) else (scanQ (a0.data.toList.drop (i + 1))).map (i + 1 + ·)))
  | 0, i, back, hi, ha, hk => by
    obtain rfl : i = a0.size := by omega
    rw [dropE, List.drop_eq_nil_of_le (show a0.data.toList.length ≤ a0.size + 1 from Nat.le_succ _), show scanQ [] = none from rfl, Option.map_none, Option.map_none, ite_self]
    refine (Evt.const _).step fun k => ?_
    simp only [taquinref09_quoted.l0]
    rw [if_neg (by omega)]
    rfl
  | d + 1, i, back, hi, ha, hk => by
    have hlt : i < a0.size := by omega
    have hb := btN a0 i hlt
    obtain ⟨c, hc⟩ : ∃ c, a0[i] = c := ⟨_, rfl⟩
    have hd := dropN a0 i hlt
    rw [hc] at hb hd
    have hmod : Int.tmod (back : Int) 2 = ((back % 2 : Nat) : Int) := by rw [Int.tmod_eq_emod_of_nonneg (by omega)]; omega
    have ih0 := quoted_run a0 hs at_ d (i + 1) 0 (by omega) (by omega) (by omega)
    have ih1 := quoted_run a0 hs at_ d (i + 1) (back + 1) (by omega) (by omega) (by omega)
    rw [if_pos rfl] at ih0
    -- not closed here
    have go0 : ∀ R, c ≠ 92 → Evt (fun k => taquinref09_quoted.l0 k a0 (at_ : Int) ((0 : Nat) : Int) ((i + 1 : Nat) : Int)) R → Evt (fun k => taquinref09_quoted.j1 k a0 (at_ : Int) (back : Int) (i : Int) false) R := fun R h92 h => by
      refine h.step fun k => ?_
      simp only [taquinref09_quoted.j1]
      rw [if_neg (by decide), if_pos (by omega), if_pos (by omega), hb, if_neg (fun h => h92 (UInt8.toNat_inj.1 (by show _ = 92; omega))), W1 i (by omega)]
      rfl
    have go1 : ∀ R, c = 92 → Evt (fun k => taquinref09_quoted.l0 k a0 (at_ : Int) ((back + 1 : Nat) : Int) ((i + 1 : Nat) : Int)) R → Evt (fun k => taquinref09_quoted.j1 k a0 (at_ : Int) (back : Int) (i : Int) false) R := fun R h92 h => by
      refine h.step fun k => ?_
      simp only [taquinref09_quoted.j1]
      rw [if_neg (by decide), if_pos (by omega), if_pos (by omega), hb, if_pos (by rw [h92]; rfl), W1 i (by omega), W1 back (by omega)]
    have enter : ∀ R, (c = 34 → back % 2 ≠ 0) → Evt (fun k => taquinref09_quoted.j1 k a0 (at_ : Int) (back : Int) (i : Int) false) R → Evt (fun k => taquinref09_quoted.l0 k a0 (at_ : Int) (back : Int) (i : Int)) R := fun R hq h => by
      refine h.step fun k => ?_
      simp only [taquinref09_quoted.l0]
      rw [if_pos (by omega), if_pos (by omega), hb]
      by_cases h34 : c = 34
      · rw [if_pos (by rw [h34]; rfl), hmod, show (((back % 2 : Nat) : Int) == 0) = false from beq_eq_false_iff_ne.2 (by have := hq h34; omega)]
      · rw [if_neg (fun h => h34 (UInt8.toNat_inj.1 (by show _ = 34; omega)))]
    have comp1 : ∀ o : Option Nat, (o.map (· + 1)).map (i + ·) = o.map (i + 1 + ·) := fun o => by cases o <;> simp; omega
    have comp2 : ∀ o : Option Nat, (o.map (· + 2)).map (i + ·) = o.map (i + 1 + 1 + ·) := fun o => by cases o <;> simp; omega
    by_cases he : back % 2 = 0
    · rw [if_neg (show ¬ (back + 1) % 2 = 0 by omega)] at ih1
      rw [if_pos he, hd]
      by_cases h34 : c = 34
      · subst h34
        rw [scan34, Option.map_some]
        have hl : (a0.extract at_ (i + 1)).size ≤ 1000000 := by rw [ByteArray.size_extract]; omega
        have key : Evt (fun k => taquinref09_quoted.j1 k a0 (at_ : Int) (back : Int) (i : Int) true) (qres a0 at_ (some i)) := by
          refine ((unquote (a0.extract at_ (i + 1)) hl).bind (g := fun _ t => if t.2 = true then some (2, t.1, 0, 0, ((i + 1 : Nat) : Int), 0) else some (0, (⟨#[]⟩ : ByteArray), 0, 0, 0, 11)) ((Evt.const _).same fun k => ?_)).step fun k => ?_
          · unfold qres
            simp only
            split <;> rfl
          · simp only [taquinref09_quoted.j1]
            rw [if_pos trivial, W1 i (by omega), if_pos (by omega), if_pos (by omega), if_pos (by omega), Int.toNat_natCast, Int.toNat_natCast]
        refine key.step fun k => ?_
        simp only [taquinref09_quoted.l0]
        rw [if_pos (by omega), if_pos (by omega), hb, if_pos (show (((34 : UInt8).toNat : Nat) : Int) = 34 from rfl), hmod, he]
        rfl
      · by_cases h92 : c = 92
        · refine enter _ (fun h => absurd h h34) (go1 _ h92 ?_)
          subst h92
          have hR : (scanQ (92 :: a0.data.toList.drop (i + 1))).map (i + ·) = (scanQ (a0.data.toList.drop (i + 1 + 1))).map (i + 1 + 1 + ·) := by
            by_cases hlt2 : i + 1 < a0.size
            · rw [dropN a0 (i + 1) hlt2, scan92, comp2]
            · rw [List.drop_eq_nil_of_le (show a0.data.toList.length ≤ i + 1 from by show a0.size ≤ _; omega), List.drop_eq_nil_of_le (show a0.data.toList.length ≤ i + 1 + 1 from by show a0.size ≤ _; omega)]
              rfl
          rw [hR]
          exact ih1
        · rw [scanO c _ h34 h92, comp1]
          exact enter _ (fun h => absurd h h34) (go0 _ h92 ih0)
    · rw [if_pos (show (back + 1) % 2 = 0 by omega)] at ih1
      rw [if_neg he]
      by_cases h92 : c = 92
      · exact enter _ (fun _ => he) (go1 _ h92 ih1)
      · exact enter _ (fun _ => he) (go0 _ h92 ih0)
theorem quoted_ (a0 : ByteArray) (hs : a0.size ≤ 1000000) (at_ : Nat) (h : at_ < a0.size) : Evt (fun k => taquinref09_quoted.f k a0 (at_ : Int)) (qres a0 at_ ((scanQ (a0.data.toList.drop (at_ + 1))).map (at_ + 1 + ·))) := by
  have hr := quoted_run a0 hs at_ (a0.size - (at_ + 1)) (at_ + 1) 0 (by omega) (by omega) (by omega)
  rw [if_pos rfl] at hr
  refine hr.same fun k => ?_
  unfold taquinref09_quoted.f
  rw [W1 at_ (by omega)]
  rfl
/-! ### token -/
def comb (t : Int × ByteArray × Int × Int × Int) (e : Int) : Int × ByteArray × Int × Int × Int × Int := (t.1, t.2.1, t.2.2.1, t.2.2.2.1, e, t.2.2.2.2)
theorem take_while (p : UInt8 → Bool) (l : List UInt8) : l.take (l.takeWhile p).length = l.takeWhile p := (List.prefix_iff_eq_take.1 (List.takeWhile_prefix p)).symm
theorem while_le (p : UInt8 → Bool) (l : List UInt8) : (l.takeWhile p).length ≤ l.length := (List.takeWhile_prefix p).length_le
theorem extract_listR (s : ByteArray) (a b : Nat) : (s.extract a b).data.toList = (s.data.toList.drop a).take (b - a) := by
  simp [ByteArray.data_extract, Array.toList_extract, List.extract_eq_take_drop]
theorem token_run (a0 : ByteArray) (hs : a0.size ≤ 1000000) (at_ : Nat) : ∀ (d e : Nat), e + d = a0.size → at_ ≤ e → Evt (fun k => taquinref09_token.l0 k a0 (at_ : Int) (e : Int)) (comb (wsel (a0.extract at_ (e + ((a0.data.toList.drop e).takeWhile partB).length)) ((a0.extract at_ (e + ((a0.data.toList.drop e).takeWhile partB).length)).data.toList.all digitB)) ((e + ((a0.data.toList.drop e).takeWhile partB).length : Nat) : Int))
  | d, e, he, ha => by
    have fin : ∀ e' : Nat, at_ ≤ e' → e' ≤ a0.size → Evt (fun k => (taquinref09_word.f k (a0.extract at_ e')).bind fun t => some (t.1, t.2.1, t.2.2.1, t.2.2.2.1, (e' : Int), t.2.2.2.2)) (comb (wsel (a0.extract at_ e') ((a0.extract at_ e').data.toList.all digitB)) (e' : Int)) := fun e' h1 h2 =>
      (word_ (a0.extract at_ e') (by rw [ByteArray.size_extract]; omega)).bind (g := fun _ t => some (t.1, t.2.1, t.2.2.1, t.2.2.2.1, (e' : Int), t.2.2.2.2)) ((Evt.const _).same fun k => rfl)
    cases d with
    | zero =>
      obtain rfl : e = a0.size := by omega
      rw [dropE, List.takeWhile_nil, List.length_nil, Nat.add_zero]
      refine (fin a0.size ha (Nat.le_refl _)).step fun k => ?_
      simp only [taquinref09_token.l0]
      rw [if_neg (by omega), if_pos (by omega), if_pos (by omega), if_pos (by omega), Int.toNat_natCast, Int.toNat_natCast]
    | succ d =>
      have hlt : e < a0.size := by omega
      have hb := btN a0 e hlt
      rw [dropN a0 e hlt, List.takeWhile_cons]
      cases hp : partB a0[e] with
      | true =>
        have ih := token_run a0 hs at_ d (e + 1) (by omega) (by omega)
        rw [if_pos rfl, List.length_cons, show e + (((a0.data.toList.drop (e + 1)).takeWhile partB).length + 1) = e + 1 + ((a0.data.toList.drop (e + 1)).takeWhile partB).length by omega]
        refine Evt.step (g := fun k => taquinref09_token.l0 k a0 (at_ : Int) ((e + 1 : Nat) : Int)) ih fun k => ?_
        simp only [taquinref09_token.l0]
        rw [if_pos (by omega), if_pos (by omega), hb, part, Option.bind_some, if_pos hp, W1 e (by omega)]
      | false =>
        rw [if_neg (by decide), List.length_nil, Nat.add_zero]
        refine (fin e ha (by omega)).step fun k => ?_
        simp only [taquinref09_token.l0]
        rw [if_pos (by omega), if_pos (by omega), hb, part, Option.bind_some, if_neg (by rw [hp]; decide), if_pos (by omega), if_pos (by omega), if_pos (by omega), Int.toNat_natCast, Int.toNat_natCast]
/-- What a token of the reference must be, against the program's. -/
def TokIs (at_ : Nat) (x : Except Int (S42 × Nat × Bool)) (r : Int × ByteArray × Int × Int × Int × Int) : Prop :=
  match x with
  | .error e => r.2.2.2.2.2 = e ∧ e ≠ 0
  | .ok (t, q, b) => r = (t.f0, t.f1, t.f2, 0, ((at_ + q : Nat) : Int), 0) ∧ t.f0 ≠ 4 ∧ (b = true ↔ t.f0 = 3)
theorem token_end (a0 : ByteArray) : Evt (fun k => taquinref09_token.f k a0 (a0.size : Int)) (4, ⟨#[]⟩, 0, 0, (a0.size : Int), 0) := by
  refine (Evt.const _).same fun k => ?_
  unfold taquinref09_token.f
  rw [if_pos (by omega)]
theorem toksel (a0 : ByteArray) (at_ : Nat) (c : UInt8) (r : List UInt8) (hd : a0.data.toList.drop at_ = c :: r) (hc : letterB c = true ∨ digitB c = true) (hz : at_ ≤ a0.size) :
    TokIs at_ (tok1 (c :: r)) (comb (wsel (a0.extract at_ (at_ + ((c :: r).takeWhile partB).length)) ((a0.extract at_ (at_ + ((c :: r).takeWhile partB).length)).data.toList.all digitB)) ((at_ + ((c :: r).takeWhile partB).length : Nat) : Int)) := by
  obtain ⟨n, hn⟩ : ∃ n, ((c :: r).takeWhile partB).length = n := ⟨_, rfl⟩
  obtain ⟨s, hs⟩ : ∃ s, a0.extract at_ (at_ + n) = s := ⟨_, rfl⟩
  have hl : s.data.toList = (c :: r).takeWhile partB := by
    rw [← hs, extract_listR, hd, show at_ + n - at_ = n by omega, ← hn, take_while]
  have hsz : s.size = n := by rw [← hn, ← hl]; rfl
  have hp : partB c = true := by
    unfold partB
    rcases hc with h | h <;> rw [h] <;> simp
  have hw : (c :: r).takeWhile partB = c :: r.takeWhile partB := by rw [List.takeWhile_cons, if_pos hp]
  have hmk : (⟨((c :: r).takeWhile partB).toArray⟩ : ByteArray) = s := (bytes_eq s _ hl).symm
  rw [hn, hs]
  unfold tok1
  simp only
  rw [if_pos hc]
  unfold wtok wsel
  rw [hmk, ← hl, hsz]
  have hlen : s.data.toList.length = n := hsz
  rw [hlen, show (c :: r).headD 0 = c from rfl]
  have hh : s.data.toList.headD 0 = c := by rw [hl, hw]; rfl
  rw [hh]
  cases hdg : digitB c with
  | true =>
    rw [if_pos rfl]
    cases ha : s.data.toList.all digitB with
    | true =>
      rw [if_pos rfl]
      by_cases h1 : 1 < n ∧ c = 48
      · rw [if_pos (Or.inr h1), if_pos h1]
        exact ⟨rfl, by decide⟩
      · rw [if_neg (fun h => h.elim (fun h => by simp at h) h1), if_neg h1]
        by_cases h2 : (intOfText s.data.toList).2 = true
        · rw [if_pos h2, if_pos h2]
          refine ⟨rfl, by show (1 : Int) ≠ 4; decide, ?_⟩
          show (false = true) ↔ (1 : Int) = 3
          decide
        · rw [if_neg h2, if_neg h2]
          exact ⟨rfl, by decide⟩
    | false =>
      rw [if_pos (Or.inl rfl), if_neg (show ¬ (false = true) by decide)]
      have hlc : letterB c = false := by
        have hf : ∀ c : Fin 256, digitB (UInt8.ofNat c.val) = true → letterB (UInt8.ofNat c.val) = false := by decide +kernel
        have := hf ⟨c.toNat, c.toNat_lt⟩
        simp only [UInt8.ofNat_toNat] at this
        exact this hdg
      have hwb : wordB s.data.toList = false := by
        unfold wordB
        rw [hh, hlc, Bool.and_false]
      rw [hwb, if_neg (by decide)]
      exact ⟨rfl, by decide⟩
  | false =>
    have ha : s.data.toList.all digitB = false := by rw [hl, hw, List.all_cons, hdg, Bool.false_and]
    rw [if_neg (show ¬ (false = true) by decide), ha, if_neg (show ¬ (false = true) by decide)]
    by_cases h2 : wordB s.data.toList = true
    · rw [if_pos h2, if_pos h2]
      refine ⟨rfl, by show (0 : Int) ≠ 4; decide, ?_⟩
      show (false = true) ↔ (0 : Int) = 3
      decide
    · rw [if_neg h2, if_neg h2]
      exact ⟨rfl, by decide⟩
theorem token_at (a0 : ByteArray) (hs : a0.size ≤ 1000000) (at_ : Nat) (h : at_ < a0.size) : ∃ r, Evt (fun k => taquinref09_token.f k a0 (at_ : Int)) r ∧ TokIs at_ (tok1 (a0.data.toList.drop at_)) r := by
  have hb := btN a0 at_ h
  obtain ⟨c, hc⟩ : ∃ c, a0[at_] = c := ⟨_, rfl⟩
  have hd := dropN a0 at_ h
  rw [hc] at hb hd
  obtain ⟨r, hr⟩ : ∃ r, a0.data.toList.drop (at_ + 1) = r := ⟨_, rfl⟩
  rw [hr] at hd
  rw [hd]
  by_cases h10 : c = 10
  · subst h10
    refine ⟨(3, ⟨#[]⟩, 0, 0, ((at_ + 1 : Nat) : Int), 0), (Evt.const _).same fun k => ?_, ?_⟩
    · unfold taquinref09_token.f
      rw [if_neg (by omega), if_pos (by omega), if_pos (by omega), hb, if_pos (show (((10 : UInt8).toNat : Nat) : Int) = 10 from rfl), W1 at_ (by omega)]
    · have e : tok1 (10 :: r) = .ok (⟨3, ⟨#[]⟩, 0, 0⟩, 1, true) := by
        unfold tok1
        simp only
        rw [if_neg (by decide), if_neg (by decide), if_pos trivial]
      rw [e]
      exact ⟨rfl, by show (3 : Int) ≠ 4; decide, by show (true = true) ↔ (3 : Int) = 3; decide⟩
  · have n10 : (c.toNat : Int) ≠ 10 := fun h => h10 (UInt8.toNat_inj.1 (by show _ = 10; omega))
    by_cases h34 : c = 34
    · subst h34
      refine ⟨_, (quoted_ a0 hs at_ h).same fun k => ?_, ?_⟩
      · unfold taquinref09_token.f
        rw [if_neg (by omega), if_pos (by omega), if_pos (by omega), hb, if_neg n10, if_pos (show (((34 : UInt8).toNat : Nat) : Int) = 34 from rfl)]
        cases taquinref09_quoted.f k a0 (at_ : Int) <;> rfl
      · unfold tok1
        simp only
        rw [if_neg (by decide), if_pos trivial, hr]
        unfold qtok
        rw [show (34 :: r).drop 1 = r from rfl]
        cases hq : scanQ r with
        | none => exact ⟨rfl, by decide⟩
        | some m =>
          rw [Option.bind_some, Option.map_some]
          unfold qres
          simp only
          have hx : (a0.extract at_ (at_ + 1 + m + 1)).data.toList = (34 :: r).take (m + 2) := by
            rw [extract_listR, hd]
            congr 1
            omega
          rw [hx]
          by_cases hu : (unquoteL ((34 :: r).take (m + 2))).2 = true
          · rw [if_pos hu, if_pos hu]
            refine ⟨?_, by show (2 : Int) ≠ 4; decide, by show (false = true) ↔ (2 : Int) = 3; decide⟩
            rw [show at_ + 1 + m + 1 = at_ + (m + 2) by omega]
          · rw [if_neg hu, if_neg hu]
            exact ⟨rfl, by decide⟩
    · have n34 : (c.toNat : Int) ≠ 34 := fun h => h34 (UInt8.toNat_inj.1 (by show _ = 34; omega))
      by_cases hc2 : letterB c = true ∨ digitB c = true
      · have hrun := token_run a0 hs at_ (a0.size - at_) at_ (by omega) (Nat.le_refl _)
        rw [hd] at hrun
        refine ⟨_, ?_, toksel a0 at_ c r hd hc2 (by omega)⟩
        have kf : Evt (fun k => taquinref09_token.j0 k a0 (at_ : Int) false) _ := hrun.step fun k => by
          simp only [taquinref09_token.j0]
          rw [if_neg (by decide)]
        refine kf.same fun k => ?_
        unfold taquinref09_token.f
        rw [if_neg (by omega), if_pos (by omega), if_pos (by omega), hb, if_neg n10, if_neg n34, letter, Option.bind_some]
        by_cases hl : letterB c = true
        · rw [if_pos hl]
        · rw [if_neg hl, digit9, Option.bind_some, hc2.resolve_left hl]
          rfl
      · have e : tok1 (c :: r) = .error 11 := by
          unfold tok1
          simp only
          rw [if_neg hc2, if_neg h34, if_neg h10]
        rw [e]
        have hl : letterB c = false := by cases h : letterB c; rfl; exact absurd (Or.inl h) hc2
        have hdg : digitB c = false := by cases h : digitB c; rfl; exact absurd (Or.inr h) hc2
        have kt : Evt (fun k => taquinref09_token.j0 k a0 (at_ : Int) true) (noTokE 11) := by
          refine (Evt.const _).step fun k => ?_
          simp only [taquinref09_token.j0]
          rw [if_pos trivial]
          rfl
        refine ⟨noTokE 11, kt.same fun k => ?_, rfl, by decide⟩
        unfold taquinref09_token.f
        rw [if_neg (by omega), if_pos (by omega), if_pos (by omega), hb, if_neg n10, if_neg n34, letter, hl, Option.bind_some, if_neg (by decide), digit9, hdg, Option.bind_some]
        rfl
end Rf
end Go.Proofs.YteifffaonigidaaDoor.Pure
/- The contract of taquinref09.Lex, walked by hand: it answers as the program's Lex ('lexR'), for every string of at most 1000000 bytes. -/
namespace Go.Proofs.YteifffaonigidaaDoor.M
open Go.RowKit Go.Proofs.YteifffaonigidaaDoorW.PrintWords Go.Proofs.YteifffaonigidaaDoorW.PrintLast
open Go.Proofs.YteifffaonigidaaDoor.Pure Go.Proofs.YteifffaonigidaaDoor.Pure.Rf
set_option linter.unusedVariables false
set_option linter.unusedSimpArgs false
def taquinref09_Lex.f (k : Nat) (a0 : ByteArray) : Option (List S42 × Int × Int) := if a0.size ≤ 1000000 then some (if (a0.size : Int) > 20000 then ([], 6, 0) else lexR a0.data.toList) else none
theorem taquinref09_Lex.mono : ∀ a0 k, LeO (taquinref09_Lex.f k a0) (taquinref09_Lex.f (k + 1) a0) := fun _ _ => LeO.refl _
def pre (ts : List S42) (r : Except (Int × Int) (List S42)) : Except (Int × Int) (List S42) := r.map (ts ++ ·)
theorem pre_nil (r : Except (Int × Int) (List S42)) : pre [] r = r := by cases r <;> rfl
theorem pre_err (ts : List S42) (x : Int × Int) : pre ts (.error x) = .error x := rfl
theorem pre_ok (ts us : List S42) : pre ts (.ok us) = .ok (ts ++ us) := rfl
theorem pre_cons (ts : List S42) (t : S42) (r : Except (Int × Int) (List S42)) : pre ts (r.map (t :: ·)) = pre (ts ++ [t]) r := by cases r <;> simp [pre, Except.map]
/-- One round of Lex: where it stands. -/
structure RL (a0 : ByteArray) (w : World) (i : Nat) (line : Int) (ts : List S42) (v : Value) (W : World) : Prop where
  own : Kd.R k42 42 W w.heap.size (fun _ => True) v ts
  len : ts.length ≤ i
  bl : Below w.heap.size w W
  eq : lexL a0.data.toList 1 = pre ts (lexL (a0.data.toList.drop i) line)
  ln : 1 ≤ line ∧ line ≤ 1 + (i : Int)
theorem RL.start (a0 : ByteArray) (w : World) : RL a0 w 0 1 [] (.slice none 0 0) w := ⟨Kd.R_nil _ _ _ _ _, Nat.le_refl _, Below.refl _ _, by rw [pre_nil]; rfl, by omega⟩
theorem RL.white {a0 : ByteArray} {w : World} {i : Nat} {line : Int} {ts : List S42} {v : Value} {W : World} (h : RL a0 w i line ts v W) (hi : i < a0.size) (hc : a0[i] = 32 ∨ a0[i] = 9 ∨ a0[i] = 13) : RL a0 w (i + 1) line ts v W :=
  ⟨h.own, by have := h.len; omega, h.bl, by rw [h.eq, dropN a0 i hi, Lx.lexL_white _ _ _ hc], by have := h.ln; omega⟩
theorem RL.hash {a0 : ByteArray} {w : World} {i j : Nat} {line : Int} {ts : List S42} {v : Value} {W : World} (h : RL a0 w i line ts v W) (hij : i ≤ j) (hi : lexL (a0.data.toList.drop i) line = lexL (a0.data.toList.drop j) line) : RL a0 w j line ts v W :=
  ⟨h.own, by have := h.len; omega, h.bl, by rw [h.eq, hi], by have := h.ln; omega⟩
theorem hash_start (a0 : ByteArray) (i : Nat) (line : Int) (hi : i < a0.size) (hc : a0[i] = 35) : lexL (a0.data.toList.drop i) line = lexL ((a0.data.toList.drop i).dropWhile (· != 10)) line := by
  rw [dropN a0 i hi, hc, List.dropWhile_cons, if_pos (by decide)]
  exact Lx.lexL_skip _ _ _ (by
    rw [skipR_hash])
theorem hash_step (a0 : ByteArray) (j : Nat) (hj : j < a0.size) (hc : a0[j] ≠ 10) : (a0.data.toList.drop j).dropWhile (· != 10) = (a0.data.toList.drop (j + 1)).dropWhile (· != 10) := by
  rw [dropN a0 j hj, List.dropWhile_cons, if_pos (bne_iff_ne.2 hc)]
theorem hash_stop (a0 : ByteArray) (j : Nat) (hj : ∀ h : j < a0.size, a0[j] = 10) : (a0.data.toList.drop j).dropWhile (· != 10) = a0.data.toList.drop j := by
  rcases Nat.lt_or_ge j a0.size with h | h
  · rw [dropN a0 j h, List.dropWhile_cons, if_neg (by rw [hj h]; decide)]
  · rw [List.drop_of_length_le (show a0.data.toList.length ≤ j from h)]; rfl
/-- What the token at i does: the error, or the token (none at the end). -/
theorem RL.tok {a0 : ByteArray} {w : World} {i : Nat} {line : Int} {ts : List S42} {v : Value} {W : World} (h : RL a0 w i line ts v W) (hs : a0.size ≤ 1000000) (hi : i ≤ a0.size)
    (hw : ∀ h : i < a0.size, ¬ (a0[i] = 32 ∨ a0[i] = 9 ∨ a0[i] = 13) ∧ a0[i] ≠ 35) :
    ∃ k r1 r2 r3 r4 r5 r6, taquinref09_token.f k a0 (i : Int) = some (r1, r2, r3, r4, r5, r6) ∧
      ((r6 ≠ 0 ∧ lexL a0.data.toList 1 = .error (r6, line)) ∨
       (r6 = 0 ∧ r1 = 4 ∧ lexL a0.data.toList 1 = .ok (ts ++ [⟨r1, r2, r3, line⟩])) ∨
       (r6 = 0 ∧ r1 ≠ 4 ∧ ∃ q : Nat, 1 ≤ q ∧ i + q ≤ a0.size ∧ r5 = ((i + q : Nat) : Int) ∧ lexL a0.data.toList 1 = pre (ts ++ [⟨r1, r2, r3, line⟩]) (lexL (a0.data.toList.drop (i + q)) (if r1 = 3 then line + 1 else line)))) := by
  rcases Nat.lt_or_ge i a0.size with hlt | hge
  · obtain ⟨r, hr, ht⟩ := token_at a0 hs i hlt
    obtain ⟨k, hk⟩ := hr.get
    obtain ⟨r1, r2, r3, r4, r5, r6⟩ := r
    refine ⟨k, r1, r2, r3, r4, r5, r6, hk, ?_⟩
    have hsk : skipR (a0.data.toList.drop i) = a0.data.toList.drop i := by
      rw [dropN a0 i hlt]
      exact skipR_stop _ _ (hw hlt).1 (hw hlt).2
    have hne : skipR (a0.data.toList.drop i) ≠ [] := by rw [hsk, dropN a0 i hlt]; simp
    have heq := h.eq
    rw [lexL_step _ _ hne, hsk] at heq
    cases hx : tok1 (a0.data.toList.drop i) with
    | error e =>
      rw [hx] at ht heq
      obtain ⟨h1, h2⟩ := ht
      simp only at h1 heq
      exact Or.inl ⟨by rw [h1]; exact h2, by rw [heq, pre_err, h1]⟩
    | ok x =>
      obtain ⟨t, q, b⟩ := x
      rw [hx] at ht heq
      obtain ⟨h1, h2, h3⟩ := ht
      obtain ⟨p1, p2, _⟩ := tok1_pos hx
      simp only [Prod.mk.injEq] at h1
      obtain ⟨e1, e2, e3, e4, e5, e6⟩ := h1
      simp only at heq
      rw [pre_cons, List.drop_drop] at heq
      rw [List.length_drop] at p2
      have hlen : a0.data.toList.length = a0.size := rfl
      refine Or.inr (Or.inr ⟨e6, by rw [e1]; exact h2, q, p1, by omega, e5, ?_⟩)
      rw [heq, e1, e2, e3]
      unfold putL
      congr 2
      by_cases hb : b = true
      · rw [if_pos hb, if_pos (h3.1 hb)]
      · rw [if_neg hb, if_neg (fun h => hb (h3.2 h))]
  · obtain rfl : i = a0.size := by omega
    obtain ⟨k, hk⟩ := (token_end a0).get
    refine ⟨k, 4, ⟨#[]⟩, 0, 0, (a0.size : Int), 0, hk, Or.inr (Or.inl ⟨rfl, rfl, ?_⟩)⟩
    rw [h.eq, dropE, lexL_end [] line skipR_nil, pre_ok]
theorem RL.next {a0 : ByteArray} {w : World} {i : Nat} {line : Int} {ts : List S42} {v : Value} {W : World} (h : RL a0 w i line ts v W) {t : S42} {q : Nat} {line' : Int} (hq : 1 ≤ q) (hl : line' = line ∨ line' = line + 1)
    (e : lexL a0.data.toList 1 = pre (ts ++ [t]) (lexL (a0.data.toList.drop (i + q)) line')) {v' : Value} {W' : World} (ho : Kd.R k42 42 W' w.heap.size (fun _ => True) v' (ts ++ [t])) (hb : Below w.heap.size w W') : RL a0 w (i + q) line' (ts ++ [t]) v' W' :=
  ⟨ho, by have := h.len; simp only [List.length_append, List.length_cons, List.length_nil]; omega, hb, e, by have := h.ln; omega⟩
set_option maxHeartbeats 16000000 in
set_option maxRecDepth 100000 in
theorem taquinref09_Lex.calls (k : Nat) (a0 : ByteArray) (r1 : List (S42)) (r2 : Int) (r3 : Int) (w : World) (h : taquinref09_Lex.f k a0 = some (r1, r2, r3)) :
    Calls Tryd.prog 30 #[.string a0] w fun e w' => ∃ v0_ : Value, e = .returned (.tuple #[v0_, .int .i64 r2, .int .i64 r3]) ∧ Kd.R k42 42 w' w.heap.size (fun _ => True) v0_ r1 ∧ Below w.heap.size w w' := by
  unfold taquinref09_Lex.f at h
  by_cases hs0 : ¬ a0.size ≤ 1000000
  · rw [if_neg hs0] at h; exact absurd h (by simp)
  have hs := Decidable.not_not.1 hs0
  rw [if_pos hs] at h
  have h := Option.some.inj h
  clear hs0
  by_cases hbig : (a0.size : Int) > 20000
  · rw [if_pos hbig] at h
    simp only [Prod.mk.injEq] at h
    obtain ⟨rfl, rfl, rfl⟩ := h
    have d0 : decide ((20000 : Int) < (a0.size : Int)) = true := decide_eq_true hbig
    clear hbig
    go_enter Tryd.func30, Tryd.ntmps30
    go_wp2_with fail
    go_ret3
    exact ⟨_, rfl, Kd.R_nil _ _ _ _ _, Below.refl _ _⟩
  · rw [if_neg hbig] at h
    have d0 : decide ((20000 : Int) < (a0.size : Int)) = false := decide_eq_false hbig
    clear hbig
    have HF := Lib.hid h
    clear h
    go_enter Tryd.func30, Tryd.ntmps30
    go_wp2_with fail
    go_loopw [5, 6, 7] (fun v5 v6 v7 wr => ∃ (i : Nat) (line : Int) (ts : List S42), i ≤ a0.size ∧ v6 = .int .i64 line ∧ v7 = .int .i64 i ∧ (1 ≤ line ∧ line ≤ 1 + (i : Int)) ∧ ts.length ≤ i ∧ Hid (RL a0 w i line ts v5 wr)) (fun _ _ i _ => a0.size + 2 - (intOf i).toNat)
    case atStart => exact ⟨0, 1, [], Nat.zero_le _, rfl, rfl, by omega, Nat.le_refl _, Lib.hid (RL.start a0 w)⟩
    case round =>
      obtain ⟨i, line, ts, hi, rfl, rfl, hln, htl, HR⟩ := hrel
      have g0 : (i : Int) ≤ (a0.size : Int) := by omega
      have ne_ : ∀ (h : i < a0.size) (c : UInt8) (n : Int), n = (c.toNat : Int) → a0[i] ≠ c → ((a0[i].toNat : Int) == n) = false := fun h c n hn hc => beq_eq_false_iff_ne.2 (fun e => hc (UInt8.toNat_inj.1 (by omega)))
      by_cases hwh : ∃ hlt : i < a0.size, a0[i] = 32 ∨ a0[i] = 9 ∨ a0[i] = 13
      · obtain ⟨hlt, hwh⟩ := hwh
        have g1 : (i : Int) < (a0.size : Int) := by omega
        have HW := Lib.hid (HR.out.white hlt hwh)
        clear HR HF
        rcases hwh with hc | hc | hc
        · have b32 : ((a0[i].toNat : Int) == 32) = true := by rw [hc]; rfl
          clear ne_ hc
          go_wp2_with fail
          go_roundw
          case rel => exact ⟨i + 1, line, ts, by omega, rfl, by go_num, by omega, by omega, HW⟩
          case measure => simp [intOf]; omega
        · have b32 : ((a0[i].toNat : Int) == 32) = false := by rw [hc]; rfl
          have b9 : ((a0[i].toNat : Int) == 9) = true := by rw [hc]; rfl
          clear ne_ hc
          go_wp2_with fail
          go_roundw
          case rel => exact ⟨i + 1, line, ts, by omega, rfl, by go_num, by omega, by omega, HW⟩
          case measure => simp [intOf]; omega
        · have b32 : ((a0[i].toNat : Int) == 32) = false := by rw [hc]; rfl
          have b9 : ((a0[i].toNat : Int) == 9) = false := by rw [hc]; rfl
          have b13 : ((a0[i].toNat : Int) == 13) = true := by rw [hc]; rfl
          clear ne_ hc
          go_wp2_with fail
          go_roundw
          case rel => exact ⟨i + 1, line, ts, by omega, rfl, by go_num, by omega, by omega, HW⟩
          case measure => simp [intOf]; omega
      · by_cases hh : ∃ hlt : i < a0.size, a0[i] = 35
        · obtain ⟨hlt, hc⟩ := hh
          have g1 : (i : Int) < (a0.size : Int) := by omega
          have b32 : ((a0[i].toNat : Int) == 32) = false := by rw [hc]; rfl
          have b9 : ((a0[i].toNat : Int) == 9) = false := by rw [hc]; rfl
          have b13 : ((a0[i].toNat : Int) == 13) = false := by rw [hc]; rfl
          have b35 : ((a0[i].toNat : Int) == 35) = true := by rw [hc]; rfl
          have h10 : a0[i] ≠ 10 := by rw [hc]; decide
          have HS := Lib.hid (hash_start a0 i line hlt hc)
          clear ne_ hc hwh HF
          go_wp2_with fail
          go_loopw [7] (fun v7 wq => ∃ j : Nat, i ≤ j ∧ j ≤ a0.size ∧ v7 = .int .i64 j ∧ Hid (lexL (a0.data.toList.drop i) line = lexL ((a0.data.toList.drop j).dropWhile (· != 10)) line) ∧ wq = wr) (fun v _ => a0.size + 2 - (intOf v).toNat)
          case atStart => exact ⟨i, Nat.le_refl _, hi, rfl, HS, by first | rfl | trivial⟩
          case round =>
            obtain ⟨j, hij, hj, rfl, HJ, rfl⟩ := hrel
            clear HS
            by_cases hgo : ∃ hlt : j < a0.size, a0[j] ≠ 10
            · obtain ⟨hjl, hj10⟩ := hgo
              have g2 : (j : Int) < (a0.size : Int) := by omega
              have b10 : ((a0[j].toNat : Int) != 10) = true := bne_iff_ne.2 (fun e => hj10 (UInt8.toNat_inj.1 (by show _ = 10; omega)))
              have HJ2 := Lib.hid (show lexL (a0.data.toList.drop i) line = lexL ((a0.data.toList.drop (j + 1)).dropWhile (· != 10)) line from by rw [HJ.out, hash_step a0 j hjl hj10])
              clear HJ hj10
              go_wp2_with fail
              go_roundw
              case rel => exact ⟨j + 1, by omega, by omega, by go_num, HJ2, by first | rfl | trivial⟩
              case measure => simp [intOf]; omega
            · have hst : ∀ h : j < a0.size, a0[j] = 10 := fun h => Decidable.byContradiction (fun e => hgo ⟨h, e⟩)
              have hlt2 : i < j := by
                rcases Nat.lt_or_ge i j with h | h
                · exact h
                · obtain rfl : i = j := by omega
                  exact absurd (hst hlt) h10
              have HW := Lib.hid (HR.out.hash hij (HJ.out.trans (by rw [hash_stop a0 j hst])))
              clear HR HJ
              by_cases hjl : j < a0.size
              · have g2 : (j : Int) < (a0.size : Int) := by omega
                have b10 : ((a0[j].toNat : Int) != 10) = false := by rw [hst hjl]; rfl
                clear hst hgo
                go_wp2_with fail
                go_roundw
                case rel => exact ⟨j, line, ts, by omega, rfl, rfl, by omega, by omega, HW⟩
                case measure => simp [intOf]; omega
              · have g2 : decide ((j : Int) < (a0.size : Int)) = false := decide_eq_false (by omega)
                clear hst hgo
                go_wp2_with fail
                go_roundw
                case rel => exact ⟨j, line, ts, by omega, rfl, rfl, by omega, by omega, HW⟩
                case measure => simp [intOf]; omega
        · have hno : ∀ h : i < a0.size, ¬ (a0[i] = 32 ∨ a0[i] = 9 ∨ a0[i] = 13) ∧ a0[i] ≠ 35 := fun h => ⟨fun x => hwh ⟨h, x⟩, fun x => hh ⟨h, x⟩⟩
          obtain ⟨kt, t1, t2, t3, t4, t5, t6, htk, hres⟩ := HR.out.tok hs hi hno
          have HT := Lib.hid htk
          clear htk hwh hh
          rcases Nat.lt_or_ge i a0.size with hlt | hge
          · have g1 : (i : Int) < (a0.size : Int) := by omega
            obtain ⟨n1, n2⟩ := hno hlt
            have b32 := ne_ hlt 32 32 rfl (fun e => n1 (Or.inl e))
            have b9 := ne_ hlt 9 9 rfl (fun e => n1 (Or.inr (Or.inl e)))
            have b13 := ne_ hlt 13 13 rfl (fun e => n1 (Or.inr (Or.inr e)))
            have b35 := ne_ hlt 35 35 rfl n2
            clear ne_ n1 n2 hno
            rcases hres with ⟨hr6, he⟩ | ⟨rfl, rfl, he⟩ | ⟨rfl, hr1, q, hq, hiq, rfl, he⟩
            · have c0 : (t6 != 0) = true := bne_iff_ne.2 hr6
              have hX : ([], t6, line) = (r1, r2, r3) := by rw [← HF.out]; unfold lexR; rw [he]
              simp only [Prod.mk.injEq] at hX
              obtain ⟨rfl, rfl, rfl⟩ := hX
              clear he HF hr6
              go_wp2_with fail
              refine (taquinref09_token.calls kt a0 i _ _ _ _ _ _ _ HT.out).mono ?_
              rintro e w1 ⟨rfl, hB1⟩
              have HB1 := Lib.hid (below_step HR.out.bl hB1)
              clear hB1 HR HT
              go_wp2
              go_ret3
              exact ⟨_, rfl, Kd.R_nil _ _ _ _ _, below_alloc HB1.out _⟩
            · have hX : (ts ++ [⟨4, t2, t3, line⟩], 0, 0) = (r1, r2, r3) := by rw [← HF.out]; unfold lexR; rw [he]
              simp only [Prod.mk.injEq] at hX
              obtain ⟨rfl, rfl, rfl⟩ := hX
              clear he HF
              go_wp2_with fail
              refine (taquinref09_token.calls kt a0 i _ _ _ _ _ _ _ HT.out).mono ?_
              rintro e w1 ⟨rfl, hB1⟩
              obtain ⟨W2, hW2⟩ : ∃ W2, w1.alloc (.cells #[.int .i64 4, .string t2, .int .i64 t3, .int .i64 t4] 42) = W2 := ⟨_, rfl⟩
              have hB2 : Below w1.heap.size w1 W2 := hW2 ▸ (Below.refl _ _).alloc (Nat.le_refl _) _
              have hbn : W2.heap[w1.heap.size]? = some (.cells #[.int .i64 4, .string t2, .int .i64 t3, .int .i64 t4] 42 (0, 0)) := by rw [← hW2]; exact heap_alloc_new w1 _
              have n0 : W2.cell? ⟨w1.heap.size, 0, none⟩ = some (.int .i64 4) := (blk_cell hbn 0).trans rfl
              have n1 : W2.cell? ⟨w1.heap.size, 1, none⟩ = some (.string t2) := (blk_cell hbn 1).trans rfl
              have n2 : W2.cell? ⟨w1.heap.size, 2, none⟩ = some (.int .i64 t3) := (blk_cell hbn 2).trans rfl
              have n3 : W2.cell? ⟨w1.heap.size, 3, none⟩ = some (.int .i64 t4) := (blk_cell hbn 3).trans rfl
              have f3 := blk_frozen hbn 3
              have hr2 := Kd.R_below (Kd.R_elderB (Kd.R_below HR.out.own hB1) w1.heap.size (Nat.le_refl _)) hB2
              have HO := Lib.hid (Kd.R_far (p := ⟨w1.heap.size, 3, none⟩) hr2 (fun _ hk => hk.2) (.int .i64 line))
              have HB := Lib.hid (below_set (j := 3) (v := .int .i64 line) (below_step (below_step HR.out.bl hB1) hB2) (below_step HR.out.bl hB1).size)
              have HBN := Lib.hid (blk_put hbn 3 (.int .i64 line) (cs' := #[.int .i64 4, .string t2, .int .i64 t3, .int .i64 line]) rfl)
              have hlt3 : w1.heap.size < (W2.setCell ⟨w1.heap.size, 3, none⟩ (.int .i64 line)).heap.size := blk_lt HBN.out
              clear hbn hr2 hB1 hB2 HT
              go_wp2_with ((with_reducible refine gate_builtin (b := .append) (xs := #[.tmp 77, .tmp 79]) rfl ?_); at_builtin; refine Kd.R_append k42 (w0 := w) w.heap.size rfl (.tmp 77) (.tmp 79) 37 42 (.agg #[(.int .i64 0), (.string ⟨#[]⟩), (.int .i64 0), (.int .i64 0)]) 40 rfl Tryd.underlying37 info42 rfl (by decide) (by omega) u5 ts (⟨4, t2, t3, line⟩ : S42) [.int .i64 4, .string t2, .int .i64 t3, .int .i64 line] (fun k_ => True ∧ k_ ≠ w1.heap.size) (fun _ => False) rfl (by first | (go_simp; done) | (go_simp; rfl)) ?aP (fun _ hk => hk.elim) ?aF ?aO ?aB ?aS ?aL ?_; (case aP => exact k42_mkM _ _ _ (⟨4, t2, t3, line⟩ : S42)); (case aF => exact fun k_ hk => ⟨trivial, by omega⟩); (case aO => exact HO.out); (case aB => exact HB.out); (case aS => exact HB.out.size); (case aL => omega); intro v6 w6 ho hb hg hat; have HB6 := Lib.hid hb; have HO6 := Lib.hid (Kd.R_mono ho (fun _ _ => trivial)); have hbn6 := blk_grown HBN.out hg (Kd.R_away HO.out (fun _ hk => hk.2)); have m0 : w6.cell? ⟨w1.heap.size, 0, none⟩ = some (.int .i64 4) := (blk_cell hbn6 0).trans rfl; clear HB HO HBN n0 n1 n2 n3 f3 hW2 ho hb hg hat hbn6 hlt3)
              clear HR
              go_wp2
              go_ret3
              exact ⟨_, rfl, HO6.out, HB6.out⟩
            · have c4 : (t1 == 4) = false := beq_eq_false_iff_ne.2 hr1
              by_cases h3 : t1 = 3
              · have c3 : (t1 == 3) = true := beq_iff_eq.2 h3
                have H3 := Lib.hid h3
                clear h3
                clear HF
                go_wp2_with fail
                refine (taquinref09_token.calls kt a0 i _ _ _ _ _ _ _ HT.out).mono ?_
                rintro e w1 ⟨rfl, hB1⟩
                obtain ⟨W2, hW2⟩ : ∃ W2, w1.alloc (.cells #[.int .i64 t1, .string t2, .int .i64 t3, .int .i64 t4] 42) = W2 := ⟨_, rfl⟩
                have hB2 : Below w1.heap.size w1 W2 := hW2 ▸ (Below.refl _ _).alloc (Nat.le_refl _) _
                have hbn : W2.heap[w1.heap.size]? = some (.cells #[.int .i64 t1, .string t2, .int .i64 t3, .int .i64 t4] 42 (0, 0)) := by rw [← hW2]; exact heap_alloc_new w1 _
                have n0 : W2.cell? ⟨w1.heap.size, 0, none⟩ = some (.int .i64 t1) := (blk_cell hbn 0).trans rfl
                have n1 : W2.cell? ⟨w1.heap.size, 1, none⟩ = some (.string t2) := (blk_cell hbn 1).trans rfl
                have n2 : W2.cell? ⟨w1.heap.size, 2, none⟩ = some (.int .i64 t3) := (blk_cell hbn 2).trans rfl
                have n3 : W2.cell? ⟨w1.heap.size, 3, none⟩ = some (.int .i64 t4) := (blk_cell hbn 3).trans rfl
                have f3 := blk_frozen hbn 3
                have hr2 := Kd.R_below (Kd.R_elderB (Kd.R_below HR.out.own hB1) w1.heap.size (Nat.le_refl _)) hB2
                have HO := Lib.hid (Kd.R_far (p := ⟨w1.heap.size, 3, none⟩) hr2 (fun _ hk => hk.2) (.int .i64 line))
                have HB := Lib.hid (below_set (j := 3) (v := .int .i64 line) (below_step (below_step HR.out.bl hB1) hB2) (below_step HR.out.bl hB1).size)
                have HBN := Lib.hid (blk_put hbn 3 (.int .i64 line) (cs' := #[.int .i64 t1, .string t2, .int .i64 t3, .int .i64 line]) rfl)
                have hlt3 : w1.heap.size < (W2.setCell ⟨w1.heap.size, 3, none⟩ (.int .i64 line)).heap.size := blk_lt HBN.out
                clear hbn hr2 hB1 hB2 HT
                go_wp2_with ((with_reducible refine gate_builtin (b := .append) (xs := #[.tmp 77, .tmp 79]) rfl ?_); at_builtin; refine Kd.R_append k42 (w0 := w) w.heap.size rfl (.tmp 77) (.tmp 79) 37 42 (.agg #[(.int .i64 0), (.string ⟨#[]⟩), (.int .i64 0), (.int .i64 0)]) 40 rfl Tryd.underlying37 info42 rfl (by decide) (by omega) u5 ts (⟨t1, t2, t3, line⟩ : S42) [.int .i64 t1, .string t2, .int .i64 t3, .int .i64 line] (fun k_ => True ∧ k_ ≠ w1.heap.size) (fun _ => False) rfl (by first | (go_simp; done) | (go_simp; rfl)) ?aP (fun _ hk => hk.elim) ?aF ?aO ?aB ?aS ?aL ?_; (case aP => exact k42_mkM _ _ _ (⟨t1, t2, t3, line⟩ : S42)); (case aF => exact fun k_ hk => ⟨trivial, by omega⟩); (case aO => exact HO.out); (case aB => exact HB.out); (case aS => exact HB.out.size); (case aL => omega); intro v6 w6 ho hb hg hat; have HB6 := Lib.hid hb; have HO6 := Lib.hid (Kd.R_mono ho (fun _ _ => trivial)); have hbn6 := blk_grown HBN.out hg (Kd.R_away HO.out (fun _ hk => hk.2)); have m0 : w6.cell? ⟨w1.heap.size, 0, none⟩ = some (.int .i64 t1) := (blk_cell hbn6 0).trans rfl; clear HB HO HBN n0 n1 n2 n3 f3 hW2 ho hb hg hat hbn6 hlt3)
                have HW := Lib.hid (HR.out.next hq (Or.inr rfl) (by rw [he, if_pos H3.out]) HO6.out HB6.out)
                clear he HR HO6 HB6 H3
                go_roundw
                case rel => exact ⟨i + q, line + 1, ts ++ [⟨t1, t2, t3, line⟩], hiq, by go_num, by go_num, by omega, by simp only [List.length_append, List.length_cons, List.length_nil]; omega, HW⟩
                case measure => simp [intOf]; omega
              · have c3 : (t1 == 3) = false := beq_eq_false_iff_ne.2 h3
                clear HF
                go_wp2_with fail
                refine (taquinref09_token.calls kt a0 i _ _ _ _ _ _ _ HT.out).mono ?_
                rintro e w1 ⟨rfl, hB1⟩
                obtain ⟨W2, hW2⟩ : ∃ W2, w1.alloc (.cells #[.int .i64 t1, .string t2, .int .i64 t3, .int .i64 t4] 42) = W2 := ⟨_, rfl⟩
                have hB2 : Below w1.heap.size w1 W2 := hW2 ▸ (Below.refl _ _).alloc (Nat.le_refl _) _
                have hbn : W2.heap[w1.heap.size]? = some (.cells #[.int .i64 t1, .string t2, .int .i64 t3, .int .i64 t4] 42 (0, 0)) := by rw [← hW2]; exact heap_alloc_new w1 _
                have n0 : W2.cell? ⟨w1.heap.size, 0, none⟩ = some (.int .i64 t1) := (blk_cell hbn 0).trans rfl
                have n1 : W2.cell? ⟨w1.heap.size, 1, none⟩ = some (.string t2) := (blk_cell hbn 1).trans rfl
                have n2 : W2.cell? ⟨w1.heap.size, 2, none⟩ = some (.int .i64 t3) := (blk_cell hbn 2).trans rfl
                have n3 : W2.cell? ⟨w1.heap.size, 3, none⟩ = some (.int .i64 t4) := (blk_cell hbn 3).trans rfl
                have f3 := blk_frozen hbn 3
                have hr2 := Kd.R_below (Kd.R_elderB (Kd.R_below HR.out.own hB1) w1.heap.size (Nat.le_refl _)) hB2
                have HO := Lib.hid (Kd.R_far (p := ⟨w1.heap.size, 3, none⟩) hr2 (fun _ hk => hk.2) (.int .i64 line))
                have HB := Lib.hid (below_set (j := 3) (v := .int .i64 line) (below_step (below_step HR.out.bl hB1) hB2) (below_step HR.out.bl hB1).size)
                have HBN := Lib.hid (blk_put hbn 3 (.int .i64 line) (cs' := #[.int .i64 t1, .string t2, .int .i64 t3, .int .i64 line]) rfl)
                have hlt3 : w1.heap.size < (W2.setCell ⟨w1.heap.size, 3, none⟩ (.int .i64 line)).heap.size := blk_lt HBN.out
                clear hbn hr2 hB1 hB2 HT
                go_wp2_with ((with_reducible refine gate_builtin (b := .append) (xs := #[.tmp 77, .tmp 79]) rfl ?_); at_builtin; refine Kd.R_append k42 (w0 := w) w.heap.size rfl (.tmp 77) (.tmp 79) 37 42 (.agg #[(.int .i64 0), (.string ⟨#[]⟩), (.int .i64 0), (.int .i64 0)]) 40 rfl Tryd.underlying37 info42 rfl (by decide) (by omega) u5 ts (⟨t1, t2, t3, line⟩ : S42) [.int .i64 t1, .string t2, .int .i64 t3, .int .i64 line] (fun k_ => True ∧ k_ ≠ w1.heap.size) (fun _ => False) rfl (by first | (go_simp; done) | (go_simp; rfl)) ?aP (fun _ hk => hk.elim) ?aF ?aO ?aB ?aS ?aL ?_; (case aP => exact k42_mkM _ _ _ (⟨t1, t2, t3, line⟩ : S42)); (case aF => exact fun k_ hk => ⟨trivial, by omega⟩); (case aO => exact HO.out); (case aB => exact HB.out); (case aS => exact HB.out.size); (case aL => omega); intro v6 w6 ho hb hg hat; have HB6 := Lib.hid hb; have HO6 := Lib.hid (Kd.R_mono ho (fun _ _ => trivial)); have hbn6 := blk_grown HBN.out hg (Kd.R_away HO.out (fun _ hk => hk.2)); have m0 : w6.cell? ⟨w1.heap.size, 0, none⟩ = some (.int .i64 t1) := (blk_cell hbn6 0).trans rfl; clear HB HO HBN n0 n1 n2 n3 f3 hW2 ho hb hg hat hbn6 hlt3)
                have HW := Lib.hid (HR.out.next hq (Or.inl rfl) (by rw [he, if_neg h3]) HO6.out HB6.out)
                clear he HR HO6 HB6
                go_roundw
                case rel => exact ⟨i + q, line, ts ++ [⟨t1, t2, t3, line⟩], hiq, rfl, by go_num, by omega, by simp only [List.length_append, List.length_cons, List.length_nil]; omega, HW⟩
                case measure => simp [intOf]; omega
          · obtain rfl : i = a0.size := by omega
            have g1 : decide ((a0.size : Int) < (a0.size : Int)) = false := decide_eq_false (by omega)
            rcases hres with ⟨hr6, he⟩ | ⟨rfl, rfl, he⟩ | ⟨rfl, hr1, q, hq, hiq, rfl, he⟩
            · exact absurd (HR.out.eq.symm.trans he) (by rw [dropE, lexL_end [] line skipR_nil]; intro h; cases h)
            · have hX : (ts ++ [⟨4, t2, t3, line⟩], 0, 0) = (r1, r2, r3) := by rw [← HF.out]; unfold lexR; rw [he]
              simp only [Prod.mk.injEq] at hX
              obtain ⟨rfl, rfl, rfl⟩ := hX
              clear he HF ne_ hno
              go_wp2_with fail
              refine (taquinref09_token.calls kt a0 a0.size _ _ _ _ _ _ _ HT.out).mono ?_
              rintro e w1 ⟨rfl, hB1⟩
              obtain ⟨W2, hW2⟩ : ∃ W2, w1.alloc (.cells #[.int .i64 4, .string t2, .int .i64 t3, .int .i64 t4] 42) = W2 := ⟨_, rfl⟩
              have hB2 : Below w1.heap.size w1 W2 := hW2 ▸ (Below.refl _ _).alloc (Nat.le_refl _) _
              have hbn : W2.heap[w1.heap.size]? = some (.cells #[.int .i64 4, .string t2, .int .i64 t3, .int .i64 t4] 42 (0, 0)) := by rw [← hW2]; exact heap_alloc_new w1 _
              have n0 : W2.cell? ⟨w1.heap.size, 0, none⟩ = some (.int .i64 4) := (blk_cell hbn 0).trans rfl
              have n1 : W2.cell? ⟨w1.heap.size, 1, none⟩ = some (.string t2) := (blk_cell hbn 1).trans rfl
              have n2 : W2.cell? ⟨w1.heap.size, 2, none⟩ = some (.int .i64 t3) := (blk_cell hbn 2).trans rfl
              have n3 : W2.cell? ⟨w1.heap.size, 3, none⟩ = some (.int .i64 t4) := (blk_cell hbn 3).trans rfl
              have f3 := blk_frozen hbn 3
              have hr2 := Kd.R_below (Kd.R_elderB (Kd.R_below HR.out.own hB1) w1.heap.size (Nat.le_refl _)) hB2
              have HO := Lib.hid (Kd.R_far (p := ⟨w1.heap.size, 3, none⟩) hr2 (fun _ hk => hk.2) (.int .i64 line))
              have HB := Lib.hid (below_set (j := 3) (v := .int .i64 line) (below_step (below_step HR.out.bl hB1) hB2) (below_step HR.out.bl hB1).size)
              have HBN := Lib.hid (blk_put hbn 3 (.int .i64 line) (cs' := #[.int .i64 4, .string t2, .int .i64 t3, .int .i64 line]) rfl)
              have hlt3 : w1.heap.size < (W2.setCell ⟨w1.heap.size, 3, none⟩ (.int .i64 line)).heap.size := blk_lt HBN.out
              clear hbn hr2 hB1 hB2 HT
              go_wp2_with ((with_reducible refine gate_builtin (b := .append) (xs := #[.tmp 77, .tmp 79]) rfl ?_); at_builtin; refine Kd.R_append k42 (w0 := w) w.heap.size rfl (.tmp 77) (.tmp 79) 37 42 (.agg #[(.int .i64 0), (.string ⟨#[]⟩), (.int .i64 0), (.int .i64 0)]) 40 rfl Tryd.underlying37 info42 rfl (by decide) (by omega) u5 ts (⟨4, t2, t3, line⟩ : S42) [.int .i64 4, .string t2, .int .i64 t3, .int .i64 line] (fun k_ => True ∧ k_ ≠ w1.heap.size) (fun _ => False) rfl (by first | (go_simp; done) | (go_simp; rfl)) ?aP (fun _ hk => hk.elim) ?aF ?aO ?aB ?aS ?aL ?_; (case aP => exact k42_mkM _ _ _ (⟨4, t2, t3, line⟩ : S42)); (case aF => exact fun k_ hk => ⟨trivial, by omega⟩); (case aO => exact HO.out); (case aB => exact HB.out); (case aS => exact HB.out.size); (case aL => omega); intro v6 w6 ho hb hg hat; have HB6 := Lib.hid hb; have HO6 := Lib.hid (Kd.R_mono ho (fun _ _ => trivial)); have hbn6 := blk_grown HBN.out hg (Kd.R_away HO.out (fun _ hk => hk.2)); have m0 : w6.cell? ⟨w1.heap.size, 0, none⟩ = some (.int .i64 4) := (blk_cell hbn6 0).trans rfl; clear HB HO HBN n0 n1 n2 n3 f3 hW2 ho hb hg hat hbn6 hlt3)
              clear HR
              go_wp2
              go_ret3
              exact ⟨_, rfl, HO6.out, HB6.out⟩
            · omega
end Go.Proofs.YteifffaonigidaaDoor.M
