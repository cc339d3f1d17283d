/- The law TextTells, walked by hand: it returns true for every int, string, pattern and list. -/
import Derived.Test.YteifffaonigidaaDoorPrF
import Derived.Test.YteifffaonigidaaDoorPuA
import Derived.Test.YteifffaonigidaaDoorTxE
import Derived.Test.YteifffaonigidaaDoorTxD
import Derived.Test.YteifffaonigidaaDoorTxF
namespace Go.Proofs.YteifffaonigidaaDoor.Pure
open Go.RowKit Go.Proofs.YteifffaonigidaaDoor.M Go.Proofs.YteifffaonigidaaDoorW.PrintWords Go.Proofs.YteifffaonigidaaDoorW.PrintLast
open Go.Proofs.YteifffaonigidaaDoor.PatPlain Go.Proofs.YteifffaonigidaaDoor.Pure.Txt
set_option linter.unusedVariables false
set_option linter.unusedSimpArgs false
namespace Rf
theorem lines_le (s : ByteArray) (hs : s.size ≤ 300) : (linesB s).length ≤ 10000000 := by
  have h := congrArg List.length (lines_data s)
  rw [List.length_map] at h
  rw [h]
  have hl : s.data.toList.length = s.size := rfl
  have hu := unl_lines s.data.toList
  have h2 : ∀ ls : List (List UInt8), ls.length ≤ (unl ls).length := fun ls => by
    induction ls with
    | nil => simp [unl]
    | cons a ls ih =>
      have e : unl (a :: ls) = a ++ [10] ++ unl ls := by simp [unl]
      rw [e]
      simp only [List.length_append, List.length_cons, List.length_nil]
      omega
  have h3 := h2 (linesL s.data.toList)
  have h4 : (unl (linesL s.data.toList)).length ≤ s.size + 1 := by
    rw [hu]
    split
    · simp
    · split
      · omega
      · simp only [List.length_append, List.length_cons, List.length_nil]; omega
  omega
theorem fields_le (s : ByteArray) (hs : s.size ≤ 300) : (Lib.goFieldsP white s).length ≤ 10000000 := by
  have h := congrArg List.length (fields_data s)
  rw [List.length_map] at h
  rw [h]
  have hl : s.data.toList.length = s.size := rfl
  have hf : ∀ (l cur : List UInt8), (fl cur l).length ≤ l.length + 1 := by
    intro l
    induction l with
    | nil => intro cur; unfold fl; split <;> simp
    | cons c r ih =>
      intro cur
      have h1 := ih []
      have h2 := ih (cur ++ [c])
      rw [fl.eq_def]
      simp only [List.length_cons]
      split
      · split
        · omega
        · simp only [List.length_cons]; omega
      · omega
  have := hf s.data.toList []
  omega
theorem unlines_len_le (l : List ByteArray) (h3 : l.length ≤ 30) (hg : ∀ x ∈ l, x.size ≤ 100) : (unlinesL l).length ≤ 4000 := by
  have : ∀ l : List ByteArray, (∀ x ∈ l, x.size ≤ 100) → (unlinesL l).length ≤ 101 * l.length := by
    intro l
    induction l with
    | nil => intro _; simp [unlinesL]
    | cons a l ih =>
      intro h
      have h1 := ih (fun x hx => h x (List.mem_cons_of_mem _ hx))
      have h2 := h a (List.mem_cons_self ..)
      have h3 : a.data.toList.length = a.size := rfl
      unfold unlinesL at h1 ⊢
      rw [List.flatMap_cons, List.length_append, List.length_append, List.length_cons]
      simp only [List.length_cons, List.length_nil]
      omega
  have := this l hg
  omega
end Rf
end Go.Proofs.YteifffaonigidaaDoor.Pure
namespace Go.Proofs.YteifffaonigidaaDoor.M
open Go.RowKit Go.Proofs.YteifffaonigidaaDoorW.PrintWords Go.Proofs.YteifffaonigidaaDoorW.PrintLast
open Go.Proofs.YteifffaonigidaaDoor.PatPlain
open Go.Proofs.YteifffaonigidaaDoor.Pure Go.Proofs.YteifffaonigidaaDoor.Pure.Rf
set_option linter.unusedVariables false
set_option linter.unusedSimpArgs false
/-- A call that gives v behind w, wherever behind w it is made. -/
def Gives (w : World) (f : Nat) (args : Array Value) (v : Value) : Prop := ∀ W, Below w.heap.size w W → Calls Tryd.prog f args W fun e w' => e = .returned v ∧ Below w.heap.size w w'
theorem gives {w : World} {f : Nat} {args : Array Value} {v : Value} (h : ∀ W, Below w.heap.size w W → Calls Tryd.prog f args W fun e w' => e = .returned v ∧ Below W.heap.size W w') : Gives w f args v := fun W hb =>
  (h W hb).mono fun e w' ⟨he, hb'⟩ => ⟨he, hb.trans (hb'.mono hb.size)⟩
/-- A call that gives a row of strings. -/
def GivesRow (w : World) (f : Nat) (args : Array Value) (l : List ByteArray) : Prop := ∀ W, Below w.heap.size w W → Calls Tryd.prog f args W fun e w' => ∃ (A : Option Addr) (c : Nat), e = .returned (.slice A l.length c) ∧ l.length ≤ c ∧ Kd.C Kd.string w' A l.length l ∧ Below w.heap.size w w' ∧ Below W.heap.size W w'
theorem givesRow {w : World} {f : Nat} {args : Array Value} {l : List ByteArray} (h : ∀ W, Below w.heap.size w W → Calls Tryd.prog f args W fun e w' => ∃ v0_ : Value, e = .returned (v0_) ∧ Kd.R Kd.string 9 w' W.heap.size (fun _ => True) v0_ l ∧ Below W.heap.size W w') : GivesRow w f args l := fun W hb =>
  (h W hb).mono fun e w' ⟨v, he, hR, hb'⟩ => by
    obtain ⟨A, c, rfl, hc, hC⟩ := Kd.R_reads hR
    exact ⟨A, c, he, hc, hC, hb.trans (hb'.mono hb.size), hb'⟩
theorem same_gives (w W : World) (A0 A1 : Option Addr) (c0 c1 : Nat) (l : List ByteArray) (hl : l.length ≤ 10000000) (h0 : Kd.C Kd.string W A0 l.length l) (hc0 : l.length ≤ c0) (h1 : Kd.C Kd.string W A1 l.length l) (hc1 : l.length ≤ c1) :
    Calls Tryd.prog 14 #[.slice A0 l.length c0, .slice A1 l.length c1] W fun e w' => e = .returned (.bool true) ∧ ∃ m, w' = W.drewN m := by
  obtain ⟨k, hk⟩ := (Rf.Same l hl).get
  exact (taquinref02_Same.calls k A0 c0 l A1 c1 l true W h0 hc0 h1 hc1 hk).mono fun e w' ⟨h, m⟩ => let ⟨x, hx⟩ := m; ⟨h, x, hx⟩
set_option maxHeartbeats 16000000 in
set_option maxRecDepth 100000 in
theorem tells_big (a0 : Int) (a1 a2 : ByteArray) (A : Option Addr) (c : Nat) (l3 : List ByteArray) (w : World) (hLd : LaidP w) (hbig : a1.size > 300 ∨ a2.size > 100 ∨ l3.length > 30) :
    Calls Tryd.prog 12 #[.int .i64 a0, .string a1, .string a2, .slice A l3.length c] w fun e w' => e = .returned (.bool true) ∧ Below w.heap.size w w' := by
  have HSm := Lib.hid (taquinlaw02_small.calls 51 true w Pure.small hLd)
  by_cases h1 : a1.size > 300
  · have d1 : decide ((300 : Int) < (a1.size : Int)) = true := decide_eq_true (by omega)
    go_enter Tryd.func12, Tryd.ntmps12
    go_wp2_with fail
    refine HSm.out.mono ?_
    rintro e w1 ⟨rfl, hB1⟩
    have HB1 := Lib.hid hB1
    clear hB1 HSm
    go_wp2_with fail
    go_ret
    exact ⟨rfl, HB1.out⟩
  · have d1 : decide ((300 : Int) < (a1.size : Int)) = false := decide_eq_false (by omega)
    by_cases h2 : a2.size > 100
    · have d2 : decide ((100 : Int) < (a2.size : Int)) = true := decide_eq_true (by omega)
      go_enter Tryd.func12, Tryd.ntmps12
      go_wp2_with fail
      refine HSm.out.mono ?_
      rintro e w1 ⟨rfl, hB1⟩
      have HB1 := Lib.hid hB1
      clear hB1 HSm
      go_wp2_with fail
      go_ret
      exact ⟨rfl, HB1.out⟩
    · have d2 : decide ((100 : Int) < (a2.size : Int)) = false := decide_eq_false (by omega)
      have d3 : decide ((30 : Int) < (l3.length : Int)) = true := decide_eq_true (by omega)
      go_enter Tryd.func12, Tryd.ntmps12
      go_wp2_with fail
      refine HSm.out.mono ?_
      rintro e w1 ⟨rfl, hB1⟩
      have HB1 := Lib.hid hB1
      clear hB1 HSm
      go_wp2_with fail
      go_ret
      exact ⟨rfl, HB1.out⟩
set_option maxHeartbeats 16000000 in
set_option maxRecDepth 100000 in
theorem tells_small (a0 : Int) (a1 a2 : ByteArray) (A : Option Addr) (c : Nat) (l3 : List ByteArray) (w : World) (hLd : LaidP w) (hn0 : -9223372036854775808 ≤ a0) (hn1 : a0 ≤ 9223372036854775807) (h1 : a1.size ≤ 300) (h2 : a2.size ≤ 100) (h3 : l3.length ≤ 30)
    (hr : Kd.C Kd.string w A l3.length l3) (hc : l3.length ≤ c) :
    Calls Tryd.prog 12 #[.int .i64 a0, .string a1, .string a2, .slice A l3.length c] w fun e w' => e = .returned (.bool true) ∧ Below w.heap.size w w' := by
  have HSm := Lib.hid (taquinlaw02_small.calls 51 true w Pure.small hLd)
  have d1 : decide ((300 : Int) < (a1.size : Int)) = false := decide_eq_false (by omega)
  have d2 : decide ((100 : Int) < (a2.size : Int)) = false := decide_eq_false (by omega)
  have d3 : decide ((30 : Int) < (l3.length : Int)) = false := decide_eq_false (by omega)
  have HC3 := Lib.hid hr
  -- what the functions answer
  obtain ⟨kI, rI⟩ := (Rf.int_ a1).get
  obtain ⟨kU, rU⟩ := (Rf.unquote a1 (by omega)).get
  obtain ⟨kD, rD⟩ := (Rf.decimal a0 hn0 hn1).get
  obtain ⟨kQ, rQ⟩ := (Rf.quote a1 (by omega)).get
  obtain ⟨kL, rL⟩ := (Rf.Lines a1 (by omega)).get
  obtain ⟨kF, rF⟩ := (Rf.Fields a1 (by omega)).get
  obtain ⟨kP, rP⟩ := (Rf.Pattern a2 a1 (by omega) (by omega)).get
  obtain ⟨kM, rM⟩ := (Rf.Magic a2 (by omega)).get
  obtain ⟨kW, rW⟩ := (Rf.Plain a2 (by omega)).get
  obtain ⟨kE, rE⟩ := (Rf.Escape a1 (by omega)).get
  obtain ⟨iv, hiv⟩ : ∃ x, intOfText a1.data.toList = x := ⟨_, rfl⟩
  obtain ⟨i1, i2⟩ := iv
  obtain ⟨uv, huv⟩ : ∃ x : ByteArray × Bool, (⟨(unquoteL a1.data.toList).1.toArray⟩, (unquoteL a1.data.toList).2) = x := ⟨_, rfl⟩
  obtain ⟨u1, u2⟩ := uv
  have e20 : text_Int.f a1 = some (i1, i2) := by unfold text_Int.f; rw [if_pos (by omega), hiv]
  have e22 : text_Unquote.f a1 = some (u1, u2) := by unfold text_Unquote.f; rw [if_pos (by omega), huv]
  have e21 : text_Decimal.f a0 = some ⟨(Lib.itoa a0).toArray⟩ := by unfold text_Decimal.f; rw [if_pos ⟨hn0, hn1⟩]
  have e23 : text_Quote.f a1 = some ⟨(quoteL a1.data.toList).toArray⟩ := by unfold text_Quote.f; rw [if_pos (by omega)]
  have e15 : text_Lines.f a1 = some (linesB a1) := by unfold text_Lines.f; rw [if_pos (by omega)]
  have e17 : text_Fields.f a1 = some (Lib.goFieldsP white a1) := by unfold text_Fields.f; rw [if_pos (by omega)]
  have e18 : text_Pattern.f a2 a1 = some (PatPlain.M (parts a2.data.toList) a1.data.toList) := by unfold text_Pattern.f; rw [if_pos ⟨by omega, by omega⟩]
  have e28 : text_Magic.f a2 = some (magicL a2.data.toList) := by unfold text_Magic.f; rw [if_pos (by omega)]
  have e29 : text_Plain.f a2 = some ⟨(plainT a2.data.toList).toArray⟩ := by unfold text_Plain.f; rw [if_pos (by omega)]
  have e19 : text_Escape.f a1 = some ⟨(esc a1.data.toList).toArray⟩ := by unfold text_Escape.f; rw [if_pos (by omega)]
  rw [hiv] at rI
  rw [huv] at rU
  have G20 := Lib.hid (gives (w := w) (fun W hb => text_Int.calls a1 i1 i2 W e20 (hLd.below hb)))
  have G34 := Lib.hid (gives (w := w) (fun W hb => taquinref02_Int.calls kI a1 i1 i2 W rI))
  have G22 := Lib.hid (gives (w := w) (fun W hb => text_Unquote.calls a1 u1 u2 W e22))
  have G35 := Lib.hid (gives (w := w) (fun W hb => taquinref02_Unquote.calls kU a1 u1 u2 W rU))
  have G21 := Lib.hid (gives (w := w) (fun W hb => text_Decimal.calls a0 _ W e21 (hLd.below hb)))
  have G36 := Lib.hid (gives (w := w) (fun W hb => taquinref02_Decimal.calls kD a0 _ W rD))
  have G23 := Lib.hid (gives (w := w) (fun W hb => text_Quote.calls a1 _ W e23))
  have G37 := Lib.hid (gives (w := w) (fun W hb => taquinref02_Quote.calls kQ a1 _ W rQ))
  have G15 := Lib.hid (givesRow (w := w) (fun W hb => text_Lines.calls a1 _ W e15 (hLd.below hb)))
  have G38 := Lib.hid (givesRow (w := w) (fun W hb => taquinref02_Lines.calls kL a1 _ W rL))
  have G17 := Lib.hid (givesRow (w := w) (fun W hb => text_Fields.calls a1 _ W e17))
  have G40 := Lib.hid (givesRow (w := w) (fun W hb => taquinref02_Fields.calls kF a1 _ W rF))
  have G18 := Lib.hid (gives (w := w) (fun W hb => text_Pattern.calls a2 a1 _ W e18))
  have G41 := Lib.hid (gives (w := w) (fun W hb => taquinref02_Pattern.calls kP a2 a1 _ W rP))
  have G28 := Lib.hid (gives (w := w) (fun W hb => text_Magic.calls a2 _ W e28))
  have G42 := Lib.hid (gives (w := w) (fun W hb => taquinref02_Magic.calls kM a2 _ W rM))
  have G29 := Lib.hid (gives (w := w) (fun W hb => text_Plain.calls a2 _ W e29))
  have G43 := Lib.hid (gives (w := w) (fun W hb => taquinref02_Plain.calls kW a2 _ W rW))
  have G19 := Lib.hid (gives (w := w) (fun W hb => text_Escape.calls a1 _ W e19))
  have G44 := Lib.hid (gives (w := w) (fun W hb => taquinref02_Escape.calls kE a1 _ W rE))
  obtain ⟨pm, hpm⟩ : ∃ x, PatPlain.M (parts a2.data.toList) a1.data.toList = x := ⟨_, rfl⟩
  obtain ⟨mm, hmm⟩ : ∃ x, magicL a2.data.toList = x := ⟨_, rfl⟩
  obtain ⟨dd, hdd⟩ : ∃ x, (⟨(Lib.itoa a0).toArray⟩ : ByteArray) = x := ⟨_, rfl⟩
  obtain ⟨qq, hqq⟩ : ∃ x, (⟨(quoteL a1.data.toList).toArray⟩ : ByteArray) = x := ⟨_, rfl⟩
  obtain ⟨ww, hww⟩ : ∃ x, (⟨(plainT a2.data.toList).toArray⟩ : ByteArray) = x := ⟨_, rfl⟩
  obtain ⟨ee, hee⟩ : ∃ x, (⟨(esc a1.data.toList).toArray⟩ : ByteArray) = x := ⟨_, rfl⟩
  obtain ⟨ls, hls⟩ : ∃ x, linesB a1 = x := ⟨_, rfl⟩
  obtain ⟨fs, hfs⟩ : ∃ x, Lib.goFieldsP white a1 = x := ⟨_, rfl⟩
  have LLs := Lib.hid (lines_le a1 h1)
  have LFs := Lib.hid (fields_le a1 h1)
  rw [hpm] at G18 G41
  rw [hmm] at G28 G42
  rw [hdd] at G21 G36
  rw [hqq] at G23 G37
  rw [hww] at G29 G43
  rw [hee] at G19 G44
  rw [hls] at G15 G38 LLs
  rw [hfs] at G17 G40 LFs
  clear rI rU rD rQ rL rF rP rM rW rE e20 e22 e21 e23 e15 e17 e18 e28 e29 e19 hiv huv hpm hmm hdd hqq hww hee hls hfs hr hLd hn0 hn1
  go_enter Tryd.func12, Tryd.ntmps12
  go_wp2_with fail
  refine HSm.out.mono ?_
  rintro e w1 ⟨rfl, hB1⟩
  have HB1 := Lib.hid hB1
  clear hB1 HSm
  go_wp2_with fail
  go_loopw [10] (fun v10 wr => ∃ i : Nat, i ≤ l3.length ∧ v10 = .int .i64 i ∧ Hid (∀ j (h : j < l3.length), j < i → l3[j].size ≤ 100) ∧ Hid (Below w.heap.size w wr)) (fun v _ => l3.length + 2 - (intOf v).toNat)
  case atStart => exact ⟨0, Nat.zero_le _, rfl, Lib.hid (fun j _ h => by omega), HB1⟩
  case round =>
    clear HB1
    obtain ⟨i, hi, rfl, HG, HB⟩ := hrel
    by_cases hlt : i < l3.length
    · have g1 : (i : Int) < (l3.length : Int) := by omega
      have g0 : (0 : Int) ≤ (i : Int) := by omega
      obtain ⟨ad, hA, hx⟩ := Kd.at_string (Kd.C_below HC3.out HB.out) (i : Int) g0 g1
      rw [Int.toNat_natCast, rdS l3 i hlt] at hx
      subst hA
      by_cases hbig : l3[i].size > 100
      · have d4 : decide ((100 : Int) < (l3[i].size : Int)) = true := decide_eq_true (by omega)
        clear HG hbig
        go_wp2_with fail
        go_ret
        exact ⟨rfl, HB.out⟩
      · have d4 : decide ((100 : Int) < (l3[i].size : Int)) = false := decide_eq_false (by omega)
        have HG2 := Lib.hid (show ∀ j (h : j < l3.length), j < i + 1 → l3[j].size ≤ 100 from fun j h hj => by
          rcases Nat.lt_or_ge j i with h' | h'
          · exact HG.out j h h'
          · obtain rfl : j = i := by omega
            omega)
        clear HG hbig
        go_wp2_with fail
        go_roundw
        case rel => exact ⟨i + 1, by omega, by go_num, HG2, HB⟩
        case measure => simp [intOf]; omega
    · obtain rfl : i = l3.length := by omega
      have g1 : decide ((l3.length : Int) < (l3.length : Int)) = false := decide_eq_false (by omega)
      have hg : ∀ x ∈ l3, x.size ≤ 100 := fun x hx => by
        obtain ⟨j, hj, rfl⟩ := List.getElem_of_mem hx
        exact HG.out j hj hj
      have hul := unlines_len_le l3 h3 hg
      obtain ⟨kN, rN⟩ := (Rf.Unlines l3 (by omega) (fun x hx => by have := hg x hx; omega)).get
      have e16 : text_Unlines.f l3 = some ⟨(unlinesL l3).toArray⟩ := by unfold text_Unlines.f; rw [if_pos (by omega)]
      have G16 := Lib.hid (gives (w := w) (fun W hb => text_Unlines.calls A c l3 _ W (Kd.C_below HC3.out hb) hc e16))
      have G39 := Lib.hid (gives (w := w) (fun W hb => taquinref02_Unlines.calls kN A c l3 _ W (Kd.C_below HC3.out hb) hc rN))
      obtain ⟨nn, hnn⟩ : ∃ x, (⟨(unlinesL l3).toArray⟩ : ByteArray) = x := ⟨_, rfl⟩
      rw [hnn] at G16 G39
      clear e16 rN hul hg HG hnn HC3
      go_wp2_with fail
      refine (G20.out _ HB.out).mono ?_
      rintro e v1 ⟨rfl, hb1⟩
      have HX1 := Lib.hid hb1
      clear hb1 G20 HB
      go_wp2_with fail
      refine (G34.out _ HX1.out).mono ?_
      rintro e v2 ⟨rfl, hb2⟩
      have HX2 := Lib.hid hb2
      clear hb2 G34 HX1
      go_wp2_with fail
      refine (G22.out _ HX2.out).mono ?_
      rintro e v3 ⟨rfl, hb3⟩
      have HX3 := Lib.hid hb3
      clear hb3 G22 HX2
      go_wp2_with fail
      refine (G35.out _ HX3.out).mono ?_
      rintro e v4 ⟨rfl, hb4⟩
      have HX4 := Lib.hid hb4
      clear hb4 G35 HX3
      go_wp2_with fail
      refine (G21.out _ HX4.out).mono ?_
      rintro e v5 ⟨rfl, hb5⟩
      have HX5 := Lib.hid hb5
      clear hb5 G21 HX4
      go_wp2_with fail
      refine (G36.out _ HX5.out).mono ?_
      rintro e v6 ⟨rfl, hb6⟩
      have HX6 := Lib.hid hb6
      clear hb6 G36 HX5
      go_wp2_with fail
      refine (G23.out _ HX6.out).mono ?_
      rintro e v7 ⟨rfl, hb7⟩
      have HX7 := Lib.hid hb7
      clear hb7 G23 HX6
      go_wp2_with fail
      refine (G37.out _ HX7.out).mono ?_
      rintro e v8 ⟨rfl, hb8⟩
      have HX8 := Lib.hid hb8
      clear hb8 G37 HX7
      go_wp2_with fail
      refine (G15.out _ HX8.out).mono ?_
      rintro e v9 ⟨A9, c9, rfl, hc9, hC9, hb9, -⟩
      have HX9 := Lib.hid hb9
      have HC9 := Lib.hid hC9
      clear hb9 hC9 G15 HX8
      go_wp2_with fail
      refine (G38.out _ HX9.out).mono ?_
      rintro e v10 ⟨A10, c10, rfl, hc10, hC10, hb10, hs10⟩
      have HX10 := Lib.hid hb10
      have HS10 := Lib.hid (same_gives w v10 A9 A10 c9 c10 _ LLs.out (Kd.C_below HC9.out hs10) hc9 hC10 hc10)
      clear hb10 hC10 hs10 G38 HX9 HC9
      go_wp2_with fail
      refine (HS10.out).mono ?_
      rintro e v11 ⟨rfl, m11, rfl⟩
      have HX11 := Lib.hid (pw_below_drewN HX10.out m11)
      clear HS10 HX10
      go_wp2_with fail
      refine (G16.out _ HX11.out).mono ?_
      rintro e v12 ⟨rfl, hb12⟩
      have HX12 := Lib.hid hb12
      clear hb12 G16 HX11
      go_wp2_with fail
      refine (G39.out _ HX12.out).mono ?_
      rintro e v13 ⟨rfl, hb13⟩
      have HX13 := Lib.hid hb13
      clear hb13 G39 HX12
      go_wp2_with fail
      refine (G17.out _ HX13.out).mono ?_
      rintro e v14 ⟨A14, c14, rfl, hc14, hC14, hb14, -⟩
      have HX14 := Lib.hid hb14
      have HC14 := Lib.hid hC14
      clear hb14 hC14 G17 HX13
      go_wp2_with fail
      refine (G40.out _ HX14.out).mono ?_
      rintro e v15 ⟨A15, c15, rfl, hc15, hC15, hb15, hs15⟩
      have HX15 := Lib.hid hb15
      have HS15 := Lib.hid (same_gives w v15 A14 A15 c14 c15 _ LFs.out (Kd.C_below HC14.out hs15) hc14 hC15 hc15)
      clear hb15 hC15 hs15 G40 HX14 HC14
      go_wp2_with fail
      refine (HS15.out).mono ?_
      rintro e v16 ⟨rfl, m16, rfl⟩
      have HX16 := Lib.hid (pw_below_drewN HX15.out m16)
      clear HS15 HX15
      go_wp2_with fail
      refine (G18.out _ HX16.out).mono ?_
      rintro e v17 ⟨rfl, hb17⟩
      have HX17 := Lib.hid hb17
      clear hb17 G18 HX16
      go_wp2_with fail
      refine (G41.out _ HX17.out).mono ?_
      rintro e v18 ⟨rfl, hb18⟩
      have HX18 := Lib.hid hb18
      clear hb18 G41 HX17
      go_wp2_with fail
      refine (G28.out _ HX18.out).mono ?_
      rintro e v19 ⟨rfl, hb19⟩
      have HX19 := Lib.hid hb19
      clear hb19 G28 HX18
      go_wp2_with fail
      refine (G42.out _ HX19.out).mono ?_
      rintro e v20 ⟨rfl, hb20⟩
      have HX20 := Lib.hid hb20
      clear hb20 G42 HX19
      go_wp2_with fail
      refine (G29.out _ HX20.out).mono ?_
      rintro e v21 ⟨rfl, hb21⟩
      have HX21 := Lib.hid hb21
      clear hb21 G29 HX20
      go_wp2_with fail
      refine (G43.out _ HX21.out).mono ?_
      rintro e v22 ⟨rfl, hb22⟩
      have HX22 := Lib.hid hb22
      clear hb22 G43 HX21
      go_wp2_with fail
      refine (G19.out _ HX22.out).mono ?_
      rintro e v23 ⟨rfl, hb23⟩
      have HX23 := Lib.hid hb23
      clear hb23 G19 HX22
      go_wp2_with fail
      refine (G44.out _ HX23.out).mono ?_
      rintro e v24 ⟨rfl, hb24⟩
      have HX24 := Lib.hid hb24
      clear hb24 G44 HX23
      go_wp2_with fail
      go_ret
      exact ⟨by simp, HX24.out⟩
theorem tells_all (a0 : Int) (a1 a2 : ByteArray) (A : Option Addr) (c : Nat) (l3 : List ByteArray) (w : World) (hLd : LaidP w) (hn0 : -9223372036854775808 ≤ a0) (hn1 : a0 ≤ 9223372036854775807) (hr : Kd.C Kd.string w A l3.length l3) (hc : l3.length ≤ c) :
    Calls Tryd.prog 12 #[.int .i64 a0, .string a1, .string a2, .slice A l3.length c] w fun e w' => e = .returned (.bool true) ∧ Below w.heap.size w w' := by
  by_cases h : a1.size > 300 ∨ a2.size > 100 ∨ l3.length > 30
  · exact tells_big a0 a1 a2 A c l3 w hLd h
  · exact tells_small a0 a1 a2 A c l3 w hLd hn0 hn1 (by omega) (by omega) (by omega) hr hc
def taquinlaw02_TextTells.f (k : Nat) (a0 : Int) (a1 a2 : ByteArray) (l3 : List ByteArray) : Option Bool := if -9223372036854775808 ≤ a0 ∧ a0 ≤ 9223372036854775807 then some true else none
theorem taquinlaw02_TextTells.calls (k : Nat) (a0 : Int) (a1 : ByteArray) (a2 : ByteArray) (A3 : Option Addr) (c3 : Nat) (l3 : List ByteArray) (r : Bool) (w : World) (hr3 : Kd.C Kd.string w A3 l3.length l3) (hc3 : l3.length ≤ c3) (h : taquinlaw02_TextTells.f k a0 a1 a2 l3 = some r) (hLd : LaidP w) :
    Calls Tryd.prog 12 #[.int .i64 a0, .string a1, .string a2, .slice A3 l3.length c3] w fun e w' => e = .returned (.bool r) ∧ Below w.heap.size w w' := by
  unfold taquinlaw02_TextTells.f at h
  by_cases hx : -9223372036854775808 ≤ a0 ∧ a0 ≤ 9223372036854775807
  · rw [if_pos hx] at h
    obtain rfl := Option.some.inj h
    exact tells_all a0 a1 a2 A3 c3 l3 w hLd hx.1 hx.2 hr3 hc3
  · rw [if_neg hx] at h
    exact absurd h (by simp)
end Go.Proofs.YteifffaonigidaaDoor.M
