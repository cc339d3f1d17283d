/- The law LexJoins, walked: it returns true for every two strings. -/
import Derived.Test.YteifffaonigidaaDoorPuF
namespace Go.Proofs.YteifffaonigidaaDoor.M
open Go.RowKit Go.Proofs.YteifffaonigidaaDoorW.PrintWords Go.Proofs.YteifffaonigidaaDoorW.PrintLast
open Go.Proofs.YteifffaonigidaaDoor.Pure
set_option linter.unusedVariables false
set_option linter.unusedSimpArgs false
theorem lex_row {w : World} {base : Nat} {v : Value} {ts : List S42} (h : Kd.R k42 42 w base (fun _ => True) v ts) : ∃ A c, v = .slice A ts.length c ∧ ts.length ≤ c ∧ Kd.C k42 w A ts.length ts := Kd.R_reads h
set_option maxHeartbeats 8000000 in
set_option maxRecDepth 100000 in
theorem joins_big (a0 a1 : ByteArray) (w : World) (hLd : LaidP w) (hbig : a0.size > 5000 ∨ a1.size > 5000) :
    Calls Tryd.prog 6 #[.string a0, .string a1] w fun e w' => e = .returned (.bool true) ∧ Below w.heap.size w w' := by
  have HSm := Lib.hid (taquinlaw09_small.calls 3 true w Lx.lex_small hLd)
  by_cases h0 : a0.size > 5000
  · have d0 : decide ((5000 : Int) < (a0.size : Int)) = true := decide_eq_true (by omega)
    go_enter Tryd.func6, Tryd.ntmps6
    go_wp2_with fail
    refine HSm.out.mono ?_
    rintro e w1 ⟨rfl, hB1⟩
    have HB1 := Lib.hid hB1
    clear hB1 HSm
    go_wp2_with fail
    go_ret
    exact ⟨rfl, HB1.out⟩
  · have d0 : decide ((5000 : Int) < (a0.size : Int)) = false := decide_eq_false (by omega)
    have d1 : decide ((5000 : Int) < (a1.size : Int)) = true := decide_eq_true (by omega)
    go_enter Tryd.func6, Tryd.ntmps6
    go_wp2_with fail
    refine HSm.out.mono ?_
    rintro e w1 ⟨rfl, hB1⟩
    have HB1 := Lib.hid hB1
    clear hB1 HSm
    go_wp2_with fail
    go_ret
    exact ⟨rfl, HB1.out⟩
/-- What a call of Lex hands back. -/
theorem lex_call (a : ByteArray) (ts : List S42) (e_ n_ : Int) (h : lex_Lex.f a = some (ts, e_, n_)) (w : World) (hLd : LaidP w) :
    Calls Tryd.prog 25 #[.string a] w fun e w' => ∃ (A : Option Addr) (c : Nat), e = .returned (.tuple #[.slice A ts.length c, .int .i64 e_, .int .i64 n_]) ∧ ts.length ≤ c ∧ Kd.C k42 w' A ts.length ts ∧ Below w.heap.size w w' :=
  (lex_Lex.calls a ts e_ n_ w h hLd).mono fun e w' ⟨v, he, hR, hB⟩ => by
    obtain ⟨A, c, rfl, hc, hC⟩ := lex_row hR
    exact ⟨A, c, he, hc, hC, hB⟩
set_option maxHeartbeats 8000000 in
set_option maxRecDepth 100000 in
theorem joins_err (a0 a1 : ByteArray) (w : World) (hLd : LaidP w) (h0 : a0.size ≤ 5000) (h1 : a1.size ≤ 5000) (e_ m_ : Int) (he : e_ ≠ 0) (ha : lex_Lex.f a0 = some ([], e_, m_)) (us : List S42) (f_ n_ : Int) (hb : lex_Lex.f a1 = some (us, f_, n_)) :
    Calls Tryd.prog 6 #[.string a0, .string a1] w fun e w' => e = .returned (.bool true) ∧ Below w.heap.size w w' := by
  have HSm := Lib.hid (taquinlaw09_small.calls 3 true w Lx.lex_small hLd)
  have d0 : decide ((5000 : Int) < (a0.size : Int)) = false := decide_eq_false (by omega)
  have d1 : decide ((5000 : Int) < (a1.size : Int)) = false := decide_eq_false (by omega)
  have d2 : (e_ != 0) = true := bne_iff_ne.2 he
  have HA := Lib.hid (lex_call a0 _ _ _ ha)
  have HBx := Lib.hid (lex_call a1 _ _ _ hb)
  have HL := Lib.hid hLd
  clear ha hb he hLd
  go_enter Tryd.func6, Tryd.ntmps6
  go_wp2_with fail
  refine HSm.out.mono ?_
  rintro e w1 ⟨rfl, hB1⟩
  have HB1 := Lib.hid hB1
  have HL1 := Lib.hid (HL.out.below hB1)
  clear hB1 HSm HL
  go_wp2_with fail
  refine (HA.out w1 HL1.out).mono ?_
  rintro e w2 ⟨A, c, rfl, hc, hC, hB2⟩
  have HB2 := Lib.hid (below_step HB1.out hB2)
  have HL2 := Lib.hid (HL1.out.below hB2)
  clear hB2 HL1 HB1 hC HA
  go_wp2_with fail
  refine (HBx.out w2 HL2.out).mono ?_
  rintro e w3 ⟨A', c', rfl, hc', hC', hB3⟩
  have HB3 := Lib.hid (below_step HB2.out hB3)
  clear hB3 HL2 HB2 hC' HBx
  go_wp2_with fail
  go_ret
  exact ⟨rfl, HB3.out⟩
set_option maxHeartbeats 8000000 in
set_option maxRecDepth 100000 in
theorem joins_errb (a0 a1 : ByteArray) (w : World) (hLd : LaidP w) (h0 : a0.size ≤ 5000) (h1 : a1.size ≤ 5000) (ts : List S42) (ha : lex_Lex.f a0 = some (ts, 0, 0)) (hn : 1 ≤ ts.length) (hn2 : ts.length ≤ 10000) (L : Int) (hl : (rd_T42 ts ((ts.length - 1 : Nat) : Int)).f3 = L) (hL : 0 ≤ L ∧ L ≤ 10000)
    (f_ n_ : Int) (hf : f_ ≠ 0) (hn3 : 0 ≤ n_ ∧ n_ ≤ 10000) (hb : lex_Lex.f a1 = some ([], f_, n_)) (hz : lex_Lex.f ((a0 ++ (⟨#[10]⟩ : ByteArray)) ++ a1) = some ([], f_, n_ + L)) :
    Calls Tryd.prog 6 #[.string a0, .string a1] w fun e w' => e = .returned (.bool true) ∧ Below w.heap.size w w' := by
  have HSm := Lib.hid (taquinlaw09_small.calls 3 true w Lx.lex_small hLd)
  have d0 : decide ((5000 : Int) < (a0.size : Int)) = false := decide_eq_false (by omega)
  have d1 : decide ((5000 : Int) < (a1.size : Int)) = false := decide_eq_false (by omega)
  have d2 : (f_ != 0) = true := bne_iff_ne.2 hf
  have d3 : ((ts.length : Int) == 0) = false := beq_eq_false_iff_ne.2 (by omega)
  have d4 : IntKind.i64.wrap ((ts.length : Int) - 1) = ((ts.length - 1 : Nat) : Int) := by rw [IntWalk.i64_in _ (by omega)]; omega
  have d5 : (0 : Int) ≤ ((ts.length - 1 : Nat) : Int) := by omega
  have d6 : ((ts.length - 1 : Nat) : Int) < (ts.length : Int) := by omega
  have d7 : ((ts.length - 1 : Nat) : Int).toNat = ts.length - 1 := by omega
  have d8 : IntKind.i64.wrap (n_ + L) = n_ + L := IntWalk.i64_in _ (by omega)
  have HA := Lib.hid (lex_call a0 _ _ _ ha)
  have HBx := Lib.hid (lex_call a1 _ _ _ hb)
  have HZ := Lib.hid (lex_call _ _ _ _ hz)
  have HL := Lib.hid hLd
  clear ha hb hz hf hLd hL hn3
  go_enter Tryd.func6, Tryd.ntmps6
  go_wp2_with fail
  refine HSm.out.mono ?_
  rintro e w1 ⟨rfl, hB1⟩
  have HB1 := Lib.hid hB1
  have HL1 := Lib.hid (HL.out.below hB1)
  clear hB1 HSm HL
  go_wp2_with fail
  refine (HA.out w1 HL1.out).mono ?_
  rintro e w2 ⟨A, c, rfl, hc, hC, hB2⟩
  have HB2 := Lib.hid (below_step HB1.out hB2)
  have HL2 := Lib.hid (HL1.out.below hB2)
  have HC := Lib.hid hC
  clear hB2 HL1 HB1 hC HA
  go_wp2_with fail
  refine (HBx.out w2 HL2.out).mono ?_
  rintro e w3 ⟨A', c', rfl, hc', hC', hB3⟩
  have HB3 := Lib.hid (below_step HB2.out hB3)
  have HL3 := Lib.hid (HL2.out.below hB3)
  have HC3 := Lib.hid (Kd.C_below HC.out hB3)
  clear hB3 HL2 HB2 hC' HBx HC
  go_wp2_with fail
  refine (HZ.out w3 HL3.out).mono ?_
  rintro e w4 ⟨A'', c'', rfl, hc'', hC'', hB4⟩
  have HB4 := Lib.hid (below_step HB3.out hB4)
  have hC4 := Kd.C_below HC3.out hB4
  obtain ⟨ad, rfl, x0, x1, x2, x3⟩ := at_T42 hC4 ((ts.length - 1 : Nat) : Int) (by omega) (by omega)
  rw [Int.toNat_natCast] at x0 x1 x2 x3
  rw [hl] at x3
  clear hB4 HL3 HB3 hC'' HC3 HZ hC4 hl
  go_wp2
  repeat (go_quiet (fail); try go_wp2)
  go_ret
  exact ⟨rfl, by first | exact HB4.out | exact pw_below_drewN HB4.out _⟩
end Go.Proofs.YteifffaonigidaaDoor.M
