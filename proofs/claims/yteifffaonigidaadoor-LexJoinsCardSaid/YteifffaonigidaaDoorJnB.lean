/- The law LexJoins where both strings have tokens, walked: it returns true. -/
import Derived.Test.YteifffaonigidaaDoorJnA
namespace Go.Proofs.YteifffaonigidaaDoor.M
open Go.RowKit Go.Proofs.YteifffaonigidaaDoorW.PrintWords Go.Proofs.YteifffaonigidaaDoorW.PrintLast
open Go.Proofs.YteifffaonigidaaDoor.Pure
set_option linter.unusedVariables false
set_option linter.unusedSimpArgs false
/-- A call of Same behind W: what it reads lies as it lay in W. -/
theorem same_call (W : World) (A0 : Option Addr) (c0 : Nat) (l0 : List S42) (A1 : Option Addr) (c1 : Nat) (l1 : List S42) (a2 : Int) (h : taquinref09_Same.f l0 l1 a2 = some true)
    (hr0 : Kd.C k42 W A0 l0.length l0) (hc0 : l0.length ≤ c0) (hr1 : Kd.C k42 W A1 l1.length l1) (hc1 : l1.length ≤ c1) :
    ∀ W', Below W.heap.size W W' → Calls Tryd.prog 26 #[.slice A0 l0.length c0, .slice A1 l1.length c1, .int .i64 a2] W' fun e w' => e = .returned (.bool true) ∧ Below W.heap.size W w' := fun W' hb =>
  (taquinref09_Same.calls A0 c0 l0 A1 c1 l1 a2 true W' (Kd.C_below hr0 hb) hc0 (Kd.C_below hr1 hb) hc1 h).mono fun e w' ⟨he, hb'⟩ => ⟨he, hb.trans (hb'.mono hb.size)⟩
set_option maxHeartbeats 16000000 in
set_option maxRecDepth 100000 in
theorem joins_both (a0 a1 : ByteArray) (w : World) (hLd : LaidP w) (h0 : a0.size ≤ 5000) (h1 : a1.size ≤ 5000) (ts us zs : List S42) (ha : lex_Lex.f a0 = some (ts, 0, 0)) (hn : 1 ≤ ts.length) (hn2 : ts.length ≤ 10000) (hu2 : us.length ≤ 10000) (hzl : zs.length = ts.length + us.length)
    (L : Int) (hl : (rd_T42 ts ((ts.length - 1 : Nat) : Int)).f3 = L) (hL : 0 ≤ L ∧ L ≤ 10000)
    (hb : lex_Lex.f a1 = some (us, 0, 0)) (hz : lex_Lex.f ((a0 ++ (⟨#[10]⟩ : ByteArray)) ++ a1) = some (zs, 0, 0))
    (hfeed : rd_T42 zs ((ts.length - 1 : Nat) : Int) = ⟨3, ⟨#[]⟩, 0, L⟩)
    (S1 : taquinref09_Same.f (zs.take (ts.length - 1)) (ts.take (ts.length - 1)) 0 = some true) (S2 : taquinref09_Same.f (zs.drop ts.length) us L = some true) :
    Calls Tryd.prog 6 #[.string a0, .string a1] w fun e w' => e = .returned (.bool true) ∧ Below w.heap.size w w' := by
  have HSm := Lib.hid (taquinlaw09_small.calls 3 true w Lx.lex_small hLd)
  have d0 : decide ((5000 : Int) < (a0.size : Int)) = false := decide_eq_false (by omega)
  have d1 : decide ((5000 : Int) < (a1.size : Int)) = false := decide_eq_false (by omega)
  have d3 : ((ts.length : Int) == 0) = false := beq_eq_false_iff_ne.2 (by omega)
  have d4 : IntKind.i64.wrap ((ts.length : Int) - 1) = ((ts.length - 1 : Nat) : Int) := by rw [IntWalk.i64_in _ (by omega)]; omega
  have d5 : (0 : Int) ≤ ((ts.length - 1 : Nat) : Int) := by omega
  have d6 : ((ts.length - 1 : Nat) : Int) < (ts.length : Int) := by omega
  have d6z : ((ts.length - 1 : Nat) : Int) < (zs.length : Int) := by omega
  have d7 : ((ts.length - 1 : Nat) : Int).toNat = ts.length - 1 := by omega
  have d8 : IntKind.i64.wrap ((ts.length : Int) + (us.length : Int)) = (ts.length : Int) + (us.length : Int) := IntWalk.i64_in _ (by omega)
  have d9 : ((zs.length : Int) != (ts.length : Int) + (us.length : Int)) = false := bne_eq_false_iff_eq.2 (by omega)
  have HA := Lib.hid (lex_call a0 _ _ _ ha)
  have HBx := Lib.hid (lex_call a1 _ _ _ hb)
  have HZ := Lib.hid (lex_call _ _ _ _ hz)
  have HL := Lib.hid hLd
  clear ha hb hz hLd hL
  go_enter Tryd.func6, Tryd.ntmps6
  go_wp2_with fail
  refine HSm.out.mono ?_
  rintro e w1 ⟨rfl, hB1⟩
  have HB1 := Lib.hid hB1
  have HL1 := Lib.hid (HL.out.below hB1)
  clear hB1 HSm HL
  go_wp2_with fail
  refine (HA.out w1 HL1.out).mono ?_
  rintro e w2 ⟨A, c, rfl, hc, hC, hB2⟩
  have HB2 := Lib.hid (below_step HB1.out hB2)
  have HL2 := Lib.hid (HL1.out.below hB2)
  have HC := Lib.hid hC
  clear hB2 HL1 HB1 hC HA
  go_wp2_with fail
  refine (HBx.out w2 HL2.out).mono ?_
  rintro e w3 ⟨A', c', rfl, hc', hC', hB3⟩
  have HB3 := Lib.hid (below_step HB2.out hB3)
  have HL3 := Lib.hid (HL2.out.below hB3)
  have HC3 := Lib.hid (Kd.C_below HC.out hB3)
  have HU3 := Lib.hid hC'
  clear hB3 HL2 HB2 hC' HBx HC
  go_wp2_with fail
  refine (HZ.out w3 HL3.out).mono ?_
  rintro e w4 ⟨A'', c'', rfl, hc'', hC'', hB4⟩
  have HB4 := Lib.hid (below_step HB3.out hB4)
  have hC4 := Kd.C_below HC3.out hB4
  have hU4 := Kd.C_below HU3.out hB4
  obtain ⟨ad, rfl, x0, x1, x2, x3⟩ := at_T42 hC4 ((ts.length - 1 : Nat) : Int) (by omega) (by omega)
  obtain ⟨ad', rfl, y0, y1, y2, y3⟩ := at_T42 hC'' ((ts.length - 1 : Nat) : Int) (by omega) (by omega)
  rw [Int.toNat_natCast] at x0 x1 x2 x3 y0 y1 y2 y3
  rw [hl] at x3
  rw [hfeed] at y0 y1 y2 y3
  clear HB3 HL3 HC3 HZ HU3 hl hfeed
  obtain ⟨W2, hW2⟩ : ∃ W2, w4.alloc (.cells #[.int .i64 3, .string (⟨#[]⟩ : ByteArray), .int .i64 0, .int .i64 L] 42) = W2 := ⟨_, rfl⟩
  have hBW : Below w4.heap.size w4 W2 := hW2 ▸ (Below.refl _ _).alloc (Nat.le_refl _) _
  have hbn : W2.heap[w4.heap.size]? = some (.cells #[.int .i64 3, .string (⟨#[]⟩ : ByteArray), .int .i64 0, .int .i64 L] 42 (0, 0)) := by rw [← hW2]; exact heap_alloc_new w4 _
  have n0 : W2.cell? ⟨w4.heap.size, 0, none⟩ = some (.int .i64 3) := (blk_cell hbn 0).trans rfl
  have n1 : W2.cell? ⟨w4.heap.size, 1, none⟩ = some (.string (⟨#[]⟩ : ByteArray)) := (blk_cell hbn 1).trans rfl
  have n2 : W2.cell? ⟨w4.heap.size, 2, none⟩ = some (.int .i64 0) := (blk_cell hbn 2).trans rfl
  have n3 : W2.cell? ⟨w4.heap.size, 3, none⟩ = some (.int .i64 L) := (blk_cell hbn 3).trans rfl
  have HB5 := Lib.hid (below_step HB4.out hBW)
  have e1 : (zs.take (ts.length - 1)).length = ts.length - 1 := by rw [List.length_take]; omega
  have e2 : (ts.take (ts.length - 1)).length = ts.length - 1 := by rw [List.length_take]; omega
  have e3 : (zs.drop ts.length).length = us.length := by rw [List.length_drop]; omega
  have C1 := Kd.C_take (m := ts.length - 1) (Kd.C_below hC'' hBW) (by omega)
  have C2 := Kd.C_take (m := ts.length - 1) (Kd.C_below hC4 hBW) (by omega)
  have C3 := Kd.C_drop (m := ts.length) (c := c'') (Kd.C_below hC'' hBW) (by omega) hc''
  have C4 := Kd.C_below hU4 hBW
  have HS1 := same_call W2 _ c'' _ _ c _ _ S1 C1 (by omega) C2 (by omega)
  have HS2 := same_call W2 _ (c'' - ts.length) _ _ c' _ _ S2 C3 (by omega) C4 hc'
  rw [e1, e2] at HS1
  rw [e3] at HS2
  obtain ⟨i0, hi0, _, hsz, _⟩ := info_parts info42
  have K1 := cut_to (P := Tryd.prog) 37 42 .i64 Tryd.underlying37 hi0 (some ad') zs.length c'' ((ts.length - 1 : Nat) : Int) (by omega) (by omega) hc''
  have K2 := cut_to (P := Tryd.prog) 37 42 .i64 Tryd.underlying37 hi0 (some ad) ts.length c ((ts.length - 1 : Nat) : Int) (by omega) (by omega) hc
  have K3 := cut_from (P := Tryd.prog) 37 42 .i64 Tryd.underlying37 hi0 4 hsz (some ad') zs.length c'' (ts.length : Int) (by omega) (by omega)
  rw [Int.toNat_natCast] at K1 K2 K3
  rw [show zs.length - ts.length = us.length by omega] at K3
  obtain ⟨A5, hA5⟩ : ∃ A5, (if c'' = ts.length then some ad' else Option.map (fun x => x.add (ts.length * 4)) (some ad')) = A5 := ⟨_, rfl⟩
  rw [show k42.sz = 4 from rfl, hA5] at HS2
  rw [hA5, hzl] at K3
  rw [hzl] at K1
  have HKS : ∀ W : World, Below W2.heap.size W2 W → W.cell? ⟨w4.heap.size, 0, none⟩ = some (.int .i64 3) ∧ W.cell? ⟨w4.heap.size, 1, none⟩ = some (.string (⟨#[]⟩ : ByteArray)) ∧ W.cell? ⟨w4.heap.size, 2, none⟩ = some (.int .i64 0) ∧ W.cell? ⟨w4.heap.size, 3, none⟩ = some (.int .i64 L) := fun W hb =>
    ⟨(hb.cell (World.block_lt_of_cell? W2 _ n0)).trans n0, (hb.cell (World.block_lt_of_cell? W2 _ n1)).trans n1, (hb.cell (World.block_lt_of_cell? W2 _ n2)).trans n2, (hb.cell (World.block_lt_of_cell? W2 _ n3)).trans n3⟩
  have HKS := Lib.hid HKS
  have HS1' := Lib.hid HS1
  have HS2' := Lib.hid HS2
  clear C1 C2 C3 C4 S1 S2 hC'' hC4 hU4 hbn HS1 HS2 hi0 hsz hBW HB4 hB4 e1 e2 e3
  go_wp2
  try rw [hW2]
  clear hW2
  go_region_held3 (fun w' => w'.cell? ⟨w4.heap.size, 0, none⟩ = some (.int .i64 3) ∧ w'.cell? ⟨w4.heap.size, 1, none⟩ = some (.string (⟨#[]⟩ : ByteArray)) ∧ w'.cell? ⟨w4.heap.size, 2, none⟩ = some (.int .i64 0) ∧ w'.cell? ⟨w4.heap.size, 3, none⟩ = some (.int .i64 L))
    (first
      | exact ⟨n0, n1, n2, n3⟩
      | (refine HKS.out _ ?_; repeat (first | exact Below.refl _ _ | assumption | apply pw_below_drewN | apply below_drew1)))
    (first
      | (go_simp; go_at_call 26; with_reducible refine (HS1'.out _ (by repeat (first | exact Below.refl _ _ | assumption | apply pw_below_drewN | apply below_drew1))).mono ?_; rintro e w5 ⟨rfl, hb5⟩)
      | (go_simp; go_at_call 26; with_reducible refine (HS2'.out _ (by repeat (first | exact Below.refl _ _ | assumption | apply pw_below_drewN | apply below_drew1))).mono ?_; rintro e w6 ⟨rfl, hb6⟩))
  go_wp2
  go_ret
  exact ⟨rfl, below_step HB5.out hb6⟩
end Go.Proofs.YteifffaonigidaaDoor.M
