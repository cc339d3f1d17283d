/- The contract of taquinref09.Same, for rows of at most 1000000 tokens. -/
import Derived.Test.YteifffaonigidaaDoorTxB
import Derived.Test.YteifffaonigidaaDoorLxL
import Derived.Test.YteifffaonigidaaDoorPrB
import Derived.Test.YteifffaonigidaaDoorMx16
import Derived.Lib.PathFns
namespace Go.Proofs.YteifffaonigidaaDoor.M
open Go.RowKit Go.Proofs.YteifffaonigidaaDoorW.PrintWords Go.Proofs.YteifffaonigidaaDoorW.PrintLast
set_option linter.unusedVariables false
set_option linter.unusedSimpArgs false
def tokEq (a : Int) (x y : S42) : Bool := x.f0 == y.f0 && (x.f1.toList == y.f1.toList && (x.f2 == y.f2 && x.f3 == wrap64 (y.f3 + a)))
def sameL (a : Int) : List S42 → List S42 → Bool
  | [], [] => true
  | x :: xs, y :: ys => tokEq a x y && sameL a xs ys
  | _, _ => false
def taquinref09_Same.f (l0 l1 : List S42) (a2 : Int) : Option Bool := if l0.length ≤ 1000000 then some (sameL a2 l0 l1) else none
theorem sameL_ne (a : Int) : ∀ (x y : List S42), x.length ≠ y.length → sameL a x y = false
  | [], [], h => absurd rfl h
  | [], _ :: _, _ => rfl
  | _ :: _, [], _ => rfl
  | x :: xs, y :: ys, h => by rw [sameL, sameL_ne a xs ys (by simpa using h), Bool.and_false]
theorem sameL_at (a : Int) (l0 l1 : List S42) (i : Nat) (h0 : i < l0.length) (h1 : i < l1.length) : sameL a (l0.drop i) (l1.drop i) = (tokEq a (rd_T42 l0 (i : Int)) (rd_T42 l1 (i : Int)) && sameL a (l0.drop (i + 1)) (l1.drop (i + 1))) := by
  rw [List.drop_eq_getElem_cons h0, List.drop_eq_getElem_cons h1, sameL]
  unfold rd_T42
  rw [Int.toNat_natCast]
  simp [h0, h1]
set_option maxHeartbeats 8000000 in
set_option maxRecDepth 100000 in
theorem taquinref09_Same.calls (A0 : Option Addr) (c0 : Nat) (l0 : List S42) (A1 : Option Addr) (c1 : Nat) (l1 : List S42) (a2 : Int) (r : Bool) (w : World) (hr0 : Kd.C k42 w A0 l0.length l0) (hc0 : l0.length ≤ c0) (hr1 : Kd.C k42 w A1 l1.length l1) (hc1 : l1.length ≤ c1) (h : taquinref09_Same.f l0 l1 a2 = some r) :
    Calls Tryd.prog 26 #[.slice A0 l0.length c0, .slice A1 l1.length c1, .int .i64 a2] w fun e w' => e = .returned (.bool r) ∧ Below w.heap.size w w' := by
  unfold taquinref09_Same.f at h
  by_cases hs0 : ¬ l0.length ≤ 1000000
  · rw [if_neg hs0] at h; exact absurd h (by simp)
  have hs := Decidable.not_not.1 hs0
  rw [if_pos hs] at h
  obtain rfl := Option.some.inj h
  clear h hs0
  have HR0 := Lib.hid hr0
  have HR1 := Lib.hid hr1
  clear hr0 hr1
  by_cases hl : ¬ l0.length = l1.length
  · have c1 : ((l0.length : Int) != (l1.length : Int)) = true := bne_iff_ne.2 (by omega)
    have HX := Lib.hid (sameL_ne a2 l0 l1 hl)
    clear hl
    go_enter Tryd.func26, Tryd.ntmps26
    go_wp2
    go_ret
    exact ⟨by rw [HX.out]; rfl, Below.refl _ _⟩
  have hl := Decidable.not_not.1 hl
  have c1' : ((l0.length : Int) != (l1.length : Int)) = false := bne_eq_false_iff_eq.2 (by omega)
  obtain ⟨rr, hrr⟩ : ∃ rr, sameL a2 l0 l1 = rr := ⟨_, rfl⟩
  rw [hrr]
  go_enter Tryd.func26, Tryd.ntmps26
  go_wp2_with fail
  go_loopw [7] (fun v7 wr => ∃ i : Nat, i ≤ l0.length ∧ v7 = .int .i64 i ∧ Hid (sameL a2 (l0.drop i) (l1.drop i) = rr) ∧ Hid (Below w.heap.size w wr)) (fun i _ => l0.length - (intOf i).toNat)
  case atStart => exact ⟨0, Nat.zero_le _, rfl, Lib.hid hrr, Lib.hid (Below.refl _ _)⟩
  case round =>
    obtain ⟨i, hi, rfl, hsm, HB⟩ := hrel
    clear hrr
    by_cases hlt : i < l0.length
    · have hlt1 : i < l1.length := by omega
      have hat := sameL_at a2 l0 l1 i hlt hlt1
      obtain ⟨ad0, e0, x0, x1, x2, x3⟩ := at_T42 HR0.out (i : Int) (by omega) (by omega)
      obtain ⟨ad1, e1, y0, y1, y2, y3⟩ := at_T42 HR1.out (i : Int) (by omega) (by omega)
      subst e0
      subst e1
      rw [Int.toNat_natCast] at x0 x1 x2 x3 y0 y1 y2 y3
      have y0 := (HB.out.cell (World.block_lt_of_cell? w _ y0)).trans y0
      have y1 := (HB.out.cell (World.block_lt_of_cell? w _ y1)).trans y1
      have y2 := (HB.out.cell (World.block_lt_of_cell? w _ y2)).trans y2
      have y3 := (HB.out.cell (World.block_lt_of_cell? w _ y3)).trans y3
      obtain ⟨x, hx⟩ : ∃ x, rd_T42 l0 (i : Int) = x := ⟨_, rfl⟩
      obtain ⟨y, hy⟩ : ∃ y, rd_T42 l1 (i : Int) = y := ⟨_, rfl⟩
      rw [hx] at x0 x1 x2 x3 hat
      rw [hy] at y0 y1 y2 y3 hat
      obtain ⟨z, hz⟩ : ∃ z, wrap64 (y.f3 + a2) = z := ⟨_, rfl⟩
      have hz' : IntKind.i64.wrap (y.f3 + a2) = z := (i64_w _).trans hz
      have hte : tokEq a2 x y = (x.f0 == y.f0 && (x.f1.toList == y.f1.toList && (x.f2 == y.f2 && x.f3 == z))) := by unfold tokEq; rw [hz]
      rw [hat] at hsm
      obtain ⟨W2, hW2⟩ : ∃ W2, wr.alloc (.cells #[.int .i64 y.f0, .string y.f1, .int .i64 y.f2, .int .i64 z] 42) = W2 := ⟨_, rfl⟩
      have hBW : Below w.heap.size w W2 := hW2 ▸ HB.out.alloc HB.out.size _
      have hbn : W2.heap[wr.heap.size]? = some (.cells #[.int .i64 y.f0, .string y.f1, .int .i64 y.f2, .int .i64 z] 42 (0, 0)) := by rw [← hW2]; exact heap_alloc_new wr _
      have n0 : W2.cell? ⟨wr.heap.size, 0, none⟩ = some (.int .i64 y.f0) := (blk_cell hbn 0).trans rfl
      have n1 : W2.cell? ⟨wr.heap.size, 1, none⟩ = some (.string y.f1) := (blk_cell hbn 1).trans rfl
      have n2 : W2.cell? ⟨wr.heap.size, 2, none⟩ = some (.int .i64 y.f2) := (blk_cell hbn 2).trans rfl
      have n3 : W2.cell? ⟨wr.heap.size, 3, none⟩ = some (.int .i64 z) := (blk_cell hbn 3).trans rfl
      have x0 := (hBW.cell (World.block_lt_of_cell? w _ x0)).trans x0
      have x1 := (hBW.cell (World.block_lt_of_cell? w _ x1)).trans x1
      have x2 := (hBW.cell (World.block_lt_of_cell? w _ x2)).trans x2
      have x3 := (hBW.cell (World.block_lt_of_cell? w _ x3)).trans x3
      have HBW := Lib.hid hBW
      clear hBW hbn hx hy hat
      have h5 : (x.f0 == y.f0) = false ∨ ((x.f0 == y.f0) = true ∧ (x.f1.toList == y.f1.toList) = false) ∨ ((x.f0 == y.f0) = true ∧ (x.f1.toList == y.f1.toList) = true ∧ (x.f2 == y.f2) = false) ∨ ((x.f0 == y.f0) = true ∧ (x.f1.toList == y.f1.toList) = true ∧ (x.f2 == y.f2) = true ∧ (x.f3 == z) = false) ∨ ((x.f0 == y.f0) = true ∧ (x.f1.toList == y.f1.toList) = true ∧ (x.f2 == y.f2) = true ∧ (x.f3 == z) = true) := by
        cases x.f0 == y.f0 <;> cases x.f1.toList == y.f1.toList <;> cases x.f2 == y.f2 <;> cases x.f3 == z <;> simp
      rcases h5 with d1 | ⟨d1, d2⟩ | ⟨d1, d2, d3⟩ | ⟨d1, d2, d3, d4⟩ | ⟨d1, d2, d3, d4⟩
      · have HF := Lib.hid (show rr = false by rw [← hsm.out, hte, d1]; rfl)
        clear hsm hte
        go_wp2
        try rw [hW2]
        clear hW2
        repeat (go_quiet (fail); try go_wp2)
        go_ret
        exact ⟨by rw [HF.out]; rfl, pw_below_drewN HBW.out _⟩
      · have HF := Lib.hid (show rr = false by rw [← hsm.out, hte, d1, d2]; rfl)
        clear hsm hte
        go_wp2
        try rw [hW2]
        clear hW2
        repeat (go_quiet (fail); try go_wp2)
        go_ret
        exact ⟨by rw [HF.out]; rfl, pw_below_drewN HBW.out _⟩
      · have HF := Lib.hid (show rr = false by rw [← hsm.out, hte, d1, d2, d3]; rfl)
        clear hsm hte
        go_wp2
        try rw [hW2]
        clear hW2
        repeat (go_quiet (fail); try go_wp2)
        go_ret
        exact ⟨by rw [HF.out]; rfl, pw_below_drewN HBW.out _⟩
      · have HF := Lib.hid (show rr = false by rw [← hsm.out, hte, d1, d2, d3, d4]; rfl)
        clear hsm hte
        go_wp2
        try rw [hW2]
        clear hW2
        repeat (go_quiet (fail); try go_wp2)
        go_ret
        exact ⟨by rw [HF.out]; rfl, pw_below_drewN HBW.out _⟩
      · have HF := Lib.hid (show sameL a2 (l0.drop (i + 1)) (l1.drop (i + 1)) = rr by rw [← hsm.out, hte, d1, d2, d3, d4]; rfl)
        clear hsm hte
        go_wp2
        try rw [hW2]
        clear hW2
        repeat (go_quiet (fail); try go_wp2)
        go_roundw
        case rel => exact ⟨i + 1, by omega, by go_num, HF, Lib.hid (pw_below_drewN HBW.out _)⟩
        case measure => simp [intOf]; omega
    · obtain rfl : i = l0.length := by omega
      have HF := Lib.hid (show rr = true by rw [← hsm.out, List.drop_of_length_le (Nat.le_refl _), List.drop_of_length_le (by omega)]; rfl)
      clear hsm
      go_wp2_with fail
      go_ret
      exact ⟨by rw [HF.out]; rfl, HB.out⟩
end Go.Proofs.YteifffaonigidaaDoor.M
/- The contract of lex.Write, for rows of at most 1000000 tokens with texts of at most 1000000 bytes each. -/
namespace Go.Proofs.YteifffaonigidaaDoor.M
open Go.RowKit Go.Proofs.YteifffaonigidaaDoorW.PrintWords Go.Proofs.YteifffaonigidaaDoorW.PrintLast
set_option linter.unusedVariables false
set_option linter.unusedSimpArgs false
def tokOut (t : S42) : List UInt8 :=
  if t.f0 = 0 ∨ t.f0 = 1 then t.f1.data.toList ++ [32] else if t.f0 = 2 then quoteL t.f1.data.toList ++ [32] else if t.f0 = 3 then [10] else []
def writeL (l : List S42) : List UInt8 := l.flatMap tokOut
def lex_Write.f (l0 : List S42) : Option ByteArray := if l0.all (fun t => decide (t.f1.size ≤ 1000000)) = true ∧ l0.length ≤ 1000000 then some ⟨(writeL l0).toArray⟩ else none
theorem tokOut_len (t : S42) (h : t.f1.size ≤ 1000000) : (tokOut t).length ≤ 4000003 := by
  have hl : t.f1.data.toList.length = t.f1.size := rfl
  have hq := flat_len t.f1.data.toList
  unfold tokOut
  split
  · rw [List.length_append, hl]; simp; omega
  · split
    · unfold quoteL
      simp only [List.length_append, List.length_cons, List.length_nil]
      omega
    · split <;> simp
theorem write_len (l : List S42) (h : ∀ t ∈ l, t.f1.size ≤ 1000000) : (writeL l).length ≤ 4000003 * l.length := by
  induction l with
  | nil => simp [writeL]
  | cons t l ih =>
    have h1 := tokOut_len t (h t (List.mem_cons_self ..))
    have h2 := ih (fun x hx => h x (List.mem_cons_of_mem _ hx))
    show (tokOut t ++ writeL l).length ≤ _
    rw [List.length_append]
    simp only [List.length_cons]
    omega
theorem write_snoc (l : List S42) (k : Nat) (h : k < l.length) : writeL (l.take (k + 1)) = writeL (l.take k) ++ tokOut (rd_T42 l (k : Int)) := by
  unfold writeL rd_T42
  rw [List.take_succ_eq_append_getElem h, List.flatMap_append, Int.toNat_natCast]
  simp [h]
theorem Bld.step {w : World} {l : List UInt8} {wr w' : World} (h : Bld w l wr) (hb : Below wr.heap.size wr w') : Bld w l w' :=
  ⟨Bld_is_below h.is hb, h.below.trans (hb.mono h.below.size)⟩
set_option maxHeartbeats 8000000 in
set_option maxRecDepth 100000 in
theorem lex_Write.calls (A0 : Option Addr) (c0 : Nat) (l0 : List S42) (r : ByteArray) (w : World) (hr0 : Kd.C k42 w A0 l0.length l0) (hc0 : l0.length ≤ c0) (h : lex_Write.f l0 = some r) :
    Calls Tryd.prog 31 #[.slice A0 l0.length c0] w fun e w' => e = .returned (.string r) ∧ Below w.heap.size w w' := by
  unfold lex_Write.f at h
  by_cases hs0 : ¬ (l0.all (fun t => decide (t.f1.size ≤ 1000000)) = true ∧ l0.length ≤ 1000000)
  · rw [if_neg hs0] at h; exact absurd h (by simp)
  have hs := Decidable.not_not.1 hs0
  rw [if_pos hs] at h
  obtain rfl := Option.some.inj h
  clear h hs0
  obtain ⟨hall, hln⟩ := hs
  have hall' : ∀ t ∈ l0, t.f1.size ≤ 1000000 := fun t ht => of_decide_eq_true (List.all_eq_true.1 hall t ht)
  have HAll := Lib.hid hall'
  have hR := Lib.hid hr0
  clear hr0 hall hall'
  go_enter Tryd.func31, Tryd.ntmps31
  have hN := Lib.hid (Bld.new w)
  go_wp2
  go_loopw [8] (fun v8 wr => ∃ k : Nat, k ≤ l0.length ∧ v8 = .int .i64 k ∧ Hid (Bld w (writeL (l0.take k)) wr)) (fun i _ => l0.length - (intOf i).toNat)
  case atStart => exact ⟨0, Nat.zero_le _, rfl, hN⟩
  case round =>
    obtain ⟨k, hk, rfl, hB⟩ := hrel
    have hB' := hB.out
    clear hB hN
    by_cases hlt : k < l0.length
    · have hsn := Lib.hid (write_snoc l0 k hlt)
      have hlen : (writeL (l0.take k)).length ≤ 4000003 * 1000000 := by
        have h1 := write_len (l0.take k) (fun t ht => HAll.out t (List.mem_of_mem_take ht))
        rw [List.length_take] at h1
        exact Nat.le_trans h1 (Nat.mul_le_mul_left _ (by omega))
      have hsz : (rd_T42 l0 (k : Int)).f1.size ≤ 1000000 := by
        apply HAll.out
        unfold rd_T42
        rw [Int.toNat_natCast, List.getD_eq_getElem?_getD, List.getElem?_eq_getElem hlt]
        exact List.getElem_mem hlt
      obtain ⟨ad, e1, x0, x1, x2, x3⟩ := at_T42 hR.out (k : Int) (by omega) (by omega)
      subst e1
      rw [Int.toNat_natCast] at x0 x1 x2 x3
      have x0 := (hB'.below.cell (World.block_lt_of_cell? w _ x0)).trans x0
      have x1 := (hB'.below.cell (World.block_lt_of_cell? w _ x1)).trans x1
      have x2 := (hB'.below.cell (World.block_lt_of_cell? w _ x2)).trans x2
      have x3 := (hB'.below.cell (World.block_lt_of_cell? w _ x3)).trans x3
      obtain ⟨t, ht⟩ : ∃ t, rd_T42 l0 (k : Int) = t := ⟨_, rfl⟩
      rw [ht] at x0 x1 x2 x3 hsn hsz
      clear ht
      have hK : ∀ t' : S42, Bld w (writeL (l0.take k)) (wr.alloc (.cells #[.int .i64 t.f0, .string t.f1, .int .i64 t.f2, .int .i64 t.f3] 42)) := fun _ => hB'.step ((Below.refl _ _).alloc (Nat.le_refl _) _)
      have HK := Lib.hid (hK t)
      clear hK hB'
      have h5 : t.f0 = 0 ∨ t.f0 = 1 ∨ t.f0 = 2 ∨ t.f0 = 3 ∨ (t.f0 ≠ 0 ∧ t.f0 ≠ 1 ∧ t.f0 ≠ 2 ∧ t.f0 ≠ 3) := by omega
      rcases h5 with h0 | h0 | h0 | h0 | ⟨h0, h1, h2, h3⟩
      · have c1 : (t.f0 == 0) = true := beq_iff_eq.2 h0
        have HT := Lib.hid (show tokOut t = (t.f1 ++ (⟨#[32]⟩ : ByteArray)).data.toList by unfold tokOut; rw [if_pos (Or.inl h0)]; simp)
        clear h0
        go_wp2_with fail
        refine (HK.out.str (t.f1 ++ (⟨#[32]⟩ : ByteArray)) (by rw [ByteArray.size_append]; have : (⟨#[32]⟩ : ByteArray).size = 1 := rfl; omega)).mono ?_
        rintro e w1 ⟨⟨v, rfl⟩, hb1⟩
        clear HK
        go_wp2_with fail
        go_roundw
        case rel => exact ⟨k + 1, by omega, by go_num, Lib.hid (by rw [hsn.out, HT.out]; exact hb1)⟩
        case measure => simp [intOf]; omega
      · have c1 : (t.f0 == 0) = false := beq_eq_false_iff_ne.2 (by omega)
        have c2 : (t.f0 == 1) = true := beq_iff_eq.2 h0
        have HT := Lib.hid (show tokOut t = (t.f1 ++ (⟨#[32]⟩ : ByteArray)).data.toList by unfold tokOut; rw [if_pos (Or.inr h0)]; simp)
        clear h0
        go_wp2_with fail
        refine (HK.out.str (t.f1 ++ (⟨#[32]⟩ : ByteArray)) (by rw [ByteArray.size_append]; have : (⟨#[32]⟩ : ByteArray).size = 1 := rfl; omega)).mono ?_
        rintro e w1 ⟨⟨v, rfl⟩, hb1⟩
        clear HK
        go_wp2_with fail
        go_roundw
        case rel => exact ⟨k + 1, by omega, by go_num, Lib.hid (by rw [hsn.out, HT.out]; exact hb1)⟩
        case measure => simp [intOf]; omega
      · have c1 : (t.f0 == 0) = false := beq_eq_false_iff_ne.2 (by omega)
        have c2 : (t.f0 == 1) = false := beq_eq_false_iff_ne.2 (by omega)
        have c3 : (t.f0 == 2) = true := beq_iff_eq.2 h0
        obtain ⟨q, hq⟩ : ∃ q : ByteArray, (⟨(quoteL t.f1.data.toList).toArray⟩ : ByteArray) = q := ⟨_, rfl⟩
        have hqs : q.size ≤ 4000002 := by
          rw [← hq]
          have hf := flat_len t.f1.data.toList
          have hl : t.f1.data.toList.length = t.f1.size := rfl
          have : (⟨(quoteL t.f1.data.toList).toArray⟩ : ByteArray).size = (quoteL t.f1.data.toList).length := by simp [ByteArray.size]
          rw [this]
          unfold quoteL
          simp only [List.length_append, List.length_cons, List.length_nil]
          omega
        have HT := Lib.hid (show tokOut t = (q ++ (⟨#[32]⟩ : ByteArray)).data.toList by unfold tokOut; rw [if_neg (by omega), if_pos h0, ← hq]; simp)
        have HQ := Lib.hid (fun W => text_Quote.calls t.f1 q W (by unfold text_Quote.f; rw [if_pos (by omega), hq]))
        clear h0 hq
        go_wp2_with fail
        refine (HQ.out _).mono ?_
        rintro e w0 ⟨rfl, hb0⟩
        have HK0 := Lib.hid (HK.out.step hb0)
        clear HK HQ hb0
        go_wp2_with fail
        refine (HK0.out.str (q ++ (⟨#[32]⟩ : ByteArray)) (by rw [ByteArray.size_append]; have : (⟨#[32]⟩ : ByteArray).size = 1 := rfl; omega)).mono ?_
        rintro e w1 ⟨⟨v, rfl⟩, hb1⟩
        clear HK0
        go_wp2_with fail
        go_roundw
        case rel => exact ⟨k + 1, by omega, by go_num, Lib.hid (by rw [hsn.out, HT.out]; exact hb1)⟩
        case measure => simp [intOf]; omega
      · have c1 : (t.f0 == 0) = false := beq_eq_false_iff_ne.2 (by omega)
        have c2 : (t.f0 == 1) = false := beq_eq_false_iff_ne.2 (by omega)
        have c3 : (t.f0 == 2) = false := beq_eq_false_iff_ne.2 (by omega)
        have c4 : (t.f0 == 3) = true := beq_iff_eq.2 h0
        have HT := Lib.hid (show tokOut t = [10] by unfold tokOut; rw [if_neg (by omega), if_neg (by omega), if_pos h0])
        clear h0
        go_wp2_with fail
        refine (HK.out.byte 10 10 rfl (by omega)).mono ?_
        rintro e w1 ⟨rfl, hb1⟩
        clear HK
        go_wp2_with fail
        go_roundw
        case rel => exact ⟨k + 1, by omega, by go_num, Lib.hid (by rw [hsn.out, HT.out]; exact hb1)⟩
        case measure => simp [intOf]; omega
      · have c1 : (t.f0 == 0) = false := beq_eq_false_iff_ne.2 (by omega)
        have c2 : (t.f0 == 1) = false := beq_eq_false_iff_ne.2 (by omega)
        have c3 : (t.f0 == 2) = false := beq_eq_false_iff_ne.2 (by omega)
        have c4 : (t.f0 == 3) = false := beq_eq_false_iff_ne.2 (by omega)
        have HT := Lib.hid (show tokOut t = [] by unfold tokOut; rw [if_neg (by omega), if_neg (by omega), if_neg (by omega)])
        clear h0 h1 h2 h3
        go_wp2_with fail
        go_roundw
        case rel => exact ⟨k + 1, by omega, by go_num, Lib.hid (by rw [hsn.out, HT.out, List.append_nil]; exact HK.out)⟩
        case measure => simp [intOf]; omega
    · obtain rfl : k = l0.length := by omega
      go_wp2_with fail
      refine hB'.done.mono ?_
      rintro e w3 ⟨rfl, hb3⟩
      go_wp2_with fail
      go_ret
      exact ⟨rfl, hb3⟩
end Go.Proofs.YteifffaonigidaaDoor.M
/- Facts about the tokens of a text ('lexL'): plain. -/
namespace Go.Proofs.YteifffaonigidaaDoor.Pure
open Go.RowKit Go.Proofs.YteifffaonigidaaDoor.M Go.Proofs.YteifffaonigidaaDoorW.PrintWords Go.Proofs.YteifffaonigidaaDoorW.PrintLast
set_option linter.unusedVariables false
namespace Lx
/-! ### words, numbers, texts -/
theorem wtok_word (w rest : List UInt8) (h1 : (w ++ rest).takeWhile partB = w) (h2 : digitB ((w ++ rest).headD 0) = false) (h3 : wordB w = true) : wtok (w ++ rest) = .ok (⟨0, ⟨w.toArray⟩, 0, 0⟩, w.length) := by
  unfold wtok
  rw [h1, if_neg (by rw [h2]; decide), if_pos h3]
theorem wtok_num (w rest : List UInt8) (v : Int) (h1 : (w ++ rest).takeWhile partB = w) (h2 : digitB ((w ++ rest).headD 0) = true) (h3 : w.all digitB = true) (h4 : ¬ (1 < w.length ∧ (w ++ rest).headD 0 = 48)) (h5 : intOfText w = (v, true)) :
    wtok (w ++ rest) = .ok (⟨1, ⟨w.toArray⟩, v, 0⟩, w.length) := by
  unfold wtok
  rw [h1, if_pos h2, if_neg, h5, if_pos rfl]
  rintro (h | h)
  · rw [h3] at h; exact absurd h (by decide)
  · exact h4 h
theorem byteP {p : UInt8 → Prop} (h : ∀ n : Fin 256, p (UInt8.ofNat n.val)) (c : UInt8) : p c := byte_all h c
theorem hexd_plain : ∀ n : Fin 16, hexd n.val ≠ 34 ∧ hexd n.val ≠ 92 := by decide
theorem scan_qb (c : UInt8) (r : List UInt8) : scanQ (qb c ++ r) = (scanQ r).map (· + (qb c).length) := by
  unfold qb
  have ad : ∀ (x : Option Nat) (a b : Nat), (x.map (· + a)).map (· + b) = x.map (· + (a + b)) := fun x a b => by
    rw [Option.map_map]; congr 1; funext y; simp only [Function.comp]; omega
  split
  · show scanQ (92 :: c :: r) = _
    rw [scanQ_back]; rfl
  · rename_i h1
    split
    · show scanQ (92 :: 110 :: r) = _
      rw [scanQ_back]; rfl
    · split
      · have n34 : c ≠ 34 := fun e => h1 (Or.inl (by rw [e]; rfl))
        have n92 : c ≠ 92 := fun e => h1 (Or.inr (by rw [e]; rfl))
        show scanQ (c :: r) = _
        rw [scanQ_plain _ _ n34 n92]; rfl
      · have hb := c.toNat_lt
        have a1 := hexd_plain ⟨c.toNat / 16, by omega⟩
        have a2 := hexd_plain ⟨c.toNat % 16, by omega⟩
        show scanQ (92 :: 120 :: hexd (c.toNat / 16) :: hexd (c.toNat % 16) :: r) = _
        rw [scanQ_back, scanQ_plain _ _ a1.1 a1.2, scanQ_plain _ _ a2.1 a2.2, ad, ad]
        rfl
theorem scan_flat (s r : List UInt8) : scanQ (s.flatMap qb ++ 34 :: r) = some (s.flatMap qb).length := by
  induction s with
  | nil => exact scanQ_quote r
  | cons c s ih =>
    rw [List.flatMap_cons, List.append_assoc, scan_qb, ih]
    simp only [Option.map_some, List.length_append]
    congr 1; omega
theorem quote_len (s : List UInt8) : (quoteL s).length = (s.flatMap qb).length + 2 := by unfold quoteL; simp
theorem qtok_quote (s r : List UInt8) : qtok (quoteL s ++ r) = some (s, (quoteL s).length) := by
  have e : quoteL s ++ r = 34 :: (s.flatMap qb ++ 34 :: r) := by unfold quoteL; simp
  have ht : (quoteL s ++ r).take ((s.flatMap qb).length + 2) = quoteL s := by
    rw [← quote_len, List.take_left]
  have hd : scanQ ((quoteL s ++ r).drop 1) = some (s.flatMap qb).length := by rw [e]; exact scan_flat s r
  unfold qtok
  rw [hd, Option.bind_some, ht, unquote_quote, if_pos rfl, quote_len]
/-! ### the head of a text -/
theorem tok1_letter (c : UInt8) (r : List UInt8) (h : letterB c = true ∨ digitB c = true) : tok1 (c :: r) = (match wtok (c :: r) with | .error e => .error e | .ok (t, n) => .ok (t, n, false)) := if_pos h
theorem tok1_quote (r : List UInt8) : tok1 (34 :: r) = (match qtok (34 :: r) with | none => .error 11 | some (t, n) => .ok (⟨2, ⟨t.toArray⟩, 0, 0⟩, n, false)) :=
  by unfold tok1; simp only; rw [if_neg (show ¬ (letterB 34 = true ∨ digitB 34 = true) by decide), if_pos trivial]; cases qtok (34 :: r) <;> rfl
theorem tok1_lf (r : List UInt8) : tok1 (10 :: r) = .ok (⟨3, ⟨#[]⟩, 0, 0⟩, 1, true) :=
  by unfold tok1; simp only; rw [if_neg (show ¬ (letterB 10 = true ∨ digitB 10 = true) by decide), if_neg (show ¬ (10 : UInt8) = 34 by decide), if_pos trivial]
theorem lexL_skip (l l' : List UInt8) (line : Int) (h : skipR l = skipR l') : lexL l line = lexL l' line := by
  by_cases he : skipR l' = []
  · rw [lexL_end l' line he, lexL_end l line (h.trans he)]
  · rw [lexL_step l' line he, lexL_step l line (fun e => he (h.symm.trans e)), h]
theorem lexL_white (c : UInt8) (r : List UInt8) (line : Int) (h : c = 32 ∨ c = 9 ∨ c = 13) : lexL (c :: r) line = lexL r line := lexL_skip _ _ _ (skipR_white c r h)
theorem skipR_idem : ∀ (n : Nat) (l : List UInt8), l.length ≤ n → skipR (skipR l) = skipR l
  | _, [], _ => rfl
  | n + 1, c :: r, h => by
    by_cases hw : c = 32 ∨ c = 9 ∨ c = 13
    · rw [skipR_white c r hw]; exact skipR_idem n r (by simp at h; omega)
    · by_cases h35 : c = 35
      · subst h35
        rw [skipR_hash]
        exact skipR_idem n _ (by have := dropWhile_len r; simp at h; omega)
      · rw [skipR_stop c r hw h35, skipR_stop c r hw h35]
/-- What follows a token. -/
theorem lexL_tok (l : List UInt8) (line : Int) (t : S42) (n : Nat) (b : Bool) (hs : skipR l = l) (hl : l ≠ []) (h : tok1 l = .ok (t, n, b)) :
    lexL l line = (lexL (l.drop n) (if b = true then line + 1 else line)).map (putL t line :: ·) := by
  rw [lexL_step l line (by rw [hs]; exact hl), hs, h]
theorem part_not_skip (c : UInt8) (h : partB c = true) : ¬ (c = 32 ∨ c = 9 ∨ c = 13) ∧ c ≠ 35 ∧ c ≠ 34 ∧ c ≠ 10 := by
  refine byteP (p := fun c => partB c = true → ¬ (c = 32 ∨ c = 9 ∨ c = 13) ∧ c ≠ 35 ∧ c ≠ 34 ∧ c ≠ 10) (by decide +kernel) c h
theorem skip_part (c : UInt8) (r : List UInt8) (h : partB c = true) : skipR (c :: r) = c :: r := skipR_stop c r (part_not_skip c h).1 (part_not_skip c h).2.1
theorem takeWhile_app (w rest : List UInt8) (hw : w.all partB = true) (hr : ∀ c, rest.head? = some c → partB c = false) : (w ++ rest).takeWhile partB = w := by
  induction w with
  | nil =>
    cases rest with
    | nil => rfl
    | cons c r => rw [List.nil_append, List.takeWhile_cons, if_neg (by rw [hr c rfl]; decide)]
  | cons c w ih =>
    rw [List.all_cons, Bool.and_eq_true] at hw
    rw [List.cons_append, List.takeWhile_cons, if_pos hw.1, ih hw.2]
/-! ### texts one behind the other -/
/-- What stands behind a text does not go on with its last token; skipped, it is s'. -/
structure Tail (s s' : List UInt8) : Prop where
  head : ∀ c, s.head? = some c → partB c = false
  skip : skipR s = s'
  drop : skipR (s.dropWhile (· != 10)) = s'
theorem dw_app (r s : List UInt8) : (r ++ s).dropWhile (· != 10) = if r.dropWhile (· != 10) = [] then s.dropWhile (· != 10) else r.dropWhile (· != 10) ++ s := by
  induction r with
  | nil => rfl
  | cons c r ih =>
    rw [List.cons_append, List.dropWhile_cons, List.dropWhile_cons]
    by_cases hc : (c != 10) = true
    · rw [if_pos hc, if_pos hc, ih]
    · rw [if_neg hc, if_neg hc, if_neg (by simp)]; rfl
theorem skip_app {s s' : List UInt8} (hT : Tail s s') : ∀ (n : Nat) (l : List UInt8), l.length ≤ n → skipR (l ++ s) = if skipR l = [] then s' else skipR l ++ s
  | _, [], _ => by rw [if_pos skipR_nil]; exact hT.skip
  | n + 1, c :: r, h => by
    rw [List.cons_append]
    by_cases hw : c = 32 ∨ c = 9 ∨ c = 13
    · rw [skipR_white c r hw, skipR_white c (r ++ s) hw]; exact skip_app hT n r (by simp at h; omega)
    · by_cases h35 : c = 35
      · subst h35
        rw [skipR_hash, skipR_hash, dw_app]
        have hl := dropWhile_len r
        by_cases hd : r.dropWhile (· != 10) = []
        · rw [if_pos hd, hd, if_pos skipR_nil, hT.drop]
        · rw [if_neg hd]
          exact skip_app hT n _ (by simp at h; omega)
      · rw [skipR_stop c r hw h35, skipR_stop c (r ++ s) hw h35, if_neg (by simp)]; rfl
theorem scanQ_app : ∀ (n : Nat) (l s : List UInt8) (m : Nat), l.length ≤ n → scanQ l = some m → scanQ (l ++ s) = some m
  | _, [], _, m, _, h => by simp [scanQ] at h
  | n + 1, c :: r, s, m, hn, h => by
    by_cases h34 : c = 34
    · subst h34; rw [scanQ_quote] at h; rw [List.cons_append, scanQ_quote]; exact h
    · by_cases h92 : c = 92
      · subst h92
        cases r with
        | nil => rw [scanQ_back1] at h; cases h
        | cons d r =>
          rw [scanQ_back] at h
          rw [List.cons_append, List.cons_append, scanQ_back]
          cases hq : scanQ r with
          | none => rw [hq] at h; cases h
          | some q => rw [hq] at h; rw [scanQ_app n r s q (by simp at hn; omega) hq]; exact h
      · rw [scanQ_plain _ _ h34 h92] at h
        rw [List.cons_append, scanQ_plain _ _ h34 h92]
        cases hq : scanQ r with
        | none => rw [hq] at h; cases h
        | some q => rw [hq] at h; rw [scanQ_app n r s q (by simp at hn; omega) hq]; exact h
theorem takeWhile_tail (l s : List UInt8) (hs : ∀ c, s.head? = some c → partB c = false) : (l ++ s).takeWhile partB = l.takeWhile partB := by
  induction l with
  | nil =>
    cases s with
    | nil => rfl
    | cons c s => rw [List.nil_append, List.takeWhile_cons, if_neg (by rw [hs c rfl]; decide)]; rfl
  | cons c l ih =>
    rw [List.cons_append, List.takeWhile_cons, List.takeWhile_cons, ih]
theorem tok1_app {s s' : List UInt8} (hT : Tail s s') (l : List UInt8) (t : S42) (n : Nat) (b : Bool) (h : tok1 l = .ok (t, n, b)) : tok1 (l ++ s) = .ok (t, n, b) := by
  cases l with
  | nil => cases h
  | cons c r =>
    rw [List.cons_append]
    unfold tok1 at h ⊢
    simp only at h ⊢
    by_cases hc : letterB c = true ∨ digitB c = true
    · rw [if_pos hc] at h ⊢
      have e : wtok (c :: (r ++ s)) = wtok (c :: r) := by
        have := takeWhile_tail (c :: r) s hT.head
        unfold wtok
        rw [← List.cons_append, this]
        rfl
      rw [e]; exact h
    · rw [if_neg hc] at h ⊢
      by_cases h34 : c = 34
      · rw [if_pos h34] at h ⊢
        cases hq : qtok (c :: r) with
        | none => rw [hq] at h; cases h
        | some x =>
          obtain ⟨t', n'⟩ := x
          have e : qtok (c :: (r ++ s)) = some (t', n') := by
            have hp := qtok_pos hq
            unfold qtok at hq ⊢
            rw [List.drop_one, List.tail_cons] at hq ⊢
            cases hsq : scanQ r with
            | none => rw [hsq] at hq; cases hq
            | some q =>
              rw [hsq, Option.bind_some] at hq
              rw [scanQ_app _ r s q (Nat.le_refl _) hsq, Option.bind_some]
              have hlt := scanQ_lt _ _ (Nat.le_refl _) q hsq
              have htk : (c :: (r ++ s)).take (q + 2) = (c :: r).take (q + 2) := by
                rw [← List.cons_append, List.take_append_of_le_length (by simp; omega)]
              rw [htk]; exact hq
          rw [e]
          rw [hq] at h
          exact h
      · rw [if_neg h34] at h ⊢
        exact h
/-- The tokens of a text with more behind it: its own, but for the end, and those of the rest on later lines. -/
theorem lex_app {s s' : List UInt8} (hT : Tail s s') : ∀ (n : Nat) (l : List UInt8) (line : Int) (ts : List S42), l.length ≤ n → lexL l line = .ok ts →
    ∃ (a : List S42) (L : Int), ts = a ++ [⟨4, ⟨#[]⟩, 0, L⟩] ∧ lexL (l ++ s) line = (lexL s' L).map (a ++ ·)
  | n, l, line, ts, hn, h => by
    by_cases he : skipR l = []
    · rw [lexL_end l line he] at h
      injection h with h
      subst h
      refine ⟨[], line, rfl, ?_⟩
      have h1 : skipR (l ++ s) = s' := by rw [skip_app hT _ l (Nat.le_refl _), if_pos he]
      have h2 : skipR s' = s' := by rw [← h1]; exact skipR_idem _ _ (Nat.le_refl _)
      rw [lexL_skip (l ++ s) s' line (by rw [h1, h2])]
      cases lexL s' line <;> rfl
    · rw [lexL_step l line he] at h
      have h1 : skipR (l ++ s) = skipR l ++ s := by rw [skip_app hT _ l (Nat.le_refl _), if_neg he]
      have hpos := List.length_pos_iff.2 he
      have hlen := skipR_len l
      rw [lexL_step (l ++ s) line (by rw [h1]; simp [he]), h1]
      cases ht : tok1 (skipR l) with
      | error e => rw [ht] at h; cases h
      | ok x =>
        obtain ⟨t, m, b⟩ := x
        obtain ⟨p1, p2, _⟩ := tok1_pos ht
        rw [ht] at h
        rw [tok1_app hT _ _ _ _ ht]
        simp only at h ⊢
        cases hr : lexL ((skipR l).drop m) (if b = true then line + 1 else line) with
        | error e => rw [hr] at h; cases h
        | ok ts' =>
          rw [hr] at h
          injection h with h
          subst h
          cases n with
          | zero => omega
          | succ n =>
            obtain ⟨a, L, e1, e2⟩ := lex_app hT n ((skipR l).drop m) _ ts' (by rw [List.length_drop]; omega) hr
            refine ⟨putL t line :: a, L, by rw [e1]; rfl, ?_⟩
            rw [List.drop_append_of_le_length p2, e2]
            cases lexL s' L <;> rfl
end Lx
end Go.Proofs.YteifffaonigidaaDoor.Pure
/- The examples of the documentation ('small' of the statements of layer 9): plain. -/
namespace Go.Proofs.YteifffaonigidaaDoor.Pure
open Go.RowKit Go.Proofs.YteifffaonigidaaDoor.M Go.Proofs.YteifffaonigidaaDoorW.PrintWords Go.Proofs.YteifffaonigidaaDoorW.PrintLast
set_option linter.unusedVariables false
namespace Lx
theorem lex_ok (s : ByteArray) (ts : List S42) (hs : s.size ≤ 20000) (h : lexL s.data.toList 1 = .ok ts) : lex_Lex.f s = some (ts, 0, 0) := by
  unfold lex_Lex.f lexR
  rw [if_pos (by omega), if_neg (by omega), h]
theorem lex_err (s : ByteArray) (e n : Int) (hs : s.size ≤ 20000) (h : lexL s.data.toList 1 = .error (e, n)) : lex_Lex.f s = some ([], e, n) := by
  unfold lex_Lex.f lexR
  rw [if_pos (by omega), if_neg (by omega), h]
theorem int12 : intOfText [49, 50] = (12, true) := by
  have h := int_decimal 12 (by decide) (by decide)
  rw [show Lib.itoa 12 = [49, 50] by simp [Lib.itoa, Lib.decDigits]] at h
  exact h
theorem ex1 : lexL [122, 111, 110, 101, 32, 99, 111, 108, 100, 45, 49, 32, 49, 50, 32, 35, 32, 99] 1 = .ok [⟨0, ⟨#[122, 111, 110, 101]⟩, 0, 1⟩, ⟨0, ⟨#[99, 111, 108, 100, 45, 49]⟩, 0, 1⟩, ⟨1, ⟨#[49, 50]⟩, 12, 1⟩, ⟨4, ⟨#[]⟩, 0, 1⟩] := by
  rw [lexL_tok _ 1 ⟨0, ⟨#[122, 111, 110, 101]⟩, 0, 0⟩ 4 false (by rfl) (by simp) (by have hw := wtok_word [122, 111, 110, 101] [32, 99, 111, 108, 100, 45, 49, 32, 49, 50, 32, 35, 32, 99] (by decide) (by decide) (by decide); exact (tok1_letter _ _ (by decide)).trans (congrArg (fun x : Except Int (S42 × Nat) => (match x with | .error e => .error e | .ok (t, n) => .ok (t, n, false) : Except Int (S42 × Nat × Bool))) hw))]
  rw [show ([122, 111, 110, 101, 32, 99, 111, 108, 100, 45, 49, 32, 49, 50, 32, 35, 32, 99] : List UInt8).drop 4 = [32, 99, 111, 108, 100, 45, 49, 32, 49, 50, 32, 35, 32, 99] from rfl, if_neg (by decide), lexL_white _ _ _ (Or.inl rfl)]
  rw [lexL_tok _ 1 ⟨0, ⟨#[99, 111, 108, 100, 45, 49]⟩, 0, 0⟩ 6 false (by rfl) (by simp) (by have hw := wtok_word [99, 111, 108, 100, 45, 49] [32, 49, 50, 32, 35, 32, 99] (by decide) (by decide) (by decide); exact (tok1_letter _ _ (by decide)).trans (congrArg (fun x : Except Int (S42 × Nat) => (match x with | .error e => .error e | .ok (t, n) => .ok (t, n, false) : Except Int (S42 × Nat × Bool))) hw))]
  rw [show ([99, 111, 108, 100, 45, 49, 32, 49, 50, 32, 35, 32, 99] : List UInt8).drop 6 = [32, 49, 50, 32, 35, 32, 99] from rfl, if_neg (by decide), lexL_white _ _ _ (Or.inl rfl)]
  rw [lexL_tok _ 1 ⟨1, ⟨#[49, 50]⟩, 12, 0⟩ 2 false (by rfl) (by simp) (by have hw := wtok_num [49, 50] [32, 35, 32, 99] 12 (by decide) (by decide) (by decide) (by decide) int12; exact (tok1_letter _ _ (by decide)).trans (congrArg (fun x : Except Int (S42 × Nat) => (match x with | .error e => .error e | .ok (t, n) => .ok (t, n, false) : Except Int (S42 × Nat × Bool))) hw))]
  rw [show ([49, 50, 32, 35, 32, 99] : List UInt8).drop 2 = [32, 35, 32, 99] from rfl, if_neg (by decide), lexL_end _ _ (by rfl)]
  rfl
theorem ex2 : lexL [114, 111, 119, 32, 34, 35, 35, 46, 80, 34] 1 = .ok [⟨0, ⟨#[114, 111, 119]⟩, 0, 1⟩, ⟨2, ⟨#[35, 35, 46, 80]⟩, 0, 1⟩, ⟨4, ⟨#[]⟩, 0, 1⟩] := by
  have hq : qtok [34, 35, 35, 46, 80, 34] = some ([35, 35, 46, 80], 6) := qtok_quote [35, 35, 46, 80] []
  rw [lexL_tok _ 1 ⟨0, ⟨#[114, 111, 119]⟩, 0, 0⟩ 3 false (by rfl) (by simp) (by have hw := wtok_word [114, 111, 119] [32, 34, 35, 35, 46, 80, 34] (by decide) (by decide) (by decide); exact (tok1_letter _ _ (by decide)).trans (congrArg (fun x : Except Int (S42 × Nat) => (match x with | .error e => .error e | .ok (t, n) => .ok (t, n, false) : Except Int (S42 × Nat × Bool))) hw))]
  rw [show ([114, 111, 119, 32, 34, 35, 35, 46, 80, 34] : List UInt8).drop 3 = [32, 34, 35, 35, 46, 80, 34] from rfl, if_neg (by decide), lexL_white _ _ _ (Or.inl rfl)]
  rw [lexL_tok _ 1 ⟨2, ⟨#[35, 35, 46, 80]⟩, 0, 0⟩ 6 false (by rfl) (by simp) (by rw [tok1_quote, hq]), show ([34, 35, 35, 46, 80, 34] : List UInt8).drop 6 = [] from rfl, if_neg (by decide), lexL_end _ _ (by rfl)]
  rfl
theorem bad_of (s : ByteArray) (hs : s.size ≤ 20000) (h0 : skipR s.data.toList ≠ []) (h : tok1 (skipR s.data.toList) = .error 11) : taquinlaw09_bad.f s = some true := by
  have := lex_err s 11 1 hs (by rw [lexL_step _ _ h0, h])
  unfold taquinlaw09_bad.f
  rw [this, Option.bind_some]
  rfl
theorem lex_small : taquinlaw09_small.f 3 = some true := by
  have l1 := lex_ok ⟨#[122, 111, 110, 101, 32, 99, 111, 108, 100, 45, 49, 32, 49, 50, 32, 35, 32, 99]⟩ _ (by decide) ex1
  have l2 := lex_ok ⟨#[114, 111, 119, 32, 34, 35, 35, 46, 80, 34]⟩ _ (by decide) ex2
  have b1 := bad_of ⟨#[48, 49]⟩ (by decide) (by decide) (by rfl)
  have b2 := bad_of ⟨#[49, 97]⟩ (by decide) (by decide) (by rfl)
  have b3 := bad_of ⟨#[45, 49]⟩ (by decide) (by decide) (by rfl)
  have b4 := bad_of ⟨#[34, 97]⟩ (by decide) (by decide) (by rfl)
  have w1 : lex_Word.f ⟨#[97, 45, 49]⟩ = some true := by kernel_rfl
  have w2 : lex_Word.f ⟨#[45, 97]⟩ = some false := by kernel_rfl
  have j1 : taquinlaw09_small.j1 2 true = some true := by
    rw [taquinlaw09_small.j1, if_pos rfl, b1, Option.bind_some, if_pos rfl, b2, Option.bind_some, if_pos rfl, b3, Option.bind_some, if_pos rfl, b4, Option.bind_some, if_pos rfl, w1, Option.bind_some, if_pos rfl, w2, Option.bind_some]
    rfl
  unfold taquinlaw09_small.f
  rw [l1, Option.bind_some, l2, Option.bind_some]
  simp [taquinlaw09_small.j0, rd_T42, ByteArray.toList_eq, j1]
end Lx
end Go.Proofs.YteifffaonigidaaDoor.Pure
/- Same of two rows of tokens; what lexL answers: plain facts for the statements of layer 9. -/
namespace Go.Proofs.YteifffaonigidaaDoor.Pure
open Go.RowKit Go.Proofs.YteifffaonigidaaDoor.M Go.Proofs.YteifffaonigidaaDoorW.PrintWords Go.Proofs.YteifffaonigidaaDoorW.PrintLast
set_option linter.unusedVariables false
namespace Lx
theorem upL {α : Type} {f : Nat → Option α} (h : ∀ k, LeO (f k) (f (k + 1))) {r : α} : ∀ {k k' : Nat}, k ≤ k' → f k = some r → f k' = some r := by
  intro k k' hk hr
  induction hk with
  | refl => exact hr
  | step _ ih => exact h _ _ ih
theorem w1 (i : Nat) (h : i < 4611686018427387904) : wrap64 ((i : Int) + 1) = ((i + 1 : Nat) : Int) := by rw [IntWalk.wrap64_in _ (by omega)]; rfl
theorem rdT (xs : List S42) (i : Nat) (h : i < xs.length) : rd_T42 xs (i : Int) = xs[i] := by
  unfold rd_T42; rw [Int.toNat_natCast]; simp [h]
def shiftT (a : Int) (t : S42) : S42 := ⟨t.f0, t.f1, t.f2, wrap64 (t.f3 + a)⟩
theorem same_map (a : Int) : ∀ x : List S42, sameL a (x.map (shiftT a)) x = true
  | [] => rfl
  | t :: x => by rw [List.map_cons, sameL, same_map a x]; simp [tokEq, shiftT]
theorem same_shift (x : List S42) (a : Int) (hx : x.length ≤ 1000000) : taquinref09_Same.f (x.map (shiftT a)) x a = some true := by
  unfold taquinref09_Same.f
  rw [if_pos (by rw [List.length_map]; exact hx), same_map]
theorem shift_zero (x : List S42) (h : ∀ t ∈ x, 0 ≤ t.f3 ∧ t.f3 ≤ 1000000) : x.map (shiftT 0) = x := by
  induction x with
  | nil => rfl
  | cons t x ih =>
    have h1 := h t (List.mem_cons_self ..)
    rw [List.map_cons, ih (fun y hy => h y (List.mem_cons_of_mem _ hy))]
    unfold shiftT
    rw [IntWalk.wrap64_in _ (by omega), Int.add_zero]
theorem same_self (x : List S42) (hx : x.length ≤ 1000000) (h : ∀ t ∈ x, 0 ≤ t.f3 ∧ t.f3 ≤ 1000000)   : taquinref09_Same.f x x 0 = some true := by
  have := same_shift x 0 hx
  rw [shift_zero x h] at this
  exact this
theorem small_more : ∀ k, 3 ≤ k → taquinlaw09_small.f k = some true := fun k hk => upL (f := fun k => taquinlaw09_small.f k) (fun k => taquinlaw09_small.mono k) hk lex_small
/-! ### what lexL answers -/
theorem tok1_err {l : List UInt8} {e : Int} (h : tok1 l = .error e) : e ≠ 0 := by
  cases l with
  | nil => injection h with h; omega
  | cons c r =>
    unfold tok1 at h
    simp only at h
    split at h
    · cases hw : wtok (c :: r) with
      | error x => rw [hw] at h; injection h with h; rw [← h]; exact wtok_err hw
      | ok x => obtain ⟨t, n⟩ := x; rw [hw] at h; cases h
    · split at h
      · cases hq : qtok (c :: r) with
        | none => rw [hq] at h; injection h with h; omega
        | some x => obtain ⟨t, n⟩ := x; rw [hq] at h; cases h
      · split at h
        · cases h
        · injection h with h; omega
theorem lexL_err : ∀ (n : Nat) (l : List UInt8) (line : Int) (e m : Int), l.length ≤ n → lexL l line = .error (e, m) → e ≠ 0 ∧ line ≤ m ∧ m ≤ line + l.length
  | n, l, line, e, m, hn, h => by
    by_cases he : skipR l = []
    · rw [lexL_end l line he] at h; cases h
    · rw [lexL_step l line he] at h
      have hpos := List.length_pos_iff.2 he
      have hlen := skipR_len l
      cases ht : tok1 (skipR l) with
      | error x =>
        rw [ht] at h
        injection h with h
        injection h with h1 h2
        exact ⟨by rw [← h1]; exact tok1_err ht, by omega, by omega⟩
      | ok x =>
        obtain ⟨t, q, b⟩ := x
        obtain ⟨p1, p2, _⟩ := tok1_pos ht
        rw [ht] at h
        simp only at h
        cases hr : lexL ((skipR l).drop q) (if b = true then line + 1 else line) with
        | ok ts => rw [hr] at h; cases h
        | error y =>
          obtain ⟨e', m'⟩ := y
          rw [hr] at h
          injection h with h
          injection h with h1 h2
          subst h1; subst h2
          cases n with
          | zero => omega
          | succ n =>
            have ih := lexL_err n _ _ e' m' (by rw [List.length_drop]; omega) hr
            rw [List.length_drop] at ih
            refine ⟨ih.1, ?_, ?_⟩
            · have := ih.2.1; split at this <;> omega
            · have := ih.2.2; split at this <;> omega
/-- The tokens' number and lines. -/
theorem lexL_lines : ∀ (n : Nat) (l : List UInt8) (line : Int) (ts : List S42), l.length ≤ n → lexL l line = .ok ts → ts.length ≤ l.length + 1 ∧ ∀ t ∈ ts, line ≤ t.f3 ∧ t.f3 ≤ line + l.length
  | n, l, line, ts, hn, h => by
    by_cases he : skipR l = []
    · rw [lexL_end l line he] at h
      injection h with h
      subst h
      refine ⟨by simp, fun t ht => ?_⟩
      rw [List.mem_singleton.1 ht]
      simp only
      omega
    · rw [lexL_step l line he] at h
      have hpos := List.length_pos_iff.2 he
      have hlen := skipR_len l
      cases ht : tok1 (skipR l) with
      | error x => rw [ht] at h; cases h
      | ok x =>
        obtain ⟨t, q, b⟩ := x
        obtain ⟨p1, p2, _⟩ := tok1_pos ht
        rw [ht] at h
        simp only at h
        cases hr : lexL ((skipR l).drop q) (if b = true then line + 1 else line) with
        | error y => rw [hr] at h; cases h
        | ok ts' =>
          rw [hr] at h
          injection h with h
          subst h
          cases n with
          | zero => omega
          | succ n =>
            have ih := lexL_lines n _ _ ts' (by rw [List.length_drop]; omega) hr
            rw [List.length_drop] at ih
            refine ⟨by simp only [List.length_cons]; omega, fun y hy => ?_⟩
            rcases List.mem_cons.1 hy with rfl | hy
            · unfold putL; simp only; omega
            · have := ih.2 y hy
              split at this <;> omega
theorem lexL_whites (w l : List UInt8) (line : Int) (h : ∀ c ∈ w, c = 32 ∨ c = 9 ∨ c = 13) : lexL (w ++ l) line = lexL l line := by
  induction w with
  | nil => rfl
  | cons c w ih => rw [List.cons_append, lexL_white _ _ _ (h c (List.mem_cons_self ..))]; exact ih (fun x hx => h x (List.mem_cons_of_mem _ hx))
theorem skipR_whites (w l : List UInt8) (h : ∀ c ∈ w, c = 32 ∨ c = 9 ∨ c = 13) : skipR (w ++ l) = skipR l := by
  induction w with
  | nil => rfl
  | cons c w ih => rw [List.cons_append, skipR_white _ _ (h c (List.mem_cons_self ..))]; exact ih (fun x hx => h x (List.mem_cons_of_mem _ hx))
end Lx
end Go.Proofs.YteifffaonigidaaDoor.Pure
/- Good tokens: what lex makes, and that what Write makes of them reads as they were: plain facts. -/
namespace Go.Proofs.YteifffaonigidaaDoor.Pure
open Go.RowKit Go.Proofs.YteifffaonigidaaDoor.M Go.Proofs.YteifffaonigidaaDoorW.PrintWords Go.Proofs.YteifffaonigidaaDoorW.PrintLast
set_option linter.unusedVariables false
namespace Lx
/-- A token as lex makes it (but for its line), with the bytes that it was made of. -/
inductive GoodTok : S42 → List UInt8 → Prop
  | word (w : List UInt8) (h : wordB w = true) (hd : digitB (w.headD 0) = false) : GoodTok ⟨0, ⟨w.toArray⟩, 0, 0⟩ w
  | num (w : List UInt8) (v : Int) (h : intOfText w = (v, true)) (ha : w.all digitB = true) (hn : w ≠ []) (hz : ¬ (1 < w.length ∧ w.headD 0 = 48)) : GoodTok ⟨1, ⟨w.toArray⟩, v, 0⟩ w
  | text (s : List UInt8) : GoodTok ⟨2, ⟨s.toArray⟩, 0, 0⟩ (quoteL s)
  | feed : GoodTok ⟨3, ⟨#[]⟩, 0, 0⟩ [10]
theorem all_tw : ∀ l : List UInt8, (l.takeWhile partB).all partB = true
  | [] => rfl
  | c :: r => by
    rw [List.takeWhile_cons]
    by_cases h : partB c = true
    · rw [if_pos h, List.all_cons, h, all_tw r]; rfl
    · rw [if_neg h]; rfl
def wt (x : Except Int (S42 × Nat)) : Except Int (S42 × Nat × Bool) := match x with | .error e => .error e | .ok (t, n) => .ok (t, n, false)
theorem tok1_wt (c : UInt8) (r : List UInt8) (h : letterB c = true ∨ digitB c = true) : tok1 (c :: r) = wt (wtok (c :: r)) := if_pos h
theorem headD_take (w r : List UInt8) (h : w ≠ []) : (w ++ r).headD 0 = w.headD 0 := by
  cases w with
  | nil => exact absurd rfl h
  | cons c w => rfl
/-- What stands at the head of a text is a good token. -/
theorem tok1_good {l : List UInt8} {t : S42} {n : Nat} {b : Bool} (h : tok1 l = .ok (t, n, b)) : GoodTok t (l.take n) ∧ b = (t.f0 == 3) := by
  cases l with
  | nil => cases h
  | cons c r =>
    unfold tok1 at h
    simp only at h
    by_cases hc : letterB c = true ∨ digitB c = true
    · rw [if_pos hc] at h
      have hp : partB c = true := by rcases hc with h | h; exact part_letter c h; exact part_digit c h
      have hne : (c :: r).takeWhile partB ≠ [] := by rw [List.takeWhile_cons, if_pos hp]; simp
      have hall : ((c :: r).takeWhile partB).all partB = true := by
        exact all_tw (c :: r)
      have htk : (c :: r).take ((c :: r).takeWhile partB).length = (c :: r).takeWhile partB := by
        have := List.takeWhile_append_dropWhile (p := partB) (l := c :: r)
        conv => lhs; rhs; rw [← this]
        rw [List.take_left]
      have hh : ((c :: r).takeWhile partB).headD 0 = c := by rw [List.takeWhile_cons, if_pos hp]; rfl
      cases hw : wtok (c :: r) with
      | error x => rw [hw] at h; cases h
      | ok x =>
        obtain ⟨t', n'⟩ := x
        rw [hw] at h
        injection h with h; injection h with ht h; injection h with hn hb
        subst ht; subst hn; subst hb
        unfold wtok at hw
        rw [show (c :: r).headD 0 = c from rfl] at hw
        split at hw
        · rename_i hd
          split at hw
          · cases hw
          · rename_i hbad
            split at hw
            · rename_i hok
              injection hw with hw; injection hw with ht hn
              subst ht; subst hn
              rw [htk]
              refine ⟨GoodTok.num _ _ (Prod.ext rfl hok) ?_ hne ?_, rfl⟩
              · cases ha : ((c :: r).takeWhile partB).all digitB with
                | true => rfl
                | false => exact absurd (Or.inl ha) hbad
              · rw [hh]; exact fun h => hbad (Or.inr h)
            · cases hw
        · rename_i hd
          split at hw
          · rename_i hok
            injection hw with hw; injection hw with ht hn
            subst ht; subst hn
            rw [htk]
            exact ⟨GoodTok.word _ hok (by rw [hh]; simpa using hd), rfl⟩
          · cases hw
    · rw [if_neg hc] at h
      by_cases h34 : c = 34
      · rw [if_pos h34] at h
        cases hq : qtok (c :: r) with
        | none => rw [hq] at h; cases h
        | some x =>
          obtain ⟨t', n'⟩ := x
          rw [hq] at h
          injection h with h; injection h with ht h; injection h with hn hb
          subst ht; subst hn; subst hb
          unfold qtok at hq
          cases hsq : scanQ ((c :: r).drop 1) with
          | none => rw [hsq] at hq; cases hq
          | some q =>
            rw [hsq, Option.bind_some] at hq
            split at hq
            · rename_i hok
              injection hq with hq; injection hq with h1 h2
              subst h1; subst h2
              have hb := unquote_back _ _ (Prod.ext rfl hok : unquoteL ((c :: r).take (q + 2)) = ((unquoteL ((c :: r).take (q + 2))).1, true))
              rw [← hb]
              rw [hb]
              have := GoodTok.text (unquoteL ((c :: r).take (q + 2))).1
              rw [hb] at this
              exact ⟨this, rfl⟩
            · cases hq
      · rw [if_neg h34] at h
        by_cases h10 : c = 10
        · rw [if_pos h10] at h
          injection h with h; injection h with ht h; injection h with hn hb
          subst ht; subst hn; subst hb; subst h10
          exact ⟨GoodTok.feed, rfl⟩
        · rw [if_neg h10] at h; cases h
theorem word_parts {w : List UInt8} (h : wordB w = true) : w.all partB = true ∧ w ≠ [] ∧ letterB (w.headD 0) = true := by
  unfold wordB at h
  rw [Bool.and_eq_true, Bool.and_eq_true, Bool.and_eq_true] at h
  refine ⟨h.1.1.1, fun e => ?_, h.2⟩
  rw [e] at h
  exact absurd h.1.1.2 (by decide)
theorem digits_parts {w : List UInt8} (h : w.all digitB = true) : w.all partB = true := by
  rw [List.all_eq_true] at h ⊢
  exact fun x hx => part_digit x (h x hx)
/-- What Write makes of a good token is read as this token; a space stands behind it, but behind a line feed. -/
theorem good_read {t : S42} {w : List UInt8} (h : GoodTok t w) (L : Int) (rest : List UInt8) : lexL (tokOut (putL t L) ++ rest) L = (lexL rest (if t.f0 = 3 then L + 1 else L)).map (putL t L :: ·) := by
  have hsp : ∀ c, (32 :: rest).head? = some c → partB c = false := fun c hc => by
    have e : (32 : UInt8) = c := by simpa using hc
    rw [← e]; decide
  cases h with
  | word w hw hd =>
    obtain ⟨h1, h2, h3⟩ := word_parts hw
    have e : tokOut (putL ⟨0, ⟨w.toArray⟩, 0, 0⟩ L) ++ rest = w ++ 32 :: rest := by unfold tokOut putL; rw [if_pos (Or.inl rfl)]; simp
    have hh := headD_take w (32 :: rest) h2
    rw [e]
    obtain ⟨c, w', rfl⟩ : ∃ c w', w = c :: w' := by cases w with | nil => exact absurd rfl h2 | cons c w' => exact ⟨c, w', rfl⟩
    have hw1 := wtok_word (c :: w') (32 :: rest) (takeWhile_app _ _ h1 hsp) (by rw [hh]; exact hd) hw
    have h3' : letterB c = true := h3
    have step := lexL_tok ((c :: w') ++ 32 :: rest) L ⟨0, ⟨(c :: w').toArray⟩, 0, 0⟩ (c :: w').length false (skip_part c (w' ++ 32 :: rest) (part_letter c h3')) (by simp) ((tok1_wt c (w' ++ 32 :: rest) (Or.inl h3')).trans (congrArg wt hw1))
    rw [step, List.drop_left, if_neg (by decide), lexL_white _ _ _ (Or.inl rfl)]
    rfl
  | num w v hv ha hn hz =>
    have h1 := digits_parts ha
    have e : tokOut (putL ⟨1, ⟨w.toArray⟩, v, 0⟩ L) ++ rest = w ++ 32 :: rest := by unfold tokOut putL; rw [if_pos (Or.inr rfl)]; simp
    have hh := headD_take w (32 :: rest) hn
    rw [e]
    obtain ⟨c, w', rfl⟩ : ∃ c w', w = c :: w' := by cases w with | nil => exact absurd rfl hn | cons c w' => exact ⟨c, w', rfl⟩
    have hc : digitB c = true := by rw [List.all_cons, Bool.and_eq_true] at ha; exact ha.1
    have hw1 := wtok_num (c :: w') (32 :: rest) v (takeWhile_app _ _ h1 hsp) (by rw [hh]; exact hc) ha (by rw [hh]; exact hz) hv
    have step := lexL_tok ((c :: w') ++ 32 :: rest) L ⟨1, ⟨(c :: w').toArray⟩, v, 0⟩ (c :: w').length false (skip_part c (w' ++ 32 :: rest) (part_digit c hc)) (by simp) ((tok1_wt c (w' ++ 32 :: rest) (Or.inr hc)).trans (congrArg wt hw1))
    rw [step, List.drop_left, if_neg (by decide), lexL_white _ _ _ (Or.inl rfl), if_neg (show ¬ (1 : Int) = 3 by decide)]
  | text s =>
    have e : tokOut (putL ⟨2, ⟨s.toArray⟩, 0, 0⟩ L) ++ rest = quoteL s ++ 32 :: rest := by unfold tokOut putL; rw [if_neg (show ¬ ((2 : Int) = 0 ∨ (2 : Int) = 1) by decide), if_pos rfl]; simp
    have e2 : quoteL s ++ 32 :: rest = 34 :: (s.flatMap qb ++ [34] ++ 32 :: rest) := by unfold quoteL; simp
    have hq := qtok_quote s (32 :: rest)
    rw [e, lexL_tok _ L ⟨2, ⟨s.toArray⟩, 0, 0⟩ (quoteL s).length false (by rw [e2]; exact skipR_stop 34 _ (by decide) (by decide)) (by rw [e2]; simp) (by
      rw [e2] at hq ⊢
      rw [tok1_quote, hq]), List.drop_left, if_neg (by decide), lexL_white _ _ _ (Or.inl rfl)]
    rfl
  | feed =>
    have e : tokOut (putL ⟨3, ⟨#[]⟩, 0, 0⟩ L) ++ rest = 10 :: rest := by unfold tokOut putL; rw [if_neg (show ¬ ((3 : Int) = 0 ∨ (3 : Int) = 1) by decide), if_neg (show ¬ (3 : Int) = 2 by decide), if_pos rfl]; rfl
    rw [e, lexL_tok (10 :: rest) L ⟨3, ⟨#[]⟩, 0, 0⟩ 1 true (skipR_stop 10 rest (by decide) (by decide)) (by simp) (tok1_lf rest)]
    rfl
/-- The tokens of a text, from a line on. -/
inductive GL : Int → List S42 → Prop
  | fin (L : Int) : GL L [⟨4, ⟨#[]⟩, 0, L⟩]
  | cons (t : S42) (w : List UInt8) (L : Int) (ts : List S42) (h : GoodTok t w) (hr : GL (if t.f0 = 3 then L + 1 else L) ts) : GL L (putL t L :: ts)
theorem good_len {t : S42} {w : List UInt8} (h : GoodTok t w) (L : Int) : (tokOut (putL t L)).length ≤ w.length + 1 ∧ t.f1.size ≤ w.length ∧ t.f0 ≠ 4 := by
  cases h with
  | word w hw hd => exact ⟨by unfold tokOut putL; rw [if_pos (Or.inl rfl)]; simp, by simp [ByteArray.size], by show (0 : Int) ≠ 4; decide⟩
  | num w v hv ha hn hz => exact ⟨by unfold tokOut putL; rw [if_pos (Or.inr rfl)]; simp, by simp [ByteArray.size], by show (1 : Int) ≠ 4; decide⟩
  | text s =>
    refine ⟨by unfold tokOut putL; rw [if_neg (show ¬ ((2 : Int) = 0 ∨ (2 : Int) = 1) by decide), if_pos rfl]; simp, ?_, by show (2 : Int) ≠ 4; decide⟩
    have h1 : ∀ l : List UInt8, l.length ≤ (l.flatMap qb).length := by
      intro l
      induction l with
      | nil => simp
      | cons c l ih =>
        have : 1 ≤ (qb c).length := by unfold qb; split; simp; split; simp; split <;> simp
        simp only [List.flatMap_cons, List.length_append, List.length_cons]
        omega
    have h2 := h1 s
    rw [quote_len]
    have h3 : (⟨s.toArray⟩ : ByteArray).size = s.length := by simp [ByteArray.size]
    show (⟨s.toArray⟩ : ByteArray).size ≤ _
    omega
  | feed => exact ⟨by unfold tokOut putL; rw [if_neg (show ¬ ((3 : Int) = 0 ∨ (3 : Int) = 1) by decide), if_neg (show ¬ (3 : Int) = 2 by decide), if_pos rfl]; simp, by simp [ByteArray.size], by show (3 : Int) ≠ 4; decide⟩
theorem lexL_GL : ∀ (n : Nat) (l : List UInt8) (line : Int) (ts : List S42), l.length ≤ n → lexL l line = .ok ts → GL line ts ∧ (writeL ts).length ≤ 2 * l.length ∧ ∀ t ∈ ts, t.f1.size ≤ l.length
  | n, l, line, ts, hn, h => by
    by_cases he : skipR l = []
    · rw [lexL_end l line he] at h
      injection h with h
      subst h
      refine ⟨GL.fin line, ?_, fun t ht => ?_⟩
      · show (tokOut ⟨4, ⟨#[]⟩, 0, line⟩ ++ []).length ≤ _
        have : tokOut ⟨4, ⟨#[]⟩, 0, line⟩ = [] := by unfold tokOut; rw [if_neg (show ¬ ((4 : Int) = 0 ∨ (4 : Int) = 1) by decide), if_neg (show ¬ (4 : Int) = 2 by decide), if_neg (show ¬ (4 : Int) = 3 by decide)]
        rw [this]; simp
      · rw [List.mem_singleton.1 ht]; exact Nat.zero_le _
    · rw [lexL_step l line he] at h
      have hpos := List.length_pos_iff.2 he
      have hlen := skipR_len l
      cases ht : tok1 (skipR l) with
      | error x => rw [ht] at h; cases h
      | ok x =>
        obtain ⟨t, q, b⟩ := x
        obtain ⟨p1, p2, _⟩ := tok1_pos ht
        obtain ⟨hg, hb⟩ := tok1_good ht
        obtain ⟨g1, g2, g3⟩ := good_len hg line
        have htl : ((skipR l).take q).length = q := by rw [List.length_take]; omega
        rw [htl] at g1 g2
        rw [ht] at h
        simp only at h
        have eb : (if b = true then line + 1 else line) = (if t.f0 = 3 then line + 1 else line) := by
          rw [hb]
          by_cases h3 : t.f0 = 3
          · rw [if_pos h3, if_pos (beq_iff_eq.2 h3)]
          · rw [if_neg h3, if_neg (fun e => h3 (beq_iff_eq.1 e))]
        rw [eb] at h
        cases hr : lexL ((skipR l).drop q) (if t.f0 = 3 then line + 1 else line) with
        | error y => rw [hr] at h; cases h
        | ok ts' =>
          rw [hr] at h
          injection h with h
          subst h
          cases n with
          | zero => omega
          | succ n =>
            have ih := lexL_GL n _ _ ts' (by rw [List.length_drop]; omega) hr
            rw [List.length_drop] at ih
            refine ⟨GL.cons t _ line ts' hg ih.1, ?_, fun y hy => ?_⟩
            · show (tokOut (putL t line) ++ writeL ts').length ≤ _
              rw [List.length_append]; omega
            · rcases List.mem_cons.1 hy with rfl | hy
              · show t.f1.size ≤ _; omega
              · have := ih.2.2 y hy; omega
theorem GL_read {L : Int} {ts : List S42} (h : GL L ts) : lexL (writeL ts) L = .ok ts := by
  induction h with
  | fin L =>
    have : writeL [⟨4, ⟨#[]⟩, 0, L⟩] = [] := by
      show tokOut ⟨4, ⟨#[]⟩, 0, L⟩ ++ [] = []
      unfold tokOut
      rw [if_neg (show ¬ ((4 : Int) = 0 ∨ (4 : Int) = 1) by decide), if_neg (show ¬ (4 : Int) = 2 by decide), if_neg (show ¬ (4 : Int) = 3 by decide)]; rfl
    rw [this]; exact lexL_end _ _ skipR_nil
  | cons t w L ts hg hr ih =>
    show lexL (tokOut (putL t L) ++ writeL ts) L = _
    rw [good_read hg, ih]; rfl
end Lx
end Go.Proofs.YteifffaonigidaaDoor.Pure
