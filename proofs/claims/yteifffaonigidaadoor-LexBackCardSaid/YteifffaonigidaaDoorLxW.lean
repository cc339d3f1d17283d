/- The contract of lex.Write, for rows of at most 1000000 tokens with texts of at most 1000000 bytes each. -/
import Derived.Test.YteifffaonigidaaDoorTxB
import Derived.Test.YteifffaonigidaaDoorTxG
namespace Go.Proofs.YteifffaonigidaaDoor.M
open Go.RowKit Go.Proofs.YteifffaonigidaaDoorW.PrintWords Go.Proofs.YteifffaonigidaaDoorW.PrintLast
set_option linter.unusedVariables false
set_option linter.unusedSimpArgs false
def tokOut (t : S42) : List UInt8 :=
  if t.f0 = 0 ∨ t.f0 = 1 then t.f1.data.toList ++ [32] else if t.f0 = 2 then quoteL t.f1.data.toList ++ [32] else if t.f0 = 3 then [10] else []
def writeL (l : List S42) : List UInt8 := l.flatMap tokOut
def lex_Write.f (l0 : List S42) : Option ByteArray := if l0.all (fun t => decide (t.f1.size ≤ 1000000)) = true ∧ l0.length ≤ 1000000 then some ⟨(writeL l0).toArray⟩ else none
theorem tokOut_len (t : S42) (h : t.f1.size ≤ 1000000) : (tokOut t).length ≤ 4000003 := by
  have hl : t.f1.data.toList.length = t.f1.size := rfl
  have hq := flat_len t.f1.data.toList
  unfold tokOut
  split
  · rw [List.length_append, hl]; simp; omega
  · split
    · unfold quoteL
      simp only [List.length_append, List.length_cons, List.length_nil]
      omega
    · split <;> simp
theorem write_len (l : List S42) (h : ∀ t ∈ l, t.f1.size ≤ 1000000) : (writeL l).length ≤ 4000003 * l.length := by
  induction l with
  | nil => simp [writeL]
  | cons t l ih =>
    have h1 := tokOut_len t (h t (List.mem_cons_self ..))
    have h2 := ih (fun x hx => h x (List.mem_cons_of_mem _ hx))
    show (tokOut t ++ writeL l).length ≤ _
    rw [List.length_append]
    simp only [List.length_cons]
    omega
theorem write_snoc (l : List S42) (k : Nat) (h : k < l.length) : writeL (l.take (k + 1)) = writeL (l.take k) ++ tokOut (rd_T42 l (k : Int)) := by
  unfold writeL rd_T42
  rw [List.take_succ_eq_append_getElem h, List.flatMap_append, Int.toNat_natCast]
  simp [h]
theorem Bld.step {w : World} {l : List UInt8} {wr w' : World} (h : Bld w l wr) (hb : Below wr.heap.size wr w') : Bld w l w' :=
  ⟨Bld_is_below h.is hb, h.below.trans (hb.mono h.below.size)⟩
set_option maxHeartbeats 8000000 in
set_option maxRecDepth 100000 in
theorem lex_Write.calls (A0 : Option Addr) (c0 : Nat) (l0 : List S42) (r : ByteArray) (w : World) (hr0 : Kd.C k42 w A0 l0.length l0) (hc0 : l0.length ≤ c0) (h : lex_Write.f l0 = some r) :
    Calls Tryd.prog 31 #[.slice A0 l0.length c0] w fun e w' => e = .returned (.string r) ∧ Below w.heap.size w w' := by
  unfold lex_Write.f at h
  by_cases hs0 : ¬ (l0.all (fun t => decide (t.f1.size ≤ 1000000)) = true ∧ l0.length ≤ 1000000)
  · rw [if_neg hs0] at h; exact absurd h (by simp)
  have hs := Decidable.not_not.1 hs0
  rw [if_pos hs] at h
  obtain rfl := Option.some.inj h
  clear h hs0
  obtain ⟨hall, hln⟩ := hs
  have hall' : ∀ t ∈ l0, t.f1.size ≤ 1000000 := fun t ht => of_decide_eq_true (List.all_eq_true.1 hall t ht)
  have HAll := Lib.hid hall'
  have hR := Lib.hid hr0
  clear hr0 hall hall'
  go_enter Tryd.func31, Tryd.ntmps31
  have hN := Lib.hid (Bld.new w)
  go_wp2
  go_loopw [8] (fun v8 wr => ∃ k : Nat, k ≤ l0.length ∧ v8 = .int .i64 k ∧ Hid (Bld w (writeL (l0.take k)) wr)) (fun i _ => l0.length - (intOf i).toNat)
  case atStart => exact ⟨0, Nat.zero_le _, rfl, hN⟩
  case round =>
    obtain ⟨k, hk, rfl, hB⟩ := hrel
    have hB' := hB.out
    clear hB hN
    by_cases hlt : k < l0.length
    · have hsn := Lib.hid (write_snoc l0 k hlt)
      have hlen : (writeL (l0.take k)).length ≤ 4000003 * 1000000 := by
        have h1 := write_len (l0.take k) (fun t ht => HAll.out t (List.mem_of_mem_take ht))
        rw [List.length_take] at h1
        exact Nat.le_trans h1 (Nat.mul_le_mul_left _ (by omega))
      have hsz : (rd_T42 l0 (k : Int)).f1.size ≤ 1000000 := by
        apply HAll.out
        unfold rd_T42
        rw [Int.toNat_natCast, List.getD_eq_getElem?_getD, List.getElem?_eq_getElem hlt]
        exact List.getElem_mem hlt
      obtain ⟨ad, e1, x0, x1, x2, x3⟩ := at_T42 hR.out (k : Int) (by omega) (by omega)
      subst e1
      rw [Int.toNat_natCast] at x0 x1 x2 x3
      have x0 := (hB'.below.cell (World.block_lt_of_cell? w _ x0)).trans x0
      have x1 := (hB'.below.cell (World.block_lt_of_cell? w _ x1)).trans x1
      have x2 := (hB'.below.cell (World.block_lt_of_cell? w _ x2)).trans x2
      have x3 := (hB'.below.cell (World.block_lt_of_cell? w _ x3)).trans x3
      obtain ⟨t, ht⟩ : ∃ t, rd_T42 l0 (k : Int) = t := ⟨_, rfl⟩
      rw [ht] at x0 x1 x2 x3 hsn hsz
      clear ht
      have hK : ∀ t' : S42, Bld w (writeL (l0.take k)) (wr.alloc (.cells #[.int .i64 t.f0, .string t.f1, .int .i64 t.f2, .int .i64 t.f3] 42)) := fun _ => hB'.step ((Below.refl _ _).alloc (Nat.le_refl _) _)
      have HK := Lib.hid (hK t)
      clear hK hB'
      have h5 : t.f0 = 0 ∨ t.f0 = 1 ∨ t.f0 = 2 ∨ t.f0 = 3 ∨ (t.f0 ≠ 0 ∧ t.f0 ≠ 1 ∧ t.f0 ≠ 2 ∧ t.f0 ≠ 3) := by omega
      rcases h5 with h0 | h0 | h0 | h0 | ⟨h0, h1, h2, h3⟩
      · have c1 : (t.f0 == 0) = true := beq_iff_eq.2 h0
        have HT := Lib.hid (show tokOut t = (t.f1 ++ (⟨#[32]⟩ : ByteArray)).data.toList by unfold tokOut; rw [if_pos (Or.inl h0)]; simp)
        clear h0
        go_wp2_with fail
        refine (HK.out.str (t.f1 ++ (⟨#[32]⟩ : ByteArray)) (by rw [ByteArray.size_append]; have : (⟨#[32]⟩ : ByteArray).size = 1 := rfl; omega)).mono ?_
        rintro e w1 ⟨⟨v, rfl⟩, hb1⟩
        clear HK
        go_wp2_with fail
        go_roundw
        case rel => exact ⟨k + 1, by omega, by go_num, Lib.hid (by rw [hsn.out, HT.out]; exact hb1)⟩
        case measure => simp [intOf]; omega
      · have c1 : (t.f0 == 0) = false := beq_eq_false_iff_ne.2 (by omega)
        have c2 : (t.f0 == 1) = true := beq_iff_eq.2 h0
        have HT := Lib.hid (show tokOut t = (t.f1 ++ (⟨#[32]⟩ : ByteArray)).data.toList by unfold tokOut; rw [if_pos (Or.inr h0)]; simp)
        clear h0
        go_wp2_with fail
        refine (HK.out.str (t.f1 ++ (⟨#[32]⟩ : ByteArray)) (by rw [ByteArray.size_append]; have : (⟨#[32]⟩ : ByteArray).size = 1 := rfl; omega)).mono ?_
        rintro e w1 ⟨⟨v, rfl⟩, hb1⟩
        clear HK
        go_wp2_with fail
        go_roundw
        case rel => exact ⟨k + 1, by omega, by go_num, Lib.hid (by rw [hsn.out, HT.out]; exact hb1)⟩
        case measure => simp [intOf]; omega
      · have c1 : (t.f0 == 0) = false := beq_eq_false_iff_ne.2 (by omega)
        have c2 : (t.f0 == 1) = false := beq_eq_false_iff_ne.2 (by omega)
        have c3 : (t.f0 == 2) = true := beq_iff_eq.2 h0
        obtain ⟨q, hq⟩ : ∃ q : ByteArray, (⟨(quoteL t.f1.data.toList).toArray⟩ : ByteArray) = q := ⟨_, rfl⟩
        have hqs : q.size ≤ 4000002 := by
          rw [← hq]
          have hf := flat_len t.f1.data.toList
          have hl : t.f1.data.toList.length = t.f1.size := rfl
          have : (⟨(quoteL t.f1.data.toList).toArray⟩ : ByteArray).size = (quoteL t.f1.data.toList).length := by simp [ByteArray.size]
          rw [this]
          unfold quoteL
          simp only [List.length_append, List.length_cons, List.length_nil]
          omega
        have HT := Lib.hid (show tokOut t = (q ++ (⟨#[32]⟩ : ByteArray)).data.toList by unfold tokOut; rw [if_neg (by omega), if_pos h0, ← hq]; simp)
        have HQ := Lib.hid (fun W => text_Quote.calls t.f1 q W (by unfold text_Quote.f; rw [if_pos (by omega), hq]))
        clear h0 hq
        go_wp2_with fail
        refine (HQ.out _).mono ?_
        rintro e w0 ⟨rfl, hb0⟩
        have HK0 := Lib.hid (HK.out.step hb0)
        clear HK HQ hb0
        go_wp2_with fail
        refine (HK0.out.str (q ++ (⟨#[32]⟩ : ByteArray)) (by rw [ByteArray.size_append]; have : (⟨#[32]⟩ : ByteArray).size = 1 := rfl; omega)).mono ?_
        rintro e w1 ⟨⟨v, rfl⟩, hb1⟩
        clear HK0
        go_wp2_with fail
        go_roundw
        case rel => exact ⟨k + 1, by omega, by go_num, Lib.hid (by rw [hsn.out, HT.out]; exact hb1)⟩
        case measure => simp [intOf]; omega
      · have c1 : (t.f0 == 0) = false := beq_eq_false_iff_ne.2 (by omega)
        have c2 : (t.f0 == 1) = false := beq_eq_false_iff_ne.2 (by omega)
        have c3 : (t.f0 == 2) = false := beq_eq_false_iff_ne.2 (by omega)
        have c4 : (t.f0 == 3) = true := beq_iff_eq.2 h0
        have HT := Lib.hid (show tokOut t = [10] by unfold tokOut; rw [if_neg (by omega), if_neg (by omega), if_pos h0])
        clear h0
        go_wp2_with fail
        refine (HK.out.byte 10 10 rfl (by omega)).mono ?_
        rintro e w1 ⟨rfl, hb1⟩
        clear HK
        go_wp2_with fail
        go_roundw
        case rel => exact ⟨k + 1, by omega, by go_num, Lib.hid (by rw [hsn.out, HT.out]; exact hb1)⟩
        case measure => simp [intOf]; omega
      · have c1 : (t.f0 == 0) = false := beq_eq_false_iff_ne.2 (by omega)
        have c2 : (t.f0 == 1) = false := beq_eq_false_iff_ne.2 (by omega)
        have c3 : (t.f0 == 2) = false := beq_eq_false_iff_ne.2 (by omega)
        have c4 : (t.f0 == 3) = false := beq_eq_false_iff_ne.2 (by omega)
        have HT := Lib.hid (show tokOut t = [] by unfold tokOut; rw [if_neg (by omega), if_neg (by omega), if_neg (by omega)])
        clear h0 h1 h2 h3
        go_wp2_with fail
        go_roundw
        case rel => exact ⟨k + 1, by omega, by go_num, Lib.hid (by rw [hsn.out, HT.out, List.append_nil]; exact HK.out)⟩
        case measure => simp [intOf]; omega
    · obtain rfl : k = l0.length := by omega
      go_wp2_with fail
      refine hB'.done.mono ?_
      rintro e w3 ⟨rfl, hb3⟩
      go_wp2_with fail
      go_ret
      exact ⟨rfl, hb3⟩
end Go.Proofs.YteifffaonigidaaDoor.M
