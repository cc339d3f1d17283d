/- What the printed functions text.closing, text.class, text.in and text.one answer, in the words of 'PatPlain' (lists of bytes): plain facts about numbers and lists. -/
import Derived.Test.YteifffaonigidaaDoorTx1
import Derived.Test.YteifffaonigidaaDoorPat
namespace Go.Proofs.YteifffaonigidaaDoor.T
open Go.RowKit Go.Proofs.YteifffaonigidaaDoorW.PrintWords Go.Proofs.YteifffaonigidaaDoorW.PrintLast
open Go.Proofs.YteifffaonigidaaDoor.PatPlain
set_option linter.unusedVariables false
set_option linter.unusedSimpArgs false

theorem w64 {x : Int} (h0 : -9223372036854775808 ≤ x) (h1 : x ≤ 9223372036854775807) : wrap64 x = x := by
  unfold wrap64
  omega
theorem bt_nat (s : ByteArray) (i : Nat) (h : i < s.size) : bt s (i : Int) = (s[i].toNat : Int) := by
  unfold bt
  rw [dif_pos (by simpa using h)]
  rfl
theorem drop_at (s : ByteArray) (i : Nat) (h : i < s.size) : s.data.toList.drop i = s[i] :: s.data.toList.drop (i + 1) := by
  rw [List.drop_eq_getElem_cons (by simpa using h)]
  rfl
theorem size_list (s : ByteArray) : s.data.toList.length = s.size := rfl
theorem extract_list (s : ByteArray) (a b : Nat) : (s.extract a b).data.toList = (s.data.toList.drop a).take (b - a) := by
  rw [ByteArray.data_extract, Array.toList_extract, List.extract_eq_take_drop]
theorem indexByte_some (c : UInt8) : ∀ (l : List UInt8) (n : Nat), l.findIdx? (· == c) = some n → Lib.indexByte l c = n
  | [], n, h => by simp at h
  | b :: l, n, h => by
    rw [List.findIdx?_cons] at h
    unfold Lib.indexByte
    by_cases hb : b == c
    · rw [if_pos hb] at h ⊢
      cases h
      rfl
    · rw [if_neg hb] at h ⊢
      rw [Option.map_eq_some_iff] at h
      obtain ⟨m, hm, rfl⟩ := h
      rw [indexByte_some c l m hm, if_neg (by simp)]
      omega
theorem indexByte_none (c : UInt8) : ∀ (l : List UInt8), l.findIdx? (· == c) = none → Lib.indexByte l c = -1
  | [], h => rfl
  | b :: l, h => by
    rw [List.findIdx?_cons] at h
    unfold Lib.indexByte
    by_cases hb : b == c
    · rw [if_pos hb] at h
      exact absurd h (by simp)
    · rw [if_neg hb] at h ⊢
      rw [Option.map_eq_none_iff] at h
      rw [indexByte_none c l h]
      rfl

theorem closing_eq (p : ByteArray) (j : Nat) (hp : p.size ≤ 60000) (hj : j < p.size) :
    text_closing.f p (j : Int) = some (if Lib.indexByte (p.data.toList.drop (j + 1)) 93 < 0 then -1 else wrap64 ((j : Int) + 1 + Lib.indexByte (p.data.toList.drop (j + 1)) 93)) := by
  unfold text_closing.f
  rw [w64 (x := (j : Int) + 1) (by omega) (by omega)]
  have hm : mn ((j : Int) + 1) (p.size : Int) = (j : Int) + 1 := by unfold mn; omega
  rw [if_neg (by omega), hm, if_pos (by omega), if_pos (by omega)]
  unfold strings_IndexByte.f
  simp only [Option.bind_some]
  have e1 : ((j : Int) + 1).toNat = j + 1 := by omega
  rw [e1, extract_list, List.take_of_length_le (by rw [List.length_drop, size_list]; omega)]
  have e2 : ((93 : Int).toNat.toUInt8) = (93 : UInt8) := rfl
  rw [e2]
  split <;> rfl
theorem closing_none (p : ByteArray) (j : Nat) (hp : p.size ≤ 60000) (hj : j ≤ p.size) (h : clos (p.data.toList.drop j) = none) : text_closing.f p (j : Int) = some (-1) := by
  by_cases hlt : j < p.size
  · rw [closing_eq p j hp hlt]
    rw [drop_at p j hlt] at h
    simp only [clos, Option.map_eq_none_iff] at h
    rw [indexByte_none _ _ h]
    rfl
  · unfold text_closing.f
    rw [w64 (by omega) (by omega), if_pos (by omega)]
theorem closing_some (p : ByteArray) (j n : Nat) (hp : p.size ≤ 60000) (hj : j ≤ p.size) (h : clos (p.data.toList.drop j) = some n) : text_closing.f p (j : Int) = some ((j : Int) + n) ∧ 1 ≤ n ∧ j + n < p.size := by
  have hn := clos_lt h
  rw [List.length_drop, size_list] at hn
  refine ⟨?_, hn.1, by omega⟩
  rw [closing_eq p j hp (by omega)]
  rw [drop_at p j (by omega)] at h
  simp only [clos, Option.map_eq_some_iff] at h
  obtain ⟨m, hm, rfl⟩ := h
  rw [indexByte_some _ _ m hm, if_neg (by omega), w64 (by omega) (by omega)]
  congr 1
  omega

/-- What text.class answers. -/
def ClassIs (c : Option (List UInt8 × Bool × Nat)) (i : Nat) (r : Int × Bool × ByteArray × Bool) : Prop :=
  (c = none → r.2.2.2 = false) ∧ ∀ set neg n, c = some (set, neg, n) → r.1 = (i : Int) + (n : Nat) ∧ r.2.1 = neg ∧ r.2.2.1.data.toList = set ∧ r.2.2.2 = true ∧ 1 ≤ n ∧ n ≤ 60000
theorem class_plain (p : ByteArray) (i : Nat) (hp : p.size ≤ 60000) (hi : i < p.size) :
    ∃ r, ((text_closing.f p ((i : Int) + 1)).bind fun t => (if t < 0 then (some (0, false, (⟨#[]⟩ : ByteArray), false)) else (if 0 ≤ ((i : Int) + 1) then (if ((i : Int) + 1) ≤ t then (if t ≤ (p.size : Int) then (some (t, false, p.extract (((i : Int) + 1) : Int).toNat (t : Int).toNat, true)) else (none)) else (none)) else (none)))) = some r ∧ ClassIs (plainC (p.data.toList.drop (i + 1))) i r := by
  have e1 : (i : Int) + 1 = ((i + 1 : Nat) : Int) := by omega
  cases hc : clos (p.data.toList.drop (i + 1)) with
  | none =>
    rw [e1, closing_none p (i + 1) hp (by omega) hc, plainC_none hc]
    exact ⟨_, rfl, fun _ => rfl, fun _ _ _ h => by cases h⟩
  | some n =>
    obtain ⟨h1, h2, h3⟩ := closing_some p (i + 1) n hp (by omega) hc
    rw [e1, h1, plainC_some hc]
    simp only [Option.bind_some]
    rw [if_neg (by omega), if_pos (by omega), if_pos (by omega), if_pos (by omega)]
    refine ⟨_, rfl, fun h => by simp at h, fun set neg m h => ?_⟩
    simp only [Option.some.injEq, Prod.mk.injEq] at h
    obtain ⟨rfl, rfl, rfl⟩ := h
    refine ⟨by simp only; omega, rfl, ?_, rfl, by omega, by omega⟩
    simp only
    rw [extract_list]
    congr 1
    omega
theorem class_at (p : ByteArray) (i : Nat) (k : Nat) (hp : p.size ≤ 60000) (hi : i < p.size) : ∃ r, text_class.f (k + 1) p (i : Int) = some r ∧ ClassIs (cls (p.data.toList.drop (i + 1))) i r := by
  obtain ⟨r0, hr0, hm0⟩ := class_plain p i hp hi
  have e1 : (i : Int) + 1 = ((i + 1 : Nat) : Int) := by omega
  unfold text_class.f
  rw [w64 (x := (i : Int) + 1) (by omega) (by omega)]
  by_cases h : (i : Int) + 1 < (p.size : Int)
  · rw [if_pos h, if_pos (by omega)]
    have hb := bt_nat p (i + 1) (by omega)
    rw [← e1] at hb
    rw [hb]
    simp only [text_class.j0]
    rw [w64 (x := (i : Int) + 1 + 1) (by omega) (by omega)]
    have e2 : (i : Int) + 1 + 1 = ((i + 2 : Nat) : Int) := by omega
    have hd := drop_at p (i + 1) (by omega)
    by_cases h33 : p[i + 1] = 33
    · have hc1 : ((p[i + 1].toNat : Int) == 33) = true := by rw [h33]; rfl
      rw [if_pos hc1, e2]
      cases hc : clos (p.data.toList.drop (i + 2)) with
      | some n =>
        obtain ⟨h1, h2, h3⟩ := closing_some p (i + 2) n hp (by omega) hc
        rw [h1]
        simp only [Option.bind_some]
        rw [if_pos (by omega), if_pos (by omega), if_pos (by omega), if_pos (by omega)]
        rw [hd, h33, cls_not_some hc]
        refine ⟨_, rfl, fun h => by simp at h, fun set neg m h => ?_⟩
        simp only [Option.some.injEq, Prod.mk.injEq] at h
        obtain ⟨rfl, rfl, rfl⟩ := h
        refine ⟨by simp only; omega, rfl, ?_, rfl, by omega, by omega⟩
        simp only
        rw [extract_list]
        congr 1
        omega
      | none =>
        rw [closing_none p (i + 2) hp (by omega) hc, Option.bind_some, if_neg (show ¬ ((-1 : Int) > 0) by decide)]
        refine ⟨r0, hr0, ?_⟩
        rw [hd, h33] at hm0 ⊢
        rw [cls_not_none hc]
        exact hm0
    · have hc1 : ((p[i + 1].toNat : Int) == 33) = false := by
        rw [beq_eq_false_iff_ne]
        intro hh
        exact h33 (UInt8.toNat_inj.1 (by show _ = 33; omega))
      rw [if_neg (by rw [hc1]; decide)]
      refine ⟨r0, hr0, ?_⟩
      rw [hd] at hm0 ⊢
      rw [cls_else h33]
      exact hm0
  · rw [if_neg h]
    simp only [text_class.j0]
    rw [if_neg (by decide)]
    refine ⟨r0, hr0, ?_⟩
    rw [List.drop_eq_nil_of_le (by rw [size_list]; omega)] at hm0 ⊢
    rw [cls_nil]
    exact hm0

/-! ### in -/
theorem at_i (s : ByteArray) (i : Nat) (h : i < s.size) : s.data.toList[i]'(by rw [size_list]; exact h) = s[i] := rfl
theorem in_end (s : ByteArray) (c : UInt8) (i : Nat) (h : s.size ≤ i) : inSet (s.data.toList.drop i) c = false := by
  rw [List.drop_eq_nil_of_le (by rw [size_list]; exact h)]
  rfl
theorem in_range (s : ByteArray) (c : UInt8) (i : Nat) (h : i + 2 < s.size) (hm : s[i + 1] = 45) :
    inSet (s.data.toList.drop i) c = ((s[i] ≤ c && c ≤ s[i + 2]) || inSet (s.data.toList.drop (i + 3)) c) := by
  rw [drop_at s i (by omega), drop_at s (i + 1) (by omega), drop_at s (i + 2) (by omega)]
  conv => lhs; unfold inSet
  rw [if_pos hm]
theorem in_one (s : ByteArray) (c : UInt8) (i : Nat) (h : i < s.size) (hm : ∀ h2 : i + 2 < s.size, s[i + 1] ≠ 45) :
    inSet (s.data.toList.drop i) c = (s[i] == c || inSet (s.data.toList.drop (i + 1)) c) := by
  rw [drop_at s i (by omega)]
  by_cases h2 : i + 2 < s.size
  · rw [drop_at s (i + 1) (by omega), drop_at s (i + 2) (by omega)]
    conv => lhs; unfold inSet
    rw [if_neg (hm h2)]
  · by_cases h1 : i + 1 < s.size
    · rw [drop_at s (i + 1) (by omega), List.drop_eq_nil_of_le (by rw [size_list]; omega)]
      conv => lhs; unfold inSet
    · rw [List.drop_eq_nil_of_le (by rw [size_list]; omega)]
      conv => lhs; unfold inSet
theorem in_at (s : ByteArray) (c : UInt8) (hs : s.size ≤ 60000) : ∀ (d i k : Nat), s.size ≤ i + d → 2 * d + 2 ≤ k → text_in.l0 k s (c.toNat : Int) (i : Int) = some (inSet (s.data.toList.drop i) c)
  | 0, i, k, hd, hk => by
    obtain ⟨k, rfl⟩ : ∃ m, k = m + 1 := ⟨k - 1, by omega⟩
    simp only [text_in.l0]
    rw [if_neg (by omega), in_end s c i (by omega)]
  | d + 1, i, k, hd, hk => by
    obtain ⟨k, rfl⟩ : ∃ m, k = m + 2 := ⟨k - 2, by omega⟩
    by_cases hi : i < s.size
    · simp only [text_in.l0]
      rw [if_pos (by omega), w64 (x := (i : Int) + 2) (by omega) (by omega), w64 (x := (i : Int) + 1) (by omega) (by omega)]
      have e1 : (i : Int) + 1 = ((i + 1 : Nat) : Int) := by omega
      have e2 : (i : Int) + 2 = ((i + 2 : Nat) : Int) := by omega
      have e3 : (i : Int) + 2 + 1 = ((i + 3 : Nat) : Int) := by omega
      have hb := bt_nat s i hi
      have one : (∀ h2 : i + 2 < s.size, s[i + 1] ≠ 45) → text_in.j1 (k + 1) s (c.toNat : Int) (i : Int) false = some (inSet (s.data.toList.drop i) c) := by
        intro hm
        rw [in_one s c i hi hm]
        simp only [text_in.j1]
        rw [if_neg (by decide), if_pos (by omega), if_pos (by omega), hb]
        by_cases hc : s[i] = c
        · rw [if_pos (by rw [hc]), hc]
          simp
        · rw [if_neg (fun h => hc (UInt8.toNat_inj.1 (by omega))), w64 (by omega) (by omega), e1, in_at s c hs d (i + 1) k (by omega) (by omega)]
          have : (s[i] == c) = false := beq_eq_false_iff_ne.2 hc
          rw [this]
          rfl
      by_cases h2 : i + 2 < s.size
      · rw [if_pos (by omega), if_pos (by omega), if_pos (by omega), e1, bt_nat s (i + 1) (by omega)]
        by_cases hm : s[i + 1] = 45
        · have hc1 : ((s[i + 1].toNat : Int) == 45) = true := by rw [hm]; rfl
          rw [hc1, in_range s c i h2 hm]
          simp only [text_in.j1]
          rw [if_pos trivial, if_pos (by omega), if_pos (by omega), hb, w64 (x := (i : Int) + 2) (by omega) (by omega), w64 (x := (i : Int) + 2 + 1) (by omega) (by omega), e3, in_at s c hs d (i + 3) k (by omega) (by omega), e2, bt_nat s (i + 2) h2]
          by_cases ha : (s[i].toNat : Int) ≤ (c.toNat : Int)
          · have ha' : s[i] ≤ c := UInt8.le_iff_toNat_le.2 (by omega)
            rw [if_pos ha, if_pos (by omega), if_pos (by omega)]
            by_cases hb2 : (c.toNat : Int) ≤ (s[i + 2].toNat : Int)
            · have hb' : c ≤ s[i + 2] := UInt8.le_iff_toNat_le.2 (by omega)
              rw [if_pos hb2]
              simp [ha', hb']
            · have hb' : ¬ c ≤ s[i + 2] := fun h => hb2 (by have := UInt8.le_iff_toNat_le.1 h; omega)
              rw [if_neg hb2]
              simp [hb']
          · have ha' : ¬ s[i] ≤ c := fun h => ha (by have := UInt8.le_iff_toNat_le.1 h; omega)
            rw [if_neg ha]
            simp [ha']
        · have hc1 : ((s[i + 1].toNat : Int) == 45) = false := by
            rw [beq_eq_false_iff_ne]
            intro hh
            exact hm (UInt8.toNat_inj.1 (by show _ = 45; omega))
          rw [hc1]
          exact one (fun _ => hm)
      · rw [if_neg (by omega)]
        exact one (fun h => absurd h h2)
    · obtain ⟨k, rfl⟩ : ∃ m, k = m := ⟨k, rfl⟩
      simp only [text_in.l0]
      rw [if_neg (by omega), in_end s c i (by omega)]

/-! ### one -/
theorem one_at (p : ByteArray) (i : Nat) (c : UInt8) (k : Nat) (hp : p.size ≤ 60000) (hi : i < p.size) (hns : p[i] ≠ 42) (hk : 130000 ≤ k) :
    text_one.f k p (i : Int) (c.toNat : Int) = some ((1 : Int) + ((part1 p[i] (p.data.toList.drop (i + 1))).2 : Nat), fits (part1 p[i] (p.data.toList.drop (i + 1))).1 c) := by
  obtain ⟨k, rfl⟩ : ∃ m, k = m + 2 := ⟨k - 2, by omega⟩
  have hb := bt_nat p i hi
  have beqc : ∀ b : UInt8, ((b.toNat : Int) == (c.toNat : Int)) = (b == c) := fun b => by
    rw [Bool.eq_iff_iff, beq_iff_eq, beq_iff_eq]
    exact ⟨fun h => UInt8.toNat_inj.1 (by omega), fun h => by rw [h]⟩
  have e1 : (i : Int) + 1 = ((i + 1 : Nat) : Int) := by omega
  unfold text_one.f
  rw [if_pos (by omega), if_pos (by omega), hb, w64 (by omega) (by omega)]
  have plain : ∀ q : Part × Nat, q = (.byte p[i], 0) → (some (1, ((p[i].toNat : Int) == (c.toNat : Int))) : Option (Int × Bool)) = some ((1 : Int) + (q.2 : Nat), fits q.1 c) := fun q hq => by
    rw [hq, beqc]
    rfl
  have rest : ∀ b : Bool, b = false → part1 p[i] (p.data.toList.drop (i + 1)) = (if p[i] = 63 then (.any, 0) else if p[i] = 91 then (match cls (p.data.toList.drop (i + 1)) with | some (set, neg, n) => (.cls set neg, n) | none => (.byte 91, 0)) else (.byte p[i], 0)) →
      text_one.j0 (k + 2) p (i : Int) (c.toNat : Int) b = some ((1 : Int) + ((part1 p[i] (p.data.toList.drop (i + 1))).2 : Nat), fits (part1 p[i] (p.data.toList.drop (i + 1))).1 c) := by
    intro b hbf hq
    rw [hq, hbf]
    simp only [text_one.j0]
    rw [if_neg (by decide), if_pos (by omega), if_pos (by omega), hb]
    by_cases h63 : p[i] = 63
    · rw [if_pos (by rw [h63]; rfl), if_pos h63]
      rfl
    · rw [if_neg (fun h => h63 (UInt8.toNat_inj.1 (by show _ = 63; omega))), if_neg h63]
      by_cases h91 : p[i] = 91
      · rw [if_pos (by rw [h91]; rfl), if_pos h91]
        obtain ⟨r, hr, hm1, hm2⟩ := class_at p i k hp hi
        rw [hr, Option.bind_some]
        cases hc : cls (p.data.toList.drop (i + 1)) with
        | none =>
          rw [if_neg (by rw [hm1 hc]; decide), beqc, h91]
          rfl
        | some x =>
          obtain ⟨set, neg, n⟩ := x
          obtain ⟨g1, g2, g3, g4, g5, g6⟩ := hm2 set neg n hc
          have hsz : r.2.2.1.size ≤ 60000 := by
            have h1 := congrArg List.length g3
            rw [size_list] at h1
            have h2 : set.length ≤ p.size := by
              have := cls_set_le hc
              rw [List.length_drop, size_list] at this
              omega
            omega
          have hin := in_at r.2.2.1 c hsz r.2.2.1.size 0 (k + 1) (by omega) (by omega)
          unfold text_in.f
          rw [if_pos g4, show (0 : Int) = ((0 : Nat) : Int) from rfl, hin, Option.bind_some, g1, g2, w64 (x := (i : Int) + (n : Nat) + 1) (by omega) (by omega), w64 (x := (i : Int) + (n : Nat) + 1 - (i : Int)) (by omega) (by omega), List.drop_zero, g3]
          simp only [fits]
          congr 2
          omega
      · rw [if_neg (fun h => h91 (UInt8.toNat_inj.1 (by show _ = 91; omega))), if_neg h91]
        exact plain _ rfl
  by_cases h92 : p[i] = 92
  · rw [if_pos (by rw [h92]; rfl)]
    by_cases hl : i + 1 < p.size
    · have hd : decide ((i : Int) + 1 < (p.size : Int)) = true := decide_eq_true (by omega)
      rw [hd, drop_at p (i + 1) hl, h92]
      simp only [text_one.j0]
      rw [if_pos trivial, w64 (by omega) (by omega), if_pos (by omega), if_pos (by omega), e1, bt_nat p (i + 1) hl, beqc]
      rfl
    · have hd : decide ((i : Int) + 1 < (p.size : Int)) = false := decide_eq_false (by omega)
      have hq : p.data.toList.drop (i + 1) = [] := List.drop_eq_nil_of_le (by rw [size_list]; omega)
      rw [hd]
      refine rest false rfl ?_
      rw [hq, h92]
      rfl
  · rw [if_neg (fun h => h92 (UInt8.toNat_inj.1 (by show _ = 92; omega)))]
    exact rest false rfl (by unfold part1; rw [if_neg h92, if_neg hns]; rfl)
end Go.Proofs.YteifffaonigidaaDoor.T
