/- The Builder that a call has made itself, as a list of bytes ('Bld'), and the contracts of text.Quote, text.Unlines and text.Escape, for every argument that is short enough for a Builder (2^44 bytes). -/
import Derived.Test.YteifffaonigidaaDoorMx0
import Derived.Test.YteifffaonigidaaDoorShelf
import Derived.WalkLawsBesides
import Derived.WideLaws
namespace Go.Proofs.YteifffaonigidaaDoor.M
open Go.RowKit Go.Proofs.YteifffaonigidaaDoorW.PrintWords Go.Proofs.YteifffaonigidaaDoorW.PrintLast
set_option linter.unusedVariables false
set_option linter.unusedSimpArgs false

/-- The Builder that the call which began in w has made first holds the bytes l. -/
structure Bld (w : World) (l : List UInt8) (wr : World) : Prop where
  is : Lib.IsBuilder 54 5 w.heap.size w.heap.size (Lib.byteCells l) wr
  below : Below w.heap.size w wr
theorem Bld.new (w : World) : Bld w [] (w.alloc (.cells #[.pointer none, .slice none 0 0] 54)) :=
  ⟨Lib.fresh_isBuilder 54 5 w, (Below.refl _ _).alloc (Nat.le_refl _) _⟩
theorem byteCells_one (l : List UInt8) (c : UInt8) (x : Int) (hx : x = c.toNat) : Lib.byteCells l ++ [Value.int .u8 x] = Lib.byteCells (l ++ [c]) := by
  rw [Lib.byteCells_append, hx]
  rfl
theorem Bld.byte {w : World} {l : List UInt8} {wr : World} (h : Bld w l wr) (c : UInt8) (x : Int) (hx : x = c.toNat) (hl : l.length < 140737488355328) :
    Calls Tryd.prog 48 #[.pointer (some ⟨w.heap.size, 0, none⟩), .int .u8 x] wr fun e w' => e = .returned .nilIface ∧ Bld w (l ++ [c]) w' :=
  (Tryd.Builder_WriteByte w.heap.size w.heap.size (Lib.byteCells l) x wr h.is (by rw [Lib.byteCells_length]; omega) h.below.size).mono fun e w' ⟨he, hb, hw⟩ =>
    ⟨he, ⟨.inr (byteCells_one l c x hx ▸ hb), h.below.trans hw⟩⟩
theorem Bld.str {w : World} {l : List UInt8} {wr : World} (h : Bld w l wr) (s : ByteArray) (hl : l.length + s.size ≤ 140737488355328) :
    Calls Tryd.prog 47 #[.pointer (some ⟨w.heap.size, 0, none⟩), .string s] wr fun e w' => (∃ v, e = .returned v) ∧ Bld w (l ++ s.data.toList) w' :=
  (Tryd.Builder_WriteString w.heap.size w.heap.size (Lib.byteCells l) s wr h.is (by rw [Lib.byteCells_length]; exact hl) h.below.size).mono fun e w' ⟨he, hb, hw⟩ =>
    ⟨⟨_, he⟩, ⟨.inr (by rw [Lib.byteCells_append]; exact hb), h.below.trans hw⟩⟩
theorem Bld.done {w : World} {l : List UInt8} {wr : World} (h : Bld w l wr) :
    Calls Tryd.prog 49 #[.pointer (some ⟨w.heap.size, 0, none⟩)] wr fun e w' => e = .returned (.string ⟨l.toArray⟩) ∧ Below w.heap.size w w' :=
  (Tryd.Builder_String_any w.heap.size w.heap.size l wr h.is h.below.size).mono fun e w' ⟨he, hw⟩ => ⟨he, h.below.trans hw⟩

/-! ### Quote -/
def hexd (n : Nat) : UInt8 := [48, 49, 50, 51, 52, 53, 54, 55, 56, 57, 97, 98, 99, 100, 101, 102].getD n 48
theorem hexd_at (n : Nat) (hn : n < (⟨#[48, 49, 50, 51, 52, 53, 54, 55, 56, 57, 97, 98, 99, 100, 101, 102]⟩ : ByteArray).size) :
    (((⟨#[48, 49, 50, 51, 52, 53, 54, 55, 56, 57, 97, 98, 99, 100, 101, 102]⟩ : ByteArray)[n]'hn).toNat : Int) = ((hexd n).toNat : Int) := by
  have h : ∀ m : Fin 16, ((#[48, 49, 50, 51, 52, 53, 54, 55, 56, 57, 97, 98, 99, 100, 101, 102] : Array UInt8)[m.1]'m.2) = hexd m.1 := by decide
  have h1 := h ⟨n, hn⟩
  exact congrArg (fun c : UInt8 => (c.toNat : Int)) h1
def qb (c : UInt8) : List UInt8 :=
  if c.toNat = 34 ∨ c.toNat = 92 then [92, c] else if c.toNat = 10 then [92, 110] else if 32 ≤ c.toNat ∧ c.toNat ≤ 126 then [c] else [92, 120, hexd (c.toNat / 16), hexd (c.toNat % 16)]
def quoteL (l : List UInt8) : List UInt8 := 34 :: l.flatMap qb ++ [34]
def text_Quote.f (a0 : ByteArray) : Option (ByteArray) := if a0.size ≤ 17592186044416 then some ⟨(quoteL a0.data.toList).toArray⟩ else none
theorem qb_len (c : UInt8) : (qb c).length ≤ 4 := by
  unfold qb
  split
  · simp
  · split
    · simp
    · split <;> simp
theorem flat_len (l : List UInt8) : (l.flatMap qb).length ≤ 4 * l.length := by
  induction l with
  | nil => simp
  | cons c l ih =>
    have := qb_len c
    simp only [List.flatMap_cons, List.length_append, List.length_cons]
    omega
theorem take_snocB (s : ByteArray) (k : Nat) (h : k < s.size) : s.data.toList.take (k + 1) = s.data.toList.take k ++ [s[k]] := by
  rw [List.take_succ_eq_append_getElem (by simpa using h)]; rfl
/-- What is written behind k bytes. -/
def quoted (s : ByteArray) (k : Nat) : List UInt8 := 34 :: (s.data.toList.take k).flatMap qb
theorem quoted_snoc (s : ByteArray) (k : Nat) (h : k < s.size) : quoted s (k + 1) = quoted s k ++ qb s[k] := by
  unfold quoted
  rw [take_snocB s k h]
  simp
theorem quoted_all (s : ByteArray) : quoted s s.size ++ [34] = quoteL s.data.toList := by
  unfold quoted quoteL
  rw [List.take_of_length_le (by simp)]
theorem quoted_len (s : ByteArray) (k : Nat) (h : k ≤ s.size) : (quoted s k).length ≤ 4 * k + 1 := by
  unfold quoted
  have := flat_len (s.data.toList.take k)
  have h2 := List.length_take_le k s.data.toList
  simp only [List.length_cons]
  omega
theorem text_Quote.calls (a0 : ByteArray) (r : ByteArray) (w : World) (h : text_Quote.f a0 = some r) :
    Calls Tryd.prog 23 #[.string a0] w fun e w' => e = .returned (.string r) ∧ Below w.heap.size w w' := by
  unfold text_Quote.f at h
  by_cases hs : a0.size ≤ 17592186044416
  · rw [if_pos hs] at h
    obtain rfl := Option.some.inj h
    clear h
    go_enter Tryd.func23, Tryd.ntmps23
    have hN := Bld.new w
    go_wp2_with (go_at_call 48; refine (hN.byte 34 34 rfl (by simp)).mono ?_; rintro e w1 ⟨rfl, hb⟩; clear hN)
    go_loopw [4, 5, 9] (fun v4 v5 v9 wr => ∃ k : Nat, k ≤ a0.size ∧ v9 = .int .i64 k ∧ Hid (Bld w (quoted a0 k) wr)) (fun _ _ i _ => a0.size - (intOf i).toNat)
    case atStart => exact ⟨0, Nat.zero_le _, rfl, Lib.hid hb⟩
    case round =>
      obtain ⟨k, hk, rfl, hB⟩ := hrel
      by_cases hlt : k < a0.size
      · have hlen := quoted_len a0 k (by omega)
        have hsn := Lib.hid (quoted_snoc a0 k hlt)
        have hB' := hB.out
        clear hB
        by_cases h34 : a0[k].toNat = 34 ∨ a0[k].toNat = 92
        · have HQ := Lib.hid (show qb a0[k] = [92, a0[k]] by
            unfold qb
            rw [if_pos h34])
          rcases Nat.lt_or_ge a0[k].toNat 35 with hh | hh
          all_goals
            first
            | have c1 : ((a0[k].toNat : Int) == 34) = true := beq_iff_eq.2 (by omega)
            | (have c1 : ((a0[k].toNat : Int) == 34) = false := beq_eq_false_iff_ne.2 (by omega)
               have c2 : ((a0[k].toNat : Int) == 92) = true := beq_iff_eq.2 (by omega))
            clear h34 hh
            go_wp2_with fail
            refine (hB'.byte 92 92 rfl (by omega)).mono ?_
            rintro e w1 ⟨rfl, hb1⟩
            go_wp2_with fail
            refine (hb1.byte a0[k] _ rfl (by simp; omega)).mono ?_
            rintro e w2 ⟨rfl, hb2⟩
            clear hb1 hB'
            go_wp2_with fail
            go_roundw
            case rel => exact ⟨k + 1, by omega, by go_num, Lib.hid (by rw [hsn.out, HQ.out]; simpa using hb2)⟩
            case measure => simp [intOf]; omega
        · have c1 : ((a0[k].toNat : Int) == 34) = false := beq_eq_false_iff_ne.2 (by omega)
          have c2 : ((a0[k].toNat : Int) == 92) = false := beq_eq_false_iff_ne.2 (by omega)
          by_cases h10 : a0[k].toNat = 10
          · have HQ := Lib.hid (show qb a0[k] = [92, 110] by
              unfold qb
              rw [if_neg h34, if_pos h10])
            have c3 : ((a0[k].toNat : Int) == 10) = true := beq_iff_eq.2 (by omega)
            clear h34 h10
            go_wp2_with fail
            refine (hB'.str ⟨#[92, 110]⟩ (by simp [ByteArray.size]; omega)).mono ?_
            rintro e w2 ⟨⟨v, rfl⟩, hb2⟩
            clear hB'
            go_wp2_with fail
            go_roundw
            case rel => exact ⟨k + 1, by omega, by go_num, Lib.hid (by rw [hsn.out, HQ.out]; simpa using hb2)⟩
            case measure => simp [intOf]; omega
          · have c3 : ((a0[k].toNat : Int) == 10) = false := beq_eq_false_iff_ne.2 (by omega)
            by_cases hm : 32 ≤ a0[k].toNat ∧ a0[k].toNat ≤ 126
            · have HQ := Lib.hid (show qb a0[k] = [a0[k]] by
                unfold qb
                rw [if_neg h34, if_neg h10, if_pos hm])
              have c4 : decide (32 ≤ (a0[k].toNat : Int)) = true := decide_eq_true (by omega)
              have c5 : decide ((a0[k].toNat : Int) ≤ 126) = true := decide_eq_true (by omega)
              clear h34 h10 hm
              go_wp2_with fail
              refine (hB'.byte a0[k] _ rfl (by omega)).mono ?_
              rintro e w2 ⟨rfl, hb2⟩
              clear hB'
              go_wp2_with fail
              go_roundw
              case rel => exact ⟨k + 1, by omega, by go_num, Lib.hid (by rw [hsn.out, HQ.out]; simpa using hb2)⟩
              case measure => simp [intOf]; omega
            · have HQ := Lib.hid (show qb a0[k] = [92, 120, hexd (a0[k].toNat / 16), hexd (a0[k].toNat % 16)] by
                unfold qb
                rw [if_neg h34, if_neg h10, if_neg hm])
              have hbd : a0[k].toNat < 256 := a0[k].toNat_lt
              rcases Nat.lt_or_ge a0[k].toNat 32 with hh | hh
              all_goals
                first
                | have c4 : decide (32 ≤ (a0[k].toNat : Int)) = false := decide_eq_false (by omega)
                | (have c4 : decide (32 ≤ (a0[k].toNat : Int)) = true := decide_eq_true (by omega)
                   have c5 : decide ((a0[k].toNat : Int) ≤ 126) = false := decide_eq_false (by omega))
                clear h34 h10 hm hh
                go_wp2_with fail
                refine (hB'.str ⟨#[92, 120]⟩ (by simp [ByteArray.size]; omega)).mono ?_
                rintro e w2 ⟨⟨v, rfl⟩, hb2⟩
                clear hB'
                go_wp2_with fail
                refine (hb2.byte (hexd (a0[k].toNat / 16)) _ (hexd_at _ _) (by simp; omega)).mono ?_
                rintro e w3 ⟨rfl, hb3⟩
                clear hb2
                go_wp2_with fail
                refine (hb3.byte (hexd (a0[k].toNat % 16)) _ (hexd_at _ _) (by simp; omega)).mono ?_
                rintro e w4 ⟨rfl, hb4⟩
                clear hb3
                go_wp2_with fail
                go_roundw
                case rel => exact ⟨k + 1, by omega, by go_num, Lib.hid (by rw [hsn.out, HQ.out]; simpa using hb4)⟩
                case measure => simp [intOf]; omega
      · obtain rfl : k = a0.size := by omega
        have hB' := hB.out
        have hlen := quoted_len a0 a0.size (by omega)
        clear hB
        go_wp2_with fail
        refine (hB'.byte 34 34 rfl (by omega)).mono ?_
        rintro e w2 ⟨rfl, hb2⟩
        clear hB'
        go_wp2_with fail
        refine hb2.done.mono ?_
        rintro e w3 ⟨rfl, hb3⟩
        go_wp2_with fail
        go_ret
        exact ⟨by rw [quoted_all]; rfl, hb3⟩
  · rw [if_neg hs] at h
    exact absurd h (by simp)

/-! ### Unlines -/
def unlinesL (l : List ByteArray) : List UInt8 := l.flatMap fun s => s.data.toList ++ [10]
def text_Unlines.f (l0 : List ByteArray) : Option (ByteArray) := if (unlinesL l0).length ≤ 140737488355328 then some ⟨(unlinesL l0).toArray⟩ else none
theorem unlines_snoc (l : List ByteArray) (k : Nat) (h : k < l.length) : unlinesL (l.take (k + 1)) = unlinesL (l.take k) ++ ((rdOf ByteArray.empty l (k : Int)).data.toList ++ [10]) := by
  unfold unlinesL rdOf
  have e : l.take (k + 1) = l.take k ++ [l[k]] := List.take_succ_eq_append_getElem h
  rw [e, List.flatMap_append]
  simp [List.getElem?_eq_getElem h]
theorem unlines_le (l : List ByteArray) (k : Nat) : (unlinesL (l.take k)).length ≤ (unlinesL l).length := by
  have e : unlinesL l = unlinesL (l.take k) ++ unlinesL (l.drop k) := by
    unfold unlinesL
    rw [← List.flatMap_append, List.take_append_drop]
  rw [e, List.length_append]
  omega
theorem unlines_ge (l : List ByteArray) : l.length ≤ (unlinesL l).length := by
  unfold unlinesL
  induction l with
  | nil => simp
  | cons s l ih => simp only [List.flatMap_cons, List.length_append, List.length_cons, List.length_nil]; omega
theorem text_Unlines.calls (A0 : Option Addr) (c0 : Nat) (l0 : List ByteArray) (r : ByteArray) (w : World) (hr0 : Kd.C Kd.string w A0 l0.length l0) (hc0 : l0.length ≤ c0) (h : text_Unlines.f l0 = some r) :
    Calls Tryd.prog 16 #[.slice A0 l0.length c0] w fun e w' => e = .returned (.string r) ∧ Below w.heap.size w w' := by
  unfold text_Unlines.f at h
  by_cases hs : (unlinesL l0).length ≤ 140737488355328
  · rw [if_pos hs] at h
    obtain rfl := Option.some.inj h
    clear h
    have hR := Lib.hid hr0
    clear hr0
    have hge := unlines_ge l0
    go_enter Tryd.func16, Tryd.ntmps16
    have hN := Lib.hid (Bld.new w)
    go_wp2
    go_loopw [5, 8] (fun v5 v8 wr => ∃ k : Nat, k ≤ l0.length ∧ v8 = .int .i64 k ∧ Hid (Bld w (unlinesL (l0.take k)) wr)) (fun _ i _ => l0.length - (intOf i).toNat)
    case atStart => exact ⟨0, Nat.zero_le _, rfl, hN⟩
    case round =>
      obtain ⟨k, hk, rfl, hB⟩ := hrel
      have hB' := hB.out
      clear hB hN
      by_cases hlt : k < l0.length
      · have hle := unlines_le l0 k
        have hle1 := unlines_le l0 (k + 1)
        have hsn := Lib.hid (unlines_snoc l0 k hlt)
        have hln : (unlinesL (l0.take k)).length + (rdOf ByteArray.empty l0 (k : Int)).size + 1 ≤ 140737488355328 := by
          rw [hsn.out] at hle1
          simp only [List.length_append, List.length_cons, List.length_nil, Array.length_toList] at hle1
          have : (rdOf ByteArray.empty l0 (k : Int)).data.size = (rdOf ByteArray.empty l0 (k : Int)).size := rfl
          omega
        clear hle hle1
        obtain ⟨ad, e1, hx⟩ := Kd.at_string hR.out k (by omega) (by omega)
        subst e1
        rw [Int.toNat_natCast] at hx
        have hx := (hB'.below.cell (World.block_lt_of_cell? w _ hx)).trans hx
        generalize rdOf ByteArray.empty l0 (k : Int) = s at *
        go_wp2_with fail
        refine (hB'.str s (by omega)).mono ?_
        rintro e w1 ⟨⟨v, rfl⟩, hb1⟩
        clear hB'
        go_wp2_with fail
        refine (hb1.byte 10 10 rfl (by simp only [List.length_append, Array.length_toList]; have : s.data.size = s.size := rfl; omega)).mono ?_
        rintro e w2 ⟨rfl, hb2⟩
        clear hb1
        go_wp2_with fail
        go_roundw
        case rel => exact ⟨k + 1, by omega, by go_num, Lib.hid (by rw [hsn.out]; simpa using hb2)⟩
        case measure => simp [intOf]; omega
      · obtain rfl : k = l0.length := by omega
        go_wp2_with fail
        refine hB'.done.mono ?_
        rintro e w3 ⟨rfl, hb3⟩
        go_wp2_with fail
        go_ret
        exact ⟨rfl, hb3⟩
  · rw [if_neg hs] at h
    exact absurd h (by simp)
theorem Bld_is_below {w : World} {l : List UInt8} {wr w' : World} (h : Lib.IsBuilder 54 5 w.heap.size w.heap.size (Lib.byteCells l) wr) (hb : Below wr.heap.size wr w') : Lib.IsBuilder 54 5 w.heap.size w.heap.size (Lib.byteCells l) w' := by
  have go : ∀ p, Lib.BuilderAt 54 5 w.heap.size w.heap.size p (Lib.byteCells l) wr → Lib.BuilderAt 54 5 w.heap.size w.heap.size p (Lib.byteCells l) w' := fun p h => by
    have hlt := h.lt
    obtain ⟨hB, v, hv, hown, hne⟩ := h
    exact ⟨hB, v, (hb.block _ hlt).trans hv, hown.kept (row := none) ⟨hb.os, hb.tape, hb.output, hb.size, fun k hk _ => hb.block k hk⟩ (by cases v.ownBlock <;> simp), hne⟩
  exact h.imp (go _) (go _)
end Go.Proofs.YteifffaonigidaaDoor.M
