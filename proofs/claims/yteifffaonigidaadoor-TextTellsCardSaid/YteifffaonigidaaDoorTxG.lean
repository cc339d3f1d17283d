/- The contracts of text.Magic and text.Plain, for every pattern of at most 60000 bytes. -/
import Derived.Test.YteifffaonigidaaDoorTxB
import Derived.Test.YteifffaonigidaaDoorTxP
import Derived.Test.YteifffaonigidaaDoorTxQ
import Derived.Test.YteifffaonigidaaDoorTx2
namespace Go.Proofs.YteifffaonigidaaDoor.M
open Go.RowKit Go.Proofs.YteifffaonigidaaDoorW.PrintWords Go.Proofs.YteifffaonigidaaDoorW.PrintLast
open Go.Proofs.YteifffaonigidaaDoor.PatPlain Go.Proofs.YteifffaonigidaaDoor.T
set_option linter.unusedVariables false
set_option linter.unusedSimpArgs false

/-! ### Magic -/
def nonByte : Part → Bool
  | .byte _ => false
  | _ => true
def magicL (l : List UInt8) : Bool := (parts l).any nonByte
theorem P_back (p : ByteArray) (i : Nat) (h : i < p.size) (hc : p[i] = 92) : (P p i).any nonByte = (P p (i + 2)).any nonByte := by
  rw [P_cons p i h]
  by_cases h1 : i + 1 < p.size
  · have e : part1 p[i] (p.data.toList.drop (i + 1)) = (.byte p[i + 1], 1) := by rw [hc, PatPlain.drop_cons p (i + 1) h1]; rfl
    rw [e]
    rfl
  · have hn : p.data.toList.drop (i + 1) = [] := List.drop_eq_nil_of_le (by show p.size ≤ i + 1; omega)
    have e : part1 p[i] (p.data.toList.drop (i + 1)) = (.byte 92, 0) := by rw [hc, hn]; rfl
    rw [e, P_end p (i + 2) (by omega)]
    show (nonByte (.byte 92) || (P p (i + 1)).any nonByte) = _
    rw [P_end p (i + 1) (by omega)]
    rfl
theorem P_byte (p : ByteArray) (i : Nat) (h : i < p.size) (e : part1 p[i] (p.data.toList.drop (i + 1)) = (.byte p[i], 0)) : (P p i).any nonByte = (P p (i + 1)).any nonByte := by
  rw [P_cons p i h, e]
  rfl
theorem P_non (p : ByteArray) (i : Nat) (h : i < p.size) (e : nonByte (part1 p[i] (p.data.toList.drop (i + 1))).1 = true) : (P p i).any nonByte = true := by
  rw [P_cons p i h, List.any_cons, e]
  rfl
theorem magic_at (p : ByteArray) (hp : p.size ≤ 60000) : ∀ (d i k : Nat), p.size ≤ i + d → 2 * d + 3 ≤ k → text_Magic.l0 k p (i : Int) = some ((P p i).any nonByte)
  | 0, i, k, hd, hk => by
    obtain ⟨k, rfl⟩ : ∃ m, k = m + 1 := ⟨k - 1, by omega⟩
    simp only [text_Magic.l0]
    rw [if_neg (by omega), P_end p i (by omega)]
    rfl
  | d + 1, i, k, hd, hk => by
    obtain ⟨k, rfl⟩ : ∃ m, k = m + 1 := ⟨k - 1, by omega⟩
    by_cases hi : i < p.size
    · have hb := bt_nat p i hi
      have e1 : (i : Int) + 1 = ((i + 1 : Nat) : Int) := by omega
      have e2 : ((i + 1 : Nat) : Int) + 1 = ((i + 2 : Nat) : Int) := by omega
      have conv : ∀ b : UInt8, (p[i].toNat : Int) = (b.toNat : Int) → p[i] = b := fun b h => UInt8.toNat_inj.1 (by omega)
      simp only [text_Magic.l0]
      rw [if_pos (by omega), if_pos (by omega), hb]
      by_cases h92 : p[i] = 92
      · rw [if_pos (by rw [h92]; rfl), w64 (x := (i : Int) + 1) (by omega) (by omega), e1, w64 (by omega) (by omega), e2, P_back p i hi h92]
        exact magic_at p hp d (i + 2) k (by omega) (by omega)
      · rw [if_neg (fun h : (p[i].toNat : Int) = 92 => h92 (conv 92 h))]
        obtain ⟨k, rfl⟩ : ∃ m, k = m + 1 := ⟨k - 1, by omega⟩
        by_cases h42 : p[i] = 42
        · rw [if_pos (by rw [h42]; rfl)]
          simp only [text_Magic.j1]
          rw [if_pos trivial, P_non p i hi (by rw [h42]; rfl)]
        · rw [if_neg (fun h : (p[i].toNat : Int) = 42 => h42 (conv 42 h))]
          by_cases h63 : p[i] = 63
          · have hc : ((p[i].toNat : Int) == 63) = true := by rw [h63]; rfl
            rw [hc]
            simp only [text_Magic.j1]
            rw [if_pos trivial, P_non p i hi (by rw [h63]; rfl)]
          · have hc : ((p[i].toNat : Int) == 63) = false := by
              rw [beq_eq_false_iff_ne]
              exact fun h : (p[i].toNat : Int) = 63 => h63 (conv 63 h)
            rw [hc]
            simp only [text_Magic.j1]
            rw [if_neg (by decide), if_pos (by omega), if_pos (by omega), hb]
            by_cases h91 : p[i] = 91
            · rw [if_pos (by rw [h91]; rfl)]
              obtain ⟨k, rfl⟩ : ∃ m, k = m + 1 := ⟨k - 1, by omega⟩
              obtain ⟨r, hr, hm1, hm2⟩ := class_at p i k hp hi
              rw [hr, Option.bind_some]
              cases hc : cls (p.data.toList.drop (i + 1)) with
              | none =>
                have e : part1 p[i] (p.data.toList.drop (i + 1)) = (.byte p[i], 0) := by
                  unfold part1
                  rw [if_neg h92, if_neg h42, if_neg h63, if_pos h91, hc, h91]
                rw [if_neg (by rw [hm1 hc]; decide), w64 (by omega) (by omega), e1, P_byte p i hi e]
                exact magic_at p hp d (i + 1) (k + 1) (by omega) (by omega)
              | some x =>
                obtain ⟨set, neg, n⟩ := x
                obtain ⟨g1, g2, g3, g4, g5, g6⟩ := hm2 set neg n hc
                rw [if_pos g4, P_non p i hi]
                unfold part1
                rw [if_neg h92, if_neg h42, if_neg h63, if_pos h91, hc]
                rfl
            · have e : part1 p[i] (p.data.toList.drop (i + 1)) = (.byte p[i], 0) := by
                unfold part1
                rw [if_neg h92, if_neg h42, if_neg h63, if_neg h91]
              rw [if_neg (fun h : (p[i].toNat : Int) = 91 => h91 (conv 91 h)), w64 (by omega) (by omega), e1, P_byte p i hi e]
              exact magic_at p hp d (i + 1) k (by omega) (by omega)
    · simp only [text_Magic.l0]
      rw [if_neg (by omega), P_end p i (by omega)]
      rfl
def text_Magic.f (a0 : ByteArray) : Option (Bool) := if a0.size ≤ 60000 then some (magicL a0.data.toList) else none
theorem text_Magic.calls (a0 : ByteArray) (r : Bool) (w : World) (h : M.text_Magic.f a0 = some r) :
    Calls Tryd.prog 28 #[.string a0] w fun e w' => e = .returned (.bool r) ∧ Below w.heap.size w w' := by
  unfold M.text_Magic.f at h
  by_cases hs : a0.size ≤ 60000
  · rw [if_pos hs] at h
    obtain rfl := Option.some.inj h
    have hk := magic_at a0 hs a0.size 0 (2 * a0.size + 3) (by omega) (by omega)
    unfold P at hk
    rw [List.drop_zero] at hk
    exact T.text_Magic.calls (2 * a0.size + 3) a0 _ w hk
  · rw [if_neg hs] at h
    exact absurd h (by simp)

/-! ### Plain -/
def plainT : List UInt8 → List UInt8
  | [] => []
  | c :: r => (if c = 92 then (match r with | b :: _ => [b] | [] => [92]) else c :: r.take (part1 c r).2) ++ plainT (r.drop (part1 c r).2)
termination_by l => l.length
decreasing_by simp; omega
def T_ (p : ByteArray) (i : Nat) : List UInt8 := plainT (p.data.toList.drop i)
theorem T_end (p : ByteArray) (i : Nat) (h : p.size ≤ i) : T_ p i = [] := by
  unfold T_
  rw [List.drop_eq_nil_of_le (by show p.size ≤ i; exact h), plainT.eq_def]
theorem plainT_cons (c : UInt8) (r : List UInt8) : plainT (c :: r) = (if c = 92 then (match r with | b :: _ => [b] | [] => [92]) else c :: r.take (part1 c r).2) ++ plainT (r.drop (part1 c r).2) := by
  conv => lhs; rw [plainT.eq_def]
theorem T_back (p : ByteArray) (i : Nat) (h : i + 1 < p.size) (hc : p[i] = 92) : T_ p i = p[i + 1] :: T_ p (i + 2) := by
  unfold T_
  rw [PatPlain.drop_cons p i (by omega), PatPlain.drop_cons p (i + 1) h, plainT_cons, if_pos hc, hc]
  rfl
theorem T_one (p : ByteArray) (i : Nat) (h : i < p.size) (hc : p[i] = 92 → p.size ≤ i + 1) (hb : p[i] = 91 → cls (p.data.toList.drop (i + 1)) = none) : T_ p i = p[i] :: T_ p (i + 1) := by
  unfold T_
  rw [PatPlain.drop_cons p i h, plainT_cons]
  by_cases h92 : p[i] = 92
  · have hn : p.data.toList.drop (i + 1) = [] := List.drop_eq_nil_of_le (by show p.size ≤ i + 1; exact hc h92)
    rw [if_pos h92, hn, h92]
    rfl
  · have e : (part1 p[i] (p.data.toList.drop (i + 1))).2 = 0 := by
      unfold part1
      rw [if_neg h92]
      split
      · rfl
      · split
        · rfl
        · split
          · rename_i h91
            rw [hb h91]
          · rfl
    rw [if_neg h92, e, List.take_zero, List.drop_zero]
    rfl
theorem T_cls (p : ByteArray) (i n : Nat) (h : i + n < p.size) (hc : p[i] = 91) {set : List UInt8} {neg : Bool} (hs : cls (p.data.toList.drop (i + 1)) = some (set, neg, n)) (hn : 1 ≤ n) :
    T_ p i = (p.extract i (i + n)).data.toList ++ p[i + n] :: T_ p (i + n + 1) := by
  unfold T_
  rw [PatPlain.drop_cons p i (by omega), plainT_cons]
  have e : (part1 p[i] (p.data.toList.drop (i + 1))).2 = n := by
    unfold part1
    rw [hc, if_neg (by decide), if_neg (by decide), if_neg (by decide), if_pos rfl, hs]
  rw [if_neg (by rw [hc]; decide), e, extract_list, List.drop_drop]
  obtain ⟨m, rfl⟩ : ∃ m, n = m + 1 := ⟨n - 1, by omega⟩
  have e2 : i + (m + 1) - i = m + 1 := by omega
  rw [e2, PatPlain.drop_cons p i (by omega), List.take_succ_cons]
  have e3 : (p.data.toList.drop (i + 1)).take (m + 1) = (p.data.toList.drop (i + 1)).take m ++ [p[i + (m + 1)]] := by
    rw [List.take_succ_eq_append_getElem (by rw [List.length_drop, size_list]; omega)]
    congr 1
    simp only [List.getElem_drop, List.cons.injEq, and_true]
    have : p.data.toList[i + 1 + m]'(by rw [size_list]; omega) = p[i + 1 + m] := rfl
    rw [this]
    congr 1
    omega
  rw [e3]
  have e4 : i + 1 + (m + 1) = i + (m + 1) + 1 := by omega
  rw [e4]
  simp
def text_Plain.f (a0 : ByteArray) : Option (ByteArray) := if a0.size ≤ 60000 then some ⟨(plainT a0.data.toList).toArray⟩ else none

/-- What is written when the part at i is to be read next. -/
def Pn (w : World) (p : ByteArray) (i : Nat) (wr : World) : Prop := ∃ out, Bld w out wr ∧ out ++ T_ p i = T_ p 0 ∧ out.length ≤ i
theorem Pn.step {w : World} {p : ByteArray} {i j : Nat} {wr : World} {c : UInt8} (h : Pn w p i wr) (hs : p.size ≤ 60000) (hi : i ≤ p.size) (hj : i < j) (hu : T_ p i = c :: T_ p j) (x : Int) (hx : x = c.toNat) :
    Calls Tryd.prog 48 #[.pointer (some ⟨w.heap.size, 0, none⟩), .int .u8 x] wr fun e w' => e = .returned .nilIface ∧ Hid (Pn w p j w') := by
  obtain ⟨out, hb, he, hl⟩ := h
  refine (hb.byte c x hx (by omega)).mono fun e w' ⟨h1, h2⟩ => ⟨h1, Lib.hid ⟨out ++ [c], h2, ?_, by simp; omega⟩⟩
  rw [← he, hu]
  simp
theorem Pn.cls1 {w : World} {p : ByteArray} {i n : Nat} {wr : World} (h : Pn w p i wr) (hs : p.size ≤ 60000) (hi : i + n < p.size) (s : ByteArray) (hz : s = p.extract i (i + n)) (hu : T_ p i = s.data.toList ++ p[i + n] :: T_ p (i + n + 1)) :
    Calls Tryd.prog 47 #[.pointer (some ⟨w.heap.size, 0, none⟩), .string s] wr fun e w' => (∃ v, e = .returned v) ∧
      Hid (Calls Tryd.prog 48 #[.pointer (some ⟨w.heap.size, 0, none⟩), .int .u8 p[i + n].toNat] w' fun e w'' => e = .returned .nilIface ∧ Hid (Pn w p (i + n + 1) w'')) := by
  obtain ⟨out, hb, he, hl⟩ := h
  have hsz : s.data.toList.length ≤ n := by rw [hz, extract_list, List.length_take]; omega
  refine (hb.str s (by have : s.data.toList.length = s.size := rfl; omega)).mono fun e w' ⟨h1, h2⟩ => ⟨h1, Lib.hid ?_⟩
  refine (h2.byte p[i + n] _ rfl (by rw [List.length_append]; omega)).mono fun e w'' ⟨h3, h4⟩ => ⟨h3, Lib.hid ⟨_, h4, ?_, by simp only [List.length_append, List.length_cons, List.length_nil]; omega⟩⟩
  rw [← he, hu]
  simp
set_option maxHeartbeats 1600000 in
theorem text_Plain.calls (a0 : ByteArray) (r : ByteArray) (w : World) (h : text_Plain.f a0 = some r) :
    Calls Tryd.prog 29 #[.string a0] w fun e w' => e = .returned (.string r) ∧ Below w.heap.size w w' := by
  unfold text_Plain.f at h
  by_cases hs : a0.size ≤ 60000
  · rw [if_pos hs] at h
    have H := Lib.hid (show (⟨(T_ a0 0).toArray⟩ : ByteArray) = r from Option.some.inj h)
    clear h
    go_enter Tryd.func29, Tryd.ntmps29
    have hN := Lib.hid (show Pn w a0 0 (w.alloc (.cells #[.pointer none, .slice none 0 0] 54)) from ⟨[], Bld.new w, rfl, by simp⟩)
    go_wp2
    go_loopw [4, 5, 6, 7, 8] (fun v4 v5 v6 v7 v8 wr => ∃ i : Nat, i ≤ a0.size ∧ v4 = .int .i64 i ∧ Hid (Pn w a0 i wr)) (fun i _ _ _ _ _ => a0.size - (intOf i).toNat)
    case atStart => exact ⟨0, Nat.zero_le _, rfl, hN⟩
    case round =>
      obtain ⟨i, hi0, rfl, hU⟩ := hrel
      clear hN
      by_cases hi : i < a0.size
      · have conv : ∀ b : UInt8, (a0[i].toNat : Int) = (b.toNat : Int) → a0[i] = b := fun b h => UInt8.toNat_inj.1 (by omega)
        by_cases h92 : a0[i] = 92
        · have c1 : ((a0[i].toNat : Int) == 92) = true := by rw [h92]; rfl
          by_cases h1 : i + 1 < a0.size
          · have c2 : (i : Int) + 1 < (a0.size : Int) := by omega
            have HS := Lib.hid (hU.out.step hs hi0 (show i < i + 2 by omega) (T_back a0 i h1 h92) _ rfl)
            clear hU h92 conv
            go_wp2_with fail
            refine HS.out.mono ?_
            rintro e w1 ⟨rfl, hU1⟩
            clear HS
            go_wp2_with fail
            go_roundw
            case rel => exact ⟨i + 2, by omega, by go_num, hU1⟩
            case measure => simp [intOf]; omega
          · have c2 : (a0.size : Int) ≤ (i : Int) + 1 := by omega
            have c3 : ((a0[i].toNat : Int) == 91) = false := by rw [h92]; rfl
            have HS := Lib.hid (hU.out.step hs hi0 (show i < i + 1 by omega) (T_one a0 i hi (fun _ => by omega) (fun h => by rw [h92] at h; exact absurd h (by decide))) _ rfl)
            clear hU h92 conv
            go_wp2_with fail
            refine HS.out.mono ?_
            rintro e w1 ⟨rfl, hU1⟩
            clear HS
            go_wp2_with fail
            go_roundw
            case rel => exact ⟨i + 1, by omega, by go_num, hU1⟩
            case measure => simp [intOf]; omega
        · have c1 : ((a0[i].toNat : Int) == 92) = false := by
            rw [beq_eq_false_iff_ne]
            exact fun h : (a0[i].toNat : Int) = 92 => h92 (conv 92 h)
          by_cases h91 : a0[i] = 91
          · have c3 : ((a0[i].toNat : Int) == 91) = true := by rw [h91]; rfl
            obtain ⟨⟨r1, r2, r3, r4⟩, hr, hm1, hm2⟩ := class_at a0 i 0 hs hi
            cases hc : cls (a0.data.toList.drop (i + 1)) with
            | none =>
              have e4 : r4 = false := hm1 hc
              subst e4
              have HC := Lib.hid (fun wx => text_class.calls 1 a0 (i : Int) r1 r2 r3 false wx hr)
              have HS := Lib.hid (fun wx (hz : Pn w a0 i wx) => hz.step hs hi0 (show i < i + 1 by omega) (T_one a0 i hi (fun h => absurd h h92) (fun _ => hc)) _ rfl)
              clear h91 h92 conv hc hm1 hm2 hr
              go_wp2_with fail
              refine (HC.out _).mono ?_
              rintro e w1 ⟨rfl, hb1⟩
              have hU1 := Lib.hid (show Pn w a0 i w1 from (let ⟨out, hb, h2, h3⟩ := hU.out; ⟨out, ⟨Bld_is_below hb.is hb1, hb.below.trans (hb1.mono hb.below.size)⟩, h2, h3⟩))
              clear hU HC hb1
              go_wp2_with fail
              refine (HS.out _ hU1.out).mono ?_
              rintro e w2 ⟨rfl, hU2⟩
              clear HS hU1
              go_wp2_with fail
              go_roundw
              case rel => exact ⟨i + 1, by omega, by go_num, hU2⟩
              case measure => simp [intOf]; omega
            | some x =>
              obtain ⟨set, neg, n⟩ := x
              obtain ⟨g1, g2, g3, g4, g5, g6⟩ := hm2 set neg n hc
              have hle := cls_le hc
              rw [List.length_drop, size_list] at hle
              have hin : i + n < a0.size := by omega
              simp only at g1 g4
              subst g1 g4
              have HC := Lib.hid (fun wx => text_class.calls 1 a0 (i : Int) ((i : Int) + (n : Nat)) r2 r3 true wx hr)
              have HS := Lib.hid (fun wx (hz : Pn w a0 i wx) => hz.cls1 hs hin (a0.extract i (i + n)) rfl (T_cls a0 i n hin h91 hc g5))
              have q1 : (0 : Int) ≤ (i : Int) + (n : Int) := by omega
              have q2 : (i : Int) ≤ (i : Int) + (n : Int) := by omega
              have q3 : (i : Int) + (n : Int) < (a0.size : Int) := by omega
              have q4 : (i : Int) + (n : Int) ≤ (a0.size : Int) := by omega
              clear h91 h92 conv hc hm1 hm2 hr g2 g3
              go_wp2_with fail
              refine (HC.out _).mono ?_
              rintro e w1 ⟨rfl, hb1⟩
              have hU1 := Lib.hid (show Pn w a0 i w1 from (let ⟨out, hb, h2, h3⟩ := hU.out; ⟨out, ⟨Bld_is_below hb.is hb1, hb.below.trans (hb1.mono hb.below.size)⟩, h2, h3⟩))
              clear hU HC hb1
              go_wp2_with fail
              refine (HS.out _ hU1.out).mono ?_
              rintro e w2 ⟨⟨v, rfl⟩, hD⟩
              clear HS hU1
              go_wp2_with fail
              refine hD.out.mono ?_
              rintro e w3 ⟨rfl, hU2⟩
              clear hD
              go_wp2_with fail
              go_roundw
              case rel => exact ⟨i + n + 1, by omega, by go_num, hU2⟩
              case measure => simp [intOf]; omega
          · have c3 : ((a0[i].toNat : Int) == 91) = false := by
              rw [beq_eq_false_iff_ne]
              exact fun h : (a0[i].toNat : Int) = 91 => h91 (conv 91 h)
            have HS := Lib.hid (hU.out.step hs hi0 (show i < i + 1 by omega) (T_one a0 i hi (fun h => absurd h h92) (fun h => absurd h h91)) _ rfl)
            clear hU h91 h92 conv
            go_wp2_with fail
            refine HS.out.mono ?_
            rintro e w1 ⟨rfl, hU1⟩
            clear HS
            go_wp2_with fail
            go_roundw
            case rel => exact ⟨i + 1, by omega, by go_num, hU1⟩
            case measure => simp [intOf]; omega
      · obtain rfl : i = a0.size := by omega
        have hB := Lib.hid (show Bld w (T_ a0 0) _ from (let ⟨out, hb, h2, h3⟩ := hU.out; by rw [T_end a0 a0.size (Nat.le_refl _), List.append_nil] at h2; exact h2 ▸ hb))
        clear hU
        go_wp2_with fail
        refine hB.out.done.mono ?_
        rintro e w1 ⟨rfl, hb⟩
        go_wp2_with fail
        go_ret
        exact ⟨by rw [← H.out]; rfl, hb⟩
  · rw [if_neg hs] at h
    exact absurd h (by simp)
end Go.Proofs.YteifffaonigidaaDoor.M
