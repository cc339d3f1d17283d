/- The contracts of text.Escape and text.Unquote, for every argument that is short enough for a Builder (2^44 bytes). -/
import Derived.Test.YteifffaonigidaaDoorTxB
import Derived.Test.YteifffaonigidaaDoorPat
import Derived.StillTailTactics
namespace Go.Proofs.YteifffaonigidaaDoor.M
open Go.RowKit Go.Proofs.YteifffaonigidaaDoorW.PrintWords Go.Proofs.YteifffaonigidaaDoorW.PrintLast
set_option linter.unusedVariables false
set_option linter.unusedSimpArgs false

/-! ### Escape -/
open Go.Proofs.YteifffaonigidaaDoor.PatPlain (esc)
def text_Escape.f (a0 : ByteArray) : Option (ByteArray) := if a0.size ≤ 17592186044416 then some ⟨(esc a0.data.toList).toArray⟩ else none
def escB (c : UInt8) : List UInt8 := if c = 42 ∨ c = 63 ∨ c = 91 ∨ c = 92 then [92, c] else [c]
theorem esc_flat (l : List UInt8) : esc l = l.flatMap escB := by
  induction l with
  | nil => rfl
  | cons c l ih =>
    rw [List.flatMap_cons, ← ih]
    unfold escB
    simp only [esc]
    split <;> rfl
theorem esc_len (l : List UInt8) : (l.flatMap escB).length ≤ 2 * l.length := by
  induction l with
  | nil => simp
  | cons c l ih =>
    have : (escB c).length ≤ 2 := by unfold escB; split <;> simp
    simp only [List.flatMap_cons, List.length_append, List.length_cons]
    omega
/-- strings.IndexByte among the four special bytes: a number that is not negative exactly for them. -/
theorem special_at (c : UInt8) : ∃ n : Int, (0 ≤ n ↔ (c = 42 ∨ c = 63 ∨ c = 91 ∨ c = 92)) ∧ ∀ w, Calls Tryd.prog 53 #[.string ⟨#[42, 63, 91, 92]⟩, .int .u8 c.toNat] w fun e w' => e = .returned (.int .i64 n) ∧ w = w' := by
  refine ⟨Lib.indexByte [42, 63, 91, 92] c, ?_, fun w => (Tryd.strings_IndexByte ⟨#[42, 63, 91, 92]⟩ c.toNat w).mono fun e w' ⟨he, hw⟩ => ⟨by rw [he]; simp, hw.symm⟩⟩
  have h : ∀ m : Fin 256, (0 ≤ Lib.indexByte [42, 63, 91, 92] (UInt8.ofNat m.1) ↔ (UInt8.ofNat m.1 = 42 ∨ UInt8.ofNat m.1 = 63 ∨ UInt8.ofNat m.1 = 91 ∨ UInt8.ofNat m.1 = 92)) := by decide +kernel
  have := h ⟨c.toNat, c.toNat_lt⟩
  simpa using this
theorem text_Escape.calls (a0 : ByteArray) (r : ByteArray) (w : World) (h : text_Escape.f a0 = some r) :
    Calls Tryd.prog 19 #[.string a0] w fun e w' => e = .returned (.string r) ∧ Below w.heap.size w w' := by
  unfold text_Escape.f at h
  by_cases hs : a0.size ≤ 17592186044416
  · rw [if_pos hs] at h
    obtain rfl := Option.some.inj h
    clear h
    rw [esc_flat]
    go_enter Tryd.func19, Tryd.ntmps19
    have hN := Lib.hid (Bld.new w)
    go_wp2
    go_loopw [4, 7] (fun v4 v7 wr => ∃ k : Nat, k ≤ a0.size ∧ v7 = .int .i64 k ∧ Hid (Bld w ((a0.data.toList.take k).flatMap escB) wr)) (fun _ i _ => a0.size - (intOf i).toNat)
    case atStart => exact ⟨0, Nat.zero_le _, rfl, hN⟩
    case round =>
      obtain ⟨k, hk, rfl, hB⟩ := hrel
      have hB' := hB.out
      clear hB hN
      have hlen := esc_len (a0.data.toList.take k)
      have hlk := List.length_take_le k a0.data.toList
      by_cases hlt : k < a0.size
      · have hsn := Lib.hid (take_snocB a0 k hlt)
        obtain ⟨n, hn, hC⟩ := special_at a0[k]
        have HC := Lib.hid hC
        clear hC
        by_cases hsp : a0[k] = 42 ∨ a0[k] = 63 ∨ a0[k] = 91 ∨ a0[k] = 92
        · have hn' : decide (0 ≤ n) = true := decide_eq_true (hn.2 hsp)
          have HQ := Lib.hid (show escB a0[k] = [92, a0[k]] by unfold escB; rw [if_pos hsp])
          clear hn hsp
          go_wp2_with (go_at_call 53; refine (HC.out _).mono ?_; rintro e w' ⟨rfl, rfl⟩)
          refine (hB'.byte 92 92 rfl (by omega)).mono ?_
          rintro e w1 ⟨rfl, hb1⟩
          clear hB'
          go_wp2_with fail
          refine (hb1.byte a0[k] _ rfl (by simp only [List.length_append, List.length_cons, List.length_nil]; omega)).mono ?_
          rintro e w2 ⟨rfl, hb2⟩
          clear hb1
          go_wp2_with fail
          go_roundw
          case rel => exact ⟨k + 1, by omega, by go_num, Lib.hid (by rw [hsn.out, List.flatMap_append]; simpa [HQ.out] using hb2)⟩
          case measure => simp [intOf]; omega
        · have hn' : decide (0 ≤ n) = false := decide_eq_false (fun h => hsp (hn.1 h))
          have HQ := Lib.hid (show escB a0[k] = [a0[k]] by unfold escB; rw [if_neg hsp])
          clear hn hsp
          go_wp2_with (go_at_call 53; refine (HC.out _).mono ?_; rintro e w' ⟨rfl, rfl⟩)
          refine (hB'.byte a0[k] _ rfl (by omega)).mono ?_
          rintro e w2 ⟨rfl, hb2⟩
          clear hB'
          go_wp2_with fail
          go_roundw
          case rel => exact ⟨k + 1, by omega, by go_num, Lib.hid (by rw [hsn.out, List.flatMap_append]; simpa [HQ.out] using hb2)⟩
          case measure => simp [intOf]; omega
      · obtain rfl : k = a0.size := by omega
        have hall := Lib.hid (show (a0.data.toList.take a0.size).flatMap escB = a0.data.toList.flatMap escB by rw [List.take_of_length_le (by simp)])
        go_wp2_with fail
        refine hB'.done.mono ?_
        rintro e w3 ⟨rfl, hb3⟩
        go_wp2_with fail
        go_ret
        exact ⟨by rw [← hall.out]; rfl, hb3⟩
  · rw [if_neg hs] at h
    exact absurd h (by simp)

/-! ### Unquote -/
/-- The byte of two hexadecimal digits, as the code reckons it (whatever it is where they are none). -/
def hxI (a b : UInt8) : Int := IntKind.u8.wrap (Go.bits .or .i64 (IntKind.i64.wrap (Lib.indexByte [48, 49, 50, 51, 52, 53, 54, 55, 56, 57, 97, 98, 99, 100, 101, 102] a * 16)) (Lib.indexByte [48, 49, 50, 51, 52, 53, 54, 55, 56, 57, 97, 98, 99, 100, 101, 102] b))
def hx (a b : UInt8) : UInt8 := UInt8.ofNat (hxI a b).toNat
theorem hx_at (a b : UInt8) : hxI a b = ((hx a b).toNat : Int) := by
  have h0 : 0 ≤ hxI a b := Int.emod_nonneg _ (by decide)
  have h1 : hxI a b < 256 := Int.emod_lt_of_pos _ (by decide)
  unfold hx
  rw [UInt8.toNat_ofNat_of_lt' (by show _ < 256; omega)]
  omega
/-- What the code makes of what stands between the quotation marks. -/
def ud : List UInt8 → List UInt8
  | [] => []
  | c :: r =>
    if c = 92 then
      match r with
      | [] => [92]
      | d :: r => if d = 110 then 10 :: ud r else if d = 120 then (match r with | a :: b :: r => hx a b :: ud r | r => 120 :: ud r) else d :: ud r
    else c :: ud r
termination_by l => l.length
def innerOf (l : List UInt8) (i : Nat) : List UInt8 := (l.take (l.length - 1)).drop i
theorem inner_cons (l : List UInt8) (i : Nat) (h : i + 1 < l.length) : innerOf l i = l[i] :: innerOf l (i + 1) := by
  unfold innerOf
  rw [List.drop_eq_getElem_cons (by simp; omega)]
  simp
theorem inner_nil (l : List UInt8) (i : Nat) (h : l.length ≤ i + 1) : innerOf l i = [] := by
  unfold innerOf
  rw [List.drop_eq_nil_of_le (by simp; omega)]
def unquoteL (l : List UInt8) : List UInt8 × Bool := if quoteL (ud (innerOf l 1)) = l then (ud (innerOf l 1), true) else ([], false)
def text_Unquote.f (a0 : ByteArray) : Option (ByteArray × Bool) := if a0.size ≤ 17592186044416 then some (⟨(unquoteL a0.data.toList).1.toArray⟩, (unquoteL a0.data.toList).2) else none
theorem ud0 : ud [] = [] := by rw [ud.eq_def]
theorem ud1 (c : UInt8) (r : List UInt8) (h : c ≠ 92) : ud (c :: r) = c :: ud r := by
  conv => lhs; rw [ud.eq_def]
  simp only [if_neg h]
theorem ud2 : ud [92] = [92] := by
  rw [ud.eq_def]
  rfl
theorem ud3 (r : List UInt8) : ud (92 :: 110 :: r) = 10 :: ud r := by
  conv => lhs; rw [ud.eq_def]
  rfl
theorem ud4 (a b : UInt8) (r : List UInt8) : ud (92 :: 120 :: a :: b :: r) = hx a b :: ud r := by
  conv => lhs; rw [ud.eq_def]
  rfl
theorem ud5 : ud [92, 120] = [120] := by
  rw [ud.eq_def]
  simp [ud0]
theorem ud6 (a : UInt8) : ud [92, 120, a] = 120 :: ud [a] := by
  conv => lhs; rw [ud.eq_def]
  rfl
theorem ud7 (d : UInt8) (r : List UInt8) (h1 : d ≠ 110) (h2 : d ≠ 120) : ud (92 :: d :: r) = d :: ud r := by
  conv => lhs; rw [ud.eq_def]
  simp only [if_true, if_neg h1, if_neg h2]
theorem ud_plain (l : List UInt8) (i : Nat) (h : i + 1 < l.length) (hc : l[i] ≠ 92) : ud (innerOf l i) = l[i] :: ud (innerOf l (i + 1)) := by
  rw [inner_cons l i h, ud1 _ _ hc]
theorem ud_last (l : List UInt8) (i : Nat) (h : i + 1 < l.length) (hc : l[i] = 92) (h2 : l.length ≤ i + 2) : ud (innerOf l i) = 92 :: ud (innerOf l (i + 1)) := by
  rw [inner_cons l i h, hc, inner_nil l (i + 1) (by omega), ud2, ud0]
theorem ud_n (l : List UInt8) (i : Nat) (h : i + 2 < l.length) (hc : l[i] = 92) (hd : l[i + 1] = 110) : ud (innerOf l i) = 10 :: ud (innerOf l (i + 2)) := by
  rw [inner_cons l i (by omega), hc, inner_cons l (i + 1) (by omega), hd, ud3]
theorem ud_x (l : List UInt8) (i : Nat) (h : i + 4 < l.length) (hc : l[i] = 92) (hd : l[i + 1] = 120) : ud (innerOf l i) = hx l[i + 2] l[i + 3] :: ud (innerOf l (i + 4)) := by
  rw [inner_cons l i (by omega), hc, inner_cons l (i + 1) (by omega), hd, inner_cons l (i + 2) (by omega), inner_cons l (i + 3) (by omega), ud4]
theorem ud_xshort (l : List UInt8) (i : Nat) (h : i + 2 < l.length) (hc : l[i] = 92) (hd : l[i + 1] = 120) (h2 : l.length ≤ i + 4) : ud (innerOf l i) = 120 :: ud (innerOf l (i + 2)) := by
  rw [inner_cons l i (by omega), hc, inner_cons l (i + 1) (by omega), hd]
  by_cases h3 : i + 3 < l.length
  · rw [inner_cons l (i + 2) (by omega), inner_nil l (i + 3) (by omega), ud6]
  · rw [inner_nil l (i + 2) (by omega), ud5, ud0]
theorem ud_else (l : List UInt8) (i : Nat) (h : i + 2 < l.length) (hc : l[i] = 92) (h1 : l[i + 1] ≠ 110) (h2 : l[i + 1] ≠ 120) : ud (innerOf l i) = l[i + 1] :: ud (innerOf l (i + 2)) := by
  rw [inner_cons l i (by omega), hc, inner_cons l (i + 1) (by omega), ud7 _ _ h1 h2]
end Go.Proofs.YteifffaonigidaaDoor.M
