/- Letters, digits, words and numbers of lex, by their bytes; the contract of lex.Word. -/
import Derived.Test.YteifffaonigidaaDoorLqx1
import Derived.Test.YteifffaonigidaaDoorLxC
import Derived.Shelf.Strings.SlTrimAscii
namespace Go.Proofs.YteifffaonigidaaDoor.M
open Go.RowKit Go.Proofs.YteifffaonigidaaDoorW.PrintWords Go.Proofs.YteifffaonigidaaDoorW.PrintLast
open Go.Proofs.YteifffaonigidaaDoor
set_option linter.unusedVariables false
set_option linter.unusedSimpArgs false
def letterB (c : UInt8) : Bool := c == 95 || (decide (97 ≤ (c ||| 32).toNat) && decide ((c ||| 32).toNat ≤ 122))
def digitB (c : UInt8) : Bool := decide (48 ≤ c.toNat) && decide (c.toNat ≤ 57)
def partB (c : UInt8) : Bool := letterB c || digitB c || c == 45
theorem byte_all {p : UInt8 → Prop} (h : ∀ n : Fin 256, p (UInt8.ofNat n.val)) (c : UInt8) : p c := by
  have := h ⟨c.toNat, c.toNat_lt⟩
  simpa using this
theorem letter_f (c : UInt8) : Lq.lex_letter.f (c.toNat : Int) = some (letterB c) :=
  byte_all (p := fun c => Lq.lex_letter.f (c.toNat : Int) = some (letterB c)) (by decide +kernel) c
theorem digit_f (c : UInt8) : Lq.lex_digit.f (c.toNat : Int) = some (digitB c) :=
  byte_all (p := fun c => Lq.lex_digit.f (c.toNat : Int) = some (digitB c)) (by decide +kernel) c
theorem part_f (c : UInt8) : Lq.lex_part.f (c.toNat : Int) = some (partB c) :=
  byte_all (p := fun c => Lq.lex_part.f (c.toNat : Int) = some (partB c)) (by decide +kernel) c
theorem part_letter (c : UInt8) (h : letterB c = true) : partB c = true := by unfold partB; rw [h]; rfl
theorem part_digit (c : UInt8) (h : digitB c = true) : partB c = true := by unfold partB; rw [h]; simp
def wordB (l : List UInt8) : Bool := l.all partB && decide (1 ≤ l.length) && decide (l.length ≤ 20) && letterB (l.headD 0)
theorem bt_nat' (s : ByteArray) (i : Nat) (h : i < s.size) : bt s (i : Int) = (s[i].toNat : Int) := by
  have h' : ((i : Nat) : Int).toNat < s.size := by rw [Int.toNat_natCast]; exact h
  rw [bt, dif_pos h']; rfl
theorem word_loop (s : ByteArray) (hs : s.size ≤ 4611686018427387904) : ∀ (d j k : Nat), j + d = s.size → (s.data.toList.take j).all partB = true →
    Lq.lex_Word.l0 (k + d + 1) s (s.size : Int) (j : Int) = some (wordB s.data.toList)
  | 0, j, k, h, ha => by
    have hl : s.data.toList.length = s.size := rfl
    rw [List.take_of_length_le (by omega)] at ha
    rw [Lq.lex_Word.l0, if_neg (by omega)]
    unfold wordB
    rw [ha]
    by_cases h1 : (s.size : Int) ≥ 1
    · rw [if_pos h1]
      by_cases h20 : (s.size : Int) ≤ 20
      · have h0 := bt_nat' s 0 (by omega)
        have hd : s.data.toList.headD 0 = s[0] := by
          rw [List.headD_eq_head?_getD, List.head?_eq_getElem?, List.getElem?_eq_getElem (by omega)]; rfl
        rw [if_pos h20, if_pos (by omega), show (0 : Int) = ((0 : Nat) : Int) from rfl, h0, letter_f, Option.bind_some, hd, decide_eq_true (show 1 ≤ s.data.toList.length by omega), decide_eq_true (show s.data.toList.length ≤ 20 by omega)]
        rfl
      · rw [if_neg h20, decide_eq_false (show ¬ s.data.toList.length ≤ 20 by omega)]; simp
    · rw [if_neg h1, decide_eq_false (show ¬ 1 ≤ s.data.toList.length by omega)]; simp
  | d + 1, j, k, h, ha => by
    have hl : s.data.toList.length = s.size := rfl
    have hj : j < s.size := by omega
    rw [show k + (d + 1) + 1 = (k + d + 1) + 1 by omega, Lq.lex_Word.l0, if_pos (by omega), if_pos (by omega), if_pos (by omega), bt_nat' s j hj, part_f, Option.bind_some]
    cases hp : partB s[j] with
    | true =>
      rw [if_pos rfl, IntWalk.wrap64_in _ (by omega)]
      exact word_loop s hs d (j + 1) k (by omega) (by
        rw [List.take_succ_eq_append_getElem (by omega), List.all_append, ha]
        have hp' : partB (s.data.toList[j]'(by omega)) = true := hp
        rw [List.all_cons, hp']; rfl)
    | false =>
      rw [if_neg (by decide)]
      have : s.data.toList.all partB = false := by
        rw [List.all_eq_false]
        exact ⟨s[j], List.getElem_mem (show j < s.data.toList.length by omega), by rw [hp]; decide⟩
      unfold wordB
      rw [this]; rfl
def lex_Word.f (a0 : ByteArray) : Option Bool := if a0.size ≤ 1000000 then some (wordB a0.data.toList) else none
theorem lex_Word.calls (a0 : ByteArray) (r : Bool) (w : World) (h : lex_Word.f a0 = some r) :
    Calls Tryd.prog 27 #[.string a0] w fun e w' => e = .returned (.bool r) ∧ Drawn0 w w' := by
  unfold lex_Word.f at h
  by_cases hs : a0.size ≤ 1000000
  · rw [if_pos hs] at h
    refine Lq.lex_Word.calls (0 + a0.size + 1) a0 r w ?_
    unfold Lq.lex_Word.f
    rw [← h]
    exact word_loop a0 (by omega) a0.size 0 0 (by omega) (by simp)
  · rw [if_neg hs] at h; exact absurd h (by simp)
theorem trim_digits (s : ByteArray) (w : World) (hs : s.size ≤ 1000000) :
    Calls Tryd.prog 106 #[.string s, .string ⟨#[48, 49, 50, 51, 52, 53, 54, 55, 56, 57]⟩] w fun e w' => e = .returned (.string ⟨(Lib.trimS s.data.toList [48, 49, 50, 51, 52, 53, 54, 55, 56, 57]).toArray⟩) ∧ Below w.heap.size w w' :=
  Any.strings_Trim_laid Tryd.lays160 (by kernel_rfl) s ⟨#[48, 49, 50, 51, 52, 53, 54, 55, 56, 57]⟩ w (by omega) (by decide) (ascii_of_all (by decide))
theorem digit_in (c : UInt8) : ([48, 49, 50, 51, 52, 53, 54, 55, 56, 57] : List UInt8).contains c = digitB c :=
  byte_all (p := fun c => ([48, 49, 50, 51, 52, 53, 54, 55, 56, 57] : List UInt8).contains c = digitB c) (by decide +kernel) c
theorem dw_nil {p : UInt8 → Bool} : ∀ {l : List UInt8}, l.dropWhile p = [] ↔ ∀ x ∈ l, p x = true
  | [] => by simp
  | c :: r => by
    rw [List.dropWhile_cons]
    by_cases h : p c = true
    · rw [if_pos h, dw_nil]; simp [h]
    · rw [if_neg h]; simp [h]
theorem trim_nil (l : List UInt8) : Lib.trimS l [48, 49, 50, 51, 52, 53, 54, 55, 56, 57] = [] ↔ l.all digitB = true := by
  have hf : (fun c => ([48, 49, 50, 51, 52, 53, 54, 55, 56, 57] : List UInt8).contains c) = digitB := funext digit_in
  unfold Lib.trimS Lib.trimLeftS Lib.trimRightS
  simp only [hf]
  rw [dw_nil, List.all_eq_true]
  constructor
  · intro h
    cases hd : l.reverse.dropWhile digitB with
    | nil =>
      rw [dw_nil] at hd
      intro x hx
      exact hd x (List.mem_reverse.2 hx)
    | cons c r =>
      have h1 := h c (by rw [hd]; simp)
      have h2 := List.head?_dropWhile_not digitB l.reverse
      rw [hd] at h2
      simp [h1] at h2
  · intro h x hx
    have hx' := List.mem_reverse.1 hx
    exact h x (List.mem_reverse.1 ((List.dropWhile_suffix digitB).subset hx'))
/-- The word or number at the head of l: the token and how many bytes it takes, or the error. -/
def wtok (l : List UInt8) : Except Int (S42 × Nat) :=
  if digitB (l.headD 0) = true then
    if (l.takeWhile partB).all digitB = false ∨ 1 < (l.takeWhile partB).length ∧ l.headD 0 = 48 then .error 11
    else if (intOfText (l.takeWhile partB)).2 = true then .ok (⟨1, ⟨(l.takeWhile partB).toArray⟩, (intOfText (l.takeWhile partB)).1, 0⟩, (l.takeWhile partB).length) else .error 3
  else if wordB (l.takeWhile partB) = true then .ok (⟨0, ⟨(l.takeWhile partB).toArray⟩, 0, 0⟩, (l.takeWhile partB).length) else .error 11
end Go.Proofs.YteifffaonigidaaDoor.M
