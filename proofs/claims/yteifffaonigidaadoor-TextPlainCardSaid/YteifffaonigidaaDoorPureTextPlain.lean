/- The pure statement of TextPlain: a pattern without magic matches Plain of it, and nothing else; Escape of a string has no magic, and Plain of it is the string. -/
import Derived.Test.YteifffaonigidaaDoorMx5
import Derived.Test.YteifffaonigidaaDoorPuA
namespace Go.Proofs.YteifffaonigidaaDoor.Pure
open Go.RowKit Go.Proofs.YteifffaonigidaaDoor.M Go.Proofs.YteifffaonigidaaDoorW.PrintWords Go.Proofs.YteifffaonigidaaDoorW.PrintLast
open Go.Proofs.YteifffaonigidaaDoor.PatPlain
set_option linter.unusedVariables false
namespace Plain
theorem mk_list (l : List UInt8) : (⟨l.toArray⟩ : ByteArray).toList = l := ByteArray.toList_eq _
theorem mk_size (l : List UInt8) : (⟨l.toArray⟩ : ByteArray).size = l.length := by simp [ByteArray.size]
theorem parts_plain : ∀ (n : Nat) (l : List UInt8), l.length ≤ n → (parts l).any nonByte = false → parts l = (plainT l).map .byte
  | _, [], _, _ => by rw [parts_nil, plainT.eq_def]; rfl
  | 0, c :: r, h, _ => by simp at h
  | n + 1, c :: r, hn, h => by
    rw [parts_cons] at h ⊢
    rw [List.any_cons, Bool.or_eq_false_iff] at h
    have ih := parts_plain n (r.drop (part1 c r).2) (by rw [List.length_drop]; simp at hn; omega) h.2
    rw [ih, plainT_cons, List.map_append]
    have h1 := h.1
    clear ih h
    unfold part1 at h1 ⊢
    by_cases h92 : c = 92
    · simp only [if_pos h92]
      cases r with
      | nil => rfl
      | cons b r => rfl
    · simp only [if_neg h92] at h1 ⊢
      by_cases h42 : c = 42
      · rw [if_pos h42] at h1
        exact absurd h1 (by simp [nonByte])
      · simp only [if_neg h42] at h1 ⊢
        by_cases h63 : c = 63
        · rw [if_pos h63] at h1
          exact absurd h1 (by simp [nonByte])
        · simp only [if_neg h63] at h1 ⊢
          by_cases h91 : c = 91
          · simp only [if_pos h91] at h1 ⊢
            cases hc : cls r with
            | none => simp [h91]
            | some x =>
              obtain ⟨set, neg, m⟩ := x
              rw [hc] at h1
              exact absurd h1 (by simp [nonByte])
          · simp [if_neg h91]
theorem map_byte_inj {a b : List UInt8} (h : a.map Part.byte = b.map Part.byte) : a = b :=
  (List.map_inj_right (f := Part.byte) (fun x y h => Part.byte.inj h)).1 h
theorem parts_escape (s : List UInt8) : parts (esc s) = s.map .byte := by
  have := parts_esc [] s
  rw [List.append_nil, parts_nil, List.append_nil] at this
  exact this
theorem any_byte (s : List UInt8) : (s.map Part.byte).any nonByte = false := by
  induction s with
  | nil => rfl
  | cons c s ih => rw [List.map_cons, List.any_cons, ih]; rfl
theorem plain_escape (s : List UInt8) : plainT (esc s) = s := by
  have h := parts_plain _ (esc s) (Nat.le_refl _) (by rw [parts_escape]; exact any_byte s)
  rw [parts_escape] at h
  exact (map_byte_inj h).symm
theorem esc_size (s : List UInt8) : (esc s).length ≤ 2 * s.length := by rw [esc_flat]; exact esc_len s
theorem head_size (c : UInt8) (r : List UInt8) : (if c = 92 then (match r with | b :: _ => [b] | [] => [92]) else c :: r.take (part1 c r).2).length ≤ (part1 c r).2 + 1 := by
  split
  · split <;> simp
  · simp only [List.length_cons, List.length_take]; omega
theorem plain_size : ∀ (n : Nat) (l : List UInt8), l.length ≤ n → (plainT l).length ≤ l.length
  | _, [], _ => by rw [plainT.eq_def]; exact Nat.le_refl _
  | 0, c :: r, h => by simp at h
  | n + 1, c :: r, h => by
    rw [plainT_cons]
    have hle := part1_le c r
    have ih := plain_size n (r.drop (part1 c r).2) (by rw [List.length_drop]; simp at h; omega)
    rw [List.length_drop] at ih
    rw [List.length_append, List.length_cons]
    refine Nat.le_trans (Nat.add_le_add (head_size c r) ih) ?_
    omega
end Plain
open Plain
theorem TextPlain (a0 : ByteArray) (a1 : ByteArray) : ∃ k, taquinlaw02_TextPlain.f k a0 a1 = some true := by
  refine ⟨60, ?_⟩
  unfold taquinlaw02_TextPlain.f
  rw [small_more 60 (by omega), Option.bind_some]
  have skip : taquinlaw02_TextPlain.j0 60 a0 a1 true true = some true := rfl
  by_cases hp : (a0.size : Int) > 100
  · rw [if_pos hp, skip]
  · rw [if_neg hp]
    by_cases hs : (a1.size : Int) > 300
    · rw [show decide ((a1.size : Int) > 300) = true from decide_eq_true hs, skip]
    · rw [show decide ((a1.size : Int) > 300) = false from decide_eq_false hs]
      have hl0 : a0.data.toList.length = a0.size := rfl
      have hl1 : a1.data.toList.length = a1.size := rfl
      have e1 : a1.toList = a1.data.toList := ByteArray.toList_eq a1
      have he := esc_size a1.data.toList
      have E : text_Escape.f a1 = some ⟨(esc a1.data.toList).toArray⟩ := by unfold text_Escape.f; rw [if_pos (by omega)]
      have G : M.text_Magic.f a0 = some (magicL a0.data.toList) := by unfold M.text_Magic.f; rw [if_pos (by omega)]
      have Pl : text_Plain.f a0 = some ⟨(plainT a0.data.toList).toArray⟩ := by unfold text_Plain.f; rw [if_pos (by omega)]
      -- the second half
      have last : taquinlaw02_TextPlain.j1 59 a1 true ⟨(esc a1.data.toList).toArray⟩ false = some true := by
        have G2 : M.text_Magic.f ⟨(esc a1.data.toList).toArray⟩ = some false := by
          unfold M.text_Magic.f
          rw [if_pos (by rw [mk_size]; omega)]
          unfold magicL
          rw [parts_escape, any_byte]
        have P2 : text_Plain.f ⟨(esc a1.data.toList).toArray⟩ = some ⟨a1.data.toList.toArray⟩ := by
          unfold text_Plain.f
          rw [if_pos (by rw [mk_size]; omega), plain_escape]
        have M2 : text_Pattern.f ⟨(esc a1.data.toList).toArray⟩ a1 = some true := by
          unfold text_Pattern.f
          rw [if_pos ⟨by rw [mk_size]; omega, by omega⟩, parts_escape, M_bytes_iff]
          simp
        simp only [taquinlaw02_TextPlain.j1]
        rw [if_neg (by decide), if_pos trivial, G2, Option.bind_some, if_neg (by decide), P2, Option.bind_some, if_pos (by rw [e1]), M2, Option.bind_some]
      simp only [taquinlaw02_TextPlain.j0]
      rw [if_neg (by decide), E, Option.bind_some, G, Option.bind_some]
      cases hm : magicL a0.data.toList with
      | true =>
        rw [if_pos rfl]
        exact last
      | false =>
        have hpp := parts_plain _ a0.data.toList (Nat.le_refl _) hm
        have hps := plain_size _ a0.data.toList (Nat.le_refl _)
        have M3 : text_Pattern.f a0 ⟨(plainT a0.data.toList).toArray⟩ = some true := by
          unfold text_Pattern.f
          rw [if_pos ⟨by omega, by rw [mk_size]; omega⟩, hpp, M_bytes_iff]
          simp
        have M4 : text_Pattern.f a0 a1 = some (decide (a1.data.toList = plainT a0.data.toList)) := by
          unfold text_Pattern.f
          rw [if_pos ⟨by omega, by omega⟩, hpp, M_bytes_iff]
        rw [if_neg (by decide), Pl, Option.bind_some, M3, Option.bind_some, if_pos rfl, M4, Option.bind_some, Option.bind_some]
        have hb : (decide (a1.data.toList = plainT a0.data.toList) != (a1.toList == (⟨(plainT a0.data.toList).toArray⟩ : ByteArray).toList)) = false := by
          rw [e1, mk_list (plainT a0.data.toList)]
          by_cases h : a1.data.toList = plainT a0.data.toList
          · simp [h]
          · simp [h]
        rw [hb]
        exact last
end Go.Proofs.YteifffaonigidaaDoor.Pure
