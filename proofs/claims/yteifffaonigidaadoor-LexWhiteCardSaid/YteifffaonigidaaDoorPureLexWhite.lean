/- The pure statement of LexWhite: white bytes before and behind a source, and a comment behind it, change nothing. -/
import Derived.Test.YteifffaonigidaaDoorMx22
import Derived.Test.YteifffaonigidaaDoorPuF
namespace Go.Proofs.YteifffaonigidaaDoor.Pure
open Go.RowKit Go.Proofs.YteifffaonigidaaDoor.M Go.Proofs.YteifffaonigidaaDoorW.PrintWords Go.Proofs.YteifffaonigidaaDoorW.PrintLast
set_option linter.unusedVariables false
namespace Lx
def isWh (c : UInt8) : Prop := c = 32 ∨ c = 9 ∨ c = 13
theorem noLF_drop (c : List UInt8) (h : (10 : UInt8) ∉ c) : c.dropWhile (· != 10) = [] := by
  rw [dw_nil]
  intro x hx
  exact bne_iff_ne.2 (fun e => h (e ▸ hx))
theorem tail_white (w c : List UInt8) (hw : ∀ x ∈ w, isWh x) (hn : w ≠ []) (hc : (10 : UInt8) ∉ c) : Tail (w ++ 35 :: c) [] := by
  refine ⟨?_, ?_, ?_⟩
  · intro x hx
    cases w with
    | nil => exact absurd rfl hn
    | cons y w =>
      have e : y = x := by simpa using hx
      have h1 := hw y (List.mem_cons_self ..)
      rw [← e]
      rcases h1 with h | h | h <;> (rw [h]; decide)
  · rw [skipR_whites w _ hw, skipR_hash, noLF_drop c hc]; rfl
  · rw [noLF_drop]
    · rfl
    · intro h
      rcases List.mem_append.1 h with h | h
      · rcases hw _ h with h | h | h <;> exact absurd h (by decide)
      · rcases List.mem_cons.1 h with h | h
        · exact absurd h (by decide)
        · exact hc h
theorem bapp (x y : ByteArray) : (x ++ y).data.toList = x.data.toList ++ y.data.toList := by simp
theorem white_end (x0 x1 x9 : ByteArray) (x2 x10 : Int) (h0 : x0.size ≤ 5000) (h1 : x1.size ≤ 100) (h9 : x9.size ≤ 100) (hw : ∀ c ∈ x9.data.toList, isWh c) (hn : x9.data.toList ≠ []) (hc : (10 : UInt8) ∉ x1.data.toList) (hx : ¬ x10 < x2) :
    taquinlaw09_LexWhite.l1 (0 + 1) x0 x1 x2 true x9 x10 = some true := by
  have s1 : (x9 ++ x0).size = x9.size + x0.size := ByteArray.size_append ..
  have s2 : ((x9 ++ x0) ++ x9).size = (x9 ++ x0).size + x9.size := ByteArray.size_append ..
  have s3 : (((x9 ++ x0) ++ x9) ++ (⟨#[35]⟩ : ByteArray)).size = ((x9 ++ x0) ++ x9).size + 1 := ByteArray.size_append ..
  have s4 : ((((x9 ++ x0) ++ x9) ++ (⟨#[35]⟩ : ByteArray)) ++ x1).size = (((x9 ++ x0) ++ x9) ++ (⟨#[35]⟩ : ByteArray)).size + x1.size := ByteArray.size_append ..
  have hlen : x0.data.toList.length = x0.size := rfl
  rw [taquinlaw09_LexWhite.l1, if_neg hx]
  cases hl : lexL x0.data.toList 1 with
  | error y =>
    obtain ⟨e, m⟩ := y
    have he := lexL_err _ _ _ e m (Nat.le_refl _) hl
    rw [lex_err x0 e m (by omega) hl, Option.bind_some, if_neg he.1]
  | ok ts =>
    have hb := lexL_lines _ _ _ ts (Nat.le_refl _) hl
    have hL : lexL ((((x9 ++ x0) ++ x9) ++ (⟨#[35]⟩ : ByteArray)) ++ x1).data.toList 1 = .ok ts := by
      rw [bapp, bapp, bapp, bapp, List.append_assoc, List.append_assoc, List.append_assoc, lexL_whites _ _ _ hw]
      obtain ⟨a, L, e1, e2⟩ := lex_app (tail_white x9.data.toList x1.data.toList hw hn hc) _ x0.data.toList 1 ts (Nat.le_refl _) hl
      have : x9.data.toList ++ ((⟨#[35]⟩ : ByteArray).data.toList ++ x1.data.toList) = x9.data.toList ++ 35 :: x1.data.toList := rfl
      rw [this, e2, lexL_end _ _ skipR_nil, e1]
      rfl
    rw [lex_ok x0 ts (by omega) hl, Option.bind_some, if_pos rfl, if_pos (by omega), if_pos (by omega), if_pos (by omega), if_pos (by omega), lex_ok _ ts (by omega) hL, Option.bind_some, if_pos rfl, if_pos rfl, same_self ts (by omega) (fun t ht => by have := hb.2 t ht; omega), Option.bind_some]
theorem piece (i : Nat) : ∃ c, isWh c ∧ (⟨#[32, 9, 13]⟩ : ByteArray).extract (i % 3) (i % 3 + 1) = ⟨#[c]⟩ := by
  have h : i % 3 = 0 ∨ i % 3 = 1 ∨ i % 3 = 2 := by omega
  rcases h with h | h | h <;> rw [h]
  · exact ⟨32, Or.inl rfl, by rfl⟩
  · exact ⟨9, Or.inr (Or.inl rfl), by rfl⟩
  · exact ⟨13, Or.inr (Or.inr rfl), by rfl⟩
theorem white_loop (x0 x1 : ByteArray) (n : Nat) (h0 : x0.size ≤ 5000) (h1 : x1.size ≤ 100) (hn : 1 ≤ n ∧ n ≤ 100) (hc : (10 : UInt8) ∉ x1.data.toList) : ∀ (d i : Nat) (x9 : ByteArray), i + d = n → x9.size = i → (∀ c ∈ x9.data.toList, isWh c) →
    ∃ k, taquinlaw09_LexWhite.l1 k x0 x1 (n : Int) true x9 (i : Int) = some true
  | 0, i, x9, h, hs, hw => by
    have hl : x9.data.toList.length = x9.size := rfl
    exact ⟨_, white_end x0 x1 x9 _ _ h0 h1 (by omega) hw (fun e => by rw [e] at hl; simp at hl; omega) hc (by omega)⟩
  | d + 1, i, x9, h, hs, hw => by
    obtain ⟨c, hcw, hp⟩ := piece i
    have e1 : Int.tmod (i : Int) 3 = ((i % 3 : Nat) : Int) := by rw [Int.tmod_eq_emod_of_nonneg (by omega)]; rfl
    have e2 : wrap64 (((i % 3 : Nat) : Int) + 1) = ((i % 3 + 1 : Nat) : Int) := w1 _ (by omega)
    have hsz : (⟨#[c]⟩ : ByteArray).size = 1 := rfl
    obtain ⟨k, hk⟩ := white_loop x0 x1 n h0 h1 hn hc d (i + 1) (x9 ++ (⟨#[c]⟩ : ByteArray)) (by omega) (by rw [ByteArray.size_append, hsz, hs]) (by
      intro y hy
      rw [bapp] at hy
      rcases List.mem_append.1 hy with hy | hy
      · exact hw y hy
      · have e : y = c := by simpa using hy
        rw [e]; exact hcw)
    refine ⟨k + 1, ?_⟩
    rw [taquinlaw09_LexWhite.l1, if_pos (by omega), e1, if_pos (by omega), e2, if_pos (by omega), if_pos (by omega), Int.toNat_natCast, Int.toNat_natCast, hp, if_pos (by omega), w1 _ (by omega)]
    exact hk
theorem comment_loop (x0 x1 : ByteArray) (n : Nat) (h0 : x0.size ≤ 5000) (h1 : x1.size ≤ 100) (hn : 1 ≤ n ∧ n ≤ 100) : ∀ (d i : Nat), i + d = x1.size → (10 : UInt8) ∉ x1.data.toList.take i →
    ∃ k, taquinlaw09_LexWhite.l0 k x0 x1 (n : Int) true (i : Int) = some true
  | 0, i, h, hc => by
    have hl : x1.data.toList.length = x1.size := rfl
    rw [List.take_of_length_le (by omega)] at hc
    obtain ⟨k, hk⟩ := white_loop x0 x1 n h0 h1 hn hc n 0 ⟨#[]⟩ (by omega) rfl (by simp)
    refine ⟨k + 1, ?_⟩
    rw [taquinlaw09_LexWhite.l0, if_neg (by omega)]
    exact hk
  | d + 1, i, h, hc => by
    have hl : x1.data.toList.length = x1.size := rfl
    have hi : i < x1.size := by omega
    have hb := bt_nat' x1 i hi
    by_cases h10 : x1[i] = 10
    · refine ⟨0 + 1, ?_⟩
      rw [taquinlaw09_LexWhite.l0, if_pos (by omega), if_pos (by omega), if_pos (by rw [hb, h10]; rfl)]
    · obtain ⟨k, hk⟩ := comment_loop x0 x1 n h0 h1 hn d (i + 1) (by omega) (by
        rw [List.take_succ_eq_append_getElem (by omega)]
        intro hm
        rcases List.mem_append.1 hm with hm | hm
        · exact hc hm
        · exact h10 (List.mem_singleton.1 hm).symm)
      refine ⟨k + 1, ?_⟩
      rw [taquinlaw09_LexWhite.l0, if_pos (by omega), if_pos (by omega), if_neg (by rw [hb]; intro e; exact h10 (UInt8.toNat_inj.1 (show x1[i].toNat = (10 : UInt8).toNat by have h1 : (10 : UInt8).toNat = 10 := rfl; omega))), w1 _ (by omega)]
      exact hk
end Lx
open Lx
theorem LexWhite (a0 a1 : ByteArray) (a2 : Int) (w2 : (Lit.int .i64 a2).wf = true) : ∃ k, taquinlaw09_LexWhite.f k a0 a1 a2 = some true := by
  have skip : ∀ k, taquinlaw09_LexWhite.j0 (k + 1) a0 a1 a2 true true = some true := fun k => by rw [taquinlaw09_LexWhite.j0, if_pos rfl]
  by_cases h0 : (a0.size : Int) > 5000
  · refine ⟨3 + 1, ?_⟩
    unfold taquinlaw09_LexWhite.f
    rw [Lx.small_more _ (by omega), Option.bind_some, if_pos h0, skip]
  by_cases h1 : (a1.size : Int) > 100
  · refine ⟨3 + 1, ?_⟩
    unfold taquinlaw09_LexWhite.f
    rw [Lx.small_more _ (by omega), Option.bind_some, if_neg h0, if_pos h1, skip]
  by_cases h2 : a2 < 1
  · refine ⟨3 + 1, ?_⟩
    unfold taquinlaw09_LexWhite.f
    rw [Lx.small_more _ (by omega), Option.bind_some, if_neg h0, if_neg h1, if_pos h2, skip]
  by_cases h3 : a2 > 100
  · refine ⟨3 + 1, ?_⟩
    unfold taquinlaw09_LexWhite.f
    rw [Lx.small_more _ (by omega), Option.bind_some, if_neg h0, if_neg h1, if_neg h2, decide_eq_true h3, skip]
  obtain ⟨n, rfl⟩ : ∃ n : Nat, a2 = n := ⟨a2.toNat, by omega⟩
  obtain ⟨k, hk⟩ := comment_loop a0 a1 n (by omega) (by omega) (by omega) a1.size 0 (by omega) (by simp)
  have hk' : taquinlaw09_LexWhite.l0 (k + 3) a0 a1 (n : Int) true 0 = some true := upL (f := fun k => taquinlaw09_LexWhite.l0 k a0 a1 (n : Int) true 0) (fun k => (taquinlaw09_LexWhite.mono_l k).2.1 a0 a1 n true 0) (Nat.le_add_right _ _) hk
  refine ⟨k + 3 + 1, ?_⟩
  unfold taquinlaw09_LexWhite.f
  rw [Lx.small_more _ (by omega), Option.bind_some, if_neg h0, if_neg h1, if_neg h2, decide_eq_false h3, taquinlaw09_LexWhite.j0, if_neg (by decide)]
  exact hk'
end Go.Proofs.YteifffaonigidaaDoor.Pure
