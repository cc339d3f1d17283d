/- The pure statement of TextLines: Lines inverts Unlines; the lines have no line feed and joined they are the text; the fields have no white bytes, and are the fields of the lines one after the other. -/
import Derived.Test.YteifffaonigidaaDoorMx3
import Derived.Test.YteifffaonigidaaDoorPuA
import Derived.Test.YteifffaonigidaaDoorPuC
namespace Go.Proofs.YteifffaonigidaaDoor.Pure
open Go.RowKit Go.Proofs.YteifffaonigidaaDoor.M Go.Proofs.YteifffaonigidaaDoorW.PrintWords Go.Proofs.YteifffaonigidaaDoorW.PrintLast
set_option linter.unusedVariables false
namespace Txt
theorem up {α : Type} {f : Nat → Option α} (h : ∀ k, LeO (f k) (f (k + 1))) {r : α} : ∀ {k k' : Nat}, k ≤ k' → f k = some r → f k' = some r := by
  intro k k' hk hr
  induction hk with
  | refl => exact hr
  | step _ ih => exact h _ _ ih
theorem w1 (i : Nat) (h : i < 4611686018427387904) : wrap64 ((i : Int) + 1) = ((i + 1 : Nat) : Int) := by rw [IntWalk.wrap64_in _ (by omega)]; rfl
theorem rd_at {α : Type} (d : α) (xs : List α) (i : Nat) (h : i < xs.length) : rdOf d xs (i : Int) = xs[i] := by
  unfold rdOf; rw [Int.toNat_natCast]; simp [h]
theorem bt_list (s : ByteArray) (j : Nat) (h : j < s.data.toList.length) : bt s (j : Int) = ((s.data.toList[j]).toNat : Int) := by
  have h' : ((j : Nat) : Int).toNat < s.size := by rw [Int.toNat_natCast]; exact h
  rw [bt, dif_pos h']; rfl
theorem bt_ne (s : ByteArray) (j : Nat) (c : UInt8) (h : j < s.data.toList.length) (hc : s.data.toList[j] ≠ c) (n : Int) (hn : (c.toNat : Int) = n := by rfl) : ¬ bt s (j : Int) = n := by
  subst hn; rw [bt_list s j h]; intro e; exact hc (UInt8.toNat_inj.1 (by omega))
theorem bt_eq (s : ByteArray) (j : Nat) (c : UInt8) (h : j < s.data.toList.length) (hc : s.data.toList[j] = c) : bt s (j : Int) = (c.toNat : Int) := by rw [bt_list s j h, hc]
theorem same_ok (l : List ByteArray) (h : l.length ≤ 1000000) : ∀ d i k, i + d = l.length → taquinref02_Same.l0 (k + d + 1) l l (i : Int) = some true
  | 0, i, k, e => by rw [taquinref02_Same.l0, if_neg (by omega)]
  | d + 1, i, k, e => by
    rw [show k + (d + 1) + 1 = (k + d + 1) + 1 by omega, taquinref02_Same.l0, if_pos (by omega), if_pos (by omega), if_pos (by omega), if_pos rfl, w1 _ (by omega)]
    exact same_ok l h d (i + 1) k (by omega)
theorem same (l : List ByteArray) (h : l.length ≤ 1000000) (k : Nat) (hk : l.length + 1 ≤ k) : taquinref02_Same.f k l l = some true := by
  unfold taquinref02_Same.f
  rw [if_pos rfl]
  obtain ⟨m, rfl⟩ : ∃ m, k = m + l.length + 1 := ⟨k - l.length - 1, by omega⟩
  exact same_ok l h l.length 0 m (by omega)
theorem fl_len : ∀ (l cur : List UInt8), (fl cur l).length ≤ l.length + 1
  | [], cur => by unfold fl; split <;> simp
  | c :: r, cur => by
    have h1 := fl_len r []
    have h2 := fl_len r (cur ++ [c])
    rw [fl.eq_def]
    simp only [List.length_cons]
    split
    · split
      · omega
      · simp only [List.length_cons]; omega
    · omega
theorem fl_el : ∀ (l cur : List UInt8), ∀ x ∈ fl cur l, x.length ≤ cur.length + l.length
  | [], cur, x, hx => by
    unfold fl at hx
    split at hx
    · simp at hx
    · obtain rfl : x = cur := by simpa using hx
      omega
  | c :: r, cur, x, hx => by
    unfold fl at hx
    simp only [List.length_cons]
    split at hx
    · split at hx
      · have := fl_el r [] x hx; simp at this; omega
      · rcases List.mem_cons.1 hx with rfl | hx
        · omega
        · have := fl_el r [] x hx; simp at this; omega
    · have := fl_el r _ x hx
      simp at this; omega
theorem cut_len : ∀ l, (cutL l).length ≤ l.length + 1
  | [] => by simp [cutL]
  | c :: r => by
    have ih := cut_len r
    by_cases h : c = 10
    · subst h; rw [cut_lf]; simp; exact ih
    · obtain ⟨x, t, e1, e2⟩ := cut_cons c r h
      rw [e1] at ih
      rw [e2]
      simp at ih ⊢
      omega
theorem cut_el : ∀ l, ∀ x ∈ cutL l, x.length ≤ l.length
  | [], x, hx => by
    obtain rfl : x = [] := by simpa [cutL] using hx
    simp
  | c :: r, x, hx => by
    have ih := cut_el r
    by_cases h : c = 10
    · subst h; rw [cut_lf] at hx
      rcases List.mem_cons.1 hx with rfl | hx
      · simp
      · have := ih x hx; simp; omega
    · obtain ⟨y, t, e1, e2⟩ := cut_cons c r h
      rw [e1] at ih
      rw [e2] at hx
      rcases List.mem_cons.1 hx with rfl | hx
      · have := ih y (List.mem_cons_self ..); simp; omega
      · have := ih x (List.mem_cons_of_mem _ hx); simp; omega
theorem lines_len (s : ByteArray) : (linesB s).length ≤ s.size + 1 := by
  have e := congrArg List.length (lines_data s)
  rw [List.length_map] at e
  rw [e]
  unfold linesL
  split
  · simp
  · have h1 := cut_len (Lib.trimSuffix s.data.toList [10])
    have h2 := Lib.trimSuffix_le s.data.toList [10]
    have h3 : s.data.toList.length = s.size := rfl
    omega
theorem lines_el (s : ByteArray) (x : ByteArray) (hx : x ∈ linesB s) : x.size ≤ s.size ∧ (10 : UInt8) ∉ x.data.toList := by
  have hm : x.data.toList ∈ linesL s.data.toList := by rw [← lines_data]; exact List.mem_map_of_mem hx
  refine ⟨?_, lines_no _ _ hm⟩
  unfold linesL at hm
  split at hm
  · simp at hm
  · have h1 := cut_el _ _ hm
    have h2 := Lib.trimSuffix_le s.data.toList [10]
    have h3 : s.data.toList.length = s.size := rfl
    have h4 : x.data.toList.length = x.size := rfl
    omega
def fieldsB (s : ByteArray) : List ByteArray := Lib.goFieldsP white s
theorem fields_el (s : ByteArray) (x : ByteArray) (hx : x ∈ fieldsB s) : x.size ≤ s.size ∧ x.data.toList ≠ [] ∧ ∀ b ∈ x.data.toList, isW b = false := by
  have hm : x.data.toList ∈ fl [] s.data.toList := by rw [← fields_data]; exact List.mem_map_of_mem hx
  have h1 := fl_el _ _ _ hm
  have h2 := fl_good _ _ (by simp) _ hm
  have h3 : s.data.toList.length = s.size := rfl
  have h4 : x.data.toList.length = x.size := rfl
  exact ⟨by simp at h1; omega, h2⟩
theorem fields_len (s : ByteArray) : (fieldsB s).length ≤ s.size + 1 := by
  have e := congrArg List.length (fields_data s)
  rw [List.length_map] at e
  have h1 := fl_len s.data.toList []
  have h3 : s.data.toList.length = s.size := rfl
  unfold fieldsB
  omega
theorem fields_lines (s : ByteArray) : (linesB s).flatMap fieldsB = fieldsB s := by
  apply map_data_inj
  unfold fieldsB
  rw [fields_data, ← fl_lines, ← lines_data, List.map_flatMap, List.flatMap_map]
  congr 1
  funext x
  exact fields_data x
theorem unlines_data (ls : List ByteArray) : unlinesL ls = unl (ls.map fun x : ByteArray => x.data.toList) := by
  unfold unlinesL unl
  rw [List.flatMap_map]
theorem unlines_len (ls : List ByteArray) (h : ∀ a ∈ ls, a.size ≤ 100) : (unlinesL ls).length ≤ 101 * ls.length := by
  unfold unlinesL
  induction ls with
  | nil => simp
  | cons a ls ih =>
    have h1 := h a (List.mem_cons_self ..)
    have h2 := ih (fun x hx => h x (List.mem_cons_of_mem _ hx))
    have h4 : a.data.toList.length = a.size := rfl
    rw [List.flatMap_cons, List.length_append, List.length_append]
    have : ([10] : List UInt8).length = 1 := rfl
    have : (a :: ls).length = ls.length + 1 := rfl
    omega
theorem size_mk (l : List UInt8) : (⟨l.toArray⟩ : ByteArray).size = l.length := by simp [ByteArray.size]
/-! ### the fields of the text -/
section
variable (x1 x10 : ByteArray) (hx : x1.size ≤ 300) (h10 : x10.data.toList = unl (linesL x1.data.toList))
theorem l4_end (hx : x1.size ≤ 300) (h10 : x10.data.toList = unl (linesL x1.data.toList)) :
    taquinlaw02_TextLines.l4 (302 + 1) x1 true (linesB x1) x10 (fieldsB x1) ((fieldsB x1).length : Int) = some true := by
  have hfl := fields_len x1
  have hll := unl_lines x1.data.toList
  have hsz : x1.data.toList.length = x1.size := rfl
  have hun : (unlinesL (linesB x1)).length ≤ 301 := by
    rw [unlines_data, lines_data, hll]
    split
    · simp
    · split
      · omega
      · simp; omega
  have U : text_Unlines.f (linesB x1) = some ⟨(unlinesL (linesB x1)).toArray⟩ := by unfold text_Unlines.f; rw [if_pos (by omega)]
  have F : text_Fields.f x1 = some (fieldsB x1) := by unfold text_Fields.f; rw [if_pos (by omega)]; rfl
  have e : (⟨(unlinesL (linesB x1)).toArray⟩ : ByteArray).toList = x10.toList := by
    rw [ByteArray.toList_eq, ByteArray.toList_eq, h10, unlines_data, lines_data]
  rw [taquinlaw02_TextLines.l4, if_neg (by omega), if_pos rfl, U, Option.bind_some, if_pos e, F, Option.bind_some, same _ (by omega) _ (by omega), Option.bind_some]
theorem l5_ok (hx : x1.size ≤ 300) (i : Nat) (hi : i < (fieldsB x1).length) (h : ∃ k, taquinlaw02_TextLines.l4 k x1 true (linesB x1) x10 (fieldsB x1) ((i + 1 : Nat) : Int) = some true) :
    ∀ d j, j + d = (fieldsB x1)[i].size → ∃ k, taquinlaw02_TextLines.l5 k x1 true (linesB x1) x10 (fieldsB x1) (i : Int) (j : Int) = some true := by
  obtain ⟨g1, g2, g3⟩ := fields_el x1 _ (List.getElem_mem hi)
  have hfl := fields_len x1
  intro d
  induction d with
  | zero =>
    intro j hj
    obtain ⟨k, hk⟩ := h
    refine ⟨k + 1, ?_⟩
    rw [taquinlaw02_TextLines.l5, if_pos (by omega), if_pos (by omega), rd_at _ _ _ hi, if_neg (by omega), if_neg (by rw [ByteArray.toList_eq]; exact g2), w1 _ (by omega)]
    exact hk
  | succ d ih =>
    intro j hj
    obtain ⟨k, hk⟩ := ih (j + 1) (by omega)
    have hjl : j < (fieldsB x1)[i].data.toList.length := by show j < (fieldsB x1)[i].size; omega
    have hw := g3 _ (List.getElem_mem hjl)
    have n32 := bt_ne (fieldsB x1)[i] j 32 hjl (by intro e; rw [e] at hw; exact absurd hw (by decide)) 32
    have n9 := bt_ne (fieldsB x1)[i] j 9 hjl (by intro e; rw [e] at hw; exact absurd hw (by decide)) 9
    have n10 := bt_ne (fieldsB x1)[i] j 10 hjl (by intro e; rw [e] at hw; exact absurd hw (by decide)) 10
    refine ⟨k + 1, ?_⟩
    rw [taquinlaw02_TextLines.l5, if_pos (by omega), if_pos (by omega), rd_at _ _ _ hi, if_pos (by omega), if_pos (by omega), if_neg n32, if_neg n9, if_neg n10, w1 _ (by omega)]
    exact hk
theorem l4_ok (hx : x1.size ≤ 300) (h10 : x10.data.toList = unl (linesL x1.data.toList)) : ∀ d i, i + d = (fieldsB x1).length → ∃ k, taquinlaw02_TextLines.l4 k x1 true (linesB x1) x10 (fieldsB x1) (i : Int) = some true := by
  intro d
  induction d with
  | zero =>
    intro i hi
    obtain rfl : i = (fieldsB x1).length := by omega
    exact ⟨_, l4_end x1 x10 hx h10⟩
  | succ d ih =>
    intro i hi
    have hi' : i < (fieldsB x1).length := by omega
    obtain ⟨k, hk⟩ := l5_ok x1 x10 hx i hi' (ih (i + 1) (by omega)) (fieldsB x1)[i].size 0 (by omega)
    refine ⟨k + 1, ?_⟩
    rw [taquinlaw02_TextLines.l4, if_pos (by omega)]
    exact hk
theorem l3_ok (hx : x1.size ≤ 300) (i : Nat) (hi : i < (linesB x1).length) (acc : List ByteArray) (hacc : acc ++ ((linesB x1).drop i).flatMap fieldsB = fieldsB x1)
    (h : ∃ k, taquinlaw02_TextLines.l2 k x1 true (linesB x1) x10 (acc ++ fieldsB (linesB x1)[i]) ((i + 1 : Nat) : Int) = some true) :
    ∀ d j, j + d = (linesB x1)[i].size → ∃ k, taquinlaw02_TextLines.l3 k x1 true (linesB x1) x10 acc (i : Int) (j : Int) = some true := by
  obtain ⟨g1, g2⟩ := lines_el x1 _ (List.getElem_mem hi)
  have hfl := fields_len x1
  have hll := lines_len x1
  have hal : acc.length + (fieldsB (linesB x1)[i]).length ≤ (fieldsB x1).length := by
    rw [← hacc, List.drop_eq_getElem_cons hi, List.flatMap_cons]
    simp only [List.length_append]
    omega
  intro d
  induction d with
  | zero =>
    intro j hj
    obtain ⟨k, hk⟩ := h
    have F : text_Fields.f (linesB x1)[i] = some (fieldsB (linesB x1)[i]) := by unfold text_Fields.f; rw [if_pos (by omega)]; rfl
    refine ⟨k + 1, ?_⟩
    rw [taquinlaw02_TextLines.l3, if_pos (by omega), if_pos (by omega), rd_at _ _ _ hi, if_neg (by omega), F, Option.bind_some, if_pos (by omega), w1 _ (by omega)]
    exact hk
  | succ d ih =>
    intro j hj
    obtain ⟨k, hk⟩ := ih (j + 1) (by omega)
    have hjl : j < (linesB x1)[i].data.toList.length := by show j < (linesB x1)[i].size; omega
    have n10 := bt_ne (linesB x1)[i] j 10 hjl (by intro e; exact g2 (e ▸ List.getElem_mem hjl)) 10
    refine ⟨k + 1, ?_⟩
    rw [taquinlaw02_TextLines.l3, if_pos (by omega), if_pos (by omega), rd_at _ _ _ hi, if_pos (by omega), if_pos (by omega), if_neg n10, w1 _ (by omega)]
    exact hk
theorem l2_ok (hx : x1.size ≤ 300) (h10 : x10.data.toList = unl (linesL x1.data.toList)) : ∀ d i acc, i + d = (linesB x1).length → acc ++ ((linesB x1).drop i).flatMap fieldsB = fieldsB x1 →
    ∃ k, taquinlaw02_TextLines.l2 k x1 true (linesB x1) x10 acc (i : Int) = some true := by
  intro d
  induction d with
  | zero =>
    intro i acc hi hacc
    rw [List.drop_eq_nil_of_le (show (linesB x1).length ≤ i by omega)] at hacc
    obtain rfl : acc = fieldsB x1 := by simpa using hacc
    obtain ⟨k, hk⟩ := l4_ok x1 x10 hx h10 (fieldsB x1).length 0 (by omega)
    refine ⟨k + 1, ?_⟩
    rw [taquinlaw02_TextLines.l2, if_neg (by omega)]
    exact hk
  | succ d ih =>
    intro i acc hi hacc
    have hi' : i < (linesB x1).length := by omega
    have hn : (acc ++ fieldsB (linesB x1)[i]) ++ ((linesB x1).drop (i + 1)).flatMap fieldsB = fieldsB x1 := by
      rw [← hacc, List.drop_eq_getElem_cons hi', List.flatMap_cons, List.append_assoc]
    obtain ⟨k, hk⟩ := l3_ok x1 x10 hx i hi' acc hacc (ih (i + 1) _ (by omega) hn) (linesB x1)[i].size 0 (by omega)
    refine ⟨k + 1, ?_⟩
    rw [taquinlaw02_TextLines.l2, if_pos (by omega)]
    exact hk
end
theorem j3_ok (x1 : ByteArray) (hx : x1.size ≤ 300) : ∃ k, taquinlaw02_TextLines.j3 k x1 true false = some true := by
  have L : text_Lines.f x1 = some (linesB x1) := by unfold text_Lines.f; rw [if_pos (by omega)]
  have hsz : x1.data.toList.length = x1.size := rfl
  have j5 : ∀ x10 : ByteArray, x10.data.toList = unl (linesL x1.data.toList) → ∃ k, taquinlaw02_TextLines.j5 k x1 true (linesB x1) x10 = some true := by
    intro x10 h10
    obtain ⟨k, hk⟩ := l2_ok x1 x10 hx h10 _ 0 [] (Nat.zero_add _) (by rw [List.drop_zero, List.nil_append]; exact fields_lines x1)
    refine ⟨k + 1, ?_⟩
    rw [taquinlaw02_TextLines.j5]
    exact hk
  by_cases he : x1.toList = []
  · have he' : x1.data.toList = [] := by rw [← ByteArray.toList_eq]; exact he
    obtain ⟨k, hk⟩ := j5 x1 (by rw [unl_lines, if_pos he']; exact he')
    refine ⟨k + 1 + 1, ?_⟩
    rw [taquinlaw02_TextLines.j3, if_neg (by decide), L, Option.bind_some, if_pos he, taquinlaw02_TextLines.j4, if_neg (by decide)]
    exact hk
  · have he' : x1.data.toList ≠ [] := by rw [← ByteArray.toList_eq]; exact he
    have hp : 0 < x1.data.toList.length := List.length_pos_iff.2 he'
    have hw : wrap64 ((x1.size : Int) - 1) = ((x1.size - 1 : Nat) : Int) := by rw [IntWalk.wrap64_in _ (by omega)]; omega
    have hj : x1.size - 1 < x1.data.toList.length := by omega
    have hg : x1.data.toList.getLast? = some (x1.data.toList[x1.size - 1]) := by rw [List.getLast?_eq_getElem?, hsz, List.getElem?_eq_getElem hj]
    by_cases hb : x1.data.toList[x1.size - 1] = 10
    · have b10 := bt_eq x1 _ 10 hj hb
      have b10' : (bt x1 ((x1.size - 1 : Nat) : Int) != 10) = false := by rw [b10]; rfl
      obtain ⟨k, hk⟩ := j5 x1 (by rw [unl_lines, if_neg he', if_pos (by rw [hg, hb])])
      refine ⟨k + 1 + 1, ?_⟩
      rw [taquinlaw02_TextLines.j3, if_neg (by decide), L, Option.bind_some, if_neg he, hw, if_pos (by omega), if_pos (by omega), b10', taquinlaw02_TextLines.j4, if_neg (by decide)]
      exact hk
    · have b10 := bt_ne x1 _ 10 hj hb 10
      have b10' : (bt x1 ((x1.size - 1 : Nat) : Int) != 10) = true := bne_iff_ne.2 b10
      obtain ⟨k, hk⟩ := j5 (x1 ++ (⟨#[10]⟩ : ByteArray)) (by rw [unl_lines, if_neg he', if_neg (by rw [hg]; intro e; exact hb (Option.some.inj e))]; simp)
      refine ⟨k + 1 + 1, ?_⟩
      rw [taquinlaw02_TextLines.j3, if_neg (by decide), L, Option.bind_some, if_neg he, hw, if_pos (by omega), if_pos (by omega), b10', taquinlaw02_TextLines.j4, if_pos rfl, if_pos (by omega)]
      exact hk
/-! ### the lists -/
theorem l0_end (x0 : List ByteArray) (x1 : ByteArray) (hx : x1.size ≤ 300) (h0 : x0.length ≤ 30) (x6 : Bool) (hs : ∀ a ∈ x0, a.size ≤ 100) (hc : x6 = true → ∀ a ∈ x0, (10 : UInt8) ∉ a.data.toList) :
    ∃ k, taquinlaw02_TextLines.l0 k x0 x1 true x6 (x0.length : Int) = some true := by
  obtain ⟨k, hk⟩ := j3_ok x1 hx
  cases x6 with
  | false =>
    refine ⟨k + 1, ?_⟩
    rw [taquinlaw02_TextLines.l0, if_neg (by omega), if_neg (by decide)]
    exact hk
  | true =>
    have hc := hc rfl
    have hul := unlines_len x0 hs
    have U : text_Unlines.f x0 = some ⟨(unlinesL x0).toArray⟩ := by unfold text_Unlines.f; rw [if_pos (by omega)]
    have e : linesB ⟨(unlinesL x0).toArray⟩ = x0 := by
      apply map_data_inj
      rw [lines_data, unlines_data]
      exact lines_unl _ (by
        intro a ha
        obtain ⟨b, hb, rfl⟩ := List.mem_map.1 ha
        exact hc b hb)
    have L : text_Lines.f ⟨(unlinesL x0).toArray⟩ = some x0 := by unfold text_Lines.f; rw [if_pos (by rw [size_mk]; omega), e]
    have hj : taquinlaw02_TextLines.j3 (k + 31) x1 true false = some true := up (f := fun k => taquinlaw02_TextLines.j3 k x1 true false) (fun k => (taquinlaw02_TextLines.mono_l k).2.2.2.1 x1 true false) (Nat.le_add_right _ _) hk
    refine ⟨k + 31 + 1, ?_⟩
    rw [taquinlaw02_TextLines.l0, if_neg (by omega), if_pos rfl, U, Option.bind_some, L, Option.bind_some, same _ (by omega) _ (by omega), Option.bind_some]
    exact hj
theorem l1_ok (x0 : List ByteArray) (x1 : ByteArray) (h0 : x0.length ≤ 30) (i : Nat) (hi : i < x0.length) (hsz : x0[i].size ≤ 100)
    (hn : ∀ x6 : Bool, (x6 = true → (∀ a ∈ x0.take i, (10 : UInt8) ∉ a.data.toList) ∧ (10 : UInt8) ∉ x0[i].data.toList) → ∃ k, taquinlaw02_TextLines.l0 k x0 x1 true x6 ((i + 1 : Nat) : Int) = some true) :
    ∀ d j (x6 : Bool), j + d = x0[i].size → (x6 = true → (∀ a ∈ x0.take i, (10 : UInt8) ∉ a.data.toList) ∧ (10 : UInt8) ∉ x0[i].data.toList.take j) →
      ∃ k, taquinlaw02_TextLines.l1 k x0 x1 true x6 (i : Int) (j : Int) = some true := by
  have hlen : x0[i].data.toList.length = x0[i].size := rfl
  intro d
  induction d with
  | zero =>
    intro j x6 hj hc
    have ht : x0[i].data.toList.take j = x0[i].data.toList := List.take_of_length_le (by omega)
    rw [ht] at hc
    obtain ⟨k, hk⟩ := hn x6 hc
    refine ⟨k + 1, ?_⟩
    rw [taquinlaw02_TextLines.l1, if_pos (by omega), if_pos (by omega), rd_at _ _ _ hi, if_neg (by omega), w1 _ (by omega)]
    exact hk
  | succ d ih =>
    intro j x6 hj hc
    have hjl : j < x0[i].data.toList.length := by omega
    cases x6 with
    | false =>
      obtain ⟨k, hk⟩ := ih (j + 1) false (by omega) (by intro h; cases h)
      refine ⟨k + 1, ?_⟩
      rw [taquinlaw02_TextLines.l1, if_pos (by omega), if_pos (by omega), rd_at _ _ _ hi, if_pos (by omega), if_neg (by decide), w1 _ (by omega)]
      exact hk
    | true =>
      obtain ⟨c1, c2⟩ := hc rfl
      obtain ⟨k, hk⟩ := ih (j + 1) (bt x0[i] (j : Int) != 10) (by omega) (by
        intro hb
        refine ⟨c1, ?_⟩
        rw [List.take_succ_eq_append_getElem hjl]
        intro hm
        rcases List.mem_append.1 hm with hm | hm
        · exact c2 hm
        · have e : x0[i].data.toList[j] = 10 := (List.mem_singleton.1 hm).symm
          rw [bt_eq _ _ _ hjl e] at hb
          exact absurd hb (by decide))
      refine ⟨k + 1, ?_⟩
      rw [taquinlaw02_TextLines.l1, if_pos (by omega), if_pos (by omega), rd_at _ _ _ hi, if_pos (by omega), if_pos rfl, if_pos (by omega), w1 _ (by omega)]
      exact hk
theorem l0_ok (x0 : List ByteArray) (x1 : ByteArray) (hx : x1.size ≤ 300) (h0 : x0.length ≤ 30) : ∀ d i (x6 : Bool), i + d = x0.length → (∀ a ∈ x0.take i, a.size ≤ 100) → (x6 = true → ∀ a ∈ x0.take i, (10 : UInt8) ∉ a.data.toList) →
    ∃ k, taquinlaw02_TextLines.l0 k x0 x1 true x6 (i : Int) = some true := by
  intro d
  induction d with
  | zero =>
    intro i x6 hi hs hc
    obtain rfl : i = x0.length := by omega
    rw [List.take_length] at hs hc
    exact l0_end x0 x1 hx h0 x6 hs hc
  | succ d ih =>
    intro i x6 hi hs hc
    have hi' : i < x0.length := by omega
    by_cases hsz : (x0[i].size : Int) > 100
    · refine ⟨0 + 1, ?_⟩
      rw [taquinlaw02_TextLines.l0, if_pos (by omega), if_pos (by omega), rd_at _ _ _ hi', if_pos hsz]
    · obtain ⟨k, hk⟩ := l1_ok x0 x1 h0 i hi' (by omega) (by
        intro y6 hy
        refine ih (i + 1) y6 (by omega) ?_ ?_
        · intro a ha
          rw [List.take_succ_eq_append_getElem hi'] at ha
          rcases List.mem_append.1 ha with ha | ha
          · exact hs a ha
          · rw [List.mem_singleton.1 ha]; omega
        · intro h6 a ha
          obtain ⟨y1, y2⟩ := hy h6
          rw [List.take_succ_eq_append_getElem hi'] at ha
          rcases List.mem_append.1 ha with ha | ha
          · exact y1 a ha
          · rw [List.mem_singleton.1 ha]; exact y2) x0[i].size 0 x6 (by omega) (fun h => ⟨hc h, by simp⟩)
      refine ⟨k + 1, ?_⟩
      rw [taquinlaw02_TextLines.l0, if_pos (by omega), if_pos (by omega), rd_at _ _ _ hi', if_neg hsz]
      exact hk
end Txt
open Txt
theorem TextLines (l0 : List ByteArray) (a1 : ByteArray) : ∃ k, taquinlaw02_TextLines.f k l0 a1 = some true := by
  have skip : ∀ k, taquinlaw02_TextLines.j0 (k + 1) l0 a1 true true = some true := fun k => by rw [taquinlaw02_TextLines.j0, if_pos rfl]
  by_cases h0 : (l0.length : Int) > 30
  · refine ⟨51 + 1, ?_⟩
    unfold taquinlaw02_TextLines.f
    rw [small_more _ (by omega), Option.bind_some, if_pos h0, skip]
  by_cases h1 : (a1.size : Int) > 300
  · refine ⟨51 + 1, ?_⟩
    unfold taquinlaw02_TextLines.f
    rw [small_more _ (by omega), Option.bind_some, if_neg h0, decide_eq_true h1, skip]
  obtain ⟨k, hk⟩ := l0_ok l0 a1 (by omega) (by omega) l0.length 0 true (by omega) (by simp) (by simp)
  have hk' : taquinlaw02_TextLines.l0 (k + 51) l0 a1 true true 0 = some true := up (f := fun k => taquinlaw02_TextLines.l0 k l0 a1 true true 0) (fun k => (taquinlaw02_TextLines.mono_l k).2.1 l0 a1 true true 0) (Nat.le_add_right _ _) hk
  refine ⟨k + 51 + 1, ?_⟩
  unfold taquinlaw02_TextLines.f
  rw [small_more _ (by omega), Option.bind_some, if_neg h0, decide_eq_false h1, taquinlaw02_TextLines.j0, if_neg (by decide)]
  exact hk'
end Go.Proofs.YteifffaonigidaaDoor.Pure
