/- Lines, Unlines and Fields by their bytes: plain facts. -/
import Derived.Test.YteifffaonigidaaDoorTxB
import Derived.Test.YteifffaonigidaaDoorTxE
import Derived.Test.YteifffaonigidaaDoorTxP
import Derived.Lib.SpaceUEq
import Derived.Lib.PathFns
namespace Go.Proofs.YteifffaonigidaaDoor.Pure
open Go.RowKit Go.Proofs.YteifffaonigidaaDoor Go.Proofs.YteifffaonigidaaDoor.M Go.Proofs.YteifffaonigidaaDoorW.PrintWords Go.Proofs.YteifffaonigidaaDoorW.PrintLast
set_option linter.unusedVariables false
namespace Txt
/-! ### the pieces between the line feeds -/
def cutL : List UInt8 → List (List UInt8)
  | [] => [[]]
  | c :: r => if c = 10 then [] :: cutL r else (match cutL r with | h :: t => (c :: h) :: t | [] => [[c]])
theorem cut_ne : ∀ l, cutL l ≠ []
  | [] => by simp [cutL]
  | c :: r => by
    unfold cutL
    split
    · simp
    · split <;> simp
theorem cut_cons (c : UInt8) (r : List UInt8) (h : c ≠ 10) : ∃ x t, cutL r = x :: t ∧ cutL (c :: r) = (c :: x) :: t := by
  cases hc : cutL r with
  | nil => exact absurd hc (cut_ne r)
  | cons x t => exact ⟨x, t, rfl, by rw [cutL, if_neg h, hc]⟩
theorem cut_lf (r : List UInt8) : cutL (10 :: r) = [] :: cutL r := by rw [cutL, if_pos rfl]
theorem split_cut : ∀ s : List UInt8, Lib.splitK [10] 0 (Lib.count s [10]) s = cutL s
  | [] => by rw [Lib.count_one]; rfl
  | b :: l => by
    have ih := split_cut l
    by_cases h : b = 10
    · subst h
      have hix : Lib.index (10 :: l) [10] = 0 := by rw [Lib.index]; simp [List.isPrefixOf]
      rw [Lib.count_cons_eq, show 1 + Lib.count l [10] = Lib.count l [10] + 1 by omega, Lib.splitK, hix, if_neg (by decide), cut_lf, ← ih]
      simp
    · obtain ⟨x, t, e1, e2⟩ := cut_cons b l h
      have hp : ([10] : List UInt8).isPrefixOf (b :: l) = false := by simp [List.isPrefixOf, Ne.symm h]
      have hix : Lib.index (b :: l) [10] = if Lib.index l [10] == -1 then -1 else Lib.index l [10] + 1 := by rw [Lib.index, hp]; simp
      rw [Lib.count_cons_ne b 10 l h, e2]
      rw [e1] at ih
      cases hk : Lib.count l [10] with
      | zero =>
        rw [hk, Lib.splitK] at ih
        rw [Lib.splitK]
        injection ih with i1 i2
        rw [i1, i2]
      | succ k =>
        have hm : Lib.index l [10] ≠ -1 := fun h => by rw [Lib.count_miss h] at hk; omega
        have hge := Lib.index_ge l [10]
        obtain ⟨j, hj⟩ : ∃ j : Nat, Lib.index l [10] = j := ⟨(Lib.index l [10]).toNat, by omega⟩
        have hm' : (Lib.index l [10] == -1) = false := beq_eq_false_iff_ne.2 hm
        have hx2 : Lib.index (b :: l) [10] = ((j + 1 : Nat) : Int) := by rw [hix, hm', hj]; rfl
        have hx3 : ((((j + 1 : Nat) : Int)) == -1) = false := beq_eq_false_iff_ne.2 (by omega)
        rw [hk, Lib.splitK, hm', hj] at ih
        rw [Lib.splitK, hx2, hx3]
        simp only [Bool.false_eq_true, if_false, Int.toNat_natCast, Nat.add_zero, List.length_singleton] at ih ⊢
        injection ih with i1 i2
        rw [List.take_succ_cons, i1, show j + 1 + 1 = (j + 1) + 1 from rfl, List.drop_succ_cons, i2]
def linesL (l : List UInt8) : List (List UInt8) := if l = [] then [] else cutL (Lib.trimSuffix l [10])
theorem lines_data (s : ByteArray) : (linesB s).map (fun x : ByteArray => x.data.toList) = linesL s.data.toList := by
  unfold linesB linesL
  by_cases h : s.toList = []
  · rw [if_pos h, if_pos (by rw [← ByteArray.toList_eq]; exact h)]; rfl
  · rw [if_neg h, if_neg (by rw [← ByteArray.toList_eq]; exact h), Lib.splitB_data, ← split_cut]
    rfl
theorem trim_lf (x : List UInt8) : Lib.trimSuffix (x ++ [10]) [10] = x := by
  unfold Lib.trimSuffix Lib.hasSuffix
  simp
theorem trim_other (x : List UInt8) (h : x.getLast? ≠ some 10) : Lib.trimSuffix x [10] = x := by
  unfold Lib.trimSuffix
  rw [if_neg]
  unfold Lib.hasSuffix
  intro hs
  apply h
  obtain ⟨t, ht⟩ := List.isSuffixOf_iff_suffix.1 hs
  rw [← ht]; simp
def unl (ls : List (List UInt8)) : List UInt8 := ls.flatMap fun s => s ++ [10]
theorem unl_cut : ∀ x, unl (cutL x) = x ++ [10]
  | [] => rfl
  | c :: r => by
    by_cases h : c = 10
    · subst h
      rw [cut_lf]
      show [] ++ [10] ++ unl (cutL r) = _
      rw [unl_cut r]; rfl
    · obtain ⟨x, t, e1, e2⟩ := cut_cons c r h
      have ih := unl_cut r
      rw [e1] at ih
      rw [e2]
      show c :: (x ++ [10]) ++ unl t = _
      have : x ++ [10] ++ unl t = r ++ [10] := ih
      rw [List.cons_append, this]; rfl
theorem cut_no : ∀ x, ∀ y ∈ cutL x, (10 : UInt8) ∉ y
  | [], y, hy => by
    obtain rfl : y = [] := by simpa [cutL] using hy
    simp
  | c :: r, y, hy => by
    by_cases h : c = 10
    · subst h
      rw [cut_lf] at hy
      rcases List.mem_cons.1 hy with rfl | hy
      · simp
      · exact cut_no r y hy
    · obtain ⟨x, t, e1, e2⟩ := cut_cons c r h
      have ih := cut_no r
      rw [e1] at ih
      rw [e2] at hy
      rcases List.mem_cons.1 hy with rfl | hy
      · intro hm
        rcases List.mem_cons.1 hm with e | hm
        · exact h e.symm
        · exact ih x (List.mem_cons_self ..) hm
      · exact ih y (List.mem_cons_of_mem _ hy)
theorem cut_app (a : List UInt8) (ha : (10 : UInt8) ∉ a) (y : List UInt8) : cutL (a ++ 10 :: y) = a :: cutL y := by
  induction a with
  | nil => exact cut_lf y
  | cons c a ih =>
    have hc : c ≠ 10 := fun e => ha (by rw [e]; exact List.mem_cons_self ..)
    have ih := ih (fun h => ha (List.mem_cons_of_mem _ h))
    obtain ⟨x, t, e1, e2⟩ := cut_cons c (a ++ 10 :: y) hc
    rw [ih] at e1
    injection e1 with i1 i2
    rw [List.cons_append, e2, ← i1, ← i2]
theorem cut_one (a : List UInt8) (ha : (10 : UInt8) ∉ a) : cutL a = [a] := by
  induction a with
  | nil => rfl
  | cons c a ih =>
    have hc : c ≠ 10 := fun e => ha (by rw [e]; exact List.mem_cons_self ..)
    have ih := ih (fun h => ha (List.mem_cons_of_mem _ h))
    obtain ⟨x, t, e1, e2⟩ := cut_cons c a hc
    rw [ih] at e1
    injection e1 with i1 i2
    rw [e2, ← i1, ← i2]
def join10 : List (List UInt8) → List UInt8
  | [] => []
  | [a] => a
  | a :: b :: r => a ++ 10 :: join10 (b :: r)
theorem unl_join : ∀ ls, ls ≠ [] → unl ls = join10 ls ++ [10]
  | [], h => absurd rfl h
  | [a], _ => by simp [unl, join10]
  | a :: b :: r, _ => by
    show a ++ [10] ++ unl (b :: r) = _
    rw [unl_join (b :: r) (by simp)]
    simp [join10]
theorem cut_join : ∀ ls, ls ≠ [] → (∀ a ∈ ls, (10 : UInt8) ∉ a) → cutL (join10 ls) = ls
  | [], h, _ => absurd rfl h
  | [a], _, h => cut_one a (h a (List.mem_cons_self ..))
  | a :: b :: r, _, h => by
    show cutL (a ++ 10 :: join10 (b :: r)) = _
    rw [cut_app a (h a (List.mem_cons_self ..)), cut_join (b :: r) (by simp) (fun x hx => h x (List.mem_cons_of_mem _ hx))]
/-- Lines inverts Unlines. -/
theorem lines_unl (ls : List (List UInt8)) (h : ∀ a ∈ ls, (10 : UInt8) ∉ a) : linesL (unl ls) = ls := by
  unfold linesL
  by_cases hn : ls = []
  · subst hn; rfl
  · rw [unl_join ls hn, if_neg (by simp), trim_lf, cut_join ls hn h]
/-- Unlines of the lines. -/
theorem unl_lines (l : List UInt8) : unl (linesL l) = if l = [] then [] else if l.getLast? = some 10 then l else l ++ [10] := by
  unfold linesL
  by_cases h : l = []
  · rw [if_pos h, if_pos h]; rfl
  · rw [if_neg h, if_neg h, unl_cut]
    by_cases h10 : l.getLast? = some 10
    · rw [if_pos h10]
      have e : l = l.dropLast ++ [10] := by
        rw [List.getLast?_eq_some_getLast h] at h10
        have := List.dropLast_concat_getLast h
        rw [Option.some.inj h10] at this
        exact this.symm
      rw [e, trim_lf]
    · rw [if_neg h10, trim_other l h10]
theorem lines_no (l : List UInt8) : ∀ y ∈ linesL l, (10 : UInt8) ∉ y := by
  unfold linesL
  split
  · intro y hy; simp at hy
  · exact cut_no _
/-! ### the fields -/
def isW (b : UInt8) : Bool := b == 32 || b == 9 || b == 10
def fl : List UInt8 → List UInt8 → List (List UInt8)
  | cur, [] => if cur = [] then [] else [cur]
  | cur, c :: r => if isW c = true then (if cur = [] then fl [] r else cur :: fl [] r) else fl (cur ++ [c]) r
theorem fl_nil_ne (cur : List UInt8) (h : cur ≠ []) : fl cur [] = [cur] := by rw [fl.eq_def]; exact if_neg h
theorem fl_w_ne (cur : List UInt8) (c : UInt8) (r : List UInt8) (h : cur ≠ []) (hc : isW c = true) : fl cur (c :: r) = cur :: fl [] r := by
  rw [fl.eq_def]; exact (if_pos hc).trans (if_neg h)
theorem fl_w_nil (c : UInt8) (r : List UInt8) (hc : isW c = true) : fl [] (c :: r) = fl [] r := by
  rw [fl.eq_def]; exact (if_pos hc).trans (if_pos rfl)
theorem fl_chunk : ∀ (x cur y : List UInt8), (∀ b ∈ x, isW b = false) → fl cur (x ++ y) = fl (cur ++ x) y
  | [], cur, y, _ => by simp
  | c :: x, cur, y, h => by
    rw [List.cons_append, fl, if_neg (by rw [h c (List.mem_cons_self ..)]; decide), fl_chunk x _ y (fun b hb => h b (List.mem_cons_of_mem _ hb))]
    simp
theorem fl_lf (cur x y : List UInt8) : fl cur (x ++ 10 :: y) = fl cur x ++ fl [] y := by
  induction x generalizing cur with
  | nil =>
    rw [List.nil_append]
    by_cases h : cur = []
    · subst h; rw [fl_w_nil _ _ (by decide)]; simp [fl]
    · rw [fl_w_ne _ _ _ h (by decide), fl_nil_ne _ h]; rfl
  | cons c x ih =>
    rw [List.cons_append, fl, fl]
    split
    · split
      · exact ih []
      · rw [ih []]; rfl
    · exact ih _
theorem fl_end (cur x : List UInt8) : fl cur (x ++ [10]) = fl cur x := by
  rw [fl_lf]; simp [fl]
theorem fl_cut : ∀ x : List UInt8, (cutL x).flatMap (fl []) = fl [] x := by
  suffices h : ∀ (ls : List (List UInt8)), (∀ y, ls.flatMap (fl []) ++ y = fl [] (unl ls) ++ y) by
    intro x
    have := h (cutL x) []
    rw [List.append_nil, List.append_nil, unl_cut, fl_end] at this
    exact this
  intro ls y
  congr 1
  induction ls with
  | nil => rfl
  | cons a ls ih =>
    show fl [] a ++ ls.flatMap (fl []) = fl [] (a ++ [10] ++ unl ls)
    rw [ih, List.append_assoc, show [10] ++ unl ls = 10 :: unl ls from rfl, fl_lf]
theorem fl_lines (l : List UInt8) : (linesL l).flatMap (fl []) = fl [] l := by
  unfold linesL
  by_cases h : l = []
  · subst h; rfl
  · rw [if_neg h, fl_cut]
    by_cases h10 : l.getLast? = some 10
    · have e : l = l.dropLast ++ [10] := by
        rw [List.getLast?_eq_some_getLast h] at h10
        have := List.dropLast_concat_getLast h
        rw [Option.some.inj h10] at this
        exact this.symm
      rw [e, trim_lf, fl_end]
    · rw [trim_other l h10]
theorem fl_good : ∀ (l cur : List UInt8), (∀ b ∈ cur, isW b = false) → ∀ x ∈ fl cur l, x ≠ [] ∧ ∀ b ∈ x, isW b = false
  | [], cur, h, x, hx => by
    unfold fl at hx
    split at hx
    · simp at hx
    · rename_i hn
      obtain rfl : x = cur := by simpa using hx
      exact ⟨hn, h⟩
  | c :: r, cur, h, x, hx => by
    unfold fl at hx
    split at hx
    · split at hx
      · exact fl_good r [] (by simp) x hx
      · rename_i hn
        rcases List.mem_cons.1 hx with rfl | hx
        · exact ⟨hn, h⟩
        · exact fl_good r [] (by simp) x hx
    · rename_i hc
      refine fl_good r (cur ++ [c]) ?_ x hx
      intro b hb
      rcases List.mem_append.1 hb with hb | hb
      · exact h b hb
      · obtain rfl : b = c := by simpa using hb
        simpa using hc
theorem white_byte (b : UInt8) : white b.toNat = isW b := by
  unfold white isW
  have e : ∀ k : UInt8, (b.toNat == k.toNat) = (b == k) := fun k => by
    by_cases h : b = k
    · subst h; simp
    · rw [beq_eq_false_iff_ne.2 h, beq_eq_false_iff_ne.2 (fun hh => h (UInt8.toNat_inj.1 hh))]
  rw [← e 32, ← e 9, ← e 10]; rfl
theorem high_black (b : UInt8) (h : 128 ≤ b.toNat) : isW b = false := by
  rw [← white_byte]
  unfold white
  simp; omega
theorem step_of (s : ByteArray) (pos : Nat) (c : UInt8) (r : List UInt8) (h : s.data.toList.drop pos = c :: r) :
    (isW c = true → white (Utf8.decode s pos).1 = true ∧ (Utf8.decode s pos).2 = 1) ∧
    (isW c = false → white (Utf8.decode s pos).1 = false ∧ 1 ≤ (Utf8.decode s pos).2 ∧ (Utf8.decode s pos).2 ≤ r.length + 1 ∧ ∀ b ∈ (c :: r).take (Utf8.decode s pos).2, isW b = false) := by
  rw [← Lib.decodeL_drop, h, Lib.decodeL_N]
  have g0 : (c :: r).getD 0 0 = c := rfl
  by_cases ha : c.toNat < 128
  · rw [g0, Lib.decodeN_ascii _ _ _ _ _ ha]
    refine ⟨fun hw => ⟨by rw [white_byte]; exact hw, rfl⟩, fun hw => ⟨by rw [white_byte]; exact hw, Nat.le_refl _, by simp, ?_⟩⟩
    intro b hb
    obtain rfl : b = c := by simpa using hb
    exact hw
  · have hb := high_black c (by omega)
    refine ⟨fun hw => by rw [hb] at hw; exact absurd hw (by decide), fun _ => ?_⟩
    have hc := Lib.decodeN_conts (c :: r).length ((c :: r).getD 0 0).toNat ((c :: r).getD 1 0).toNat ((c :: r).getD 2 0).toNat ((c :: r).getD 3 0).toNat
    have hk := Lib.decodeN_cases (c :: r).length ((c :: r).getD 0 0).toNat ((c :: r).getD 1 0).toNat ((c :: r).getD 2 0).toNat ((c :: r).getD 3 0).toNat
    have hp := Lib.decodeN_ge1 (c :: r).length ((c :: r).getD 0 0).toNat ((c :: r).getD 1 0).toNat ((c :: r).getD 2 0).toNat ((c :: r).getD 3 0).toNat
    have hle := Lib.decodeN_le_n' (c :: r).length ((c :: r).getD 0 0).toNat ((c :: r).getD 1 0).toNat ((c :: r).getD 2 0).toNat ((c :: r).getD 3 0).toNat (by simp)
    generalize hd : Lib.decodeN (c :: r).length ((c :: r).getD 0 0).toNat ((c :: r).getD 1 0).toNat ((c :: r).getD 2 0).toNat ((c :: r).getD 3 0).toNat = d at hc hk hp hle
    obtain ⟨x, n⟩ := d
    simp only at hc hk hp hle ⊢
    have hx : 128 ≤ x := by
      rw [g0] at hk
      simp only [Prod.mk.injEq] at hk
      omega
    refine ⟨?_, hp, by simpa using hle, ?_⟩
    · unfold white; simp; omega
    · intro b hb'
      obtain ⟨j, hj, e⟩ := List.getElem_of_mem hb'
      rw [List.length_take] at hj
      rw [List.getElem_take] at e
      have e' : (c :: r).getD j 0 = b := by rw [List.getD, List.getElem?_eq_getElem (by omega), ← e]; rfl
      apply high_black
      rw [← e']
      have : j = 0 ∨ j = 1 ∨ j = 2 ∨ j = 3 := by omega
      rcases this with rfl | rfl | rfl | rfl
      · rw [g0]; omega
      · have := (hc.1 (by omega)).1; omega
      · have := (hc.2.1 (by omega)).1; omega
      · have := (hc.2.2.1 (by omega)).1; omega
theorem piece_list (s : ByteArray) (a b : Nat) : (s.extract a b).data.toList = Lib.pieceU s.data.toList a b := by rw [T.extract_list]; rfl
theorem spans_fl (s : ByteArray) : ∀ (f pos : Nat) (st : Option Nat) (acc : List (Nat × Nat)), s.size ≤ pos + f → pos ≤ s.size → (∀ a, st = some a → a < pos) →
    (Lib.closeSpans s (Lib.spansFromP white s f pos st acc)).map (fun x => (s.extract x.1 x.2).data.toList) = acc.map (fun x => (s.extract x.1 x.2).data.toList) ++ fl (Lib.openPiece s.data.toList st pos) (s.data.toList.drop pos) := by
  have hl : s.data.toList.length = s.size := rfl
  have hend : ∀ (pos : Nat) (st : Option Nat) (acc : List (Nat × Nat)), pos = s.size → (∀ a, st = some a → a < pos) →
      (Lib.closeSpans s (acc, st)).map (fun x => (s.extract x.1 x.2).data.toList) = acc.map (fun x => (s.extract x.1 x.2).data.toList) ++ fl (Lib.openPiece s.data.toList st pos) (s.data.toList.drop pos) := by
    intro pos st acc hpos hst
    have hd : s.data.toList.drop pos = [] := by rw [List.drop_eq_nil_iff]; omega
    rw [hd]
    cases st with
    | none => simp [Lib.closeSpans, Lib.openPiece, fl]
    | some a =>
      have ha := hst a rfl
      have hne := Lib.pieceU_ne s.data.toList a pos ha (by omega)
      show (acc ++ [(a, s.size)]).map _ = _ ++ fl (Lib.pieceU s.data.toList a pos) []
      rw [fl_nil_ne _ hne, List.map_append, List.map_cons, List.map_nil, piece_list, hpos]
  intro f
  induction f with
  | zero =>
    intro pos st acc hf hp hst
    exact hend pos st acc (by omega) hst
  | succ f ih =>
    intro pos st acc hf hp hst
    unfold Lib.spansFromP
    by_cases hpos : pos < s.size
    · rw [if_pos hpos]
      obtain ⟨c, r, hcr⟩ : ∃ c r, s.data.toList.drop pos = c :: r := by
        cases hd : s.data.toList.drop pos with
        | nil => rw [List.drop_eq_nil_iff] at hd; omega
        | cons c r => exact ⟨c, r, rfl⟩
      have hlen : r.length + 1 = s.size - pos := by
        have := congrArg List.length hcr
        rw [List.length_drop] at this
        simp at this
        omega
      obtain ⟨h1, h2⟩ := step_of s pos c r hcr
      cases hw : isW c with
      | true =>
        obtain ⟨g1, g2⟩ := h1 hw
        have hr : s.data.toList.drop (pos + 1) = r := by rw [← List.drop_drop, hcr]; rfl
        rw [if_pos g1, g2]
        cases st with
        | none =>
          have := ih (pos + 1) none acc (by omega) (by omega) (by intro a h; cases h)
          simp only
          rw [this, hr, hcr]
          show _ ++ fl [] r = _ ++ fl [] (c :: r)
          rw [fl_w_nil _ _ hw]
        | some a =>
          have ha := hst a rfl
          have hne := Lib.pieceU_ne s.data.toList a pos ha (by omega)
          have := ih (pos + 1) none (acc ++ [(a, pos)]) (by omega) (by omega) (by intro a h; cases h)
          simp only
          rw [this, hr, hcr]
          show (acc ++ [(a, pos)]).map _ ++ fl [] r = _ ++ fl (Lib.pieceU s.data.toList a pos) (c :: r)
          rw [fl_w_ne _ _ _ hne hw, List.map_append, List.map_cons, List.map_nil, piece_list, List.append_assoc]
          rfl
      | false =>
        obtain ⟨g1, g2, g3, g4⟩ := h2 hw
        generalize (Utf8.decode s pos).2 = n at g2 g3 g4
        rw [if_neg (by rw [g1]; decide)]
        have hsplit : s.data.toList.drop pos = (s.data.toList.drop pos).take n ++ s.data.toList.drop (pos + n) := by
          rw [← List.drop_drop, List.take_append_drop]
        rw [← hcr] at g4
        cases st with
        | none =>
          have := ih (pos + n) (some pos) acc (by omega) (by omega) (by intro a h; injection h with h; omega)
          simp only
          rw [this]
          conv => rhs; rw [hsplit]
          rw [fl_chunk _ _ _ g4]
          simp [Lib.openPiece, Lib.pieceU]
        | some a =>
          have ha := hst a rfl
          have := ih (pos + n) (some a) acc (by omega) (by omega) (by intro b h; injection h with h; omega)
          simp only
          rw [this]
          conv => rhs; rw [hsplit]
          rw [fl_chunk _ _ _ g4]
          simp only [Lib.openPiece]
          rw [Lib.pieceU_grow _ _ _ _ (by omega)]
    · rw [if_neg hpos]
      exact hend pos st acc (by omega) hst
theorem fields_data (s : ByteArray) : (Lib.goFieldsP white s).map (fun x : ByteArray => x.data.toList) = fl [] s.data.toList := by
  unfold Lib.goFieldsP Lib.spansOfP
  rw [List.map_map]
  have := spans_fl s s.size 0 none [] (by omega) (by omega) (by intro a h; cases h)
  exact this
theorem data_inj {a b : ByteArray} (h : a.data.toList = b.data.toList) : a = b := by
  cases a; cases b; simp_all [Array.toList_inj]
theorem map_data_inj {a b : List ByteArray} (h : a.map (fun x : ByteArray => x.data.toList) = b.map (fun x : ByteArray => x.data.toList)) : a = b :=
  (List.map_inj_right (fun x y h => data_inj h)).1 h
end Txt
end Go.Proofs.YteifffaonigidaaDoor.Pure
