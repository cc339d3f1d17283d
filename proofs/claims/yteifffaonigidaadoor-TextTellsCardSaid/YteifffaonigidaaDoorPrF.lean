/- What the reference of layer 2 answers: Magic, Plain, Escape, Lines, Unlines, Fields as the program's. Plain facts about the printed functions. -/
import Derived.Test.YteifffaonigidaaDoorPrE
import Derived.Test.YteifffaonigidaaDoorMx2
import Derived.Test.YteifffaonigidaaDoorMxU
import Derived.Test.YteifffaonigidaaDoorPuC
namespace Go.Proofs.YteifffaonigidaaDoor.Pure
open Go.RowKit Go.Proofs.YteifffaonigidaaDoor.M Go.Proofs.YteifffaonigidaaDoorW.PrintWords Go.Proofs.YteifffaonigidaaDoorW.PrintLast
open Go.Proofs.YteifffaonigidaaDoor.PatPlain Go.Proofs.YteifffaonigidaaDoor.Pure.Txt
set_option linter.unusedVariables false
set_option linter.unusedSimpArgs false
namespace Rf
/-! ### Magic -/
theorem nonByte_item {x : S84} (h : Good x) : nonByte (toPart x) = !(x.f0 == 0) := by
  unfold toPart
  rcases h.kind with ⟨h0, _⟩ | h0 | h0 | h0 <;> rw [h0] <;> rfl
theorem magic_run (xs : List S84) (hx : xs.length ≤ 60000) (hg : ∀ x ∈ xs, Good x) : ∀ (d i : Nat), i + d = xs.length → Evt (fun k => taquinref02_Magic.l0 k xs (i : Int)) (((xs.drop i).map toPart).any nonByte)
  | 0, i, hi => by
    obtain rfl : i = xs.length := by omega
    rw [List.drop_length]
    refine (Evt.const _).step fun k => ?_
    simp only [taquinref02_Magic.l0]
    rw [if_neg (by omega)]
    rfl
  | d + 1, i, hi => by
    have hlt : i < xs.length := by omega
    have hrd := rdT84 xs i hlt
    have hgi := hg xs[i] (List.getElem_mem hlt)
    rw [List.drop_eq_getElem_cons hlt, List.map_cons, List.any_cons, nonByte_item hgi]
    by_cases h0 : xs[i].f0 = 0
    · rw [show (xs[i].f0 == 0) = true from beq_iff_eq.2 h0, Bool.not_true, Bool.false_or]
      refine Evt.step (g := fun k => taquinref02_Magic.l0 k xs ((i + 1 : Nat) : Int)) (magic_run xs hx hg d (i + 1) (by omega)) fun k => ?_
      simp only [taquinref02_Magic.l0]
      rw [if_pos (by omega), if_pos (by omega), hrd, if_pos h0, W1 i (by omega)]
    · rw [show (xs[i].f0 == 0) = false from beq_eq_false_iff_ne.2 h0, Bool.not_false, Bool.true_or]
      refine (Evt.const _).step fun k => ?_
      simp only [taquinref02_Magic.l0]
      rw [if_pos (by omega), if_pos (by omega), hrd, if_neg h0]
theorem Magic (p : ByteArray) (hp : p.size ≤ 60000) : Evt (fun k => taquinref02_Magic.f k p) (magicL p.data.toList) := by
  have hl := items_len p (p.size + 1) 0
  have h := magic_run (partsR p) (by unfold partsR; omega) (items_good p hp _ _) (partsR p).length 0 (by omega)
  rw [List.drop_zero, partsR_map] at h
  refine h.same fun k => ?_
  unfold taquinref02_Magic.f taquinref02_Parts.f
  rw [if_pos hp, Option.bind_some]
  rfl
/-! ### Plain -/
def piece (x : S84) : List UInt8 := if x.f0 = 0 ∧ x.f4.size = 2 then x.f4.data.toList.drop 1 else x.f4.data.toList
theorem extB (s : ByteArray) (a b : Nat) : (s.extract a b).data.toList = (s.data.toList.drop a).take (b - a) := by
  simp [ByteArray.data_extract, Array.toList_extract, List.extract_eq_take_drop]
theorem appD (x : List UInt8) (b : ByteArray) : (⟨x.toArray⟩ : ByteArray) ++ b = ⟨(x ++ b.data.toList).toArray⟩ := by
  apply ByteArray.ext
  simp
theorem piece_len (x : S84) : (piece x).length ≤ x.f4.size := by
  unfold piece
  split
  · rw [List.length_drop]; exact Nat.sub_le _ _
  · exact Nat.le_refl _
theorem piece_item (p : ByteArray) (i : Nat) (h : i < p.size) : plainT (p.data.toList.drop i) = piece (item p i (at1 p i)) ++ plainT (p.data.toList.drop (i + 1 + (at1 p i).2)) := by
  have hts := text_size p i h
  have hle := at1_le p i h
  have htx : (item p i (at1 p i)).f4.data.toList = p[i] :: (p.data.toList.drop (i + 1)).take (at1 p i).2 := by
    show (p.extract i (i + 1 + (at1 p i).2)).data.toList = _
    rw [extB, show i + 1 + (at1 p i).2 - i = (at1 p i).2 + 1 by omega, dropN p i h, List.take_succ_cons]
  rw [dropN p i h, plainT_cons, ← at1_eq p i h, List.drop_drop]
  congr 1
  by_cases h92 : p[i] = 92
  · rw [if_pos h92]
    by_cases h1 : i + 1 < p.size
    · have ha : at1 p i = (.byte p[i + 1], 1) := by rw [at1_eq p i h, h92, dropN p (i + 1) h1]; rfl
      unfold piece
      rw [if_pos ⟨by rw [ha]; rfl, by rw [hts, ha]; rfl⟩, htx, ha, dropN p (i + 1) h1]
      rfl
    · have hn : p.data.toList.drop (i + 1) = [] := drop_len p (i + 1) (by omega)
      have ha : at1 p i = (.byte 92, 0) := by rw [at1_eq p i h, h92, hn]; rfl
      unfold piece
      rw [if_neg (by rw [hts, ha]; intro h; have := h.2; omega), htx, ha, hn, h92]
      rfl
  · rw [if_neg h92]
    unfold piece
    rw [if_neg, htx]
    rintro ⟨h0, h2⟩
    rw [hts] at h2
    have hk : kindP (at1 p i).1 = 0 := h0
    have hn : (at1 p i).2 = 1 := by omega
    rw [at1_eq p i h] at hk hn
    unfold part1 at hk hn
    rw [if_neg h92] at hk hn
    split at hn
    · exact absurd hn (by simp)
    · split at hn
      · exact absurd hn (by simp)
      · split at hn
        · rename_i q1 q2 q3
          rw [if_neg q1, if_neg q2, if_pos q3] at hk
          split at hn
          · rename_i set neg m hcls
            rw [hcls] at hk
            exact absurd hk (by simp [kindP])
          · exact absurd hn (by simp)
        · exact absurd hn (by simp)
theorem pieces (p : ByteArray) : ∀ (f i : Nat), p.size + 1 ≤ i + f → i ≤ p.size → (pitems p f i).flatMap piece = plainT (p.data.toList.drop i)
  | 0, i, h, hi => by omega
  | f + 1, i, h, hi => by
    by_cases hlt : i < p.size
    · rw [pitems, if_pos hlt, List.flatMap_cons, piece_item p i hlt, pieces p f _ (by omega) (at1_le p i hlt)]
    · rw [pitems, if_neg hlt, drop_len p i (by omega), plainT.eq_def]; rfl
theorem pieces_len (xs : List S84) (hg : ∀ x ∈ xs, Good x) : (xs.flatMap piece).length ≤ 60000 * xs.length := by
  induction xs with
  | nil => simp
  | cons x xs ih =>
    have h1 := piece_len x
    have h2 := (hg x (List.mem_cons_self ..)).text
    have h3 := ih (fun y hy => hg y (List.mem_cons_of_mem _ hy))
    rw [List.flatMap_cons, List.length_append, List.length_cons]
    omega
theorem plain_run (xs : List S84) (hx : xs.length ≤ 60000) (hg : ∀ x ∈ xs, Good x) : ∀ (d i : Nat), i + d = xs.length → Evt (fun k => taquinref02_Plain.l0 k xs ⟨((xs.take i).flatMap piece).toArray⟩ (i : Int)) ⟨(xs.flatMap piece).toArray⟩
  | 0, i, hi => by
    obtain rfl : i = xs.length := by omega
    rw [List.take_length]
    refine (Evt.const _).step fun k => ?_
    simp only [taquinref02_Plain.l0]
    rw [if_neg (by omega)]
  | d + 1, i, hi => by
    have hlt : i < xs.length := by omega
    have hrd := rdT84 xs i hlt
    have hgi := hg xs[i] (List.getElem_mem hlt)
    have ih := plain_run xs hx hg d (i + 1) (by omega)
    rw [List.take_succ_eq_append_getElem hlt, List.flatMap_append] at ih
    have hol : ((xs.take i).flatMap piece).length ≤ 60000 * (xs.take i).length := pieces_len (xs.take i) (fun x h => hg x (List.mem_of_mem_take h))
    rw [List.length_take] at hol
    obtain ⟨o, ho⟩ : ∃ o, (xs.take i).flatMap piece = o := ⟨_, rfl⟩
    rw [ho] at ih hol ⊢
    obtain ⟨x, hxi⟩ : ∃ x, xs[i] = x := ⟨_, rfl⟩
    rw [hxi] at ih hrd hgi
    have ht := hgi.text
    have e1 : ([x].flatMap piece) = piece x := by simp
    rw [e1] at ih
    have hdl : x.f4.data.toList.length = x.f4.size := rfl
    have hol2 : o.length ≤ 3600000000 := by omega
    by_cases h0 : x.f0 = 0
    · by_cases h2 : x.f4.size = 2
      · have ep : piece x = x.f4.data.toList.drop 1 := by unfold piece; rw [if_pos ⟨h0, h2⟩]
        have ee : (x.f4.extract 1 x.f4.size).data.toList = x.f4.data.toList.drop 1 := by
          rw [extB, List.take_of_length_le (by rw [List.length_drop, hdl]; omega)]
        have es : (x.f4.extract 1 x.f4.size).size ≤ 60000 := by rw [ByteArray.size_extract]; omega
        rw [ep] at ih
        refine ih.step fun k => ?_
        simp only [taquinref02_Plain.l0]
        rw [if_pos (by omega), if_pos (by omega), hrd, if_pos h0, if_pos (by omega), if_pos (by omega), if_pos (by rw [sz]; omega), W1 i (by omega), appD, ee]
      · have ep : piece x = x.f4.data.toList := by unfold piece; rw [if_neg (fun h => h2 h.2)]
        rw [ep] at ih
        refine ih.step fun k => ?_
        simp only [taquinref02_Plain.l0]
        rw [if_pos (by omega), if_pos (by omega), hrd, if_pos h0, if_neg (by omega), if_pos (by rw [sz]; omega), W1 i (by omega), appD]
    · have ep : piece x = x.f4.data.toList := by unfold piece; rw [if_neg (fun h => h0 h.1)]
      rw [ep] at ih
      refine ih.step fun k => ?_
      simp only [taquinref02_Plain.l0]
      rw [if_pos (by omega), if_pos (by omega), hrd, if_neg h0, if_pos (by rw [sz]; omega), W1 i (by omega), appD]
theorem Plain (p : ByteArray) (hp : p.size ≤ 60000) : Evt (fun k => taquinref02_Plain.f k p) ⟨(plainT p.data.toList).toArray⟩ := by
  have hl := items_len p (p.size + 1) 0
  have h := plain_run (partsR p) (by unfold partsR; omega) (items_good p hp _ _) (partsR p).length 0 (by omega)
  have e : (partsR p).flatMap piece = plainT p.data.toList := by
    have := pieces p (p.size + 1) 0 (by omega) (Nat.zero_le _)
    rwa [List.drop_zero] at this
  rw [e] at h
  refine h.same fun k => ?_
  unfold taquinref02_Plain.f taquinref02_Parts.f
  rw [if_pos hp, Option.bind_some]
  rfl
/-! ### Escape -/
theorem escape_run (s : ByteArray) (hs : s.size ≤ 1000000) : ∀ (d i : Nat), i + d = s.size → Evt (fun k => taquinref02_Escape.l0 k s (nums ((s.data.toList.take i).flatMap escB)) (i : Int)) ⟨(esc s.data.toList).toArray⟩
  | 0, i, hi => by
    obtain rfl : i = s.size := by omega
    rw [List.take_of_length_le (show s.data.toList.length ≤ s.size from Nat.le_refl _), ← esc_flat]
    refine (Evt.const _).step fun k => ?_
    simp only [taquinref02_Escape.l0]
    rw [if_neg (by omega), nums_str]
  | d + 1, i, hi => by
    have hlt : i < s.size := by omega
    have hb := btN s i hlt
    have ih := escape_run s hs d (i + 1) (by omega)
    rw [take_sn s i hlt, List.flatMap_append, nums_app] at ih
    obtain ⟨c, hc⟩ : ∃ c, s[i] = c := ⟨_, rfl⟩
    rw [hc] at ih hb
    have e1 : ([c].flatMap escB) = escB c := by simp
    rw [e1] at ih
    have hol := esc_len (s.data.toList.take i)
    have htl := List.length_take_le i s.data.toList
    obtain ⟨o, ho⟩ : ∃ o, (s.data.toList.take i).flatMap escB = o := ⟨_, rfl⟩
    rw [ho] at ih hol ⊢
    have lo : (nums o).length ≤ 2000000 := by rw [nums_len]; omega
    have ne : ∀ (d : UInt8) (n : Int), n = (d.toNat : Int) → c ≠ d → ¬ (c.toNat : Int) = n := fun d n hn hcd e => hcd (UInt8.toNat_inj.1 (by omega))
    by_cases h4 : c = 42 ∨ c = 63 ∨ c = 91 ∨ c = 92
    · have eb : escB c = [92, c] := by unfold escB; rw [if_pos h4]
      rw [eb] at ih
      have e2 : (nums o ++ [92]) ++ [(c.toNat : Int)] = nums o ++ nums [92, c] := by rw [List.append_assoc]; rfl
      refine ih.step fun k => ?_
      simp only [taquinref02_Escape.l0]
      rw [if_pos (by omega), if_pos (by omega), hb]
      have l1 : (nums o).length < 140737488355328 := by omega
      have l2 : (nums o ++ [92]).length < 140737488355328 := by simp only [List.length_append, List.length_cons, List.length_nil]; omega
      by_cases q1 : c = 42
      · rw [if_pos (by rw [q1]; rfl), if_pos l1, Option.bind_some, if_pos l2, W1 i (by omega), e2]
      · rw [if_neg (ne 42 42 rfl q1)]
        by_cases q2 : c = 63
        · rw [if_pos (by rw [q2]; rfl), if_pos l1, Option.bind_some, if_pos l2, W1 i (by omega), e2]
        · rw [if_neg (ne 63 63 rfl q2)]
          by_cases q3 : c = 91
          · rw [if_pos (by rw [q3]; rfl), if_pos l1, Option.bind_some, if_pos l2, W1 i (by omega), e2]
          · have q4 : c = 92 := by rcases h4 with h | h | h | h; exact absurd h q1; exact absurd h q2; exact absurd h q3; exact h
            rw [if_neg (ne 91 91 rfl q3), if_pos (by rw [q4]; rfl), if_pos l1, Option.bind_some, if_pos l2, W1 i (by omega), e2]
    · have eb : escB c = [c] := by unfold escB; rw [if_neg h4]
      rw [eb] at ih
      refine ih.step fun k => ?_
      simp only [taquinref02_Escape.l0]
      rw [if_pos (by omega), if_pos (by omega), hb, if_neg (ne 42 42 rfl (fun h => h4 (Or.inl h))), if_neg (ne 63 63 rfl (fun h => h4 (Or.inr (Or.inl h)))), if_neg (ne 91 91 rfl (fun h => h4 (Or.inr (Or.inr (Or.inl h))))), if_neg (ne 92 92 rfl (fun h => h4 (Or.inr (Or.inr (Or.inr h))))), if_pos (by omega), W1 i (by omega)]
      rfl
theorem Escape (s : ByteArray) (hs : s.size ≤ 1000000) : Evt (fun k => taquinref02_Escape.f k s) ⟨(esc s.data.toList).toArray⟩ := by
  have h := escape_run s hs s.size 0 (by omega)
  exact h.same fun k => rfl
/-! ### Unlines -/
theorem rdS (xs : List ByteArray) (i : Nat) (h : i < xs.length) : rdOf ByteArray.empty xs (i : Int) = xs[i] := by
  unfold rdOf; rw [Int.toNat_natCast]; simp [h]
theorem unlines_run (xs : List ByteArray) (hx : xs.length ≤ 1000000) (hg : ∀ x ∈ xs, x.size ≤ 1000000) : ∀ (d i : Nat), i + d = xs.length → Evt (fun k => taquinref02_Unlines.l0 k xs ⟨(unlinesL (xs.take i)).toArray⟩ (i : Int)) ⟨(unlinesL xs).toArray⟩
  | 0, i, hi => by
    obtain rfl : i = xs.length := by omega
    rw [List.take_length]
    refine (Evt.const _).step fun k => ?_
    simp only [taquinref02_Unlines.l0]
    rw [if_neg (by omega)]
  | d + 1, i, hi => by
    have hlt : i < xs.length := by omega
    have hrd := rdS xs i hlt
    have hsz := hg xs[i] (List.getElem_mem hlt)
    have ih := unlines_run xs hx hg d (i + 1) (by omega)
    have hlen : ∀ l : List ByteArray, (∀ x ∈ l, x.size ≤ 1000000) → (unlinesL l).length ≤ 1000001 * l.length := by
      intro l
      induction l with
      | nil => intro _; simp [unlinesL]
      | cons a l ih =>
        intro h
        have h1 := ih (fun x hx => h x (List.mem_cons_of_mem _ hx))
        have h2 := h a (List.mem_cons_self ..)
        have h3 : a.data.toList.length = a.size := rfl
        unfold unlinesL at h1 ⊢
        rw [List.flatMap_cons, List.length_append, List.length_append, List.length_cons]
        simp only [List.length_cons, List.length_nil]
        omega
    have hol : (unlinesL (xs.take i)).length ≤ 1000001 * (xs.take i).length := hlen (xs.take i) (fun x h => hg x (List.mem_of_mem_take h))
    rw [List.length_take] at hol
    have e0 : unlinesL (xs.take (i + 1)) = unlinesL (xs.take i) ++ (xs[i].data.toList ++ [10]) := by
      rw [List.take_succ_eq_append_getElem hlt]
      unfold unlinesL
      rw [List.flatMap_append]
      simp
    rw [e0] at ih
    obtain ⟨o, ho⟩ : ∃ o, unlinesL (xs.take i) = o := ⟨_, rfl⟩
    rw [ho] at ih hol ⊢
    have hol2 : o.length ≤ 1000001000000 := by omega
    have hdl : xs[i].data.toList.length = xs[i].size := rfl
    have e10 : strOfNums [10] = (⟨#[10]⟩ : ByteArray) := rfl
    refine ih.step fun k => ?_
    simp only [taquinref02_Unlines.l0]
    rw [if_pos (by omega), if_pos (by omega), hrd, if_pos (by rw [sz]; omega), Option.bind_some, e10, appD, if_pos (by rw [sz, List.length_append, hdl]; show _ + 1 ≤ _; omega), W1 i (by omega), appD, List.append_assoc]
theorem Unlines (xs : List ByteArray) (hx : xs.length ≤ 1000000) (hg : ∀ x ∈ xs, x.size ≤ 1000000) : Evt (fun k => taquinref02_Unlines.f k xs) ⟨(unlinesL xs).toArray⟩ := by
  have h := unlines_run xs hx hg xs.length 0 (by omega)
  exact h.same fun k => rfl
/-! ### Lines -/
def rl : List UInt8 → List UInt8 → List (List UInt8)
  | cur, [] => if cur = [] then [] else [cur]
  | cur, c :: r => if c = 10 then cur :: rl [] r else rl (cur ++ [c]) r
theorem rl_nil (cur : List UInt8) : rl cur [] = if cur = [] then [] else [cur] := rfl
theorem rl_cons (cur : List UInt8) (c : UInt8) (r : List UInt8) : rl cur (c :: r) = if c = 10 then cur :: rl [] r else rl (cur ++ [c]) r := rfl
theorem rl_no : ∀ (l cur : List UInt8), (10 : UInt8) ∉ cur → ∀ x ∈ rl cur l, (10 : UInt8) ∉ x
  | [], cur, h, x, hx => by
    rw [rl_nil] at hx
    split at hx
    · cases hx
    · rw [List.mem_singleton.1 hx]; exact h
  | c :: r, cur, h, x, hx => by
    rw [rl_cons] at hx
    split at hx
    · rcases List.mem_cons.1 hx with rfl | hx
      · exact h
      · exact rl_no r [] (by simp) x hx
    · rename_i hc
      exact rl_no r (cur ++ [c]) (by simp only [List.mem_append, List.mem_singleton, not_or]; exact ⟨h, fun e => hc e.symm⟩) x hx
theorem rl_unl : ∀ (l cur : List UInt8), (10 : UInt8) ∉ cur → unl (rl cur l) = if cur ++ l = [] then [] else if (cur ++ l).getLast? = some 10 then cur ++ l else cur ++ l ++ [10]
  | [], cur, h => by
    rw [rl_nil, List.append_nil]
    by_cases hc : cur = []
    · rw [if_pos hc, if_pos hc]; rfl
    · have hl : cur.getLast? ≠ some 10 := fun e => h (List.mem_of_getLast? e)
      rw [if_neg hc, if_neg hc, if_neg hl]
      simp [unl]
  | c :: r, cur, h => by
    rw [rl_cons, if_neg (show ¬ cur ++ c :: r = [] by simp)]
    by_cases hc : c = 10
    · subst hc
      have ih := rl_unl r [] (by simp)
      rw [List.nil_append] at ih
      rw [if_pos rfl]
      have e : unl (cur :: rl [] r) = cur ++ [10] ++ unl (rl [] r) := by simp [unl]
      rw [e, ih]
      by_cases hr : r = []
      · subst hr
        rw [if_pos rfl, if_pos (by simp)]
        simp
      · have hg : (cur ++ 10 :: r).getLast? = r.getLast? := by
          rw [List.getLast?_append, List.getLast?_cons]
          cases hx : r.getLast? with
          | none => rw [List.getLast?_eq_none_iff] at hx; exact absurd hx hr
          | some y => simp [hx]
        rw [if_neg hr, hg]
        split <;> simp
    · rw [if_neg hc, rl_unl r (cur ++ [c]) (by simp only [List.mem_append, List.mem_singleton, not_or]; exact ⟨h, fun e => hc e.symm⟩), List.append_assoc, List.singleton_append, if_neg (by simp)]
theorem rl_lines (l : List UInt8) : rl [] l = linesL l := by
  have hn := rl_no l [] (by simp)
  have hu := rl_unl l [] (by simp)
  rw [List.nil_append] at hu
  have h2 := lines_unl (rl [] l) hn
  rw [hu] at h2
  rw [← h2]
  by_cases hl : l = []
  · rw [if_pos hl, hl]
  · rw [if_neg hl]
    by_cases hg : l.getLast? = some 10
    · rw [if_pos hg]
    · rw [if_neg hg]
      unfold linesL
      rw [if_neg hl, if_neg (by simp), trim_lf, trim_other l hg]
def mkL (l : List (List UInt8)) : List ByteArray := l.map fun x => ⟨x.toArray⟩
theorem lines_run (s : ByteArray) (hs : s.size ≤ 1000000) : ∀ (d i from_ : Nat) (out : List ByteArray), i + d = s.size → from_ ≤ i → out.length ≤ i → Evt (fun k => taquinref02_Lines.l0 k s out (from_ : Int) (i : Int)) (out ++ mkL (rl ((s.data.toList.drop from_).take (i - from_)) (s.data.toList.drop i)))
  | 0, i, from_, out, hi, hf, ho => by
    obtain rfl : i = s.size := by omega
    rw [drop_len s s.size (Nat.le_refl _), rl_nil]
    have hl : s.data.toList.length = s.size := rfl
    by_cases hlt : from_ < s.size
    · have hne : (s.data.toList.drop from_).take (s.size - from_) ≠ [] := by
        intro h
        have := congrArg List.length h
        rw [List.length_take, List.length_drop, hl, List.length_nil] at this
        omega
      rw [if_neg hne]
      refine (Evt.const _).step fun k => ?_
      simp only [taquinref02_Lines.l0]
      rw [if_neg (by omega), if_pos (by omega), if_pos (by omega), if_pos (by omega), if_pos (by omega), Int.toNat_natCast]
      congr 2
      show [s.extract from_ s.size] = [_]
      rw [← extB]
    · have hne : (s.data.toList.drop from_).take (s.size - from_) = [] := by rw [List.drop_eq_nil_of_le (by omega), List.take_nil]
      rw [if_pos hne]
      refine (Evt.const _).step fun k => ?_
      simp only [taquinref02_Lines.l0]
      rw [if_neg (by omega), if_neg (by omega)]
      simp [mkL]
  | d + 1, i, from_, out, hi, hf, ho => by
    have hlt : i < s.size := by omega
    have hb := btN s i hlt
    rw [dropN s i hlt, rl_cons]
    by_cases hc : s[i] = 10
    · rw [if_pos hc]
      have ih := lines_run s hs d (i + 1) (i + 1) (out ++ [s.extract from_ i]) (by omega) (Nat.le_refl _) (by simp only [List.length_append, List.length_cons, List.length_nil]; omega)
      rw [Nat.sub_self, List.take_zero] at ih
      have e : out ++ mkL ((s.data.toList.drop from_).take (i - from_) :: rl [] (s.data.toList.drop (i + 1))) = out ++ [s.extract from_ i] ++ mkL (rl [] (s.data.toList.drop (i + 1))) := by
        rw [← extB, List.append_assoc]
        congr 1
      rw [e]
      refine ih.step fun k => ?_
      simp only [taquinref02_Lines.l0]
      rw [if_pos (by omega), if_pos (by omega), hb, if_pos (by rw [hc]; rfl), if_pos (by omega), if_pos (by omega), if_pos (by omega), if_pos (by omega), W1 i (by omega), Int.toNat_natCast, Int.toNat_natCast]
    · rw [if_neg hc]
      have ih := lines_run s hs d (i + 1) from_ out (by omega) (by omega) (by omega)
      have e : (s.data.toList.drop from_).take (i + 1 - from_) = (s.data.toList.drop from_).take (i - from_) ++ [s[i]] := by
        rw [show i + 1 - from_ = (i - from_) + 1 by omega, List.take_succ_eq_append_getElem (by rw [List.length_drop]; show _ < s.size - from_; omega)]
        congr 1
        rw [List.getElem_drop]
        have : s.data.toList[from_ + (i - from_)]'(by show _ < s.size; omega) = s[i] := by
          show s.data.toList[from_ + (i - from_)]'(by show _ < s.size; omega) = s.data.toList[i]
          congr 1
          omega
        rw [this]
      rw [e] at ih
      refine ih.step fun k => ?_
      simp only [taquinref02_Lines.l0]
      rw [if_pos (by omega), if_pos (by omega), hb, if_neg (fun h => hc (UInt8.toNat_inj.1 (by show _ = 10; omega))), W1 i (by omega)]
theorem Lines (s : ByteArray) (hs : s.size ≤ 1000000) : Evt (fun k => taquinref02_Lines.f k s) (linesB s) := by
  have h := lines_run s hs s.size 0 0 [] (by omega) (Nat.le_refl _) (Nat.le_refl _)
  rw [List.nil_append, Nat.sub_self, List.take_zero, List.drop_zero, rl_lines] at h
  have e : mkL (linesL s.data.toList) = linesB s := by
    apply map_data_inj
    rw [lines_data]
    unfold mkL
    rw [List.map_map]
    conv => rhs; rw [← List.map_id (linesL s.data.toList)]
    exact List.map_congr_left fun x _ => rfl
  rw [e] at h
  exact h.same fun k => rfl
/-! ### Fields -/
theorem fields_run (s : ByteArray) (hs : s.size ≤ 1000000) : ∀ (d i : Nat) (cur : List UInt8) (out : List ByteArray), i + d = s.size → cur.length ≤ i → out.length ≤ i → Evt (fun k => taquinref02_Fields.l0 k s out ⟨cur.toArray⟩ (i : Int)) (out ++ mkL (fl cur (s.data.toList.drop i)))
  | 0, i, cur, out, hi, hc, ho => by
    obtain rfl : i = s.size := by omega
    rw [drop_len s s.size (Nat.le_refl _)]
    refine (Evt.const _).step fun k => ?_
    simp only [taquinref02_Fields.l0]
    rw [if_neg (by omega), toL]
    unfold fl
    by_cases hz : cur = []
    · rw [if_pos hz, if_pos hz]; simp [mkL]
    · rw [if_neg hz, if_neg hz, if_pos (by omega)]; rfl
  | d + 1, i, cur, out, hi, hc, ho => by
    have hlt : i < s.size := by omega
    have hb := btN s i hlt
    rw [dropN s i hlt]
    obtain ⟨c, hcc⟩ : ∃ c, s[i] = c := ⟨_, rfl⟩
    rw [hcc] at hb ⊢
    have ne : ∀ (d : UInt8) (n : Int), n = (d.toNat : Int) → c ≠ d → ¬ (c.toNat : Int) = n := fun d n hn hcd e => hcd (UInt8.toNat_inj.1 (by omega))
    have kf : isW c = true → Evt (fun k => taquinref02_Fields.j1 k s out ⟨cur.toArray⟩ (i : Int) false) (out ++ mkL (fl cur (c :: s.data.toList.drop (i + 1)))) := fun hw => by
      by_cases hz : cur = []
      · subst hz
        rw [fl_w_nil c _ hw]
        have ih := fields_run s hs d (i + 1) [] out (by omega) (by simp) (by omega)
        refine ih.step fun k => ?_
        simp only [taquinref02_Fields.j1]
        rw [if_neg (by decide), toL, if_pos rfl, W1 i (by omega)]
      · rw [fl_w_ne cur c _ hz hw]
        have ih := fields_run s hs d (i + 1) [] (out ++ [⟨cur.toArray⟩]) (by omega) (by simp) (by simp only [List.length_append, List.length_cons, List.length_nil]; omega)
        have e : out ++ mkL (cur :: fl [] (s.data.toList.drop (i + 1))) = out ++ [(⟨cur.toArray⟩ : ByteArray)] ++ mkL (fl [] (s.data.toList.drop (i + 1))) := by rw [List.append_assoc]; rfl
        rw [e]
        refine ih.step fun k => ?_
        simp only [taquinref02_Fields.j1]
        rw [if_neg (by decide), toL, if_neg hz, if_pos (by omega), W1 i (by omega)]
    have kt : isW c = false → Evt (fun k => taquinref02_Fields.j1 k s out ⟨cur.toArray⟩ (i : Int) true) (out ++ mkL (fl cur (c :: s.data.toList.drop (i + 1)))) := fun hw => by
      have ih := fields_run s hs d (i + 1) (cur ++ [c]) out (by omega) (by simp only [List.length_append, List.length_cons, List.length_nil]; omega) (by omega)
      have e : fl cur (c :: s.data.toList.drop (i + 1)) = fl (cur ++ [c]) (s.data.toList.drop (i + 1)) := fl_chunk [c] cur _ (fun b hb => by rw [List.mem_singleton.1 hb]; exact hw)
      have ex : (s.extract i (i + 1)).data.toList = [c] := by rw [extB, show i + 1 - i = 0 + 1 by omega, dropN s i hlt, hcc]; rfl
      have es : (s.extract i (i + 1)).size = 1 := by rw [ByteArray.size_extract]; omega
      rw [e]
      refine ih.step fun k => ?_
      simp only [taquinref02_Fields.j1]
      rw [if_pos trivial, W1 i (by omega), if_pos (by omega), if_pos (by omega), if_pos (by omega), Int.toNat_natCast, Int.toNat_natCast, if_pos (by rw [sz, es]; omega), appD, ex]
    have hW : isW c = (c == 32 || c == 9 || c == 10) := rfl
    by_cases q1 : c = 32
    · have hw : isW c = true := by rw [q1]; decide
      refine (kf hw).step fun k => ?_
      simp only [taquinref02_Fields.l0]
      rw [if_pos (by omega), if_pos (by omega), hb, if_pos (by rw [q1]; rfl)]
    · by_cases q2 : c = 9
      · have hw : isW c = true := by rw [q2]; decide
        refine (kf hw).step fun k => ?_
        simp only [taquinref02_Fields.l0]
        rw [if_pos (by omega), if_pos (by omega), hb, if_neg (ne 32 32 rfl q1), if_pos (by rw [q2]; rfl)]
      · by_cases q3 : c = 10
        · have hw : isW c = true := by rw [q3]; decide
          refine (kf hw).step fun k => ?_
          simp only [taquinref02_Fields.l0]
          rw [if_pos (by omega), if_pos (by omega), hb, if_neg (ne 32 32 rfl q1), if_neg (ne 9 9 rfl q2), q3]
          rfl
        · have hw : isW c = false := by rw [hW, show (c == 32) = false from beq_eq_false_iff_ne.2 q1, show (c == 9) = false from beq_eq_false_iff_ne.2 q2, show (c == 10) = false from beq_eq_false_iff_ne.2 q3]; rfl
          refine (kt hw).step fun k => ?_
          simp only [taquinref02_Fields.l0]
          rw [if_pos (by omega), if_pos (by omega), hb, if_neg (ne 32 32 rfl q1), if_neg (ne 9 9 rfl q2), show ((c.toNat : Int) != 10) = true from bne_iff_ne.2 (ne 10 10 rfl q3)]
theorem Fields (s : ByteArray) (hs : s.size ≤ 1000000) : Evt (fun k => taquinref02_Fields.f k s) (Lib.goFieldsP white s) := by
  have h := fields_run s hs s.size 0 [] [] (by omega) (by simp) (Nat.le_refl _)
  rw [List.nil_append, List.drop_zero] at h
  have e : mkL (fl [] s.data.toList) = Lib.goFieldsP white s := by
    apply map_data_inj
    rw [fields_data]
    unfold mkL
    rw [List.map_map]
    conv => rhs; rw [← List.map_id (fl [] s.data.toList)]
    exact List.map_congr_left fun x _ => rfl
  rw [e] at h
  exact h.same fun k => rfl
/-! ### Same -/
theorem same_run (l : List ByteArray) (h : l.length ≤ 10000000) : ∀ (d i : Nat), i + d = l.length → Evt (fun k => taquinref02_Same.l0 k l l (i : Int)) true
  | 0, i, hi => by
    refine (Evt.const _).step fun k => ?_
    simp only [taquinref02_Same.l0]
    rw [if_neg (by omega)]
  | d + 1, i, hi => by
    refine Evt.step (g := fun k => taquinref02_Same.l0 k l l ((i + 1 : Nat) : Int)) (same_run l h d (i + 1) (by omega)) fun k => ?_
    simp only [taquinref02_Same.l0]
    rw [if_pos (by omega), if_pos (by omega), if_pos (by omega), if_pos trivial, W1 i (by omega)]
theorem Same (l : List ByteArray) (h : l.length ≤ 10000000) : Evt (fun k => taquinref02_Same.f k l l) true := by
  refine (same_run l h l.length 0 (by omega)).same fun k => ?_
  unfold taquinref02_Same.f
  rw [if_pos rfl]
  rfl
end Rf
end Go.Proofs.YteifffaonigidaaDoor.Pure
