/- What the reference of layer 2 answers about patterns: In, Pattern, Magic, Plain, Escape as the program's. Plain facts about the printed functions. -/
import Derived.Test.YteifffaonigidaaDoorMx10
import Derived.Test.YteifffaonigidaaDoorMx12
import Derived.Test.YteifffaonigidaaDoorMx13
import Derived.Test.YteifffaonigidaaDoorTxG
import Derived.Test.YteifffaonigidaaDoorTxP
namespace Go.Proofs.YteifffaonigidaaDoor.Pure
open Go.RowKit Go.Proofs.YteifffaonigidaaDoor.M Go.Proofs.YteifffaonigidaaDoorW.PrintWords Go.Proofs.YteifffaonigidaaDoorW.PrintLast
open Go.Proofs.YteifffaonigidaaDoor.PatPlain
set_option linter.unusedVariables false
set_option linter.unusedSimpArgs false
namespace Rf
/-! ### In -/
theorem W3 (i : Nat) (h : i < 4611686018427387904) : wrap64 ((i : Int) + 3) = ((i + 3 : Nat) : Int) := by rw [wIn (by omega)]; omega
theorem in_run (s : ByteArray) (hs : s.size ≤ 60000) (c : UInt8) : ∀ (d i : Nat), s.size ≤ i + d → i ≤ 70000 → Evt (fun k => taquinref02_In.l0 k s (c.toNat : Int) (i : Int)) (inSet (s.data.toList.drop i) c)
  | d, i, hd, hi => by
    by_cases hlt : i < s.size
    · cases d with
      | zero => omega
      | succ d =>
        have hb := btN s i hlt
        have ih1 := in_run s hs c d (i + 1) (by omega) (by omega)
        have one : (∀ h2 : i + 2 < s.size, s[i + 1] ≠ 45) → Evt (fun k => taquinref02_In.j1 k s (c.toNat : Int) (i : Int) false) (inSet (s.data.toList.drop i) c) := fun hm => by
          rw [T.in_one s c i hlt hm]
          by_cases hc : s[i] = c
          · rw [show (s[i] == c) = true from beq_iff_eq.2 hc, Bool.true_or]
            refine (Evt.const true).step fun k => ?_
            simp only [taquinref02_In.j1]
            rw [if_neg (by decide), if_pos (by omega), if_pos (by omega), hb, if_pos (by rw [hc])]
          · rw [show (s[i] == c) = false from beq_eq_false_iff_ne.2 hc, Bool.false_or]
            refine ih1.step fun k => ?_
            simp only [taquinref02_In.j1]
            rw [if_neg (by decide), if_pos (by omega), if_pos (by omega), hb, if_neg (fun h => hc (UInt8.toNat_inj.1 (by omega))), W1 i (by omega)]
        by_cases h2 : i + 2 < s.size
        · have hb1 := btN s (i + 1) (by omega)
          have hb2 := btN s (i + 2) h2
          by_cases hm : s[i + 1] = 45
          · have ih3 := in_run s hs c d (i + 3) (by omega) (by omega)
            rw [T.in_range s c i h2 hm]
            have rest : Evt (fun k => taquinref02_In.j2 k s (c.toNat : Int) (i : Int) false) (inSet (s.data.toList.drop (i + 3)) c) := by
              refine ih3.step fun k => ?_
              simp only [taquinref02_In.j2]
              rw [if_neg (by decide), W3 i (by omega)]
            have key : Evt (fun k => taquinref02_In.j1 k s (c.toNat : Int) (i : Int) true) ((decide (s[i] ≤ c) && decide (c ≤ s[i + 2])) || inSet (s.data.toList.drop (i + 3)) c) := by
              by_cases ha : s[i] ≤ c
              · have ha' := UInt8.le_iff_toNat_le.1 ha
                by_cases hq : c ≤ s[i + 2]
                · have hq' := UInt8.le_iff_toNat_le.1 hq
                  rw [decide_eq_true ha, decide_eq_true hq, Bool.and_true, Bool.true_or]
                  have kt : Evt (fun k => taquinref02_In.j2 k s (c.toNat : Int) (i : Int) true) true := by
                    refine (Evt.const true).step fun k => ?_
                    simp only [taquinref02_In.j2]
                    rw [if_pos trivial]
                  refine kt.step fun k => ?_
                  simp only [taquinref02_In.j1]
                  rw [if_pos trivial, if_pos (by omega), if_pos (by omega), hb, if_pos (by omega), W2 i (by omega), if_pos (by omega), if_pos (by omega), hb2, decide_eq_true (by omega)]
                · have hq' : ¬ c.toNat ≤ s[i + 2].toNat := fun h => hq (UInt8.le_iff_toNat_le.2 h)
                  rw [decide_eq_false hq, Bool.and_false, Bool.false_or]
                  refine rest.step fun k => ?_
                  simp only [taquinref02_In.j1]
                  rw [if_pos trivial, if_pos (by omega), if_pos (by omega), hb, if_pos (by omega), W2 i (by omega), if_pos (by omega), if_pos (by omega), hb2, decide_eq_false (by omega)]
              · have ha' : ¬ s[i].toNat ≤ c.toNat := fun h => ha (UInt8.le_iff_toNat_le.2 h)
                rw [decide_eq_false ha, Bool.false_and, Bool.false_or]
                refine rest.step fun k => ?_
                simp only [taquinref02_In.j1]
                rw [if_pos trivial, if_pos (by omega), if_pos (by omega), hb, if_neg (by omega)]
            refine key.step fun k => ?_
            simp only [taquinref02_In.l0]
            rw [if_pos (by omega), W2 i (by omega), if_pos (by omega), W1 i (by omega), if_pos (by omega), if_pos (by omega), hb1, hm]
            rfl
          · refine (one (fun _ => hm)).step fun k => ?_
            simp only [taquinref02_In.l0]
            rw [if_pos (by omega), W2 i (by omega), if_pos (by omega), W1 i (by omega), if_pos (by omega), if_pos (by omega), hb1, show ((s[i + 1].toNat : Int) == 45) = false from beq_eq_false_iff_ne.2 (fun h => hm (UInt8.toNat_inj.1 (by show _ = 45; omega)))]
        · refine (one (fun h => absurd h h2)).step fun k => ?_
          simp only [taquinref02_In.l0]
          rw [if_pos (by omega), W2 i (by omega), if_neg (by omega)]
    · rw [T.in_end s c i (by omega)]
      refine (Evt.const false).step fun k => ?_
      simp only [taquinref02_In.l0]
      rw [if_neg (by omega)]
theorem In (s : ByteArray) (hs : s.size ≤ 60000) (c : UInt8) : Evt (fun k => taquinref02_In.f k s (c.toNat : Int)) (inSet s.data.toList c) := by
  have h := in_run s hs c s.size 0 (by omega) (by omega)
  rw [List.drop_zero] at h
  exact h.same fun k => rfl
/-! ### what the items are -/
structure Good (x : S84) : Prop where
  kind : (x.f0 = 0 ∧ 0 ≤ x.f1 ∧ x.f1 ≤ 255) ∨ x.f0 = 1 ∨ x.f0 = 2 ∨ x.f0 = 3
  set : x.f2.size ≤ 60000
  text : x.f4.size ≤ 60000
theorem item_good (p : ByteArray) (hp : p.size ≤ 60000) (i : Nat) (hi : i < p.size) : Good (item p i (at1 p i)) := by
  have h4 := text_size p i hi
  have hle := at1_le p i hi
  rw [at1_eq p i hi] at *
  have hset : (setP (part1 p[i] (p.data.toList.drop (i + 1))).1).length ≤ 60000 := by
    have hl : (p.data.toList.drop (i + 1)).length ≤ 60000 := by rw [List.length_drop]; show p.size - _ ≤ _; omega
    unfold part1
    split
    · split <;> simp [setP]
    · split
      · simp [setP]
      · split
        · simp [setP]
        · split
          · split
            · rename_i set neg n hcls
              have := cls_set_le hcls
              simp only [setP]; omega
            · simp [setP]
          · simp [setP]
  refine ⟨?_, ?_, by omega⟩
  · cases hx : (part1 p[i] (p.data.toList.drop (i + 1))).1 with
    | byte b =>
      refine Or.inl ⟨by unfold item; rw [hx]; rfl, ?_, ?_⟩
      · unfold item; rw [hx]; show (0 : Int) ≤ (b.toNat : Int); omega
      · unfold item; rw [hx]; show (b.toNat : Int) ≤ 255; have := b.toNat_lt; omega
    | star => exact Or.inr (Or.inl (by unfold item; rw [hx]; rfl))
    | any => exact Or.inr (Or.inr (Or.inl (by unfold item; rw [hx]; rfl)))
    | cls s n => exact Or.inr (Or.inr (Or.inr (by unfold item; rw [hx]; rfl)))
  · show (⟨(setP (part1 p[i] (p.data.toList.drop (i + 1))).1).toArray⟩ : ByteArray).size ≤ _
    rw [sz]; exact hset
theorem items_good (p : ByteArray) (hp : p.size ≤ 60000) : ∀ (f i : Nat), ∀ x ∈ pitems p f i, Good x
  | 0, i, x, h => by cases h
  | f + 1, i, x, h => by
    rw [pitems] at h
    by_cases hlt : i < p.size
    · rw [if_pos hlt] at h
      rcases List.mem_cons.1 h with rfl | h
      · exact item_good p hp i hlt
      · exact items_good p hp f _ x h
    · rw [if_neg hlt] at h; cases h
theorem items_len (p : ByteArray) : ∀ (f i : Nat), (pitems p f i).length ≤ p.size - i
  | 0, i => by simp [pitems]
  | f + 1, i => by
    rw [pitems]
    by_cases hlt : i < p.size
    · have := items_len p f (i + 1 + (at1 p i).2)
      rw [if_pos hlt, List.length_cons]; omega
    · rw [if_neg hlt]; simp
theorem partsR_map (p : ByteArray) : (partsR p).map toPart = parts p.data.toList := by
  have := parts_map p (p.size + 1) 0 (by omega) (Nat.zero_le _)
  rwa [List.drop_zero] at this
theorem toPart_star {x : S84} (h : Good x) : toPart x = .star ↔ x.f0 = 1 := by
  unfold toPart
  rcases h.kind with ⟨h0, _⟩ | h0 | h0 | h0 <;> rw [h0] <;> simp
theorem fits_ev {x : S84} (hx : Good x) (h1 : x.f0 ≠ 1) (c : UInt8) : Evt (fun k => taquinref02_fits.f k x.f0 x.f1 x.f2 x.f3 x.f4 (c.toNat : Int)) (PatPlain.fits (toPart x) c) := by
  unfold taquinref02_fits.f toPart
  rcases hx.kind with ⟨h0, h2, h3⟩ | h0 | h0 | h0
  · rw [h0, if_pos rfl]
    refine (Evt.const _).same fun k => ?_
    rw [if_neg (by decide), if_neg (by decide)]
    congr 1
    show (x.f1 == (c.toNat : Int)) = (UInt8.ofNat x.f1.toNat == c)
    have e : (UInt8.ofNat x.f1.toNat).toNat = x.f1.toNat := UInt8.toNat_ofNat_of_lt' (by show _ < 256; omega)
    rw [Bool.eq_iff_iff, beq_iff_eq, beq_iff_eq]
    constructor
    · intro h; exact UInt8.toNat_inj.1 (by omega)
    · intro h; rw [← h]; omega
  · exact absurd h0 h1
  · rw [h0, if_neg (by decide), if_neg (by decide), if_pos rfl]
    refine (Evt.const true).same fun k => ?_
    rw [if_pos rfl]
  · rw [h0, if_neg (by decide), if_neg (by decide), if_neg (by decide)]
    refine ((In x.f2 hx.set c).bind (g := fun _ t => some (t != x.f3)) (Evt.const _)).same fun k => ?_
    rw [if_neg (by decide), if_pos rfl]
/-! ### Pattern -/
theorem M_snoc_nil (x : Part) (hx : x ≠ .star) : ∀ ps : List Part, PatPlain.M (ps ++ [x]) [] = false
  | [] => M_one_nil x [] hx
  | y :: ps => by
    by_cases hy : y = .star
    · subst hy; rw [List.cons_append, M_star_nil, M_snoc_nil x hx ps]
    · rw [List.cons_append, M_one_nil y _ hy]
theorem M_snoc_one (x : Part) (hx : x ≠ .star) (c : UInt8) : ∀ (ps : List Part) (t : List UInt8), PatPlain.M (ps ++ [x]) (t ++ [c]) = (PatPlain.M ps t && PatPlain.fits x c)
  | [], t => by
    cases t with
    | nil => rw [List.nil_append, List.nil_append, M_one_cons x [] c [] hx, M_nil]; simp [M_nil]
    | cons d r => rw [List.nil_append, List.cons_append, M_one_cons x [] d _ hx, M_nil, M_nil]; simp
  | y :: ps, t => by
    by_cases hy : y = .star
    · subst hy
      rw [List.cons_append, Bool.eq_iff_iff, M_star_iff, Bool.and_eq_true, M_star_iff]
      constructor
      · rintro ⟨n, hn, h⟩
        by_cases hnt : n ≤ t.length
        · rw [List.drop_append_of_le_length hnt, M_snoc_one x hx c ps, Bool.and_eq_true] at h
          exact ⟨⟨n, hnt, h.1⟩, h.2⟩
        · rw [List.drop_eq_nil_of_le (by simp only [List.length_append, List.length_cons, List.length_nil] at hn ⊢; omega), M_snoc_nil x hx] at h
          exact absurd h (by decide)
      · rintro ⟨⟨n, hn, h⟩, hf⟩
        refine ⟨n, by simp only [List.length_append]; omega, ?_⟩
        rw [List.drop_append_of_le_length hn, M_snoc_one x hx c ps, h, hf]; rfl
    · cases t with
      | nil => rw [List.cons_append, List.nil_append, M_one_cons y _ c [] hy, M_snoc_nil x hx, M_one_nil y ps hy, Bool.and_false, Bool.false_and]
      | cons d r => rw [List.cons_append, List.cons_append, M_one_cons y _ d _ hy, M_snoc_one x hx c ps r, M_one_cons y ps d r hy, Bool.and_assoc]
theorem M_star0 (ps : List Part) : PatPlain.M (ps ++ [.star]) [] = PatPlain.M ps [] := by
  rw [Bool.eq_iff_iff, M_snoc_star]
  constructor
  · rintro ⟨n, _, h⟩; simpa using h
  · intro h; exact ⟨0, Nat.zero_le _, by simpa using h⟩
theorem M_starS (ps : List Part) (t : List UInt8) (c : UInt8) : PatPlain.M (ps ++ [.star]) (t ++ [c]) = (PatPlain.M ps (t ++ [c]) || PatPlain.M (ps ++ [.star]) t) := by
  rw [Bool.eq_iff_iff, M_snoc_star, Bool.or_eq_true, M_snoc_star]
  constructor
  · rintro ⟨n, hn, h⟩
    by_cases hnt : n ≤ t.length
    · rw [List.take_append_of_le_length hnt] at h
      exact Or.inr ⟨n, hnt, h⟩
    · rw [List.take_of_length_le (by simp only [List.length_append, List.length_cons, List.length_nil] at hn ⊢; omega)] at h
      exact Or.inl h
  · rintro (h | ⟨n, hn, h⟩)
    · exact ⟨(t ++ [c]).length, Nat.le_refl _, by rw [List.take_length]; exact h⟩
    · exact ⟨n, by simp only [List.length_append]; omega, by rw [List.take_append_of_le_length hn]; exact h⟩
/-- What the table holds at k behind i parts. -/
def row (xs : List S84) (s : ByteArray) (i k : Nat) : Bool := PatPlain.M ((xs.take i).map toPart) (s.data.toList.take k)
theorem take_sn (s : ByteArray) (k : Nat) (h : k < s.size) : s.data.toList.take (k + 1) = s.data.toList.take k ++ [s[k]] := by
  rw [List.take_succ_eq_append_getElem (by simpa using h)]; rfl
theorem take_x (xs : List S84) (i : Nat) (h : i < xs.length) : (xs.take (i + 1)).map toPart = (xs.take i).map toPart ++ [toPart xs[i]] := by
  rw [List.take_succ_eq_append_getElem h, List.map_append]; rfl
theorem row_star0 (xs : List S84) (s : ByteArray) (i : Nat) (h : i < xs.length) (hs : toPart xs[i] = .star) : row xs s (i + 1) 0 = row xs s i 0 := by
  unfold row
  rw [take_x xs i h, hs, List.take_zero, M_star0]
theorem row_starS (xs : List S84) (s : ByteArray) (i k : Nat) (h : i < xs.length) (hs : toPart xs[i] = .star) (hk : k < s.size) : row xs s (i + 1) (k + 1) = (row xs s i (k + 1) || row xs s (i + 1) k) := by
  unfold row
  rw [take_x xs i h, hs, take_sn s k hk, M_starS]
theorem row_one0 (xs : List S84) (s : ByteArray) (i : Nat) (h : i < xs.length) (hs : toPart xs[i] ≠ .star) : row xs s (i + 1) 0 = false := by
  unfold row
  rw [take_x xs i h, List.take_zero, M_snoc_nil _ hs]
theorem row_oneS (xs : List S84) (s : ByteArray) (i k : Nat) (h : i < xs.length) (hs : toPart xs[i] ≠ .star) (hk : k < s.size) : row xs s (i + 1) (k + 1) = (row xs s i k && PatPlain.fits (toPart xs[i]) s[k]) := by
  unfold row
  rw [take_x xs i h, take_sn s k hk, M_snoc_one _ hs]
theorem rdT84 (xs : List S84) (i : Nat) (h : i < xs.length) : rd_T84 xs (i : Int) = xs[i] := by
  unfold rd_T84; rw [Int.toNat_natCast]; simp [h]
theorem rdB (xs : List Bool) (i : Nat) : rdOf false xs (i : Int) = xs.getD i false := by unfold rdOf; rw [Int.toNat_natCast]
/-- A table. -/
def Tab (xs : List S84) (s : ByteArray) (i : Nat) (t : List Bool) : Prop := t.length = s.size + 1 ∧ ∀ k, k ≤ s.size → t.getD k false = row xs s i k
/-- A table that is being made. -/
def Half (xs : List S84) (s : ByteArray) (i k : Nat) (t : List Bool) : Prop := t.length = s.size + 1 ∧ (∀ j, j < k → t.getD j false = row xs s (i + 1) j) ∧ ∀ j, k ≤ j → t.getD j false = false
theorem getD_set (t : List Bool) (k j : Nat) (b : Bool) (hk : k < t.length) : (t.set k b).getD j false = if j = k then b else t.getD j false := by
  by_cases h : j = k
  · subst h
    rw [if_pos rfl]
    simp [List.getD, hk]
  · rw [if_neg h]
    simp [List.getD, Ne.symm h]
theorem Half.set {xs : List S84} {s : ByteArray} {i k : Nat} {t : List Bool} (h : Half xs s i k t) (hk : k ≤ s.size) {b : Bool} (hb : b = row xs s (i + 1) k) : Half xs s i (k + 1) (t.set k b) := by
  obtain ⟨h1, h2, h3⟩ := h
  refine ⟨by rw [List.length_set]; exact h1, fun j hj => ?_, fun j hj => ?_⟩
  · rw [getD_set _ _ _ _ (by omega)]
    by_cases hjk : j = k
    · rw [if_pos hjk, hjk]; exact hb
    · rw [if_neg hjk]; exact h2 j (by omega)
  · rw [getD_set _ _ _ _ (by omega), if_neg (by omega)]; exact h3 j (by omega)
theorem Half.keep {xs : List S84} {s : ByteArray} {i k : Nat} {t : List Bool} (h : Half xs s i k t) (hb : row xs s (i + 1) k = false) : Half xs s i (k + 1) t := by
  obtain ⟨h1, h2, h3⟩ := h
  refine ⟨h1, fun j hj => ?_, fun j hj => h3 j (by omega)⟩
  by_cases hjk : j = k
  · rw [hjk, hb]; exact h3 k (Nat.le_refl _)
  · exact h2 j (by omega)
theorem Half.done {xs : List S84} {s : ByteArray} {i : Nat} {t : List Bool} (h : Half xs s i (s.size + 1) t) : Tab xs s (i + 1) t := ⟨h.1, fun k hk => h.2.1 k (by omega)⟩
theorem half_start (xs : List S84) (s : ByteArray) (i : Nat) : Half xs s i 0 (List.replicate (s.size + 1) false) := by
  refine ⟨List.length_replicate .., fun j hj => absurd hj (by omega), fun j _ => ?_⟩
  simp [List.getD, List.getElem?_replicate]
  split <;> rfl
section
variable {xs : List S84} {s : ByteArray} (hs : s.size ≤ 60000) (hx : xs.length ≤ 60000) (hg : ∀ x ∈ xs, Good x)
include hs hx hg
theorem inner_run {i : Nat} (hi : i < xs.length) {can : List Bool} (hc : Tab xs s i can) {R : Bool}
    (K : ∀ t, Tab xs s (i + 1) t → Evt (fun k => taquinref02_Pattern.l0 k s xs t ((i + 1 : Nat) : Int)) R) :
    ∀ (d k : Nat) (t : List Bool), k + d = s.size + 1 → Half xs s i k t → Evt (fun n => taquinref02_Pattern.l1 n s xs can (i : Int) t (k : Int)) R
  | 0, k, t, hk, ht => by
    obtain rfl : k = s.size + 1 := by omega
    refine (K t ht.done).step fun n => ?_
    simp only [taquinref02_Pattern.l1]
    rw [if_neg (by omega), W1 i (by omega)]
  | d + 1, k, t, hk, ht => by
    have hks : k ≤ s.size := by omega
    have hgi := hg xs[i] (List.getElem_mem hi)
    have hrd := rdT84 xs i hi
    have hcl := hc.1
    have htl := ht.1
    have next : ∀ t', Half xs s i (k + 1) t' → Evt (fun n => taquinref02_Pattern.l1 n s xs can (i : Int) t' ((k + 1 : Nat) : Int)) R := fun t' h' => inner_run hi hc K d (k + 1) t' (by omega) h'
    have hck := hc.2 k hks
    by_cases h1 : xs[i].f0 = 1
    · have hst := (toPart_star hgi).2 h1
      by_cases hcan : can.getD k false = true
      · have hrow : true = row xs s (i + 1) k := by
          rw [hcan] at hck
          cases k with
          | zero => rw [row_star0 xs s i hi hst, ← hck]
          | succ k => rw [row_starS xs s i k hi hst (by omega), ← hck, Bool.true_or]
        refine (next _ (ht.set hks hrow)).step fun n => ?_
        simp only [taquinref02_Pattern.l1]
        rw [if_pos (by omega), if_pos (by omega), if_pos (by omega), hrd, if_pos h1, if_pos (by omega), if_pos (by omega), rdB, if_pos hcan, if_pos (by omega), Int.toNat_natCast, W1 k (by omega)]
      · have hcan' : can.getD k false = false := by cases h : can.getD k false; rfl; exact absurd h hcan
        rw [hcan'] at hck
        cases k with
        | zero =>
          have hrow : false = row xs s (i + 1) 0 := by rw [row_star0 xs s i hi hst, ← hck]
          refine (next _ (ht.set hks hrow)).step fun n => ?_
          simp only [taquinref02_Pattern.l1]
          rw [if_pos (by omega), if_pos (by omega), if_pos (by omega), hrd, if_pos h1, if_pos (by omega), if_pos (by omega), rdB, if_neg hcan, if_neg (by omega), if_pos (by omega), Int.toNat_natCast, W1 0 (by omega)]
        | succ k =>
          have hm : wrap64 (((k + 1 : Nat) : Int) - 1) = ((k : Nat) : Int) := by rw [wIn (by omega)]; omega
          have hrow : t.getD k false = row xs s (i + 1) (k + 1) := by rw [row_starS xs s i k hi hst (by omega), ← hck, Bool.false_or]; exact ht.2.1 k (by omega)
          refine (next _ (ht.set hks hrow)).step fun n => ?_
          simp only [taquinref02_Pattern.l1]
          rw [if_pos (by omega), if_pos (by omega), if_pos (by omega), hrd, if_pos h1, if_pos (by omega), if_pos (by omega), rdB, if_neg hcan, if_pos (by omega), hm, if_pos (by omega), if_pos (by omega), if_pos (by omega), rdB, Int.toNat_natCast, W1 (k + 1) (by omega)]
    · have hst : toPart xs[i] ≠ .star := fun h => h1 ((toPart_star hgi).1 h)
      cases k with
      | zero =>
        refine (next _ (ht.keep (row_one0 xs s i hi hst))).step fun n => ?_
        simp only [taquinref02_Pattern.l1]
        rw [if_pos (by omega), if_pos (by omega), if_pos (by omega), hrd, if_neg h1, if_neg (by omega), W1 0 (by omega)]
      | succ k =>
        have hks' : k < s.size := by omega
        have hm : wrap64 (((k + 1 : Nat) : Int) - 1) = ((k : Nat) : Int) := by rw [wIn (by omega)]; omega
        have hck0 := hc.2 k (by omega)
        have hb := btN s k hks'
        have hrs := row_oneS xs s i k hi hst hks'
        by_cases hcan : can.getD k false = true
        · rw [← hck0, hcan, Bool.true_and] at hrs
          refine ((fits_ev hgi h1 s[k]).bind (g := fun n r => taquinref02_Pattern.l1 n s xs can (i : Int) (t.set (k + 1) r) ((k + 1 + 1 : Nat) : Int)) (next _ (ht.set hks hrs.symm))).step fun n => ?_
          simp only [taquinref02_Pattern.l1]
          rw [if_pos (by omega), if_pos (by omega), if_pos (by omega), hrd, if_neg h1, if_pos (by omega), hm, if_pos (by omega), if_pos (by omega), rdB, if_pos hcan, if_pos (by omega), hb]
          congr 1
          funext r
          rw [if_pos (by omega), if_pos (by omega), Int.toNat_natCast, W1 (k + 1) (by omega)]
        · have hcan' : can.getD k false = false := by cases h : can.getD k false; rfl; exact absurd h hcan
          rw [← hck0, hcan', Bool.false_and] at hrs
          refine (next _ (ht.set hks hrs.symm)).step fun n => ?_
          simp only [taquinref02_Pattern.l1]
          rw [if_pos (by omega), if_pos (by omega), if_pos (by omega), hrd, if_neg h1, if_pos (by omega), hm, if_pos (by omega), if_pos (by omega), rdB, if_neg hcan, if_pos (by omega), if_pos (by omega), Int.toNat_natCast, W1 (k + 1) (by omega)]
theorem outer_run : ∀ (d i : Nat) (can : List Bool), i + d = xs.length → Tab xs s i can → Evt (fun k => taquinref02_Pattern.l0 k s xs can (i : Int)) (row xs s xs.length s.size)
  | 0, i, can, hi, hc => by
    obtain rfl : i = xs.length := by omega
    have := hc.2 s.size (Nat.le_refl _)
    have hcl := hc.1
    refine (Evt.const _).step fun k => ?_
    simp only [taquinref02_Pattern.l0]
    rw [if_neg (by omega), if_pos (by omega), if_pos (by omega), rdB, this]
  | d + 1, i, can, hi, hc => by
    have hw : wrap64 ((s.size : Int) + 1) = ((s.size + 1 : Nat) : Int) := W1 s.size (by omega)
    have h := inner_run hs hx hg (show i < xs.length by omega) hc (fun t ht => outer_run d (i + 1) t (by omega) ht) (s.size + 1) 0 _ (by omega) (half_start xs s i)
    refine Evt.step (g := fun k => taquinref02_Pattern.l1 k s xs can (i : Int) (List.replicate (s.size + 1) false) ((0 : Nat) : Int)) h fun k => ?_
    simp only [taquinref02_Pattern.l0]
    rw [if_pos (by omega), hw, if_pos (by omega), if_pos (by omega), Int.toNat_natCast]
    rfl
end
theorem tab_start (xs : List S84) (s : ByteArray) : Tab xs s 0 ((List.replicate (s.size + 1) false).set 0 true) := by
  refine ⟨by rw [List.length_set, List.length_replicate], fun k hk => ?_⟩
  rw [getD_set _ _ _ _ (by simp)]
  unfold row
  rw [List.take_zero, List.map_nil, M_nil]
  by_cases h0 : k = 0
  · rw [if_pos h0, h0]; rfl
  · have hl : s.data.toList.length = s.size := rfl
    rw [if_neg h0]
    have h1 : (s.data.toList.take k).length = k := by rw [List.length_take]; omega
    have h2 : (s.data.toList.take k).isEmpty = false := by
      cases h : s.data.toList.take k with
      | nil => rw [h] at h1; simp at h1; omega
      | cons a b => rfl
    rw [h2]
    simp [List.getD, List.getElem?_replicate]
    split <;> rfl
theorem Pattern (p s : ByteArray) (hp : p.size ≤ 60000) (hs : s.size ≤ 60000) : Evt (fun k => taquinref02_Pattern.f k p s) (PatPlain.M (parts p.data.toList) s.data.toList) := by
  have hl := items_len p (p.size + 1) 0
  have h := outer_run (xs := partsR p) (s := s) hs (by unfold partsR; omega) (items_good p hp _ _) (partsR p).length 0 _ (by omega) (tab_start (partsR p) s)
  have hl2 : s.data.toList.length = s.size := rfl
  unfold row at h
  rw [List.take_length, List.take_of_length_le (by omega), partsR_map] at h
  have hw : wrap64 ((s.size : Int) + 1) = ((s.size + 1 : Nat) : Int) := W1 s.size (by omega)
  refine h.same fun k => ?_
  unfold taquinref02_Pattern.f taquinref02_Parts.f
  rw [if_pos hp, Option.bind_some, hw, if_pos (by omega), if_pos (by omega), Option.bind_some, if_pos (by rw [List.length_replicate]; omega), Int.toNat_natCast]
  rfl
end Rf
end Go.Proofs.YteifffaonigidaaDoor.Pure
