/- The pure statement of LexBack: the tokens of what Write makes of tokens are these tokens; words are words, numbers are the decimals of N; the lines begin with 1, and increase by 1 with each line feed. -/
import Derived.Test.YteifffaonigidaaDoorMx23
import Derived.Test.YteifffaonigidaaDoorPuF
namespace Go.Proofs.YteifffaonigidaaDoor.Pure
open Go.RowKit Go.Proofs.YteifffaonigidaaDoor.M Go.Proofs.YteifffaonigidaaDoorW.PrintWords Go.Proofs.YteifffaonigidaaDoorW.PrintLast
set_option linter.unusedVariables false
namespace Lx
/-- A token as lex makes it (but for its line), with the bytes that it was made of. -/
inductive GoodTok : S42 → List UInt8 → Prop
  | word (w : List UInt8) (h : wordB w = true) (hd : digitB (w.headD 0) = false) : GoodTok ⟨0, ⟨w.toArray⟩, 0, 0⟩ w
  | num (w : List UInt8) (v : Int) (h : intOfText w = (v, true)) (ha : w.all digitB = true) (hn : w ≠ []) (hz : ¬ (1 < w.length ∧ w.headD 0 = 48)) : GoodTok ⟨1, ⟨w.toArray⟩, v, 0⟩ w
  | text (s : List UInt8) : GoodTok ⟨2, ⟨s.toArray⟩, 0, 0⟩ (quoteL s)
  | feed : GoodTok ⟨3, ⟨#[]⟩, 0, 0⟩ [10]
theorem all_tw : ∀ l : List UInt8, (l.takeWhile partB).all partB = true
  | [] => rfl
  | c :: r => by
    rw [List.takeWhile_cons]
    by_cases h : partB c = true
    · rw [if_pos h, List.all_cons, h, all_tw r]; rfl
    · rw [if_neg h]; rfl
def wt (x : Except Int (S42 × Nat)) : Except Int (S42 × Nat × Bool) := match x with | .error e => .error e | .ok (t, n) => .ok (t, n, false)
theorem tok1_wt (c : UInt8) (r : List UInt8) (h : letterB c = true ∨ digitB c = true) : tok1 (c :: r) = wt (wtok (c :: r)) := if_pos h
theorem headD_take (w r : List UInt8) (h : w ≠ []) : (w ++ r).headD 0 = w.headD 0 := by
  cases w with
  | nil => exact absurd rfl h
  | cons c w => rfl
/-- What stands at the head of a text is a good token. -/
theorem tok1_good {l : List UInt8} {t : S42} {n : Nat} {b : Bool} (h : tok1 l = .ok (t, n, b)) : GoodTok t (l.take n) ∧ b = (t.f0 == 3) := by
  cases l with
  | nil => cases h
  | cons c r =>
    unfold tok1 at h
    simp only at h
    by_cases hc : letterB c = true ∨ digitB c = true
    · rw [if_pos hc] at h
      have hp : partB c = true := by rcases hc with h | h; exact part_letter c h; exact part_digit c h
      have hne : (c :: r).takeWhile partB ≠ [] := by rw [List.takeWhile_cons, if_pos hp]; simp
      have hall : ((c :: r).takeWhile partB).all partB = true := by
        exact all_tw (c :: r)
      have htk : (c :: r).take ((c :: r).takeWhile partB).length = (c :: r).takeWhile partB := by
        have := List.takeWhile_append_dropWhile (p := partB) (l := c :: r)
        conv => lhs; rhs; rw [← this]
        rw [List.take_left]
      have hh : ((c :: r).takeWhile partB).headD 0 = c := by rw [List.takeWhile_cons, if_pos hp]; rfl
      cases hw : wtok (c :: r) with
      | error x => rw [hw] at h; cases h
      | ok x =>
        obtain ⟨t', n'⟩ := x
        rw [hw] at h
        injection h with h; injection h with ht h; injection h with hn hb
        subst ht; subst hn; subst hb
        unfold wtok at hw
        rw [show (c :: r).headD 0 = c from rfl] at hw
        split at hw
        · rename_i hd
          split at hw
          · cases hw
          · rename_i hbad
            split at hw
            · rename_i hok
              injection hw with hw; injection hw with ht hn
              subst ht; subst hn
              rw [htk]
              refine ⟨GoodTok.num _ _ (Prod.ext rfl hok) ?_ hne ?_, rfl⟩
              · cases ha : ((c :: r).takeWhile partB).all digitB with
                | true => rfl
                | false => exact absurd (Or.inl ha) hbad
              · rw [hh]; exact fun h => hbad (Or.inr h)
            · cases hw
        · rename_i hd
          split at hw
          · rename_i hok
            injection hw with hw; injection hw with ht hn
            subst ht; subst hn
            rw [htk]
            exact ⟨GoodTok.word _ hok (by rw [hh]; simpa using hd), rfl⟩
          · cases hw
    · rw [if_neg hc] at h
      by_cases h34 : c = 34
      · rw [if_pos h34] at h
        cases hq : qtok (c :: r) with
        | none => rw [hq] at h; cases h
        | some x =>
          obtain ⟨t', n'⟩ := x
          rw [hq] at h
          injection h with h; injection h with ht h; injection h with hn hb
          subst ht; subst hn; subst hb
          unfold qtok at hq
          cases hsq : scanQ ((c :: r).drop 1) with
          | none => rw [hsq] at hq; cases hq
          | some q =>
            rw [hsq, Option.bind_some] at hq
            split at hq
            · rename_i hok
              injection hq with hq; injection hq with h1 h2
              subst h1; subst h2
              have hb := unquote_back _ _ (Prod.ext rfl hok : unquoteL ((c :: r).take (q + 2)) = ((unquoteL ((c :: r).take (q + 2))).1, true))
              rw [← hb]
              rw [hb]
              have := GoodTok.text (unquoteL ((c :: r).take (q + 2))).1
              rw [hb] at this
              exact ⟨this, rfl⟩
            · cases hq
      · rw [if_neg h34] at h
        by_cases h10 : c = 10
        · rw [if_pos h10] at h
          injection h with h; injection h with ht h; injection h with hn hb
          subst ht; subst hn; subst hb; subst h10
          exact ⟨GoodTok.feed, rfl⟩
        · rw [if_neg h10] at h; cases h
theorem word_parts {w : List UInt8} (h : wordB w = true) : w.all partB = true ∧ w ≠ [] ∧ letterB (w.headD 0) = true := by
  unfold wordB at h
  rw [Bool.and_eq_true, Bool.and_eq_true, Bool.and_eq_true] at h
  refine ⟨h.1.1.1, fun e => ?_, h.2⟩
  rw [e] at h
  exact absurd h.1.1.2 (by decide)
theorem digits_parts {w : List UInt8} (h : w.all digitB = true) : w.all partB = true := by
  rw [List.all_eq_true] at h ⊢
  exact fun x hx => part_digit x (h x hx)
/-- What Write makes of a good token is read as this token; a space stands behind it, but behind a line feed. -/
theorem good_read {t : S42} {w : List UInt8} (h : GoodTok t w) (L : Int) (rest : List UInt8) : lexL (tokOut (putL t L) ++ rest) L = (lexL rest (if t.f0 = 3 then L + 1 else L)).map (putL t L :: ·) := by
  have hsp : ∀ c, (32 :: rest).head? = some c → partB c = false := fun c hc => by
    have e : (32 : UInt8) = c := by simpa using hc
    rw [← e]; decide
  cases h with
  | word w hw hd =>
    obtain ⟨h1, h2, h3⟩ := word_parts hw
    have e : tokOut (putL ⟨0, ⟨w.toArray⟩, 0, 0⟩ L) ++ rest = w ++ 32 :: rest := by unfold tokOut putL; rw [if_pos (Or.inl rfl)]; simp
    have hh := headD_take w (32 :: rest) h2
    rw [e]
    obtain ⟨c, w', rfl⟩ : ∃ c w', w = c :: w' := by cases w with | nil => exact absurd rfl h2 | cons c w' => exact ⟨c, w', rfl⟩
    have hw1 := wtok_word (c :: w') (32 :: rest) (takeWhile_app _ _ h1 hsp) (by rw [hh]; exact hd) hw
    have h3' : letterB c = true := h3
    have step := lexL_tok ((c :: w') ++ 32 :: rest) L ⟨0, ⟨(c :: w').toArray⟩, 0, 0⟩ (c :: w').length false (skip_part c (w' ++ 32 :: rest) (part_letter c h3')) (by simp) ((tok1_wt c (w' ++ 32 :: rest) (Or.inl h3')).trans (congrArg wt hw1))
    rw [step, List.drop_left, if_neg (by decide), lexL_white _ _ _ (Or.inl rfl)]
    rfl
  | num w v hv ha hn hz =>
    have h1 := digits_parts ha
    have e : tokOut (putL ⟨1, ⟨w.toArray⟩, v, 0⟩ L) ++ rest = w ++ 32 :: rest := by unfold tokOut putL; rw [if_pos (Or.inr rfl)]; simp
    have hh := headD_take w (32 :: rest) hn
    rw [e]
    obtain ⟨c, w', rfl⟩ : ∃ c w', w = c :: w' := by cases w with | nil => exact absurd rfl hn | cons c w' => exact ⟨c, w', rfl⟩
    have hc : digitB c = true := by rw [List.all_cons, Bool.and_eq_true] at ha; exact ha.1
    have hw1 := wtok_num (c :: w') (32 :: rest) v (takeWhile_app _ _ h1 hsp) (by rw [hh]; exact hc) ha (by rw [hh]; exact hz) hv
    have step := lexL_tok ((c :: w') ++ 32 :: rest) L ⟨1, ⟨(c :: w').toArray⟩, v, 0⟩ (c :: w').length false (skip_part c (w' ++ 32 :: rest) (part_digit c hc)) (by simp) ((tok1_wt c (w' ++ 32 :: rest) (Or.inr hc)).trans (congrArg wt hw1))
    rw [step, List.drop_left, if_neg (by decide), lexL_white _ _ _ (Or.inl rfl), if_neg (show ¬ (1 : Int) = 3 by decide)]
  | text s =>
    have e : tokOut (putL ⟨2, ⟨s.toArray⟩, 0, 0⟩ L) ++ rest = quoteL s ++ 32 :: rest := by unfold tokOut putL; rw [if_neg (show ¬ ((2 : Int) = 0 ∨ (2 : Int) = 1) by decide), if_pos rfl]; simp
    have e2 : quoteL s ++ 32 :: rest = 34 :: (s.flatMap qb ++ [34] ++ 32 :: rest) := by unfold quoteL; simp
    have hq := qtok_quote s (32 :: rest)
    rw [e, lexL_tok _ L ⟨2, ⟨s.toArray⟩, 0, 0⟩ (quoteL s).length false (by rw [e2]; exact skipR_stop 34 _ (by decide) (by decide)) (by rw [e2]; simp) (by
      rw [e2] at hq ⊢
      rw [tok1_quote, hq]), List.drop_left, if_neg (by decide), lexL_white _ _ _ (Or.inl rfl)]
    rfl
  | feed =>
    have e : tokOut (putL ⟨3, ⟨#[]⟩, 0, 0⟩ L) ++ rest = 10 :: rest := by unfold tokOut putL; rw [if_neg (show ¬ ((3 : Int) = 0 ∨ (3 : Int) = 1) by decide), if_neg (show ¬ (3 : Int) = 2 by decide), if_pos rfl]; rfl
    rw [e, lexL_tok (10 :: rest) L ⟨3, ⟨#[]⟩, 0, 0⟩ 1 true (skipR_stop 10 rest (by decide) (by decide)) (by simp) (tok1_lf rest)]
    rfl
/-- The tokens of a text, from a line on. -/
inductive GL : Int → List S42 → Prop
  | fin (L : Int) : GL L [⟨4, ⟨#[]⟩, 0, L⟩]
  | cons (t : S42) (w : List UInt8) (L : Int) (ts : List S42) (h : GoodTok t w) (hr : GL (if t.f0 = 3 then L + 1 else L) ts) : GL L (putL t L :: ts)
theorem good_len {t : S42} {w : List UInt8} (h : GoodTok t w) (L : Int) : (tokOut (putL t L)).length ≤ w.length + 1 ∧ t.f1.size ≤ w.length ∧ t.f0 ≠ 4 := by
  cases h with
  | word w hw hd => exact ⟨by unfold tokOut putL; rw [if_pos (Or.inl rfl)]; simp, by simp [ByteArray.size], by show (0 : Int) ≠ 4; decide⟩
  | num w v hv ha hn hz => exact ⟨by unfold tokOut putL; rw [if_pos (Or.inr rfl)]; simp, by simp [ByteArray.size], by show (1 : Int) ≠ 4; decide⟩
  | text s =>
    refine ⟨by unfold tokOut putL; rw [if_neg (show ¬ ((2 : Int) = 0 ∨ (2 : Int) = 1) by decide), if_pos rfl]; simp, ?_, by show (2 : Int) ≠ 4; decide⟩
    have h1 : ∀ l : List UInt8, l.length ≤ (l.flatMap qb).length := by
      intro l
      induction l with
      | nil => simp
      | cons c l ih =>
        have : 1 ≤ (qb c).length := by unfold qb; split; simp; split; simp; split <;> simp
        simp only [List.flatMap_cons, List.length_append, List.length_cons]
        omega
    have h2 := h1 s
    rw [quote_len]
    have h3 : (⟨s.toArray⟩ : ByteArray).size = s.length := by simp [ByteArray.size]
    show (⟨s.toArray⟩ : ByteArray).size ≤ _
    omega
  | feed => exact ⟨by unfold tokOut putL; rw [if_neg (show ¬ ((3 : Int) = 0 ∨ (3 : Int) = 1) by decide), if_neg (show ¬ (3 : Int) = 2 by decide), if_pos rfl]; simp, by simp [ByteArray.size], by show (3 : Int) ≠ 4; decide⟩
theorem lexL_GL : ∀ (n : Nat) (l : List UInt8) (line : Int) (ts : List S42), l.length ≤ n → lexL l line = .ok ts → GL line ts ∧ (writeL ts).length ≤ 2 * l.length ∧ ∀ t ∈ ts, t.f1.size ≤ l.length
  | n, l, line, ts, hn, h => by
    by_cases he : skipR l = []
    · rw [lexL_end l line he] at h
      injection h with h
      subst h
      refine ⟨GL.fin line, ?_, fun t ht => ?_⟩
      · show (tokOut ⟨4, ⟨#[]⟩, 0, line⟩ ++ []).length ≤ _
        have : tokOut ⟨4, ⟨#[]⟩, 0, line⟩ = [] := by unfold tokOut; rw [if_neg (show ¬ ((4 : Int) = 0 ∨ (4 : Int) = 1) by decide), if_neg (show ¬ (4 : Int) = 2 by decide), if_neg (show ¬ (4 : Int) = 3 by decide)]
        rw [this]; simp
      · rw [List.mem_singleton.1 ht]; exact Nat.zero_le _
    · rw [lexL_step l line he] at h
      have hpos := List.length_pos_iff.2 he
      have hlen := skipR_len l
      cases ht : tok1 (skipR l) with
      | error x => rw [ht] at h; cases h
      | ok x =>
        obtain ⟨t, q, b⟩ := x
        obtain ⟨p1, p2, _⟩ := tok1_pos ht
        obtain ⟨hg, hb⟩ := tok1_good ht
        obtain ⟨g1, g2, g3⟩ := good_len hg line
        have htl : ((skipR l).take q).length = q := by rw [List.length_take]; omega
        rw [htl] at g1 g2
        rw [ht] at h
        simp only at h
        have eb : (if b = true then line + 1 else line) = (if t.f0 = 3 then line + 1 else line) := by
          rw [hb]
          by_cases h3 : t.f0 = 3
          · rw [if_pos h3, if_pos (beq_iff_eq.2 h3)]
          · rw [if_neg h3, if_neg (fun e => h3 (beq_iff_eq.1 e))]
        rw [eb] at h
        cases hr : lexL ((skipR l).drop q) (if t.f0 = 3 then line + 1 else line) with
        | error y => rw [hr] at h; cases h
        | ok ts' =>
          rw [hr] at h
          injection h with h
          subst h
          cases n with
          | zero => omega
          | succ n =>
            have ih := lexL_GL n _ _ ts' (by rw [List.length_drop]; omega) hr
            rw [List.length_drop] at ih
            refine ⟨GL.cons t _ line ts' hg ih.1, ?_, fun y hy => ?_⟩
            · show (tokOut (putL t line) ++ writeL ts').length ≤ _
              rw [List.length_append]; omega
            · rcases List.mem_cons.1 hy with rfl | hy
              · show t.f1.size ≤ _; omega
              · have := ih.2.2 y hy; omega
theorem GL_read {L : Int} {ts : List S42} (h : GL L ts) : lexL (writeL ts) L = .ok ts := by
  induction h with
  | fin L =>
    have : writeL [⟨4, ⟨#[]⟩, 0, L⟩] = [] := by
      show tokOut ⟨4, ⟨#[]⟩, 0, L⟩ ++ [] = []
      unfold tokOut
      rw [if_neg (show ¬ ((4 : Int) = 0 ∨ (4 : Int) = 1) by decide), if_neg (show ¬ (4 : Int) = 2 by decide), if_neg (show ¬ (4 : Int) = 3 by decide)]; rfl
    rw [this]; exact lexL_end _ _ skipR_nil
  | cons t w L ts hg hr ih =>
    show lexL (tokOut (putL t L) ++ writeL ts) L = _
    rw [good_read hg, ih]; rfl
theorem num_pos {w : List UInt8} {v : Int} (h : intOfText w = (v, true)) (ha : w.all digitB = true) : 0 ≤ v ∧ Lib.itoa v = w ∧ v ≤ 9223372036854775807 := by
  obtain ⟨h1, h2, h3⟩ := int_back w v h
  refine ⟨?_, h1, h3⟩
  rcases Int.lt_or_le v 0 with hv | hv
  · rw [← h1] at ha
    unfold Lib.itoa at ha
    rw [if_pos hv, List.all_cons] at ha
    exact absurd ha (by rw [show digitB 45 = false by decide]; simp)
  · exact hv
theorem back_loop (ts : List S42) (hl : ts.length ≤ 1000000) (hsz : ∀ t ∈ ts, t.f1.size ≤ 1000000) : ∀ (d i : Nat) (L : Int), i + d = ts.length → (d = 0 ∨ GL L (ts.drop i)) → 0 ≤ L ∧ L ≤ 1000000 + i →
    ∃ k, taquinlaw09_LexBack.l0 k true ts L (i : Int) = some true
  | 0, i, L, h, _, _ => ⟨0 + 1, by rw [taquinlaw09_LexBack.l0, if_neg (by omega)]⟩
  | d + 1, i, L, h, hg, hL => by
    have hi : i < ts.length := by omega
    have hgl : GL L (ts.drop i) := by rcases hg with hg | hg; omega; exact hg
    have hdr := List.drop_eq_getElem_cons hi
    have hrd := rdT ts i hi
    have hm := hsz _ (List.getElem_mem hi)
    have hw : wrap64 ((ts.length : Int) - 1) = ((ts.length - 1 : Nat) : Int) := by rw [IntWalk.wrap64_in _ (by omega)]; omega
    rw [hdr] at hgl
    generalize ts[i] = x at hgl hrd hm hdr
    generalize hrest : ts.drop (i + 1) = rest at hgl
    have hrl : rest.length = d := by rw [← hrest, List.length_drop]; omega
    cases hgl with
    | fin =>
      have hd : d = 0 := by rw [← hrl]; rfl
      subst hd
      obtain ⟨k, hk⟩ := back_loop ts hl hsz 0 (i + 1) L (by omega) (Or.inl rfl) (by omega)
      have hlast : ((i : Int) == ((ts.length - 1 : Nat) : Int)) = true := beq_iff_eq.2 (by omega)
      refine ⟨k + 1 + 1, ?_⟩
      rw [taquinlaw09_LexBack.l0, if_pos (by omega), if_pos (by omega), hrd]
      dsimp only
      rw [if_pos rfl, hw, hlast, if_neg (by decide), if_neg (by decide), taquinlaw09_LexBack.j2, if_neg (by decide), if_neg (by decide), if_neg (by decide), if_neg (by decide), w1 _ (by omega)]
      exact hk
    | cons t w L ts' hg hr =>
      have hne : d ≠ 0 := by
        rw [← hrl]
        cases hr <;> simp
      obtain ⟨k, hk⟩ := back_loop ts hl hsz d (i + 1) (if t.f0 = 3 then L + 1 else L) (by omega) (Or.inr (by rw [hrest]; exact hr)) (by split <;> omega)
      have hlast : ((i : Int) == ((ts.length - 1 : Nat) : Int)) = false := beq_eq_false_iff_ne.2 (by omega)
      refine ⟨k + 1 + 1, ?_⟩
      rw [taquinlaw09_LexBack.l0, if_pos (by omega), if_pos (by omega)]
      cases hg with
      | word w hwd hd =>
        have W : lex_Word.f ⟨w.toArray⟩ = some true := by unfold lex_Word.f; rw [if_pos (show (⟨w.toArray⟩ : ByteArray).size ≤ 1000000 from hm)]; exact congrArg some hwd
        have hrd2 : rd_T42 ts (i : Int) = (⟨0, ⟨w.toArray⟩, 0, L⟩ : S42) := hrd
        rw [hrd2]
        dsimp only
        rw [if_pos rfl, hw, hlast, if_neg (by decide), if_neg (by decide), taquinlaw09_LexBack.j2, if_neg (by decide), if_pos rfl, W, Option.bind_some, if_pos rfl, w1 _ (by omega)]
        exact hk
      | num w v hv ha hn hz =>
        obtain ⟨n1, n2, n3⟩ := num_pos hv ha
        have D : text_Decimal.f v = some ⟨w.toArray⟩ := by unfold text_Decimal.f; rw [if_pos (by omega), n2]
        have hrd2 : rd_T42 ts (i : Int) = (⟨1, ⟨w.toArray⟩, v, L⟩ : S42) := hrd
        rw [hrd2]
        dsimp only
        rw [if_pos rfl, hw, hlast, if_neg (by decide), if_pos rfl, taquinlaw09_LexBack.j2, if_neg (by decide), if_neg (by decide), if_pos rfl, if_neg (by omega), D, Option.bind_some, if_pos rfl, w1 _ (by omega)]
        exact hk
      | text s =>
        have hrd2 : rd_T42 ts (i : Int) = (⟨2, ⟨s.toArray⟩, 0, L⟩ : S42) := hrd
        rw [hrd2]
        dsimp only
        rw [if_pos rfl, hw, hlast, if_neg (by decide), if_neg (by decide), taquinlaw09_LexBack.j2, if_neg (by decide), if_neg (by decide), if_neg (by decide), if_neg (by decide), w1 _ (by omega)]
        exact hk
      | feed =>
        have hrd2 : rd_T42 ts (i : Int) = (⟨3, ⟨#[]⟩, 0, L⟩ : S42) := hrd
        rw [hrd2]
        dsimp only
        rw [if_pos rfl, hw, hlast, if_neg (by decide), if_neg (by decide), taquinlaw09_LexBack.j2, if_neg (by decide), if_neg (by decide), if_neg (by decide), if_pos rfl, w1 _ (by omega), IntWalk.wrap64_in _ (by omega)]
        exact hk
end Lx
open Lx
theorem LexBack (a0 : ByteArray) : ∃ k, taquinlaw09_LexBack.f k a0 = some true := by
  by_cases h0 : (a0.size : Int) > 5000
  · refine ⟨3, ?_⟩
    unfold taquinlaw09_LexBack.f
    rw [Lx.small_more 3 (by omega), Option.bind_some, if_pos h0]
  have hlen : a0.data.toList.length = a0.size := rfl
  cases ha : lexL a0.data.toList 1 with
  | error y =>
    obtain ⟨e, m⟩ := y
    have he := lexL_err _ _ _ e m (Nat.le_refl _) ha
    refine ⟨3, ?_⟩
    unfold taquinlaw09_LexBack.f
    rw [Lx.small_more 3 (by omega), Option.bind_some, if_neg h0, lex_err a0 e m (by omega) ha, Option.bind_some, if_neg he.1, if_pos rfl]
    simp [he.2.1]
  | ok ts =>
    obtain ⟨g1, g2, g3⟩ := lexL_GL _ _ _ ts (Nat.le_refl _) ha
    have hb := lexL_lines _ _ _ ts (Nat.le_refl _) ha
    have hr := GL_read g1
    have hne : ((ts.length : Int) == 0) = false := by
      refine beq_eq_false_iff_ne.2 ?_
      cases g1 <;> simp <;> omega
    have W : lex_Write.f ts = some ⟨(writeL ts).toArray⟩ := by
      unfold lex_Write.f
      rw [if_pos ⟨List.all_eq_true.2 (fun t ht => decide_eq_true (by have := g3 t ht; omega)), by omega⟩]
    have hws : (⟨(writeL ts).toArray⟩ : ByteArray).size = (writeL ts).length := by simp [ByteArray.size]
    have A := lex_ok ⟨(writeL ts).toArray⟩ ts (by omega) hr
    have S := same_self ts (by omega) (fun t ht => by have := hb.2 t ht; omega)
    obtain ⟨k, hk⟩ := back_loop ts (by omega) (fun t ht => by have := g3 t ht; omega) ts.length 0 1 (by omega) (Or.inr g1) (by omega)
    have hk' : taquinlaw09_LexBack.l0 (k + 3) true ts 1 0 = some true := upL (f := fun k => taquinlaw09_LexBack.l0 k true ts 1 0) (fun k => (taquinlaw09_LexBack.mono_l k).2.1 true ts 1 0) (Nat.le_add_right _ _) hk
    refine ⟨k + 3 + 1, ?_⟩
    unfold taquinlaw09_LexBack.f
    rw [Lx.small_more _ (by omega), Option.bind_some, if_neg h0, lex_ok a0 ts (by omega) ha, Option.bind_some, if_pos rfl, W, Option.bind_some, A, Option.bind_some, if_pos rfl, if_pos rfl, if_pos rfl, S, Option.bind_some, if_pos rfl, hne, taquinlaw09_LexBack.j0, if_neg (by decide)]
    exact hk'
end Go.Proofs.YteifffaonigidaaDoor.Pure
