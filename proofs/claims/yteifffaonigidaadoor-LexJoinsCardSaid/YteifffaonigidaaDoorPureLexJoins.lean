/- LexJoins: two sources with a line feed between them have the tokens of the first without its end, a line feed, and those of the second on later lines, or its error on a later line: the law returns true for every two strings. -/
import Derived.Test.YteifffaonigidaaDoorJnB
namespace Go.Proofs.YteifffaonigidaaDoor.Pure
open Go.RowKit Go.Proofs.YteifffaonigidaaDoor.M Go.Proofs.YteifffaonigidaaDoorW.PrintWords Go.Proofs.YteifffaonigidaaDoorW.PrintLast
set_option linter.unusedVariables false
namespace Lx
def addL (a : Int) (t : S42) : S42 := ⟨t.f0, t.f1, t.f2, t.f3 + a⟩
theorem lex_shift (a : Int) : ∀ (n : Nat) (l : List UInt8) (line : Int), l.length ≤ n → lexL l (line + a) = match lexL l line with
    | .ok ts => .ok (ts.map (addL a))
    | .error (e, m) => .error (e, m + a)
  | n, l, line, hn => by
    by_cases he : skipR l = []
    · rw [lexL_end l _ he, lexL_end l _ he]; rfl
    · rw [lexL_step l _ he, lexL_step l line he]
      have hpos := List.length_pos_iff.2 he
      have hlen := skipR_len l
      cases ht : tok1 (skipR l) with
      | error x => rfl
      | ok x =>
        obtain ⟨t, q, b⟩ := x
        obtain ⟨p1, p2, _⟩ := tok1_pos ht
        simp only
        cases n with
        | zero => omega
        | succ n =>
          have ih := lex_shift a n ((skipR l).drop q) (if b = true then line + 1 else line) (by rw [List.length_drop]; omega)
          have e : (if b = true then line + a + 1 else line + a) = (if b = true then line + 1 else line) + a := by split <;> omega
          rw [e, ih]
          cases lexL ((skipR l).drop q) (if b = true then line + 1 else line) with
          | ok ts => rfl
          | error y => rfl
theorem tail_lf (b : List UInt8) : Tail (10 :: b) (10 :: b) := by
  refine ⟨?_, ?_, ?_⟩
  · intro x hx
    have e : (10 : UInt8) = x := by simpa using hx
    rw [← e]; decide
  · exact skipR_stop 10 b (by decide) (by decide)
  · rw [List.dropWhile_cons, if_neg (by decide)]
    exact skipR_stop 10 b (by decide) (by decide)
theorem lex_lf (b : List UInt8) (L : Int) : lexL (10 :: b) L = (lexL b (L + 1)).map (⟨3, ⟨#[]⟩, 0, L⟩ :: ·) := by
  rw [lexL_tok (10 :: b) L ⟨3, ⟨#[]⟩, 0, 0⟩ 1 true (skipR_stop 10 b (by decide) (by decide)) (by simp) (tok1_lf b)]
  rfl
theorem shift_add (x : List S42) (a : Int) (ha : 0 ≤ a ∧ a ≤ 1000000) (h : ∀ t ∈ x, 0 ≤ t.f3 ∧ t.f3 ≤ 1000000) : x.map (shiftT a) = x.map (addL a) := by
  apply List.map_congr_left
  intro t ht
  have := h t ht
  unfold shiftT addL
  rw [IntWalk.wrap64_in _ (by omega)]
theorem bapp' (x y : ByteArray) : (x ++ y).data.toList = x.data.toList ++ y.data.toList := by simp
end Lx
end Go.Proofs.YteifffaonigidaaDoor.Pure
namespace Go.Proofs.YteifffaonigidaaDoor.M
open Go.RowKit Go.Proofs.YteifffaonigidaaDoorW.PrintWords Go.Proofs.YteifffaonigidaaDoorW.PrintLast
open Go.Proofs.YteifffaonigidaaDoor.Pure Go.Proofs.YteifffaonigidaaDoor.Pure.Lx
set_option linter.unusedVariables false
def taquinlaw09_LexJoins.f (k : Nat) (a0 a1 : ByteArray) : Option Bool := some true
theorem joins_small (a0 a1 : ByteArray) (w : World) (hLd : LaidP w) (h0 : a0.size ≤ 5000) (h1 : a1.size ≤ 5000) :
    Calls Tryd.prog 6 #[.string a0, .string a1] w fun e w' => e = .returned (.bool true) ∧ Below w.heap.size w w' := by
  have l0 : a0.data.toList.length = a0.size := rfl
  have l1 : a1.data.toList.length = a1.size := rfl
  have s1 : (a0 ++ (⟨#[10]⟩ : ByteArray)).size = a0.size + 1 := ByteArray.size_append ..
  have s2 : ((a0 ++ (⟨#[10]⟩ : ByteArray)) ++ a1).size = (a0 ++ (⟨#[10]⟩ : ByteArray)).size + a1.size := ByteArray.size_append ..
  have hz : ((a0 ++ (⟨#[10]⟩ : ByteArray)) ++ a1).data.toList = a0.data.toList ++ 10 :: a1.data.toList := by rw [bapp', bapp', List.append_assoc]; rfl
  cases ha : lexL a0.data.toList 1 with
  | error y =>
    obtain ⟨e, m⟩ := y
    have he := lexL_err _ _ _ e m (Nat.le_refl _) ha
    have hb : ∃ us f n, lex_Lex.f a1 = some (us, f, n) := by unfold lex_Lex.f; rw [if_pos (by omega)]; exact ⟨_, _, _, rfl⟩
    obtain ⟨us, f, n, hb⟩ := hb
    exact joins_err a0 a1 w hLd h0 h1 e m he.1 (lex_err a0 e m (by omega) ha) us f n hb
  | ok ts =>
    have hbd := lexL_lines _ _ _ ts (Nat.le_refl _) ha
    obtain ⟨p, L, e1, e2⟩ := lex_app (tail_lf a1.data.toList) _ a0.data.toList 1 ts (Nat.le_refl _) ha
    have hL := hbd.2 ⟨4, ⟨#[]⟩, 0, L⟩ (by rw [e1]; simp)
    simp only at hL
    have hlen : ts.length = p.length + 1 := by rw [e1]; simp
    have hpl : ts.length - 1 = p.length := by omega
    have hlast : rd_T42 ts ((p.length : Nat) : Int) = ⟨4, ⟨#[]⟩, 0, L⟩ := by rw [rdT _ _ (by omega)]; simp [e1]
    have hsh := lex_shift L _ a1.data.toList 1 (Nat.le_refl _)
    have hl : (rd_T42 ts ((ts.length - 1 : Nat) : Int)).f3 = L := by rw [hpl, hlast]
    cases hbb : lexL a1.data.toList 1 with
    | error y =>
      obtain ⟨e, m⟩ := y
      have he := lexL_err _ _ _ e m (Nat.le_refl _) hbb
      have hall : lexL ((a0 ++ (⟨#[10]⟩ : ByteArray)) ++ a1).data.toList 1 = .error (e, m + L) := by
        rw [hz, e2, lex_lf, show L + 1 = 1 + L by omega, hsh, hbb]; rfl
      exact joins_errb a0 a1 w hLd h0 h1 ts (lex_ok a0 ts (by omega) ha) (by omega) (by omega) L hl (by omega) e m he.1 (by omega) (lex_err a1 e m (by omega) hbb) (lex_err _ e (m + L) (by omega) hall)
    | ok us =>
      have hbu := lexL_lines _ _ _ us (Nat.le_refl _) hbb
      have hall : lexL ((a0 ++ (⟨#[10]⟩ : ByteArray)) ++ a1).data.toList 1 = .ok (p ++ ⟨3, ⟨#[]⟩, 0, L⟩ :: us.map (addL L)) := by
        rw [hz, e2, lex_lf, show L + 1 = 1 + L by omega, hsh, hbb]; rfl
      obtain ⟨zs, hzs⟩ : ∃ zs, p ++ ⟨3, ⟨#[]⟩, 0, L⟩ :: us.map (addL L) = zs := ⟨_, rfl⟩
      rw [hzs] at hall
      have hzl : zs.length = ts.length + us.length := by rw [← hzs, hlen]; simp; omega
      have hfeed : rd_T42 zs ((p.length : Nat) : Int) = ⟨3, ⟨#[]⟩, 0, L⟩ := by rw [rdT _ _ (by omega)]; simp [← hzs]
      have ht1 : zs.take p.length = p := by rw [← hzs]; simp
      have ht2 : ts.take p.length = p := by rw [e1]; simp
      have hd : zs.drop ts.length = us.map (addL L) := by rw [hlen, ← hzs, List.drop_append]; simp
      have S1 := same_self p (by omega) (fun t ht => by have := hbd.2 t (by rw [e1]; exact List.mem_append_left _ ht); omega)
      have S2 : taquinref09_Same.f (us.map (addL L)) us L = some true := by
        rw [← shift_add us L (by omega) (fun t ht => by have := hbu.2 t ht; omega)]
        exact same_shift us L (by omega)
      exact joins_both a0 a1 w hLd h0 h1 ts us zs (lex_ok a0 ts (by omega) ha) (by omega) (by omega) (by omega) hzl L hl (by omega) (lex_ok a1 us (by omega) hbb) (lex_ok _ zs (by omega) hall) (by rw [hpl]; exact hfeed) (by rw [hpl, ht1, ht2]; exact S1) (by rw [hd]; exact S2)
theorem taquinlaw09_LexJoins.calls (k : Nat) (a0 a1 : ByteArray) (r : Bool) (w : World) (h : taquinlaw09_LexJoins.f k a0 a1 = some r) (hLd : LaidP w) :
    Calls Tryd.prog 6 #[.string a0, .string a1] w fun e w' => e = .returned (.bool r) ∧ Below w.heap.size w w' := by
  obtain rfl : true = r := Option.some.inj h
  by_cases hbig : a0.size > 5000 ∨ a1.size > 5000
  · exact joins_big a0 a1 w hLd hbig
  · exact joins_small a0 a1 w hLd (by omega) (by omega)
end Go.Proofs.YteifffaonigidaaDoor.M
namespace Go.Proofs.YteifffaonigidaaDoor.Pure
open Go.Proofs.YteifffaonigidaaDoor.M
theorem LexJoins (a0 a1 : ByteArray) : ∃ k, taquinlaw09_LexJoins.f k a0 a1 = some true := ⟨0, rfl⟩
end Go.Proofs.YteifffaonigidaaDoor.Pure
