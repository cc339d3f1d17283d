/- One round of Lex: what the method that next has chosen does. -/
import Derived.Test.YteifffaonigidaaDoorLxG
namespace Go.Proofs.YteifffaonigidaaDoor.M
open Go.RowKit Go.Proofs.YteifffaonigidaaDoorW.PrintWords Go.Proofs.YteifffaonigidaaDoorW.PrintLast
open Go.Proofs.YteifffaonigidaaDoor
set_option linter.unusedVariables false
def lexR (l : List UInt8) : List S42 × Int × Int :=
  match lexL l 1 with
  | .ok ts => (ts, 0, 0)
  | .error (e, n) => ([], e, n)
def lex_Lex.f (a0 : ByteArray) : Option (List S42 × Int × Int) := if a0.size ≤ 1000000 then some (if (a0.size : Int) > 20000 then ([], 6, 0) else lexR a0.data.toList) else none
/-- The loop of Lex, n rounds ahead of its end. -/
def LexRel (src : ByteArray) (w : World) (n : Nat) (wr : World) : Prop :=
  ∃ (k : Nat) (line : Int) (out : List S42), k ≤ src.size ∧ out.length ≤ k + 1 ∧ (1 ≤ line ∧ line ≤ k + 1) ∧ Hid (Scn w.heap.size wr w.heap.size src (k : Int) line out) ∧ Hid (Below w.heap.size w wr) ∧
    ((n = src.size - k + 1 ∧ out.length ≤ k ∧ (∀ t, out.getLast? = some t → t.f0 ≠ 4) ∧ Hid (lexL src.data.toList 1 = (lexL (src.data.toList.drop k) line).map (out ++ ·))) ∨ (n = 0 ∧ (∃ t, out.getLast? = some t ∧ t.f0 = 4) ∧ Hid (lexL src.data.toList 1 = .ok out)))
theorem Scn.new (w : World) (src : ByteArray) : Scn w.heap.size (w.alloc (.cells #[.string src, .int .i64 0, .int .i64 1, .slice none 0 0] 71)) w.heap.size src 0 1 [] :=
  ⟨.slice none 0 0, heap_alloc_new w _, Nat.le_refl _, Kd.R_nil _ _ _ _ _⟩
theorem wtok_err {l : List UInt8} {x : Int} (h : wtok l = .error x) : x ≠ 0 := by
  unfold wtok at h
  split at h
  · split at h
    · injection h with h; omega
    · split at h
      · cases h
      · injection h with h; omega
  · split at h
    · cases h
    · injection h with h; omega
theorem map_err {x : Int × Int} (out : List S42) : (Except.error x : Except (Int × Int) (List S42)).map (out ++ ·) = .error x := rfl
theorem map_two (r : Except (Int × Int) (List S42)) (out : List S42) (t : S42) : (r.map (t :: ·)).map (out ++ ·) = r.map ((out ++ [t]) ++ ·) := by
  cases r with
  | error e => rfl
  | ok l => simp [Except.map]
def StepPost (src : ByteArray) (k k2 : Nat) (line : Int) (out : List S42) (w : World) (e : Ending) (w' : World) : Prop :=
  (e = .returned (.int .i64 0) ∧ ∃ n', n' < src.size - k + 1 ∧ LexRel src w n' w') ∨
    (∃ x, x ≠ 0 ∧ e = .returned (.int .i64 x) ∧ lexL src.data.toList 1 = .error (x, line) ∧ Scn w.heap.size w' w.heap.size src (k2 : Int) line out ∧ Below w.heap.size w w')
theorem lex_step (src : ByteArray) (k k2 : Nat) (line : Int) (out : List S42) (w w3 : World) (hs : src.size ≤ 1000000) (hk : k ≤ src.size) (hk2 : k2 ≤ src.size) (hd : src.data.toList.drop k2 = skipR (src.data.toList.drop k))
    (hol : out.length ≤ k) (hline : 1 ≤ line ∧ line ≤ k + 1) (hrun : lexL src.data.toList 1 = (lexL (src.data.toList.drop k) line).map (out ++ ·)) (hS : Scn w.heap.size w3 w.heap.size src (k2 : Int) line out) (hB : Below w.heap.size w w3) (hLd : LaidP w) :
    Calls Tryd.prog (nextF (src.data.toList.drop k2)) #[.pointer (some ⟨w.heap.size, 0, none⟩)] w3 fun e w' => StepPost src k k2 line out w e w' := by
  have hlen : src.data.toList.length = src.size := rfl
  have hkk : k ≤ k2 := by
    have h1 := skipR_len (src.data.toList.drop k)
    rw [← hd, List.length_drop, List.length_drop] at h1
    omega
  have hn : out.length < 1000000000 := by omega
  by_cases hlt : k2 < src.size
  · have hdr := drop_at src k2 hlt
    have hne : skipR (src.data.toList.drop k) ≠ [] := by rw [← hd, hdr]; simp
    have hstep := lexL_step (src.data.toList.drop k) line hne
    rw [← hd] at hstep
    -- a token
    have good : ∀ (t : S42) (n : Nat) (b : Bool) (w' : World), tok1 (src.data.toList.drop k2) = .ok (t, n, b) → Scn w.heap.size w' w.heap.size src ((k2 + n : Nat) : Int) (if b = true then line + 1 else line) (out ++ [putL t line]) → Below w.heap.size w w' →
        ∃ n', n' < src.size - k + 1 ∧ LexRel src w n' w' := by
      intro t n b w' ht hS' hB'
      obtain ⟨p1, p2, p3⟩ := tok1_pos ht
      rw [List.length_drop, hlen] at p2
      refine ⟨src.size - (k2 + n) + 1, by omega, k2 + n, if b = true then line + 1 else line, out ++ [putL t line], by omega, by simp; omega, ?_, Lib.hid hS', Lib.hid hB', Or.inl ⟨rfl, by simp; omega, ?_, Lib.hid ?_⟩⟩
      · split <;> omega
      · intro t' ht'
        simp at ht'
        subst ht'
        exact p3
      · rw [hrun, hstep, ht]
        simp only
        rw [map_two, List.drop_drop]
    have bad : ∀ (x : Int), tok1 (src.data.toList.drop k2) = .error x → lexL src.data.toList 1 = .error (x, line) := by
      intro x ht
      rw [hrun, hstep, ht]; rfl
    by_cases hc : letterB src[k2] = true ∨ digitB src[k2] = true
    · have hp : partB src[k2] = true := by rcases hc with h | h; exact part_letter _ h; exact part_digit _ h
      have hnf : nextF (src.data.toList.drop k2) = 80 := by rw [hdr]; exact if_pos hc
      have ht1 : tok1 (src.data.toList.drop k2) = (match wtok (src.data.toList.drop k2) with | .error e => .error e | .ok (t, n) => .ok (t, n, false)) := by
        rw [hdr]; exact if_pos hc
      rw [hnf]
      refine (scanner_word.calls w.heap.size w.heap.size src k2 line out w3 hS hn hlt hp hs hB.size (hLd.below hB)).mono ?_
      rintro e w' ⟨hp, hB'⟩
      unfold wPost at hp
      cases hw : wtok (src.data.toList.drop k2) with
      | error x =>
        rw [hw] at hp ht1
        exact Or.inr ⟨x, wtok_err hw, hp.1, bad x ht1, hp.2, hB.trans hB'⟩
      | ok y =>
        obtain ⟨t, n⟩ := y
        rw [hw] at hp ht1
        exact Or.inl ⟨hp.1, good t n false w' ht1 hp.2 (hB.trans hB')⟩
    · by_cases h34 : src[k2] = 34
      · have hnf : nextF (src.data.toList.drop k2) = 81 := by rw [hdr]; exact (if_neg hc).trans (if_pos h34)
        have ht1 : tok1 (src.data.toList.drop k2) = (match qtok (src.data.toList.drop k2) with | none => .error 11 | some (t, n) => .ok (⟨2, ⟨t.toArray⟩, 0, 0⟩, n, false)) := by
          rw [hdr]; exact (if_neg hc).trans (if_pos h34)
        rw [hnf]
        refine (scanner_quoted.calls w.heap.size w.heap.size src k2 line out w3 hS hn hlt hs hB.size).mono ?_
        rintro e w' ⟨hp, hB'⟩
        unfold qPost at hp
        cases hw : qtok (src.data.toList.drop k2) with
        | none =>
          rw [hw] at hp ht1
          exact Or.inr ⟨11, by decide, hp.1, bad 11 ht1, hp.2, hB.trans hB'⟩
        | some y =>
          obtain ⟨t, n⟩ := y
          rw [hw] at hp ht1
          exact Or.inl ⟨hp.1, good _ n false w' ht1 hp.2 (hB.trans hB')⟩
      · by_cases h10 : src[k2] = 10
        · have hnf : nextF (src.data.toList.drop k2) = 82 := by rw [hdr]; exact (if_neg hc).trans ((if_neg h34).trans (if_pos h10))
          have ht1 : tok1 (src.data.toList.drop k2) = .ok (⟨3, ⟨#[]⟩, 0, 0⟩, 1, true) := by
            rw [hdr]; exact (if_neg hc).trans ((if_neg h34).trans (if_pos h10))
          rw [hnf]
          refine (scanner_feed.calls w.heap.size w.heap.size src (k2 : Int) line out w3 hS hn hB.size (by omega) (by omega)).mono ?_
          rintro e w' ⟨he, hS', hB'⟩
          exact Or.inl ⟨he, good _ 1 true w' ht1 (hS'.to_at (by omega)) (hB.trans hB')⟩
        · have hnf : nextF (src.data.toList.drop k2) = 83 := by rw [hdr]; exact (if_neg hc).trans ((if_neg h34).trans (if_neg h10))
          have ht1 : tok1 (src.data.toList.drop k2) = .error 11 := by
            rw [hdr]; exact (if_neg hc).trans ((if_neg h34).trans (if_neg h10))
          rw [hnf]
          refine (scanner_wrong.calls w.heap.size w3).mono ?_
          rintro e w' ⟨he, rfl⟩
          exact Or.inr ⟨11, by decide, he, bad 11 ht1, hS, hB⟩
  · obtain rfl : k2 = src.size := by omega
    have hnil : src.data.toList.drop src.size = [] := List.drop_of_length_le (Nat.le_refl _)
    have hsk : skipR (src.data.toList.drop k) = [] := by rw [← hd, hnil]
    have hnf : nextF (src.data.toList.drop src.size) = 78 := by rw [hnil]; rfl
    rw [hnf]
    refine (scanner_end.calls w.heap.size w.heap.size src _ line out w3 hS hn hB.size).mono ?_
    rintro e w' ⟨he, hS', hB'⟩
    refine Or.inl ⟨he, 0, by omega, src.size, line, out ++ [⟨4, ⟨#[]⟩, 0, line⟩], Nat.le_refl _, by simp; omega, ⟨hline.1, by omega⟩, Lib.hid hS', Lib.hid (hB.trans hB'), Or.inr ⟨rfl, ⟨⟨4, ⟨#[]⟩, 0, line⟩, by simp, rfl⟩, Lib.hid ?_⟩⟩
    rw [hrun, lexL_end _ _ hsk]
    rfl
theorem nextF_cases (l : List UInt8) : nextF l = 78 ∨ nextF l = 80 ∨ nextF l = 81 ∨ nextF l = 82 ∨ nextF l = 83 := by
  unfold nextF
  split
  · exact Or.inl rfl
  · split
    · exact Or.inr (Or.inl rfl)
    · split
      · exact Or.inr (Or.inr (Or.inl rfl))
      · split
        · exact Or.inr (Or.inr (Or.inr (Or.inl rfl)))
        · exact Or.inr (Or.inr (Or.inr (Or.inr rfl)))
end Go.Proofs.YteifffaonigidaaDoor.M
