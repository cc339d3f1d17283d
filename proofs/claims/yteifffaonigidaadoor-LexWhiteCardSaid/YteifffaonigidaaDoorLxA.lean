/- The scanner that a call has made itself ('Scn'), and the contract of its method skip. -/
import Derived.Test.YteifffaonigidaaDoorTxA
import Derived.Test.YteifffaonigidaaDoorTxB
import Derived.Test.YteifffaonigidaaDoorTxI
import Derived.WalkMore
namespace Go.Proofs.YteifffaonigidaaDoor.M
open Go.RowKit Go.Proofs.YteifffaonigidaaDoorW.PrintWords Go.Proofs.YteifffaonigidaaDoorW.PrintLast
set_option linter.unusedVariables false
set_option linter.unusedSimpArgs false

/-- A scanner at block g, made since the heap had base blocks: its source, the place, the line, the tokens so far (a row of its own). -/
def Scn (base : Nat) (w : World) (g : Nat) (src : ByteArray) (at_ line : Int) (out : List S42) : Prop :=
  ∃ v : Value, w.heap[g]? = some (.cells #[.string src, .int .i64 at_, .int .i64 line, v] 71 (0, 0)) ∧ base ≤ g ∧ Kd.R k42 42 w base (fun k => k ≠ g) v out
theorem Scn.set_at {base : Nat} {w : World} {g : Nat} {src : ByteArray} {at_ line : Int} {out : List S42} (h : Scn base w g src at_ line out) (x : Int) : Scn base (w.setCell ⟨g, 1, none⟩ (.int .i64 x)) g src x line out := by
  obtain ⟨v, hb, hg, hr⟩ := h
  exact ⟨v, by simpa using blk_set hb 1 (.int .i64 x), hg, Kd.R_move hr fun k hk => Below.heap_setCell w ⟨g, 1, none⟩ _ k hk⟩
theorem Scn.set_line {base : Nat} {w : World} {g : Nat} {src : ByteArray} {at_ line : Int} {out : List S42} (h : Scn base w g src at_ line out) (x : Int) : Scn base (w.setCell ⟨g, 2, none⟩ (.int .i64 x)) g src at_ x out := by
  obtain ⟨v, hb, hg, hr⟩ := h
  exact ⟨v, by simpa using blk_set hb 2 (.int .i64 x), hg, Kd.R_move hr fun k hk => Below.heap_setCell w ⟨g, 2, none⟩ _ k hk⟩
theorem Scn.below {base : Nat} {w w1 : World} {g : Nat} {src : ByteArray} {at_ line : Int} {out : List S42} (h : Scn base w g src at_ line out) (hb : Below w.heap.size w w1) : Scn base w1 g src at_ line out := by
  obtain ⟨v, hb0, hg, hr⟩ := h
  exact ⟨v, blk_grown hb0 (grown_of_below hb none) (by simp), hg, Kd.R_below hr hb⟩
theorem Scn.drewN {base : Nat} {w : World} {g : Nat} {src : ByteArray} {at_ line : Int} {out : List S42} (h : Scn base w g src at_ line out) (m : Nat) : Scn base (w.drewN m) g src at_ line out := h.below (pw_below_drewN (Below.refl _ _) m)
theorem Scn.to_at {base : Nat} {w : World} {g : Nat} {src : ByteArray} {at_ at' line : Int} {out : List S42} (h : Scn base w g src at_ line out) (e : at_ = at') : Scn base w g src at' line out := e ▸ h

/-! ### skip -/
/-- What is left behind white bytes and comments. -/
def skipF : Nat → List UInt8 → List UInt8
  | 0, l => l
  | _, [] => []
  | n + 1, c :: r => if c = 32 ∨ c = 9 ∨ c = 13 then skipF n r else if c = 35 then skipF n (r.dropWhile (· != 10)) else c :: r
def skipR (l : List UInt8) : List UInt8 := skipF l.length l
theorem dropWhile_len (r : List UInt8) : (r.dropWhile (· != 10)).length ≤ r.length := by
  have := List.dropWhile_suffix (l := r) (· != 10)
  exact this.length_le
theorem skipF_more : ∀ (n : Nat) (l : List UInt8), l.length ≤ n → skipF n l = skipF l.length l
  | 0, [], _ => rfl
  | 0, c :: r, h => by simp at h
  | n + 1, [], _ => rfl
  | n + 1, c :: r, h => by
    have h1 : r.length ≤ n := by simp at h; omega
    have h2 := dropWhile_len r
    rw [List.length_cons]
    simp only [skipF]
    rw [skipF_more n r h1, skipF_more n _ (by omega), skipF_more r.length _ h2]
theorem skipR_white (c : UInt8) (r : List UInt8) (h : c = 32 ∨ c = 9 ∨ c = 13) : skipR (c :: r) = skipR r := by
  unfold skipR; rw [List.length_cons, skipF, if_pos h]
theorem skipR_hash (r : List UInt8) : skipR (35 :: r) = skipR (r.dropWhile (· != 10)) := by
  unfold skipR; rw [List.length_cons, skipF, if_neg (by decide), if_pos rfl, skipF_more _ _ (dropWhile_len r)]
theorem skipR_nil : skipR [] = [] := rfl
theorem skipR_stop (c : UInt8) (r : List UInt8) (h : ¬ (c = 32 ∨ c = 9 ∨ c = 13)) (h2 : c ≠ 35) : skipR (c :: r) = c :: r := by
  unfold skipR; rw [List.length_cons, skipF, if_neg h, if_neg h2]
theorem index_end (l : List UInt8) (h : Lib.indexByte l 10 < 0) : l.dropWhile (· != 10) = [] := by
  induction l with
  | nil => rfl
  | cons c r ih =>
    unfold Lib.indexByte at h
    by_cases hc : c = 10
    · subst hc; simp at h
    · have hge := Lib.indexByte_ge r 10
      have hb : (c == 10) = false := beq_eq_false_iff_ne.2 hc
      rw [hb] at h
      simp only [Bool.false_eq_true, if_false] at h
      have : Lib.indexByte r 10 < 0 := by
        by_cases h1 : Lib.indexByte r 10 = -1
        · omega
        · have hb2 : (Lib.indexByte r 10 == -1) = false := beq_eq_false_iff_ne.2 h1
          rw [hb2] at h
          simp only [Bool.false_eq_true, if_false] at h
          omega
      have hb' : (c != 10) = true := bne_iff_ne.2 hc
      rw [List.dropWhile_cons, if_pos hb', ih this]
theorem index_at (l : List UInt8) (h : 0 ≤ Lib.indexByte l 10) : l.drop (Lib.indexByte l 10).toNat = l.dropWhile (· != 10) ∧ (Lib.indexByte l 10).toNat ≤ l.length := by
  induction l with
  | nil => simp [Lib.indexByte] at h
  | cons c r ih =>
    unfold Lib.indexByte at h ⊢
    by_cases hc : c = 10
    · subst hc; simp [List.dropWhile_cons]
    · have hge := Lib.indexByte_ge r 10
      have hb : (c == 10) = false := beq_eq_false_iff_ne.2 hc
      rw [hb] at h ⊢
      simp only [Bool.false_eq_true, if_false] at h ⊢
      by_cases h1 : Lib.indexByte r 10 = -1
      · rw [h1] at h; simp at h
      · have hb2 : (Lib.indexByte r 10 == -1) = false := beq_eq_false_iff_ne.2 h1
        rw [hb2] at h ⊢
        simp only [Bool.false_eq_true, if_false] at h ⊢
        have ih := ih (by omega)
        have hb' : (c != 10) = true := bne_iff_ne.2 hc
        rw [List.dropWhile_cons, if_pos hb', show (Lib.indexByte r 10 + 1).toNat = (Lib.indexByte r 10).toNat + 1 by omega, List.drop_succ_cons]
        exact ⟨ih.1, by simp; omega⟩
theorem index_pos (c : UInt8) (r : List UInt8) (hc : c ≠ 10) (h : 0 ≤ Lib.indexByte (c :: r) 10) : 1 ≤ Lib.indexByte (c :: r) 10 := by
  unfold Lib.indexByte at h ⊢
  have hb : (c == 10) = false := beq_eq_false_iff_ne.2 hc
  have hge := Lib.indexByte_ge r 10
  rw [hb] at h ⊢
  simp only [Bool.false_eq_true, if_false] at h ⊢
  split at h
  · omega
  · rename_i h1
    rw [if_neg h1]
    have : Lib.indexByte r 10 ≠ -1 := fun e => h1 (by rw [e]; rfl)
    omega
theorem below_setB {b : Nat} {w W : World} {g j : Nat} (h : Below b w W) (hg : b ≤ g) (v : Value) : Below b w (W.setCell ⟨g, j, none⟩ v) := h.setCell hg _
theorem drop_at (s : ByteArray) (k : Nat) (h : k < s.size) : s.data.toList.drop k = s[k] :: s.data.toList.drop (k + 1) := by
  rw [List.drop_eq_getElem_cons (show k < s.data.toList.length from h)]; rfl
theorem skip_hash (s : ByteArray) (k : Nat) (h : k < s.size) (hc : s[k].toNat = 35) : skipR ((s.data.toList.drop k).dropWhile (· != 10)) = skipR (s.data.toList.drop k) := by
  have e : s[k] = 35 := UInt8.toNat_inj.1 hc
  rw [drop_at s k h, e, skipR_hash, List.dropWhile_cons, if_pos (by decide)]
set_option maxHeartbeats 8000000 in
set_option maxRecDepth 100000 in
theorem scanner_skip.calls (base g : Nat) (src : ByteArray) (k0 : Nat) (line : Int) (out : List S42) (w : World) (hS : Scn base w g src (k0 : Int) line out) (hk0 : k0 ≤ src.size) (hs : src.size ≤ 1000000) (hB : base ≤ w.heap.size) :
    Calls Tryd.prog 58 #[.pointer (some ⟨g, 0, none⟩)] w fun e w' => (∃ v, e = .returned v) ∧ ∃ k : Nat, k ≤ src.size ∧ src.data.toList.drop k = skipR (src.data.toList.drop k0) ∧ Scn base w' g src (k : Int) line out ∧ Below base w w' := by
  have HS := Lib.hid hS
  clear hS
  go_enter Tryd.func58, Tryd.ntmps58
  go_step3
  go_wp2
  go_step3
  go_wp2
  go_loopg [] (src.size - k0) (fun n wr => ∃ k : Nat, k + n = src.size ∧ skipR (src.data.toList.drop k) = skipR (src.data.toList.drop k0) ∧ Hid (Scn base wr g src (k : Int) line out) ∧ Hid (Below base w wr))
  case atStart => exact ⟨k0, by omega, rfl, HS, Lib.hid (Below.refl _ _)⟩
  case round =>
    clear HS
    obtain ⟨k, hk, hsk, HS, HB⟩ := hrel
    obtain ⟨v, hb, hg, hr⟩ := HS.out
    have hc0 : wr.cell? ⟨g, 0, none⟩ = some (.string src) := (blk_cell hb 0).trans rfl
    have hc1 : wr.cell? ⟨g, 1, none⟩ = some (.int .i64 k) := (blk_cell hb 1).trans rfl
    have hf1 := blk_frozen hb 1
    have hsk' := Lib.hid hsk
    clear hsk hb hr
    by_cases hlt : k < src.size
    · have hd := Lib.hid (drop_at src k hlt)
      have hl : (k : Int) < (src.size : Int) := by omega
      by_cases hw : src[k].toNat = 32 ∨ src[k].toNat = 9 ∨ src[k].toNat = 13
      · have hn := Lib.hid (show skipR (src.data.toList.drop (k + 1)) = skipR (src.data.toList.drop k0) by
          rw [← hsk'.out, hd.out, skipR_white]
          rcases hw with h | h | h
          · exact Or.inl (UInt8.toNat_inj.1 h)
          · exact Or.inr (Or.inl (UInt8.toNat_inj.1 h))
          · exact Or.inr (Or.inr (UInt8.toNat_inj.1 h)))
        have h9 : src[k].toNat = 32 ∨ src[k].toNat ≠ 32 ∧ (src[k].toNat = 9 ∨ src[k].toNat ≠ 9 ∧ src[k].toNat = 13) := by omega
        rcases h9 with h | ⟨h, h | ⟨h', h''⟩⟩
        all_goals
          first
          | have c1 : ((src[k].toNat : Int) == 32) = true := beq_iff_eq.2 (by omega)
          | have c1 : ((src[k].toNat : Int) == 32) = false := beq_eq_false_iff_ne.2 (by omega)
          first
          | have c2 : ((src[k].toNat : Int) == 9) = true := beq_iff_eq.2 (by omega)
          | have c2 : ((src[k].toNat : Int) == 9) = false := beq_eq_false_iff_ne.2 (by omega)
          first
          | have c3 : ((src[k].toNat : Int) == 13) = true := beq_iff_eq.2 (by omega)
          | have c3 : ((src[k].toNat : Int) == 13) = false := beq_eq_false_iff_ne.2 (by omega)
          try clear h
          try clear h'
          try clear h''
          clear hw hd hsk'
          go_wp2
          repeat (go_quiet (fail); try go_wp2)
          go_roundg (gk - 1)
          case measure => omega
          case rel => exact ⟨k + 1, by omega, hn.out, Lib.hid (((HS.out.drewN _).set_at _).to_at (by omega)), Lib.hid (below_setB (pw_below_drewN HB.out _) hg _)⟩
      · have c1 : ((src[k].toNat : Int) == 32) = false := beq_eq_false_iff_ne.2 (by omega)
        have c2 : ((src[k].toNat : Int) == 9) = false := beq_eq_false_iff_ne.2 (by omega)
        have c3 : ((src[k].toNat : Int) == 13) = false := beq_eq_false_iff_ne.2 (by omega)
        by_cases h35 : src[k].toNat = 35
        · have c4 : ((src[k].toNat : Int) == 35) = true := beq_iff_eq.2 (by omega)
          have hX := skip_hash src k hlt h35
          have hE : (src.extract k src.size).data.toList = src.data.toList.drop k := Lib.extract_to_end src k
          have hlen : (src.data.toList.drop k).length = src.size - k := by rw [List.length_drop]; rfl
          have h10 : (10 : Int).toNat.toUInt8 = 10 := by decide
          have hI : ∀ W : World, Calls Tryd.prog 53 #[.string (src.extract k src.size), .int .u8 10] W fun e w' => e = .returned (.int .i64 (Lib.indexByte (src.data.toList.drop k) 10)) ∧ w' = W := by
            intro W
            rw [← hE, ← h10]
            exact Tryd.strings_IndexByte _ _ W
          have hI' := Lib.hid hI
          have hd' := hd
          have h35' : src[k] = 35 := UInt8.toNat_inj.1 h35
          clear hI hE hd hw h35 h10
          by_cases hn : Lib.indexByte (src.data.toList.drop k) 10 < 0
          · have hend := index_end _ hn
            have hT := Lib.hid (show skipR (src.data.toList.drop src.size) = skipR (src.data.toList.drop k0) by
              rw [← hsk'.out, ← hX, hend, List.drop_of_length_le (show src.data.toList.length ≤ src.size from Nat.le_refl _)])
            obtain ⟨n, hnn⟩ : ∃ n, Lib.indexByte (src.data.toList.drop k) 10 = n := ⟨_, rfl⟩
            rw [hnn] at hI' hn
            have c5 : decide (n < 0) = true := decide_eq_true hn
            clear hX hend hnn hsk' hlen
            go_wp2
            repeat (go_quiet (fail); try go_wp2)
            go_region_with (go_at_call 53; refine (hI'.out _).mono ?_; rintro e w' ⟨rfl, rfl⟩)
            all_goals clear hI'
            all_goals go_wp2
            all_goals (repeat (go_quiet (fail); try go_wp2))
            all_goals go_roundg 0
            all_goals first | omega | exact ⟨src.size, by omega, hT.out, Lib.hid (((HS.out.drewN _).set_at _).to_at (by omega)), Lib.hid (below_setB (pw_below_drewN HB.out _) hg _)⟩
          · obtain ⟨hat, hle⟩ := index_at _ (Int.not_lt.1 hn)
            have h1 := index_pos _ _ (by rw [h35']; decide) (hd'.out ▸ Int.not_lt.1 hn)
            rw [← hd'.out] at h1
            rw [hlen] at hle
            obtain ⟨n, hnn⟩ : ∃ n : Nat, Lib.indexByte (src.data.toList.drop k) 10 = n := ⟨(Lib.indexByte (src.data.toList.drop k) 10).toNat, by omega⟩
            rw [hnn] at hI' hn hat hle h1
            rw [Int.toNat_natCast] at hat hle
            have hT := Lib.hid (show skipR (src.data.toList.drop (k + n)) = skipR (src.data.toList.drop k0) by
              rw [← hsk'.out, ← hX, ← hat, List.drop_drop])
            have c5 : decide ((n : Int) < 0) = false := decide_eq_false (by omega)
            clear hX hat hnn hsk' hlen hn hd'
            go_wp2
            repeat (go_quiet (fail); try go_wp2)
            go_region_with (go_at_call 53; refine (hI'.out _).mono ?_; rintro e w' ⟨rfl, rfl⟩)
            all_goals clear hI'
            all_goals go_wp2
            all_goals (repeat (go_quiet (fail); try go_wp2))
            all_goals go_roundg (gk - n)
            all_goals first | omega | exact ⟨k + n, by omega, hT.out, Lib.hid (((HS.out.drewN _).set_at _).to_at (by omega)), Lib.hid (below_setB (pw_below_drewN HB.out _) hg _)⟩
        · have c4 : ((src[k].toNat : Int) == 35) = false := beq_eq_false_iff_ne.2 (by omega)
          have hT := Lib.hid (show src.data.toList.drop k = skipR (src.data.toList.drop k0) by
            rw [← hsk'.out, hd.out, skipR_stop]
            · rintro (h | h | h) <;> (rw [h] at hw; exact hw (by decide))
            · intro h; rw [h] at h35; exact h35 (by decide))
          clear hsk' hd hw h35
          go_wp2
          repeat (go_quiet (fail); try go_wp2)
          rw [Exit.noGoto_normal]
          go_end0
          exact ⟨⟨_, rfl⟩, k, by omega, hT.out, HS.out.drewN _, pw_below_drewN HB.out _⟩
    · have hl : ¬ (k : Int) < (src.size : Int) := by omega
      have hT := Lib.hid (show src.data.toList.drop k = skipR (src.data.toList.drop k0) by
        rw [← hsk'.out, List.drop_of_length_le (show src.data.toList.length ≤ k from Nat.le_of_not_lt hlt)]; rfl)
      have hl' : decide ((k : Int) < (src.size : Int)) = false := decide_eq_false hl
      clear hsk' hl
      go_wp2
      repeat (go_quiet (fail); try go_wp2)
      rw [Exit.noGoto_normal]
      go_end0
      exact ⟨⟨_, rfl⟩, k, by omega, hT.out, HS.out.drewN _, pw_below_drewN HB.out _⟩
end Go.Proofs.YteifffaonigidaaDoor.M
