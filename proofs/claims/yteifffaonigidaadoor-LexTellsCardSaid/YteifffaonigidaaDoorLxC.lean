/- The scanner that a call has made itself ('Scn'), and the contract of its method skip. -/
import Derived.Test.YteifffaonigidaaDoorTxA
import Derived.Test.YteifffaonigidaaDoorTxB
import Derived.WalkMore
import Derived.StillTailTactics
import Derived.Deep.RegionLaw
import Derived.Test.YteifffaonigidaaDoorTxD
namespace Go.Proofs.YteifffaonigidaaDoor.M
open Go.RowKit Go.Proofs.YteifffaonigidaaDoorW.PrintWords Go.Proofs.YteifffaonigidaaDoorW.PrintLast
theorem ext_list (s : ByteArray) (a b : Nat) : (s.extract a b).data.toList = (s.data.toList.drop a).take (b - a) := by
  simp [ByteArray.data_extract, Array.toList_extract, List.extract_eq_take_drop]
set_option linter.unusedVariables false
set_option linter.unusedSimpArgs false

/-- A scanner at block g, made since the heap had base blocks: its source, the place, the line, the tokens so far (a row of its own). -/
def Scn (base : Nat) (w : World) (g : Nat) (src : ByteArray) (at_ line : Int) (out : List S42) : Prop :=
  ∃ v : Value, w.heap[g]? = some (.cells #[.string src, .int .i64 at_, .int .i64 line, v] 71 (0, 0)) ∧ base ≤ g ∧ Kd.R k42 42 w base (fun k => k ≠ g) v out
theorem Scn.set_at {base : Nat} {w : World} {g : Nat} {src : ByteArray} {at_ line : Int} {out : List S42} (h : Scn base w g src at_ line out) (x : Int) : Scn base (w.setCell ⟨g, 1, none⟩ (.int .i64 x)) g src x line out := by
  obtain ⟨v, hb, hg, hr⟩ := h
  exact ⟨v, by simpa using blk_set hb 1 (.int .i64 x), hg, Kd.R_move hr fun k hk => Below.heap_setCell w ⟨g, 1, none⟩ _ k hk⟩
theorem Scn.set_line {base : Nat} {w : World} {g : Nat} {src : ByteArray} {at_ line : Int} {out : List S42} (h : Scn base w g src at_ line out) (x : Int) : Scn base (w.setCell ⟨g, 2, none⟩ (.int .i64 x)) g src at_ x out := by
  obtain ⟨v, hb, hg, hr⟩ := h
  exact ⟨v, by simpa using blk_set hb 2 (.int .i64 x), hg, Kd.R_move hr fun k hk => Below.heap_setCell w ⟨g, 2, none⟩ _ k hk⟩
theorem Scn.below {base : Nat} {w w1 : World} {g : Nat} {src : ByteArray} {at_ line : Int} {out : List S42} (h : Scn base w g src at_ line out) (hb : Below w.heap.size w w1) : Scn base w1 g src at_ line out := by
  obtain ⟨v, hb0, hg, hr⟩ := h
  exact ⟨v, blk_grown hb0 (grown_of_below hb none) (by simp), hg, Kd.R_below hr hb⟩
theorem Scn.drewN {base : Nat} {w : World} {g : Nat} {src : ByteArray} {at_ line : Int} {out : List S42} (h : Scn base w g src at_ line out) (m : Nat) : Scn base (w.drewN m) g src at_ line out := h.below (pw_below_drewN (Below.refl _ _) m)
theorem Scn.to_at {base : Nat} {w : World} {g : Nat} {src : ByteArray} {at_ at' line : Int} {out : List S42} (h : Scn base w g src at_ line out) (e : at_ = at') : Scn base w g src at' line out := e ▸ h

/-! ### skip -/
/-- What is left behind white bytes and comments. -/
def skipF : Nat → List UInt8 → List UInt8
  | 0, l => l
  | _, [] => []
  | n + 1, c :: r => if c = 32 ∨ c = 9 ∨ c = 13 then skipF n r else if c = 35 then skipF n (r.dropWhile (· != 10)) else c :: r
def skipR (l : List UInt8) : List UInt8 := skipF l.length l
theorem dropWhile_len (r : List UInt8) : (r.dropWhile (· != 10)).length ≤ r.length := by
  have := List.dropWhile_suffix (l := r) (· != 10)
  exact this.length_le
theorem skipF_more : ∀ (n : Nat) (l : List UInt8), l.length ≤ n → skipF n l = skipF l.length l
  | 0, [], _ => rfl
  | 0, c :: r, h => by simp at h
  | n + 1, [], _ => rfl
  | n + 1, c :: r, h => by
    have h1 : r.length ≤ n := by simp at h; omega
    have h2 := dropWhile_len r
    rw [List.length_cons]
    simp only [skipF]
    rw [skipF_more n r h1, skipF_more n _ (by omega), skipF_more r.length _ h2]
theorem skipR_white (c : UInt8) (r : List UInt8) (h : c = 32 ∨ c = 9 ∨ c = 13) : skipR (c :: r) = skipR r := by
  unfold skipR; rw [List.length_cons, skipF, if_pos h]
theorem skipR_hash (r : List UInt8) : skipR (35 :: r) = skipR (r.dropWhile (· != 10)) := by
  unfold skipR; rw [List.length_cons, skipF, if_neg (by decide), if_pos rfl, skipF_more _ _ (dropWhile_len r)]
theorem skipR_nil : skipR [] = [] := rfl
theorem skipR_stop (c : UInt8) (r : List UInt8) (h : ¬ (c = 32 ∨ c = 9 ∨ c = 13)) (h2 : c ≠ 35) : skipR (c :: r) = c :: r := by
  unfold skipR; rw [List.length_cons, skipF, if_neg h, if_neg h2]
theorem index_end (l : List UInt8) (h : Lib.indexByte l 10 < 0) : l.dropWhile (· != 10) = [] := by
  induction l with
  | nil => rfl
  | cons c r ih =>
    unfold Lib.indexByte at h
    by_cases hc : c = 10
    · subst hc; simp at h
    · have hge := Lib.indexByte_ge r 10
      have hb : (c == 10) = false := beq_eq_false_iff_ne.2 hc
      rw [hb] at h
      simp only [Bool.false_eq_true, if_false] at h
      have : Lib.indexByte r 10 < 0 := by
        by_cases h1 : Lib.indexByte r 10 = -1
        · omega
        · have hb2 : (Lib.indexByte r 10 == -1) = false := beq_eq_false_iff_ne.2 h1
          rw [hb2] at h
          simp only [Bool.false_eq_true, if_false] at h
          omega
      have hb' : (c != 10) = true := bne_iff_ne.2 hc
      rw [List.dropWhile_cons, if_pos hb', ih this]
theorem index_at (l : List UInt8) (h : 0 ≤ Lib.indexByte l 10) : l.drop (Lib.indexByte l 10).toNat = l.dropWhile (· != 10) ∧ (Lib.indexByte l 10).toNat ≤ l.length := by
  induction l with
  | nil => simp [Lib.indexByte] at h
  | cons c r ih =>
    unfold Lib.indexByte at h ⊢
    by_cases hc : c = 10
    · subst hc; simp [List.dropWhile_cons]
    · have hge := Lib.indexByte_ge r 10
      have hb : (c == 10) = false := beq_eq_false_iff_ne.2 hc
      rw [hb] at h ⊢
      simp only [Bool.false_eq_true, if_false] at h ⊢
      by_cases h1 : Lib.indexByte r 10 = -1
      · rw [h1] at h; simp at h
      · have hb2 : (Lib.indexByte r 10 == -1) = false := beq_eq_false_iff_ne.2 h1
        rw [hb2] at h ⊢
        simp only [Bool.false_eq_true, if_false] at h ⊢
        have ih := ih (by omega)
        have hb' : (c != 10) = true := bne_iff_ne.2 hc
        rw [List.dropWhile_cons, if_pos hb', show (Lib.indexByte r 10 + 1).toNat = (Lib.indexByte r 10).toNat + 1 by omega, List.drop_succ_cons]
        exact ⟨ih.1, by simp; omega⟩
theorem index_pos (c : UInt8) (r : List UInt8) (hc : c ≠ 10) (h : 0 ≤ Lib.indexByte (c :: r) 10) : 1 ≤ Lib.indexByte (c :: r) 10 := by
  unfold Lib.indexByte at h ⊢
  have hb : (c == 10) = false := beq_eq_false_iff_ne.2 hc
  have hge := Lib.indexByte_ge r 10
  rw [hb] at h ⊢
  simp only [Bool.false_eq_true, if_false] at h ⊢
  split at h
  · omega
  · rename_i h1
    rw [if_neg h1]
    have : Lib.indexByte r 10 ≠ -1 := fun e => h1 (by rw [e]; rfl)
    omega
theorem below_setB {b : Nat} {w W : World} {g j : Nat} (h : Below b w W) (hg : b ≤ g) (v : Value) : Below b w (W.setCell ⟨g, j, none⟩ v) := h.setCell hg _
theorem drop_at (s : ByteArray) (k : Nat) (h : k < s.size) : s.data.toList.drop k = s[k] :: s.data.toList.drop (k + 1) := by
  rw [List.drop_eq_getElem_cons (show k < s.data.toList.length from h)]; rfl
theorem skip_hash (s : ByteArray) (k : Nat) (h : k < s.size) (hc : s[k].toNat = 35) : skipR ((s.data.toList.drop k).dropWhile (· != 10)) = skipR (s.data.toList.drop k) := by
  have e : s[k] = 35 := UInt8.toNat_inj.1 hc
  rw [drop_at s k h, e, skipR_hash, List.dropWhile_cons, if_pos (by decide)]
set_option maxHeartbeats 8000000 in
set_option maxRecDepth 100000 in
theorem scanner_skip.calls (base g : Nat) (src : ByteArray) (k0 : Nat) (line : Int) (out : List S42) (w : World) (hS : Scn base w g src (k0 : Int) line out) (hk0 : k0 ≤ src.size) (hs : src.size ≤ 1000000) (hB : base ≤ w.heap.size) :
    Calls Tryd.prog 58 #[.pointer (some ⟨g, 0, none⟩)] w fun e w' => (∃ v, e = .returned v) ∧ ∃ k : Nat, k ≤ src.size ∧ src.data.toList.drop k = skipR (src.data.toList.drop k0) ∧ Scn base w' g src (k : Int) line out ∧ Below base w w' := by
  have HS := Lib.hid hS
  clear hS
  go_enter Tryd.func58, Tryd.ntmps58
  go_step3
  go_wp2
  go_step3
  go_wp2
  go_loopg [] (src.size - k0) (fun n wr => ∃ k : Nat, k + n = src.size ∧ skipR (src.data.toList.drop k) = skipR (src.data.toList.drop k0) ∧ Hid (Scn base wr g src (k : Int) line out) ∧ Hid (Below base w wr))
  case atStart => exact ⟨k0, by omega, rfl, HS, Lib.hid (Below.refl _ _)⟩
  case round =>
    clear HS
    obtain ⟨k, hk, hsk, HS, HB⟩ := hrel
    obtain ⟨v, hb, hg, hr⟩ := HS.out
    have hc0 : wr.cell? ⟨g, 0, none⟩ = some (.string src) := (blk_cell hb 0).trans rfl
    have hc1 : wr.cell? ⟨g, 1, none⟩ = some (.int .i64 k) := (blk_cell hb 1).trans rfl
    have hf1 := blk_frozen hb 1
    have hsk' := Lib.hid hsk
    clear hsk hb hr
    by_cases hlt : k < src.size
    · have hd := Lib.hid (drop_at src k hlt)
      have hl : (k : Int) < (src.size : Int) := by omega
      by_cases hw : src[k].toNat = 32 ∨ src[k].toNat = 9 ∨ src[k].toNat = 13
      · have hn := Lib.hid (show skipR (src.data.toList.drop (k + 1)) = skipR (src.data.toList.drop k0) by
          rw [← hsk'.out, hd.out, skipR_white]
          rcases hw with h | h | h
          · exact Or.inl (UInt8.toNat_inj.1 h)
          · exact Or.inr (Or.inl (UInt8.toNat_inj.1 h))
          · exact Or.inr (Or.inr (UInt8.toNat_inj.1 h)))
        have h9 : src[k].toNat = 32 ∨ src[k].toNat ≠ 32 ∧ (src[k].toNat = 9 ∨ src[k].toNat ≠ 9 ∧ src[k].toNat = 13) := by omega
        rcases h9 with h | ⟨h, h | ⟨h', h''⟩⟩
        all_goals
          first
          | have c1 : ((src[k].toNat : Int) == 32) = true := beq_iff_eq.2 (by omega)
          | have c1 : ((src[k].toNat : Int) == 32) = false := beq_eq_false_iff_ne.2 (by omega)
          first
          | have c2 : ((src[k].toNat : Int) == 9) = true := beq_iff_eq.2 (by omega)
          | have c2 : ((src[k].toNat : Int) == 9) = false := beq_eq_false_iff_ne.2 (by omega)
          first
          | have c3 : ((src[k].toNat : Int) == 13) = true := beq_iff_eq.2 (by omega)
          | have c3 : ((src[k].toNat : Int) == 13) = false := beq_eq_false_iff_ne.2 (by omega)
          try clear h
          try clear h'
          try clear h''
          clear hw hd hsk'
          go_wp2
          repeat (go_quiet (fail); try go_wp2)
          go_roundg (gk - 1)
          case measure => omega
          case rel => exact ⟨k + 1, by omega, hn.out, Lib.hid (((HS.out.drewN _).set_at _).to_at (by omega)), Lib.hid (below_setB (pw_below_drewN HB.out _) hg _)⟩
      · have c1 : ((src[k].toNat : Int) == 32) = false := beq_eq_false_iff_ne.2 (by omega)
        have c2 : ((src[k].toNat : Int) == 9) = false := beq_eq_false_iff_ne.2 (by omega)
        have c3 : ((src[k].toNat : Int) == 13) = false := beq_eq_false_iff_ne.2 (by omega)
        by_cases h35 : src[k].toNat = 35
        · have c4 : ((src[k].toNat : Int) == 35) = true := beq_iff_eq.2 (by omega)
          have hX := skip_hash src k hlt h35
          have hE : (src.extract k src.size).data.toList = src.data.toList.drop k := Lib.extract_to_end src k
          have hlen : (src.data.toList.drop k).length = src.size - k := by rw [List.length_drop]; rfl
          have h10 : (10 : Int).toNat.toUInt8 = 10 := by decide
          have hI : ∀ W : World, Calls Tryd.prog 53 #[.string (src.extract k src.size), .int .u8 10] W fun e w' => e = .returned (.int .i64 (Lib.indexByte (src.data.toList.drop k) 10)) ∧ w' = W := by
            intro W
            rw [← hE, ← h10]
            exact Tryd.strings_IndexByte _ _ W
          have hI' := Lib.hid hI
          have hd' := hd
          have h35' : src[k] = 35 := UInt8.toNat_inj.1 h35
          clear hI hE hd hw h35 h10
          by_cases hn : Lib.indexByte (src.data.toList.drop k) 10 < 0
          · have hend := index_end _ hn
            have hT := Lib.hid (show skipR (src.data.toList.drop src.size) = skipR (src.data.toList.drop k0) by
              rw [← hsk'.out, ← hX, hend, List.drop_of_length_le (show src.data.toList.length ≤ src.size from Nat.le_refl _)])
            obtain ⟨n, hnn⟩ : ∃ n, Lib.indexByte (src.data.toList.drop k) 10 = n := ⟨_, rfl⟩
            rw [hnn] at hI' hn
            have c5 : decide (n < 0) = true := decide_eq_true hn
            clear hX hend hnn hsk' hlen
            go_wp2
            repeat (go_quiet (fail); try go_wp2)
            go_region_with (go_at_call 53; refine (hI'.out _).mono ?_; rintro e w' ⟨rfl, rfl⟩)
            all_goals clear hI'
            all_goals go_wp2
            all_goals (repeat (go_quiet (fail); try go_wp2))
            all_goals go_roundg 0
            all_goals first | omega | exact ⟨src.size, by omega, hT.out, Lib.hid (((HS.out.drewN _).set_at _).to_at (by omega)), Lib.hid (below_setB (pw_below_drewN HB.out _) hg _)⟩
          · obtain ⟨hat, hle⟩ := index_at _ (Int.not_lt.1 hn)
            have h1 := index_pos _ _ (by rw [h35']; decide) (hd'.out ▸ Int.not_lt.1 hn)
            rw [← hd'.out] at h1
            rw [hlen] at hle
            obtain ⟨n, hnn⟩ : ∃ n : Nat, Lib.indexByte (src.data.toList.drop k) 10 = n := ⟨(Lib.indexByte (src.data.toList.drop k) 10).toNat, by omega⟩
            rw [hnn] at hI' hn hat hle h1
            rw [Int.toNat_natCast] at hat hle
            have hT := Lib.hid (show skipR (src.data.toList.drop (k + n)) = skipR (src.data.toList.drop k0) by
              rw [← hsk'.out, ← hX, ← hat, List.drop_drop])
            have c5 : decide ((n : Int) < 0) = false := decide_eq_false (by omega)
            clear hX hat hnn hsk' hlen hn hd'
            go_wp2
            repeat (go_quiet (fail); try go_wp2)
            go_region_with (go_at_call 53; refine (hI'.out _).mono ?_; rintro e w' ⟨rfl, rfl⟩)
            all_goals clear hI'
            all_goals go_wp2
            all_goals (repeat (go_quiet (fail); try go_wp2))
            all_goals go_roundg (gk - n)
            all_goals first | omega | exact ⟨k + n, by omega, hT.out, Lib.hid (((HS.out.drewN _).set_at _).to_at (by omega)), Lib.hid (below_setB (pw_below_drewN HB.out _) hg _)⟩
        · have c4 : ((src[k].toNat : Int) == 35) = false := beq_eq_false_iff_ne.2 (by omega)
          have hT := Lib.hid (show src.data.toList.drop k = skipR (src.data.toList.drop k0) by
            rw [← hsk'.out, hd.out, skipR_stop]
            · rintro (h | h | h) <;> (rw [h] at hw; exact hw (by decide))
            · intro h; rw [h] at h35; exact h35 (by decide))
          clear hsk' hd hw h35
          go_wp2
          repeat (go_quiet (fail); try go_wp2)
          rw [Exit.noGoto_normal]
          go_end0
          exact ⟨⟨_, rfl⟩, k, by omega, hT.out, HS.out.drewN _, pw_below_drewN HB.out _⟩
    · have hl : ¬ (k : Int) < (src.size : Int) := by omega
      have hT := Lib.hid (show src.data.toList.drop k = skipR (src.data.toList.drop k0) by
        rw [← hsk'.out, List.drop_of_length_le (show src.data.toList.length ≤ k from Nat.le_of_not_lt hlt)]; rfl)
      have hl' : decide ((k : Int) < (src.size : Int)) = false := decide_eq_false hl
      clear hsk' hl
      go_wp2
      repeat (go_quiet (fail); try go_wp2)
      rw [Exit.noGoto_normal]
      go_end0
      exact ⟨⟨_, rfl⟩, k, by omega, hT.out, HS.out.drewN _, pw_below_drewN HB.out _⟩
end Go.Proofs.YteifffaonigidaaDoor.M
/- The contract of the scanner's methods take, end, feed and wrong. -/
namespace Go.Proofs.YteifffaonigidaaDoor.M
open Go.RowKit Go.Proofs.YteifffaonigidaaDoorW.PrintWords Go.Proofs.YteifffaonigidaaDoorW.PrintLast
set_option linter.unusedVariables false
set_option linter.unusedSimpArgs false
theorem info42' : (Tryd.prog.info? 42).map (fun i => (i.zero, i.size, i.bytes)) = some (some (.agg #[(.int .i64 0), (.string ⟨#[]⟩), (.int .i64 0), (.int .i64 0)]), k42.sz, 40) := info42
theorem Scn.put {base : Nat} {w1 : World} {g : Nat} {src : ByteArray} {at_ line : Int} {v v1 : Value} {out : List S42} (hb : w1.heap[g]? = some (.cells #[.string src, .int .i64 at_, .int .i64 line, v] 71 (0, 0))) (hg : base ≤ g)
    (hr : Kd.R k42 42 w1 base (fun k => k ≠ g) v1 out) (e_ : Int) : Scn base ((w1.setCell ⟨g, 3, none⟩ v1).setCell ⟨g, 1, none⟩ (.int .i64 e_)) g src e_ line out :=
  ⟨v1, by simpa using blk_set (blk_set hb 3 v1) 1 (.int .i64 e_), hg, Kd.R_move hr fun k hk => (Below.heap_setCell _ ⟨g, 1, none⟩ _ k hk).trans (Below.heap_setCell w1 ⟨g, 3, none⟩ _ k hk)⟩
set_option maxHeartbeats 8000000 in
set_option maxRecDepth 100000 in
theorem scanner_take.calls (base g : Nat) (src : ByteArray) (at_ line : Int) (out : List S42) (w : World) (t : S42) (e_ : Int) (hS : Scn base w g src at_ line out) (hn : out.length < 1000000000) (hB : base ≤ w.heap.size) :
    Calls Tryd.prog 105 #[.pointer (some ⟨g, 0, none⟩), .agg #[.int .i64 t.f0, .string t.f1, .int .i64 t.f2, .int .i64 t.f3], .int .i64 e_] w fun e w' => (∃ v, e = .returned v) ∧ Scn base w' g src e_ line (out ++ [⟨t.f0, t.f1, t.f2, line⟩]) ∧ Below base w w' := by
  obtain ⟨v, hb, hg, hr⟩ := hS
  have hc2 : w.cell? ⟨g, 2, none⟩ = some (.int .i64 line) := (blk_cell hb 2).trans rfl
  have hgl := blk_lt hb
  obtain ⟨W2, hW2⟩ : ∃ W2, w.alloc (.cells #[.int .i64 t.f0, .string t.f1, .int .i64 t.f2, .int .i64 line] 42) = W2 := ⟨_, rfl⟩
  have hbl : Below w.heap.size w W2 := hW2 ▸ (Below.refl _ _).alloc (Nat.le_refl _) _
  have hbl0 : Below base w W2 := hW2 ▸ (Below.refl _ _).alloc hB _
  have hb2 : W2.heap[g]? = some (.cells #[.string src, .int .i64 at_, .int .i64 line, v] 71 (0, 0)) := blk_grown hb (grown_of_below hbl none) (by simp)
  have hr2 : Kd.R k42 42 W2 base (fun k => k ≠ g) v out := Kd.R_below hr hbl
  have hbn : W2.heap[w.heap.size]? = some (.cells #[.int .i64 t.f0, .string t.f1, .int .i64 t.f2, .int .i64 line] 42 (0, 0))   := by rw [← hW2]; exact heap_alloc_new w _
  have hl2 : W2.heap.size = w.heap.size + 1 := by rw [← hW2]; exact Array.size_push ..
  have hc3 : W2.cell? ⟨g, 3, none⟩ = some v := (blk_cell hb2 3).trans rfl
  have hf1 := blk_frozen hb2 1
  have hf3 := blk_frozen hb2 3
  have n0 : W2.cell? ⟨w.heap.size, 0, none⟩ = some (.int .i64 t.f0) := (blk_cell hbn 0).trans rfl
  have n1 : W2.cell? ⟨w.heap.size, 1, none⟩ = some (.string t.f1) := (blk_cell hbn 1).trans rfl
  have n2 : W2.cell? ⟨w.heap.size, 2, none⟩ = some (.int .i64 t.f2) := (blk_cell hbn 2).trans rfl
  have n3 : W2.cell? ⟨w.heap.size, 3, none⟩ = some (.int .i64 line) := (blk_cell hbn 3).trans rfl
  have HR := Lib.hid hr2
  have HBK := Lib.hid hb2
  clear hr hb hr2 hb2 hbn
  go_enter Tryd.func105, Tryd.ntmps105
  go_wp2
  try rw [hW2]
  clear hW2
  have hgv : some g ≠ v.ownBlock := fun h => HR.out.1 g h.symm rfl
  go_region_law (refine Kd.R_append_step k42 (w0 := w) base (by first | assumption | rfl) (.tmp 16) (.tmp 18) 37 42 (.agg #[(.int .i64 0), (.string ⟨#[]⟩), (.int .i64 0), (.int .i64 0)]) 40 rfl Tryd.underlying37 info42' rfl (by decide) (by decide) v out ⟨t.f0, t.f1, t.f2, line⟩ [.int .i64 t.f0, .string t.f1, .int .i64 t.f2, .int .i64 line] (fun k => k ≠ g) (fun _ => False) (by simp [Act.eval, Act.put]) (by simp [Act.eval, Act.put]) (k42_mkM _ _ _ ⟨t.f0, t.f1, t.f2, line⟩) (fun _ hk => hk.elim) (fun k hk => by have h1 := hbl.size; have h2 : W2.heap.size ≤ k := hk; omega) (Kd.R_drew HR.out) (pw_below_drewN hbl0 1) (by have h1 := hbl.size; exact Nat.le_trans hB h1) (by omega) ?_; intro v1 w1 hR1 hB1 hG1 hA1; obtain ⟨A1, c1, e1, _, _⟩ := hR1.2.reads; subst e1; have hb1 := blk_grown (show W2.drew.heap[g]? = _ from HBK.out) hG1 hgv; have q5 : w1.cell? ⟨g, 1, none⟩ = some (.int .i64 at_) := (blk_cell hb1 1).trans rfl; have q6 : w1.cell? ⟨g, 3, none⟩ = some v := (blk_cell hb1 3).trans rfl; have q1 := blk_frozen hb1 1; have q3 := blk_frozen hb1 3; have HB1 := Lib.hid hb1; have HR1 := Lib.hid hR1; have HO1 := Lib.hid hA1; have HW1 := Lib.hid hB1; clear hb1 hR1 hB1 hG1 hA1)
  all_goals clear hc2 hc3 hf1 hf3 n0 n1 n2 n3 q1 q3 q5 q6 HO1
  all_goals go_end0
  all_goals rw [List.length_append] at HR1
  all_goals exact ⟨⟨_, rfl⟩, Scn.put HB1.out hg HR1.out e_, below_setB (below_setB HW1.out hg _) hg _⟩
theorem scanner_end.calls (base g : Nat) (src : ByteArray) (at_ line : Int) (out : List S42) (w : World) (hS : Scn base w g src at_ line out) (hn : out.length < 1000000000) (hB : base ≤ w.heap.size) :
    Calls Tryd.prog 78 #[.pointer (some ⟨g, 0, none⟩)] w fun e w' => e = .returned (.int .i64 0) ∧ Scn base w' g src at_ line (out ++ [⟨4, ⟨#[]⟩, 0, line⟩]) ∧ Below base w w' := by
  have HT := Lib.hid (scanner_take.calls base g src at_ line out w ⟨4, ⟨#[]⟩, 0, 0⟩ at_ hS hn hB)
  obtain ⟨v, hb, hg, hr⟩ := hS
  have hc1 : w.cell? ⟨g, 1, none⟩ = some (.int .i64 at_) := (blk_cell hb 1).trans rfl
  clear hr hb
  go_enter Tryd.func78, Tryd.ntmps78
  go_wp2_with fail
  refine HT.out.mono ?_
  rintro e w1 ⟨⟨v, rfl⟩, hS1, hB1⟩
  have HS1 := Lib.hid hS1
  have HB1 := Lib.hid hB1
  clear hS1 hB1 HT
  go_wp2_with fail
  go_ret
  exact ⟨rfl, HS1.out, HB1.out⟩
theorem scanner_feed.calls (base g : Nat) (src : ByteArray) (at_ line : Int) (out : List S42) (w : World) (hS : Scn base w g src at_ line out) (hn : out.length < 1000000000) (hB : base ≤ w.heap.size) (ha : 0 ≤ at_ ∧ at_ < 1000000000) (hl : 0 ≤ line ∧ line < 1000000000) :
    Calls Tryd.prog 82 #[.pointer (some ⟨g, 0, none⟩)] w fun e w' => e = .returned (.int .i64 0) ∧ Scn base w' g src (at_ + 1) (line + 1) (out ++ [⟨3, ⟨#[]⟩, 0, line⟩]) ∧ Below base w w' := by
  have HT := Lib.hid (scanner_take.calls base g src at_ line out w ⟨3, ⟨#[]⟩, 0, 0⟩ (at_ + 1) hS hn hB)
  obtain ⟨v, hb, hg, hr⟩ := hS
  have hc1 : w.cell? ⟨g, 1, none⟩ = some (.int .i64 at_) := (blk_cell hb 1).trans rfl
  have e1 : IntKind.i64.wrap (at_ + 1) = at_ + 1 := IntWalk.i64_in _ (by omega)
  have e2 : IntKind.i64.wrap (line + 1) = line + 1 := IntWalk.i64_in _ (by omega)
  clear hr hb ha hl
  go_enter Tryd.func82, Tryd.ntmps82
  go_wp2_with fail
  refine HT.out.mono ?_
  rintro e w1 ⟨⟨v, rfl⟩, hS1, hB1⟩
  have HS1 := Lib.hid hS1
  have HB1 := Lib.hid hB1
  obtain ⟨v1, hb1, hg1, hr1⟩ := hS1
  have hc2 : w1.cell? ⟨g, 2, none⟩ = some (.int .i64 line) := (blk_cell hb1 2).trans rfl
  have hf2 := blk_frozen hb1 2
  clear hr1 hb1 hB1 HT hc1
  go_wp2_with fail
  go_ret
  exact ⟨rfl, HS1.out.set_line _, below_setB HB1.out hg _⟩
theorem scanner_wrong.calls (g : Nat) (w : World) :
    Calls Tryd.prog 83 #[.pointer (some ⟨g, 0, none⟩)] w fun e w' => e = .returned (.int .i64 11) ∧ w' = w := by
  go_enter Tryd.func83, Tryd.ntmps83
  go_wp2
  go_ret
  exact ⟨rfl, rfl⟩
end Go.Proofs.YteifffaonigidaaDoor.M
/- The contract of the scanner's method quoted. -/
namespace Go.Proofs.YteifffaonigidaaDoor.M
open Go.RowKit Go.Proofs.YteifffaonigidaaDoorW.PrintWords Go.Proofs.YteifffaonigidaaDoorW.PrintLast
set_option linter.unusedVariables false
set_option linter.unusedSimpArgs false
theorem pw_below_call {base : Nat} {w w' : World} (hB : base ≤ w.heap.size) (h : Below w.drew.heap.size w.drew w') : Below base w w' := (pw_below_drewN (Below.refl base w) 1).trans (h.mono hB)
/-- How many bytes stand ahead of the quote that ends a text. -/
def scanQ : List UInt8 → Option Nat
  | [] => none
  | [c] => if c = 34 then some 0 else none
  | c :: d :: r => if c = 34 then some 0 else if c = 92 then (scanQ r).map (· + 2) else (scanQ (d :: r)).map (· + 1)
theorem scanQ_nil : scanQ [] = none := rfl
theorem scanQ_quote (r : List UInt8) : scanQ (34 :: r) = some 0 := by
  cases r with
  | nil => rfl
  | cons d r => unfold scanQ; rfl
theorem scanQ_plain (c : UInt8) (r : List UInt8) (h : c ≠ 34) (h2 : c ≠ 92) : scanQ (c :: r) = (scanQ r).map (· + 1) := by
  cases r with
  | nil => simp [scanQ, h]
  | cons d r => rw [scanQ, if_neg h, if_neg h2]
theorem scanQ_back1 : scanQ [92] = none := by simp [scanQ]
theorem scanQ_back (d : UInt8) (r : List UInt8) : scanQ (92 :: d :: r) = (scanQ r).map (· + 2) := by rw [scanQ, if_neg (by decide), if_pos rfl]
theorem scanQ_lt : ∀ (n : Nat) (l : List UInt8), l.length ≤ n → ∀ m, scanQ l = some m → m < l.length
  | _, [], _, m, h => by simp [scanQ] at h
  | n, [c], _, m, h => by
    unfold scanQ at h
    split at h
    · obtain rfl := Option.some.inj h; simp
    · simp at h
  | n + 1, c :: d :: r, hn, m, h => by
    unfold scanQ at h
    split at h
    · obtain rfl := Option.some.inj h; simp
    · split at h
      · cases hq : scanQ r with
        | none => rw [hq] at h; simp at h
        | some q =>
          rw [hq] at h
          obtain rfl : q + 2 = m := Option.some.inj h
          have := scanQ_lt n r (by simp at hn; omega) q hq
          simp; omega
      · cases hq : scanQ (d :: r) with
        | none => rw [hq] at h; simp at h
        | some q =>
          rw [hq] at h
          obtain rfl : q + 1 = m := Option.some.inj h
          have := scanQ_lt n (d :: r) (by simp at hn ⊢; omega) q hq
          simp at this ⊢; omega
/-- The text at the head of l (which begins with a quote): its contents, and how many bytes it takes. -/
def qtok (l : List UInt8) : Option (List UInt8 × Nat) :=
  (scanQ (l.drop 1)).bind fun n => if (unquoteL (l.take (n + 2))).2 = true then some ((unquoteL (l.take (n + 2))).1, n + 2) else none
def qPost (base g : Nat) (src : ByteArray) (k : Nat) (line : Int) (out : List S42) (e : Ending) (w' : World) : Prop :=
  match qtok (src.data.toList.drop k) with
  | none => e = .returned (.int .i64 11) ∧ Scn base w' g src (k : Int) line out
  | some (t, n) => e = .returned (.int .i64 0) ∧ Scn base w' g src ((k + n : Nat) : Int) line (out ++ [⟨2, ⟨t.toArray⟩, 0, line⟩])
set_option maxHeartbeats 8000000 in
set_option maxRecDepth 100000 in
theorem scanner_quoted.calls (base g : Nat) (src : ByteArray) (k : Nat) (line : Int) (out : List S42) (w : World) (hS : Scn base w g src (k : Int) line out) (hn : out.length < 1000000000) (hk : k < src.size) (hs : src.size ≤ 1000000) (hB : base ≤ w.heap.size) :
    Calls Tryd.prog 81 #[.pointer (some ⟨g, 0, none⟩)] w fun e w' => qPost base g src k line out e w' ∧ Below base w w' := by
  have HS := Lib.hid hS
  obtain ⟨v, hb, hg, hr⟩ := hS
  have hc0 : w.cell? ⟨g, 0, none⟩ = some (.string src) := (blk_cell hb 0).trans rfl
  have hc1 : w.cell? ⟨g, 1, none⟩ = some (.int .i64 k) := (blk_cell hb 1).trans rfl
  clear hr hb
  go_enter Tryd.func81, Tryd.ntmps81
  go_wp2_with fail
  go_loopw [3] (fun v3 wr => ∃ e : Nat, k + 1 ≤ e ∧ e ≤ src.size + 1 ∧ v3 = .int .i64 e ∧ Hid (scanQ (src.data.toList.drop (k + 1)) = (scanQ (src.data.toList.drop e)).map (· + (e - (k + 1)))) ∧ wr = w) (fun i _ => src.size + 2 - (intOf i).toNat)
  case atStart => exact ⟨k + 1, Nat.le_refl _, by omega, by go_num, Lib.hid (by simp), rfl⟩
  case round =>
    obtain ⟨e, h1, h2, rfl, hq, rfl⟩ := hrel
    have hlen : src.data.toList.length = src.size := rfl
    by_cases hlt : e < src.size
    · have hd := drop_at src e hlt
      have hl : (e : Int) < (src.size : Int) := by omega
      by_cases h34 : src[e].toNat = 34
      · have c1 : ((src[e].toNat : Int) != 34) = false := bne_eq_false_iff_eq.2 (by omega)
        have c2 : ((src[e].toNat : Int) == 34) = true := beq_iff_eq.2 (by omega)
        have hE : src[e] = 34 := UInt8.toNat_inj.1 h34
        have hQ : scanQ (src.data.toList.drop (k + 1)) = some (e - (k + 1)) := by
          rw [hq.out, hd, hE, scanQ_quote]; simp
        have hT : (src.data.toList.drop k).take (e - (k + 1) + 2) = (src.extract k (e + 1)).data.toList := by
          rw [ext_list]; congr 1; omega
        have hqt : qtok (src.data.toList.drop k) = if (unquoteL (src.extract k (e + 1)).data.toList).2 = true then some ((unquoteL (src.extract k (e + 1)).data.toList).1, e + 1 - k) else none := by
          unfold qtok
          rw [List.drop_drop, show k + 1 = k + 1 from rfl, hQ, Option.bind_some, hT, show e - (k + 1) + 2 = e + 1 - k by omega]
        obtain ⟨r1, hr1⟩ : ∃ r, (unquoteL (src.extract k (e + 1)).data.toList).1 = r := ⟨_, rfl⟩
        obtain ⟨r2, hr2⟩ : ∃ r, (unquoteL (src.extract k (e + 1)).data.toList).2 = r := ⟨_, rfl⟩
        rw [hr1, hr2] at hqt
        have hU : ∀ W : World, Calls Tryd.prog 22 #[.string (src.extract k (e + 1))] W fun e w' => e = .returned (.tuple #[.string ⟨r1.toArray⟩, .bool r2]) ∧ Below W.heap.size W w' := by
          intro W
          refine text_Unquote.calls _ _ _ W ?_
          unfold text_Unquote.f
          rw [hr1, hr2, if_pos]
          rw [ByteArray.size_extract]
          omega
        have HU := Lib.hid hU
        have HQ := Lib.hid hqt
        have e1 : IntKind.i64.wrap ((e : Int) + 1) = ((e + 1 : Nat) : Int) := by rw [IntWalk.i64_in _ (by omega)]; rfl
        have e2 : ((e + 1 : Nat) : Int).toNat = e + 1 := by omega
        have e3 : (0 : Int) ≤ ((e + 1 : Nat) : Int) := by omega
        have e4 : (k : Int) ≤ ((e + 1 : Nat) : Int) := by omega
        have e5 : ((e + 1 : Nat) : Int) ≤ (src.size : Int) := by omega
        clear hU hqt hQ hT hr1 hr2 hE hd hq h34
        go_wp2_with fail
        go_region_with (go_at_call 22; refine (HU.out _).mono ?_; rintro e w' ⟨rfl, hB1⟩; have HSw := Lib.hid (Scn.below (HS.out.drewN 1) hB1); have HBw := Lib.hid (pw_below_call hB hB1); clear hB1)
        all_goals clear HU HS hc0 hc1
        all_goals cases r2
        all_goals go_wp2_with fail
        all_goals first
          | (go_ret; exact ⟨by unfold qPost; rw [HQ.out]; exact ⟨rfl, HSw.out⟩, HBw.out⟩)
          | skip
        all_goals refine (scanner_take.calls base g src k line out _ ⟨2, ⟨r1.toArray⟩, 0, 0⟩ ((e + 1 : Nat) : Int) HSw.out hn (Nat.le_trans hB HBw.out.size)).mono ?_
        all_goals rintro e w2 ⟨⟨v, rfl⟩, hS2, hB2⟩
        all_goals have HS2 := Lib.hid hS2
        all_goals have HB2 := Lib.hid (HBw.out.trans hB2)
        all_goals clear hS2 hB2 HSw HBw
        all_goals go_wp2_with fail
        all_goals go_ret
        all_goals exact ⟨by unfold qPost; rw [HQ.out]; exact ⟨rfl, HS2.out.to_at (by omega)⟩, HB2.out⟩
      · have c1 : ((src[e].toNat : Int) != 34) = true := bne_iff_ne.2 (by omega)
        by_cases h92 : src[e].toNat = 92
        · have c2 : ((src[e].toNat : Int) == 92) = true := beq_iff_eq.2 (by omega)
          have hE : src[e] = 92 := UInt8.toNat_inj.1 h92
          have hQ := Lib.hid (show scanQ (src.data.toList.drop (k + 1)) = (scanQ (src.data.toList.drop (e + 2))).map (· + (e + 2 - (k + 1))) by
            rw [hq.out, hd, hE]
            by_cases h1' : e + 1 < src.size
            · rw [drop_at src (e + 1) h1', scanQ_back, Option.map_map]
              congr 1
              funext x
              simp only [Function.comp]
              omega
            · rw [List.drop_of_length_le (show src.data.toList.length ≤ e + 1 by omega), scanQ_back1, List.drop_of_length_le (show src.data.toList.length ≤ e + 2 by omega)]
              rfl)
          clear hE hd hq h34 h92
          go_wp2_with fail
          go_roundw
          case rel => exact ⟨e + 2, by omega, by omega, by go_num, hQ, by first | rfl | trivial⟩
          case measure => simp [intOf]; omega
        · have c2 : ((src[e].toNat : Int) == 92) = false := beq_eq_false_iff_ne.2 (by omega)
          have hQ := Lib.hid (show scanQ (src.data.toList.drop (k + 1)) = (scanQ (src.data.toList.drop (e + 1))).map (· + (e + 1 - (k + 1))) by
            rw [hq.out, hd, scanQ_plain _ _ (fun h => h34 (by rw [h]; rfl)) (fun h => h92 (by rw [h]; rfl)), Option.map_map]
            congr 1
            funext x
            simp only [Function.comp]
            omega)
          clear hd hq h34 h92
          go_wp2_with fail
          go_roundw
          case rel => exact ⟨e + 1, by omega, by omega, by go_num, hQ, by first | rfl | trivial⟩
          case measure => simp [intOf]; omega
    · have hl : decide ((e : Int) < (src.size : Int)) = false := decide_eq_false (by omega)
      have hl2 : decide ((src.size : Int) ≤ (e : Int)) = true := decide_eq_true (by omega)
      have hqt : qtok (src.data.toList.drop k) = none := by
        unfold qtok
        rw [List.drop_drop, hq.out, List.drop_of_length_le (show src.data.toList.length ≤ e by omega)]
        rfl
      have HQ := Lib.hid hqt
      clear hqt hq
      go_wp2_with fail
      go_ret
      exact ⟨by unfold qPost; rw [HQ.out]; exact ⟨rfl, HS.out⟩, Below.refl _ _⟩
end Go.Proofs.YteifffaonigidaaDoor.M
