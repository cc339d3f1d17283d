/- The contract of the scanner's method word. -/
import Derived.Test.YteifffaonigidaaDoorLxD
namespace Go.Proofs.YteifffaonigidaaDoor.M
open Go.RowKit Go.Proofs.YteifffaonigidaaDoorW.PrintWords Go.Proofs.YteifffaonigidaaDoorW.PrintLast
open Go.Proofs.YteifffaonigidaaDoor
set_option linter.unusedVariables false
set_option linter.unusedSimpArgs false
def wPost (base g : Nat) (src : ByteArray) (k : Nat) (line : Int) (out : List S42) (e : Ending) (w' : World) : Prop :=
  match wtok (src.data.toList.drop k) with
  | .error x => e = .returned (.int .i64 x) ∧ Scn base w' g src (k : Int) line out
  | .ok (t, n) => e = .returned (.int .i64 0) ∧ Scn base w' g src ((k + n : Nat) : Int) line (out ++ [⟨t.f0, t.f1, t.f2, line⟩])
theorem part_call (c : UInt8) (W : World) : Calls Tryd.prog 60 #[.int .u8 (c.toNat : Int)] W fun e w' => e = .returned (.bool (partB c)) ∧ ∃ m, w' = W.drewN m :=
  (Lq.lex_part.calls _ _ W (part_f c)).mono fun e w' ⟨h, m⟩ => let ⟨j, hj⟩ := m; ⟨h, j, hj⟩
theorem digit_call (c : UInt8) (W : World) : Calls Tryd.prog 79 #[.int .u8 (c.toNat : Int)] W fun e w' => e = .returned (.bool (digitB c)) ∧ ∃ m, w' = W.drewN m :=
  (Lq.lex_digit.calls _ _ W (digit_f c)).mono fun e w' ⟨h, m⟩ => let ⟨j, hj⟩ := m; ⟨h, j, hj⟩
/-- The state of the walk: the scanner at g; at nb the token that is being made. -/
structure Wk (base g nb : Nat) (src : ByteArray) (k : Nat) (line : Int) (out : List S42) (ws : ByteArray) (w W : World) : Prop where
  own : ∃ v : Value, W.heap[g]? = some (.cells #[.string src, .int .i64 (k : Int), .int .i64 line, v] 71 (0, 0)) ∧ Kd.R k42 42 W base (fun j => j ≠ g ∧ j < nb) v out
  hg : base ≤ g
  gn : g < nb
  ld : LaidP W
  bl : Below base w W
  hb : base ≤ nb
  tk : W.heap[nb]? = some (.cells #[.int .i64 0, .string ws, .int .i64 0, .int .i64 0] 42 (0, 0))
theorem Wk.step {base g nb : Nat} {src : ByteArray} {k : Nat} {line : Int} {out : List S42} {ws : ByteArray} {w W W' : World} (h : Wk base g nb src k line out ws w W) (hb : base ≤ w.heap.size) (h2 : Below W.heap.size W W') : Wk base g nb src k line out ws w W' :=
  ⟨let ⟨v, h1, hr⟩ := h.own; ⟨v, blk_grown h1 (grown_of_below h2 none) (by simp), Kd.R_below hr h2⟩, h.hg, h.gn, h.ld.below h2, h.bl.trans (h2.mono (Nat.le_trans hb h.bl.size)), h.hb, blk_grown h.tk (grown_of_below h2 none) (by simp)⟩
theorem Wk.new {base g : Nat} {src : ByteArray} {k : Nat} {line : Int} {out : List S42} (ws : ByteArray) {w W : World} (h1 : Scn base W g src (k : Int) line out) (h2 : LaidP W) (h3 : Below base w W) (hb : base ≤ w.heap.size) :
    Wk base g W.heap.size src k line out ws w (W.alloc (.cells #[.int .i64 0, .string ws, .int .i64 0, .int .i64 0] 42)) := by
  obtain ⟨v, hbk, hg, hr⟩ := h1
  have ha : Below W.heap.size W (W.alloc (.cells #[.int .i64 0, .string ws, .int .i64 0, .int .i64 0] 42)) := (Below.refl _ _).alloc (Nat.le_refl _) _
  refine ⟨⟨v, blk_grown hbk (grown_of_below ha none) (by simp), Kd.R_below (Kd.R_mono (Kd.R_bound hr) fun j hj => ⟨hj.1, hj.2.2.1⟩) ha⟩, hg, blk_lt hbk, h2.below ha, h3.alloc (Nat.le_trans hb h3.size) _, Nat.le_trans hb h3.size, heap_alloc_new W _⟩
theorem Wk.drewN {base g nb : Nat} {src : ByteArray} {k : Nat} {line : Int} {out : List S42} {ws : ByteArray} {w W : World} (h : Wk base g nb src k line out ws w W) (hb : base ≤ w.heap.size) (m : Nat) : Wk base g nb src k line out ws w (W.drewN m) := h.step hb (pw_below_drewN (Below.refl _ _) m)
theorem Wk.scn {base g nb : Nat} {src : ByteArray} {k : Nat} {line : Int} {out : List S42} {ws : ByteArray} {w W : World} (h : Wk base g nb src k line out ws w W) : Scn base W g src (k : Int) line out :=
  let ⟨v, h1, hr⟩ := h.own; ⟨v, h1, h.hg, Kd.R_mono hr fun _ hj => hj.1⟩
theorem Wk.put {base g nb : Nat} {src : ByteArray} {k : Nat} {line : Int} {out : List S42} {ws : ByteArray} {w W : World} (h : Wk base g nb src k line out ws w W) (a b : Value) : Scn base ((W.setCell ⟨nb, 0, none⟩ a).setCell ⟨nb, 2, none⟩ b) g src (k : Int) line out := by
  obtain ⟨v, h1, hr⟩ := h.own
  have hgn := h.gn
  refine ⟨v, blk_far (blk_far h1 (show g ≠ nb by omega) _) (show g ≠ nb by omega) _, h.hg, Kd.R_mono (Kd.R_move hr fun j hj => ?_) fun _ hj => hj.1⟩
  exact (Below.heap_setCell _ ⟨nb, 2, none⟩ _ j (show j ≠ nb by omega)).trans (Below.heap_setCell W ⟨nb, 0, none⟩ _ j (show j ≠ nb by omega))
set_option maxHeartbeats 8000000 in
set_option maxRecDepth 100000 in
theorem scanner_word.calls (base g : Nat) (src : ByteArray) (k : Nat) (line : Int) (out : List S42) (w : World) (hS : Scn base w g src (k : Int) line out) (hn : out.length < 1000000000) (hk : k < src.size) (hp : partB src[k] = true) (hs : src.size ≤ 1000000) (hB : base ≤ w.heap.size) (hLd : LaidP w) :
    Calls Tryd.prog 80 #[.pointer (some ⟨g, 0, none⟩)] w fun e w' => wPost base g src k line out e w' ∧ Below base w w' := by
  have HS := Lib.hid hS
  have HL := Lib.hid hLd
  have HP := Lib.hid hp
  obtain ⟨v, hb, hg, hr⟩ := hS
  have hc0 : w.cell? ⟨g, 0, none⟩ = some (.string src) := (blk_cell hb 0).trans rfl
  have hc1 : w.cell? ⟨g, 1, none⟩ = some (.int .i64 k) := (blk_cell hb 1).trans rfl
  clear hr hb hLd hp
  go_enter Tryd.func80, Tryd.ntmps80
  go_wp2_with fail
  go_loopw [3] (fun v3 wr => ∃ e : Nat, k ≤ e ∧ e ≤ src.size ∧ v3 = .int .i64 e ∧ Hid ((src.data.toList.drop k).takeWhile partB = (src.data.toList.drop k).take (e - k) ++ (src.data.toList.drop e).takeWhile partB) ∧ ∃ m, wr = w.drewN m) (fun i _ => src.size + 2 - (intOf i).toNat)
  case atStart => exact ⟨k, Nat.le_refl _, by omega, rfl, Lib.hid (by simp), 0, rfl⟩
  case round =>
    obtain ⟨e, h1, h2, rfl, hq, m, rfl⟩ := hrel
    have hlen : src.data.toList.length = src.size := rfl
    by_cases hgo : ∃ h : e < src.size, partB src[e] = true
    · obtain ⟨hlt, hpe⟩ := hgo
      have hd := drop_at src e hlt
      have hl : (e : Int) < (src.size : Int) := by omega
      have hQ := Lib.hid (show (src.data.toList.drop k).takeWhile partB = (src.data.toList.drop k).take (e + 1 - k) ++ (src.data.toList.drop (e + 1)).takeWhile partB by
        rw [hq.out, hd, List.takeWhile_cons, if_pos hpe, show e + 1 - k = (e - k) + 1 by omega, List.take_succ_eq_append_getElem (by rw [List.length_drop]; omega), List.append_assoc]
        congr 1
        rw [List.getElem_drop]
        have : src.data.toList[k + (e - k)]'(by omega) = src[e] := by
          show src.data.toList[k + (e - k)]'(by omega) = src.data.toList[e]
          congr 1
          omega
        rw [this]; rfl)
      have hC := Lib.hid (part_call src[e])
      rw [hpe] at hC
      clear hd hq hpe
      go_wp2_with (go_at_call 60; refine (hC.out _).mono ?_; rintro e' w' ⟨rfl, m1, rfl⟩)
      go_roundw
      case rel => exact ⟨e + 1, by omega, by omega, by go_num, hQ, by exact ⟨_, rfl⟩⟩
      case measure => simp [intOf]; omega
    · have hke : k < e := by
        rcases Nat.lt_or_ge k e with h | h
        · exact h
        · obtain rfl : e = k := by omega
          exact absurd ⟨hk, HP.out⟩ hgo
      have hend : (src.data.toList.drop e).takeWhile partB = [] := by
        rcases Nat.lt_or_ge e src.size with h | h
        · rw [drop_at src e h, List.takeWhile_cons, if_neg (fun hp => hgo ⟨h, hp⟩)]
        · rw [List.drop_of_length_le (show src.data.toList.length ≤ e by omega)]; rfl
      have hW : (src.data.toList.drop k).takeWhile partB = (src.extract k e).data.toList := by
        rw [hq.out, hend, List.append_nil, T.extract_list]
      obtain ⟨ws, hws⟩ : ∃ ws, src.extract k e = ws := ⟨_, rfl⟩
      have hsz : ws.size = e - k := by rw [← hws, ByteArray.size_extract]; omega
      have hsz0 : 0 < ws.size := by omega
      have h0 : ws[0] = src[k] := by
        subst hws
        simp [ByteArray.getElem_extract]
      have hhd : (src.data.toList.drop k).headD 0 = src[k] := by rw [drop_at src k hk]; rfl
      rw [hws] at hW
      have hwt : wtok (src.data.toList.drop k) = if digitB src[k] = true then
          if ws.data.toList.all digitB = false ∨ 1 < ws.size ∧ src[k] = 48 then .error 11
          else if (intOfText ws.data.toList).2 = true then .ok (⟨1, ws, (intOfText ws.data.toList).1, 0⟩, ws.size) else .error 3
        else if wordB ws.data.toList = true then .ok (⟨0, ws, 0, 0⟩, ws.size) else .error 11 := by
        unfold wtok
        rw [hW, hhd]
        rfl
      have hcD := digit_call src[k]
      rw [← h0] at hcD hwt
      clear hW hend hhd hq
      have e0 : (k : Int) ≤ (e : Int) := by omega
      have e1 : (e : Int) ≤ (src.size : Int) := by omega
      have hC : ∀ h : e < src.size, ∀ W : World, Calls Tryd.prog 60 #[.int .u8 (src[e].toNat : Int)] W fun e w' => e = .returned (.bool false) ∧ ∃ m, w' = W.drewN m := by
        intro h W
        have := part_call src[e] W
        rw [show partB src[e] = false by cases hc : partB src[e]; rfl; exact absurd ⟨h, hc⟩ hgo] at this
        exact this
      have HWT := Lib.hid hwt
      have HC := Lib.hid hC
      have HD := Lib.hid hcD
      clear hwt hC hcD hgo h0
      have hU : ∀ e' w', wPost base g src k line out e' w' = (match (if digitB ws[0] = true then
          if ws.data.toList.all digitB = false ∨ 1 < ws.size ∧ ws[0] = 48 then .error 11
          else if (intOfText ws.data.toList).2 = true then .ok (⟨1, ws, (intOfText ws.data.toList).1, 0⟩, ws.size) else .error 3
        else if wordB ws.data.toList = true then .ok (⟨0, ws, 0, 0⟩, ws.size) else .error 11 : Except Int (S42 × Nat)) with
          | .error x => e' = .returned (.int .i64 x) ∧ Scn base w' g src (k : Int) line out
          | .ok (t, n) => e' = .returned (.int .i64 0) ∧ Scn base w' g src ((k + n : Nat) : Int) line (out ++ [⟨t.f0, t.f1, t.f2, line⟩])) := by
        intro e' w'
        unfold wPost
        rw [HWT.out]
      have HU := Lib.hid hU
      clear hU HWT
      have hke' : ((k + ws.size : Nat) : Int) = (e : Int) := by omega
      cases hD : digitB ws[0] with
      | true =>
        rw [hD] at HD HU
        have hcase : (ws.data.toList.all digitB = false) ∨ (ws.data.toList.all digitB = true ∧ 1 < ws.size ∧ ws[0] = 48) ∨ (ws.data.toList.all digitB = true ∧ ¬ 1 < ws.size) ∨ (ws.data.toList.all digitB = true ∧ 1 < ws.size ∧ ws[0] ≠ 48) := by
          cases ws.data.toList.all digitB
          · exact Or.inl rfl
          · by_cases h1 : 1 < ws.size
            · by_cases h2 : ws[0] = 48
              · exact Or.inr (Or.inl ⟨rfl, h1, h2⟩)
              · exact Or.inr (Or.inr (Or.inr ⟨rfl, h1, h2⟩))
            · exact Or.inr (Or.inr (Or.inl ⟨rfl, h1⟩))
        rcases hcase with hA | ⟨hA, hz1, hz2⟩ | ⟨hA, hz1⟩ | ⟨hA, hz1, hz2⟩
        · have hT : ¬ Lib.trimS ws.data.toList [48, 49, 50, 51, 52, 53, 54, 55, 56, 57] = [] := fun h => by rw [trim_nil, hA] at h; exact absurd h (by decide)
          have HX := Lib.hid (show ∀ e' w', wPost base g src k line out e' w' = (e' = .returned (.int .i64 11) ∧ Scn base w' g src (k : Int) line out) from fun e' w' => by rw [HU.out, if_pos rfl, if_pos (Or.inl hA)])
          clear HU hA
          rcases Nat.lt_or_ge e src.size with hlt | hge
          · have hl : (e : Int) < (src.size : Int) := by omega
            go_wp2_with (go_at_call 60; refine (HC.out hlt _).mono ?_; rintro e' w' ⟨rfl, m1, rfl⟩)
            go_quiet (fail)
            obtain ⟨W1, hW1⟩ : ∃ W1, (w.drewN (m + m1)).drewN nq = W1 := ⟨_, rfl⟩
            have K0 := Lib.hid (Wk.new ws (hW1 ▸ (HS.out.drewN _).drewN _) (hW1 ▸ HL.out.below (pw_below_drewN (pw_below_drewN (Below.refl _ _) _) _)) (hW1 ▸ pw_below_drewN (pw_below_drewN (Below.refl _ _) _) _) hB)
            rw [hW1]
            clear hW1 hc0 hc1 HS HL HC
            go_wp2_with fail
            refine (HD.out _).mono ?_
            rintro e' w' ⟨rfl, m2, rfl⟩
            go_wp2_with fail
            refine (trim_digits ws _ (by omega)).mono ?_
            rintro e' w2 ⟨rfl, hB2⟩
            have K2 := Lib.hid ((K0.out.drewN hB m2).step hB hB2)
            clear K0 hB2
            go_wp2_with fail
            go_ret
            exact ⟨by rw [HX.out]; exact ⟨rfl, K2.out.scn⟩, K2.out.bl⟩
          · have hl : decide ((e : Int) < (src.size : Int)) = false := decide_eq_false (by omega)
            go_wp2_with fail
            go_quiet (fail)
            obtain ⟨W1, hW1⟩ : ∃ W1, (w.drewN m).drewN nq = W1 := ⟨_, rfl⟩
            have K0 := Lib.hid (Wk.new ws (hW1 ▸ (HS.out.drewN _).drewN _) (hW1 ▸ HL.out.below (pw_below_drewN (pw_below_drewN (Below.refl _ _) _) _)) (hW1 ▸ pw_below_drewN (pw_below_drewN (Below.refl _ _) _) _) hB)
            rw [hW1]
            clear hW1 hc0 hc1 HS HL HC
            go_wp2_with fail
            refine (HD.out _).mono ?_
            rintro e' w' ⟨rfl, m2, rfl⟩
            go_wp2_with fail
            refine (trim_digits ws _ (by omega)).mono ?_
            rintro e' w2 ⟨rfl, hB2⟩
            have K2 := Lib.hid ((K0.out.drewN hB m2).step hB hB2)
            clear K0 hB2
            go_wp2_with fail
            go_ret
            exact ⟨by rw [HX.out]; exact ⟨rfl, K2.out.scn⟩, K2.out.bl⟩
        · have hT : Lib.trimS ws.data.toList [48, 49, 50, 51, 52, 53, 54, 55, 56, 57] = [] := (trim_nil _).2 hA
          have d1 : decide ((1 : Int) < (ws.size : Int)) = true := decide_eq_true (by omega)
          have d2 : ((ws[0].toNat : Int) == 48) = true := by rw [hz2]; rfl
          have HX := Lib.hid (show ∀ e' w', wPost base g src k line out e' w' = (e' = .returned (.int .i64 11) ∧ Scn base w' g src (k : Int) line out) from fun e' w' => by rw [HU.out, if_pos rfl, if_pos (Or.inr ⟨hz1, hz2⟩)])
          clear HU hA hz2
          rcases Nat.lt_or_ge e src.size with hlt | hge
          · have hl : (e : Int) < (src.size : Int) := by omega
            go_wp2_with (go_at_call 60; refine (HC.out hlt _).mono ?_; rintro e' w' ⟨rfl, m1, rfl⟩)
            go_quiet (fail)
            obtain ⟨W1, hW1⟩ : ∃ W1, (w.drewN (m + m1)).drewN nq = W1 := ⟨_, rfl⟩
            have K0 := Lib.hid (Wk.new ws (hW1 ▸ (HS.out.drewN _).drewN _) (hW1 ▸ HL.out.below (pw_below_drewN (pw_below_drewN (Below.refl _ _) _) _)) (hW1 ▸ pw_below_drewN (pw_below_drewN (Below.refl _ _) _) _) hB)
            rw [hW1]
            clear hW1 hc0 hc1 HS HL HC
            go_wp2_with fail
            refine (HD.out _).mono ?_
            rintro e' w' ⟨rfl, m2, rfl⟩
            go_wp2_with fail
            refine (trim_digits ws _ (by omega)).mono ?_
            rintro e' w2 ⟨rfl, hB2⟩
            have K2 := Lib.hid ((K0.out.drewN hB m2).step hB hB2)
            clear K0 hB2
            go_wp2_with fail
            go_ret
            exact ⟨by rw [HX.out]; exact ⟨rfl, K2.out.scn⟩, K2.out.bl⟩
          · have hl : decide ((e : Int) < (src.size : Int)) = false := decide_eq_false (by omega)
            go_wp2_with fail
            go_quiet (fail)
            obtain ⟨W1, hW1⟩ : ∃ W1, (w.drewN m).drewN nq = W1 := ⟨_, rfl⟩
            have K0 := Lib.hid (Wk.new ws (hW1 ▸ (HS.out.drewN _).drewN _) (hW1 ▸ HL.out.below (pw_below_drewN (pw_below_drewN (Below.refl _ _) _) _)) (hW1 ▸ pw_below_drewN (pw_below_drewN (Below.refl _ _) _) _) hB)
            rw [hW1]
            clear hW1 hc0 hc1 HS HL HC
            go_wp2_with fail
            refine (HD.out _).mono ?_
            rintro e' w' ⟨rfl, m2, rfl⟩
            go_wp2_with fail
            refine (trim_digits ws _ (by omega)).mono ?_
            rintro e' w2 ⟨rfl, hB2⟩
            have K2 := Lib.hid ((K0.out.drewN hB m2).step hB hB2)
            clear K0 hB2
            go_wp2_with fail
            go_ret
            exact ⟨by rw [HX.out]; exact ⟨rfl, K2.out.scn⟩, K2.out.bl⟩
        · have hT : Lib.trimS ws.data.toList [48, 49, 50, 51, 52, 53, 54, 55, 56, 57] = [] := (trim_nil _).2 hA
          have d1 : decide ((1 : Int) < (ws.size : Int)) = false := decide_eq_false (by omega)
          have hnb : ¬ (ws.data.toList.all digitB = false ∨ 1 < ws.size ∧ ws[0] = 48) := by
            rintro (h | h)
            · rw [hA] at h; exact absurd h (by decide)
            · exact hz1 h.1
          obtain ⟨r1, hr1⟩ : ∃ r, (intOfText ws.data.toList).1 = r := ⟨_, rfl⟩
          have hI : text_Int.f ws = some (r1, (intOfText ws.data.toList).2) := by unfold text_Int.f; rw [if_pos (by omega), ← hr1]
          cases hr2 : (intOfText ws.data.toList).2 with
          | false =>
            rw [hr2] at hI
            have HI := Lib.hid hI
            have HX := Lib.hid (show ∀ e' w', wPost base g src k line out e' w' = (e' = .returned (.int .i64 3) ∧ Scn base w' g src (k : Int) line out) from fun e' w' => by rw [HU.out, if_pos rfl, if_neg hnb, hr2, if_neg (by decide)])
            clear HU hI hnb hr1 hr2 hA
            rcases Nat.lt_or_ge e src.size with hlt | hge
            · have hl : (e : Int) < (src.size : Int) := by omega
              go_wp2_with (go_at_call 60; refine (HC.out hlt _).mono ?_; rintro e' w' ⟨rfl, m1, rfl⟩)
              go_quiet (fail)
              obtain ⟨W1, hW1⟩ : ∃ W1, (w.drewN (m + m1)).drewN nq = W1 := ⟨_, rfl⟩
              have K0 := Lib.hid (Wk.new ws (hW1 ▸ (HS.out.drewN _).drewN _) (hW1 ▸ HL.out.below (pw_below_drewN (pw_below_drewN (Below.refl _ _) _) _)) (hW1 ▸ pw_below_drewN (pw_below_drewN (Below.refl _ _) _) _) hB)
              rw [hW1]
              clear hW1 hc0 hc1 HS HL HC
              go_wp2_with fail
              refine (HD.out _).mono ?_
              rintro e' w' ⟨rfl, m2, rfl⟩
              go_wp2_with fail
              refine (trim_digits ws _ (by omega)).mono ?_
              rintro e' w2 ⟨rfl, hB2⟩
              have K2 := Lib.hid ((K0.out.drewN hB m2).step hB hB2)
              clear K0 hB2
              go_wp2_with fail
              refine (text_Int.calls ws r1 _ _ HI.out K2.out.ld).mono ?_
              rintro e' w3 ⟨rfl, hB3⟩
              have K3 := Lib.hid (K2.out.step hB hB3)
              clear K2 hB3
              go_wp2_with fail
              go_ret
              exact ⟨by rw [HX.out]; exact ⟨rfl, K3.out.scn⟩, K3.out.bl⟩
            · have hl : decide ((e : Int) < (src.size : Int)) = false := decide_eq_false (by omega)
              go_wp2_with fail
              go_quiet (fail)
              obtain ⟨W1, hW1⟩ : ∃ W1, (w.drewN m).drewN nq = W1 := ⟨_, rfl⟩
              have K0 := Lib.hid (Wk.new ws (hW1 ▸ (HS.out.drewN _).drewN _) (hW1 ▸ HL.out.below (pw_below_drewN (pw_below_drewN (Below.refl _ _) _) _)) (hW1 ▸ pw_below_drewN (pw_below_drewN (Below.refl _ _) _) _) hB)
              rw [hW1]
              clear hW1 hc0 hc1 HS HL HC
              go_wp2_with fail
              refine (HD.out _).mono ?_
              rintro e' w' ⟨rfl, m2, rfl⟩
              go_wp2_with fail
              refine (trim_digits ws _ (by omega)).mono ?_
              rintro e' w2 ⟨rfl, hB2⟩
              have K2 := Lib.hid ((K0.out.drewN hB m2).step hB hB2)
              clear K0 hB2
              go_wp2_with fail
              refine (text_Int.calls ws r1 _ _ HI.out K2.out.ld).mono ?_
              rintro e' w3 ⟨rfl, hB3⟩
              have K3 := Lib.hid (K2.out.step hB hB3)
              clear K2 hB3
              go_wp2_with fail
              go_ret
              exact ⟨by rw [HX.out]; exact ⟨rfl, K3.out.scn⟩, K3.out.bl⟩
          | true =>
            rw [hr2] at hI
            have HI := Lib.hid hI
            have HX := Lib.hid (show ∀ e' w', wPost base g src k line out e' w' = (e' = .returned (.int .i64 0) ∧ Scn base w' g src ((k + ws.size : Nat) : Int) line (out ++ [⟨1, ws, r1, line⟩])) from fun e' w' => by rw [HU.out, if_pos rfl, if_neg hnb, hr2, if_pos rfl, hr1])
            clear HU hI hnb hr1 hr2 hA
            rcases Nat.lt_or_ge e src.size with hlt | hge
            · have hl : (e : Int) < (src.size : Int) := by omega
              go_wp2_with (go_at_call 60; refine (HC.out hlt _).mono ?_; rintro e' w' ⟨rfl, m1, rfl⟩)
              go_quiet (fail)
              obtain ⟨W1, hW1⟩ : ∃ W1, (w.drewN (m + m1)).drewN nq = W1 := ⟨_, rfl⟩
              have K0 := Lib.hid (Wk.new ws (hW1 ▸ (HS.out.drewN _).drewN _) (hW1 ▸ HL.out.below (pw_below_drewN (pw_below_drewN (Below.refl _ _) _) _)) (hW1 ▸ pw_below_drewN (pw_below_drewN (Below.refl _ _) _) _) hB)
              rw [hW1]
              clear hW1 hc0 hc1 HS HL HC
              go_wp2_with fail
              refine (HD.out _).mono ?_
              rintro e' w' ⟨rfl, m2, rfl⟩
              go_wp2_with fail
              refine (trim_digits ws _ (by omega)).mono ?_
              rintro e' w2 ⟨rfl, hB2⟩
              have K2 := Lib.hid ((K0.out.drewN hB m2).step hB hB2)
              clear K0 hB2
              go_wp2_with fail
              refine (text_Int.calls ws r1 _ _ HI.out K2.out.ld).mono ?_
              rintro e' w3 ⟨rfl, hB3⟩
              have K3 := Lib.hid (K2.out.step hB hB3)
              clear K2 hB3
              have n0 : w3.cell? ⟨W1.heap.size, 0, none⟩ = some (.int .i64 0) := (blk_cell K3.out.tk 0).trans rfl
              have n1 : w3.cell? ⟨W1.heap.size, 1, none⟩ = some (.string ws) := (blk_cell K3.out.tk 1).trans rfl
              have n2 : w3.cell? ⟨W1.heap.size, 2, none⟩ = some (.int .i64 0) := (blk_cell K3.out.tk 2).trans rfl
              have n3 : w3.cell? ⟨W1.heap.size, 3, none⟩ = some (.int .i64 0) := (blk_cell K3.out.tk 3).trans rfl
              have f0 := blk_frozen K3.out.tk 0
              have f2 := blk_frozen K3.out.tk 2
              go_wp2_with fail
              refine (scanner_take.calls base g src k line out _ ⟨1, ws, r1, 0⟩ (e : Int) (K3.out.put _ _) hn (Nat.le_trans hB (below_setB (below_setB K3.out.bl K3.out.hb _) K3.out.hb _).size)).mono ?_
              rintro e' w4 ⟨⟨v4, rfl⟩, hS4, hB4⟩
              have HS4 := Lib.hid hS4
              have HB4 := Lib.hid ((below_setB (below_setB K3.out.bl K3.out.hb _) K3.out.hb _).trans hB4)
              clear hS4 hB4
              go_wp2_with fail
              go_ret
              exact ⟨by rw [HX.out]; exact ⟨rfl, HS4.out.to_at hke'.symm⟩, HB4.out⟩
            · have hl : decide ((e : Int) < (src.size : Int)) = false := decide_eq_false (by omega)
              go_wp2_with fail
              go_quiet (fail)
              obtain ⟨W1, hW1⟩ : ∃ W1, (w.drewN m).drewN nq = W1 := ⟨_, rfl⟩
              have K0 := Lib.hid (Wk.new ws (hW1 ▸ (HS.out.drewN _).drewN _) (hW1 ▸ HL.out.below (pw_below_drewN (pw_below_drewN (Below.refl _ _) _) _)) (hW1 ▸ pw_below_drewN (pw_below_drewN (Below.refl _ _) _) _) hB)
              rw [hW1]
              clear hW1 hc0 hc1 HS HL HC
              go_wp2_with fail
              refine (HD.out _).mono ?_
              rintro e' w' ⟨rfl, m2, rfl⟩
              go_wp2_with fail
              refine (trim_digits ws _ (by omega)).mono ?_
              rintro e' w2 ⟨rfl, hB2⟩
              have K2 := Lib.hid ((K0.out.drewN hB m2).step hB hB2)
              clear K0 hB2
              go_wp2_with fail
              refine (text_Int.calls ws r1 _ _ HI.out K2.out.ld).mono ?_
              rintro e' w3 ⟨rfl, hB3⟩
              have K3 := Lib.hid (K2.out.step hB hB3)
              clear K2 hB3
              have n0 : w3.cell? ⟨W1.heap.size, 0, none⟩ = some (.int .i64 0) := (blk_cell K3.out.tk 0).trans rfl
              have n1 : w3.cell? ⟨W1.heap.size, 1, none⟩ = some (.string ws) := (blk_cell K3.out.tk 1).trans rfl
              have n2 : w3.cell? ⟨W1.heap.size, 2, none⟩ = some (.int .i64 0) := (blk_cell K3.out.tk 2).trans rfl
              have n3 : w3.cell? ⟨W1.heap.size, 3, none⟩ = some (.int .i64 0) := (blk_cell K3.out.tk 3).trans rfl
              have f0 := blk_frozen K3.out.tk 0
              have f2 := blk_frozen K3.out.tk 2
              go_wp2_with fail
              refine (scanner_take.calls base g src k line out _ ⟨1, ws, r1, 0⟩ (e : Int) (K3.out.put _ _) hn (Nat.le_trans hB (below_setB (below_setB K3.out.bl K3.out.hb _) K3.out.hb _).size)).mono ?_
              rintro e' w4 ⟨⟨v4, rfl⟩, hS4, hB4⟩
              have HS4 := Lib.hid hS4
              have HB4 := Lib.hid ((below_setB (below_setB K3.out.bl K3.out.hb _) K3.out.hb _).trans hB4)
              clear hS4 hB4
              go_wp2_with fail
              go_ret
              exact ⟨by rw [HX.out]; exact ⟨rfl, HS4.out.to_at hke'.symm⟩, HB4.out⟩
        · have hT : Lib.trimS ws.data.toList [48, 49, 50, 51, 52, 53, 54, 55, 56, 57] = [] := (trim_nil _).2 hA
          have d1 : decide ((1 : Int) < (ws.size : Int)) = true := decide_eq_true (by omega)
          have d2 : ((ws[0].toNat : Int) == 48) = false := beq_eq_false_iff_ne.2 (fun h => hz2 (UInt8.toNat_inj.1 (show ws[0].toNat = (48 : UInt8).toNat by have h1 : (48 : UInt8).toNat = 48 := rfl; have h2 : (ws[0].toNat : Int) = 48 := (by simpa using h); omega)))
          have hnb : ¬ (ws.data.toList.all digitB = false ∨ 1 < ws.size ∧ ws[0] = 48) := by
            rintro (h | h)
            · rw [hA] at h; exact absurd h (by decide)
            · exact hz2 h.2
          obtain ⟨r1, hr1⟩ : ∃ r, (intOfText ws.data.toList).1 = r := ⟨_, rfl⟩
          have hI : text_Int.f ws = some (r1, (intOfText ws.data.toList).2) := by unfold text_Int.f; rw [if_pos (by omega), ← hr1]
          cases hr2 : (intOfText ws.data.toList).2 with
          | false =>
            rw [hr2] at hI
            have HI := Lib.hid hI
            have HX := Lib.hid (show ∀ e' w', wPost base g src k line out e' w' = (e' = .returned (.int .i64 3) ∧ Scn base w' g src (k : Int) line out) from fun e' w' => by rw [HU.out, if_pos rfl, if_neg hnb, hr2, if_neg (by decide)])
            clear HU hI hnb hr1 hr2 hA
            rcases Nat.lt_or_ge e src.size with hlt | hge
            · have hl : (e : Int) < (src.size : Int) := by omega
              go_wp2_with (go_at_call 60; refine (HC.out hlt _).mono ?_; rintro e' w' ⟨rfl, m1, rfl⟩)
              go_quiet (fail)
              obtain ⟨W1, hW1⟩ : ∃ W1, (w.drewN (m + m1)).drewN nq = W1 := ⟨_, rfl⟩
              have K0 := Lib.hid (Wk.new ws (hW1 ▸ (HS.out.drewN _).drewN _) (hW1 ▸ HL.out.below (pw_below_drewN (pw_below_drewN (Below.refl _ _) _) _)) (hW1 ▸ pw_below_drewN (pw_below_drewN (Below.refl _ _) _) _) hB)
              rw [hW1]
              clear hW1 hc0 hc1 HS HL HC
              go_wp2_with fail
              refine (HD.out _).mono ?_
              rintro e' w' ⟨rfl, m2, rfl⟩
              go_wp2_with fail
              refine (trim_digits ws _ (by omega)).mono ?_
              rintro e' w2 ⟨rfl, hB2⟩
              have K2 := Lib.hid ((K0.out.drewN hB m2).step hB hB2)
              clear K0 hB2
              go_wp2_with fail
              refine (text_Int.calls ws r1 _ _ HI.out K2.out.ld).mono ?_
              rintro e' w3 ⟨rfl, hB3⟩
              have K3 := Lib.hid (K2.out.step hB hB3)
              clear K2 hB3
              go_wp2_with fail
              go_ret
              exact ⟨by rw [HX.out]; exact ⟨rfl, K3.out.scn⟩, K3.out.bl⟩
            · have hl : decide ((e : Int) < (src.size : Int)) = false := decide_eq_false (by omega)
              go_wp2_with fail
              go_quiet (fail)
              obtain ⟨W1, hW1⟩ : ∃ W1, (w.drewN m).drewN nq = W1 := ⟨_, rfl⟩
              have K0 := Lib.hid (Wk.new ws (hW1 ▸ (HS.out.drewN _).drewN _) (hW1 ▸ HL.out.below (pw_below_drewN (pw_below_drewN (Below.refl _ _) _) _)) (hW1 ▸ pw_below_drewN (pw_below_drewN (Below.refl _ _) _) _) hB)
              rw [hW1]
              clear hW1 hc0 hc1 HS HL HC
              go_wp2_with fail
              refine (HD.out _).mono ?_
              rintro e' w' ⟨rfl, m2, rfl⟩
              go_wp2_with fail
              refine (trim_digits ws _ (by omega)).mono ?_
              rintro e' w2 ⟨rfl, hB2⟩
              have K2 := Lib.hid ((K0.out.drewN hB m2).step hB hB2)
              clear K0 hB2
              go_wp2_with fail
              refine (text_Int.calls ws r1 _ _ HI.out K2.out.ld).mono ?_
              rintro e' w3 ⟨rfl, hB3⟩
              have K3 := Lib.hid (K2.out.step hB hB3)
              clear K2 hB3
              go_wp2_with fail
              go_ret
              exact ⟨by rw [HX.out]; exact ⟨rfl, K3.out.scn⟩, K3.out.bl⟩
          | true =>
            rw [hr2] at hI
            have HI := Lib.hid hI
            have HX := Lib.hid (show ∀ e' w', wPost base g src k line out e' w' = (e' = .returned (.int .i64 0) ∧ Scn base w' g src ((k + ws.size : Nat) : Int) line (out ++ [⟨1, ws, r1, line⟩])) from fun e' w' => by rw [HU.out, if_pos rfl, if_neg hnb, hr2, if_pos rfl, hr1])
            clear HU hI hnb hr1 hr2 hA
            rcases Nat.lt_or_ge e src.size with hlt | hge
            · have hl : (e : Int) < (src.size : Int) := by omega
              go_wp2_with (go_at_call 60; refine (HC.out hlt _).mono ?_; rintro e' w' ⟨rfl, m1, rfl⟩)
              go_quiet (fail)
              obtain ⟨W1, hW1⟩ : ∃ W1, (w.drewN (m + m1)).drewN nq = W1 := ⟨_, rfl⟩
              have K0 := Lib.hid (Wk.new ws (hW1 ▸ (HS.out.drewN _).drewN _) (hW1 ▸ HL.out.below (pw_below_drewN (pw_below_drewN (Below.refl _ _) _) _)) (hW1 ▸ pw_below_drewN (pw_below_drewN (Below.refl _ _) _) _) hB)
              rw [hW1]
              clear hW1 hc0 hc1 HS HL HC
              go_wp2_with fail
              refine (HD.out _).mono ?_
              rintro e' w' ⟨rfl, m2, rfl⟩
              go_wp2_with fail
              refine (trim_digits ws _ (by omega)).mono ?_
              rintro e' w2 ⟨rfl, hB2⟩
              have K2 := Lib.hid ((K0.out.drewN hB m2).step hB hB2)
              clear K0 hB2
              go_wp2_with fail
              refine (text_Int.calls ws r1 _ _ HI.out K2.out.ld).mono ?_
              rintro e' w3 ⟨rfl, hB3⟩
              have K3 := Lib.hid (K2.out.step hB hB3)
              clear K2 hB3
              have n0 : w3.cell? ⟨W1.heap.size, 0, none⟩ = some (.int .i64 0) := (blk_cell K3.out.tk 0).trans rfl
              have n1 : w3.cell? ⟨W1.heap.size, 1, none⟩ = some (.string ws) := (blk_cell K3.out.tk 1).trans rfl
              have n2 : w3.cell? ⟨W1.heap.size, 2, none⟩ = some (.int .i64 0) := (blk_cell K3.out.tk 2).trans rfl
              have n3 : w3.cell? ⟨W1.heap.size, 3, none⟩ = some (.int .i64 0) := (blk_cell K3.out.tk 3).trans rfl
              have f0 := blk_frozen K3.out.tk 0
              have f2 := blk_frozen K3.out.tk 2
              go_wp2_with fail
              refine (scanner_take.calls base g src k line out _ ⟨1, ws, r1, 0⟩ (e : Int) (K3.out.put _ _) hn (Nat.le_trans hB (below_setB (below_setB K3.out.bl K3.out.hb _) K3.out.hb _).size)).mono ?_
              rintro e' w4 ⟨⟨v4, rfl⟩, hS4, hB4⟩
              have HS4 := Lib.hid hS4
              have HB4 := Lib.hid ((below_setB (below_setB K3.out.bl K3.out.hb _) K3.out.hb _).trans hB4)
              clear hS4 hB4
              go_wp2_with fail
              go_ret
              exact ⟨by rw [HX.out]; exact ⟨rfl, HS4.out.to_at hke'.symm⟩, HB4.out⟩
            · have hl : decide ((e : Int) < (src.size : Int)) = false := decide_eq_false (by omega)
              go_wp2_with fail
              go_quiet (fail)
              obtain ⟨W1, hW1⟩ : ∃ W1, (w.drewN m).drewN nq = W1 := ⟨_, rfl⟩
              have K0 := Lib.hid (Wk.new ws (hW1 ▸ (HS.out.drewN _).drewN _) (hW1 ▸ HL.out.below (pw_below_drewN (pw_below_drewN (Below.refl _ _) _) _)) (hW1 ▸ pw_below_drewN (pw_below_drewN (Below.refl _ _) _) _) hB)
              rw [hW1]
              clear hW1 hc0 hc1 HS HL HC
              go_wp2_with fail
              refine (HD.out _).mono ?_
              rintro e' w' ⟨rfl, m2, rfl⟩
              go_wp2_with fail
              refine (trim_digits ws _ (by omega)).mono ?_
              rintro e' w2 ⟨rfl, hB2⟩
              have K2 := Lib.hid ((K0.out.drewN hB m2).step hB hB2)
              clear K0 hB2
              go_wp2_with fail
              refine (text_Int.calls ws r1 _ _ HI.out K2.out.ld).mono ?_
              rintro e' w3 ⟨rfl, hB3⟩
              have K3 := Lib.hid (K2.out.step hB hB3)
              clear K2 hB3
              have n0 : w3.cell? ⟨W1.heap.size, 0, none⟩ = some (.int .i64 0) := (blk_cell K3.out.tk 0).trans rfl
              have n1 : w3.cell? ⟨W1.heap.size, 1, none⟩ = some (.string ws) := (blk_cell K3.out.tk 1).trans rfl
              have n2 : w3.cell? ⟨W1.heap.size, 2, none⟩ = some (.int .i64 0) := (blk_cell K3.out.tk 2).trans rfl
              have n3 : w3.cell? ⟨W1.heap.size, 3, none⟩ = some (.int .i64 0) := (blk_cell K3.out.tk 3).trans rfl
              have f0 := blk_frozen K3.out.tk 0
              have f2 := blk_frozen K3.out.tk 2
              go_wp2_with fail
              refine (scanner_take.calls base g src k line out _ ⟨1, ws, r1, 0⟩ (e : Int) (K3.out.put _ _) hn (Nat.le_trans hB (below_setB (below_setB K3.out.bl K3.out.hb _) K3.out.hb _).size)).mono ?_
              rintro e' w4 ⟨⟨v4, rfl⟩, hS4, hB4⟩
              have HS4 := Lib.hid hS4
              have HB4 := Lib.hid ((below_setB (below_setB K3.out.bl K3.out.hb _) K3.out.hb _).trans hB4)
              clear hS4 hB4
              go_wp2_with fail
              go_ret
              exact ⟨by rw [HX.out]; exact ⟨rfl, HS4.out.to_at hke'.symm⟩, HB4.out⟩
      | false =>
        rw [hD] at HD HU
        have hWd : lex_Word.f ws = some (wordB ws.data.toList) := by unfold lex_Word.f; rw [if_pos (by omega)]
        cases hw : wordB ws.data.toList with
        | false =>
          rw [hw] at hWd
          have HWd := Lib.hid hWd
          have HX := Lib.hid (show ∀ e' w', wPost base g src k line out e' w' = (e' = .returned (.int .i64 11) ∧ Scn base w' g src (k : Int) line out) from fun e' w' => by rw [HU.out, if_neg (by decide), hw, if_neg (by decide)])
          clear HU hWd
          rcases Nat.lt_or_ge e src.size with hlt | hge
          · have hl : (e : Int) < (src.size : Int) := by omega
            go_wp2_with (go_at_call 60; refine (HC.out hlt _).mono ?_; rintro e' w' ⟨rfl, m1, rfl⟩)
            go_quiet (fail)
            obtain ⟨W1, hW1⟩ : ∃ W1, (w.drewN (m + m1)).drewN nq = W1 := ⟨_, rfl⟩
            have K0 := Lib.hid (Wk.new ws (hW1 ▸ (HS.out.drewN _).drewN _) (hW1 ▸ HL.out.below (pw_below_drewN (pw_below_drewN (Below.refl _ _) _) _)) (hW1 ▸ pw_below_drewN (pw_below_drewN (Below.refl _ _) _) _) hB)
            rw [hW1]
            clear hW1 hc0 hc1 HS HL HC
            go_wp2_with fail
            refine (HD.out _).mono ?_
            rintro e' w' ⟨rfl, m2, rfl⟩
            go_wp2_with fail
            refine (lex_Word.calls ws _ _ HWd.out).mono ?_
            rintro e' w2 ⟨rfl, hd2⟩
            obtain ⟨m3, rfl⟩ := hd2
            have K2 := Lib.hid ((K0.out.drewN hB m2).drewN hB m3)
            clear K0
            obtain ⟨W2, hW2⟩ : ∃ W2, ((W1.alloc (.cells #[.int .i64 0, .string ws, .int .i64 0, .int .i64 0] 42)).drewN m2).drewN m3 = W2 := ⟨_, rfl⟩
            rw [hW2] at K2 ⊢
            clear hW2
            go_wp2_with fail
            go_ret
            exact ⟨by rw [HX.out]; exact ⟨rfl, K2.out.scn⟩, K2.out.bl⟩
          · have hl : decide ((e : Int) < (src.size : Int)) = false := decide_eq_false (by omega)
            go_wp2_with fail
            go_quiet (fail)
            obtain ⟨W1, hW1⟩ : ∃ W1, (w.drewN m).drewN nq = W1 := ⟨_, rfl⟩
            have K0 := Lib.hid (Wk.new ws (hW1 ▸ (HS.out.drewN _).drewN _) (hW1 ▸ HL.out.below (pw_below_drewN (pw_below_drewN (Below.refl _ _) _) _)) (hW1 ▸ pw_below_drewN (pw_below_drewN (Below.refl _ _) _) _) hB)
            rw [hW1]
            clear hW1 hc0 hc1 HS HL HC
            go_wp2_with fail
            refine (HD.out _).mono ?_
            rintro e' w' ⟨rfl, m2, rfl⟩
            go_wp2_with fail
            refine (lex_Word.calls ws _ _ HWd.out).mono ?_
            rintro e' w2 ⟨rfl, hd2⟩
            obtain ⟨m3, rfl⟩ := hd2
            have K2 := Lib.hid ((K0.out.drewN hB m2).drewN hB m3)
            clear K0
            obtain ⟨W2, hW2⟩ : ∃ W2, ((W1.alloc (.cells #[.int .i64 0, .string ws, .int .i64 0, .int .i64 0] 42)).drewN m2).drewN m3 = W2 := ⟨_, rfl⟩
            rw [hW2] at K2 ⊢
            clear hW2
            go_wp2_with fail
            go_ret
            exact ⟨by rw [HX.out]; exact ⟨rfl, K2.out.scn⟩, K2.out.bl⟩
        | true =>
          rw [hw] at hWd
          have HWd := Lib.hid hWd
          have HX := Lib.hid (show ∀ e' w', wPost base g src k line out e' w' = (e' = .returned (.int .i64 0) ∧ Scn base w' g src ((k + ws.size : Nat) : Int) line (out ++ [⟨0, ws, 0, line⟩])) from fun e' w' => by rw [HU.out, if_neg (by decide), hw, if_pos rfl])
          clear HU hWd
          rcases Nat.lt_or_ge e src.size with hlt | hge
          · have hl : (e : Int) < (src.size : Int) := by omega
            go_wp2_with (go_at_call 60; refine (HC.out hlt _).mono ?_; rintro e' w' ⟨rfl, m1, rfl⟩)
            go_quiet (fail)
            obtain ⟨W1, hW1⟩ : ∃ W1, (w.drewN (m + m1)).drewN nq = W1 := ⟨_, rfl⟩
            have K0 := Lib.hid (Wk.new ws (hW1 ▸ (HS.out.drewN _).drewN _) (hW1 ▸ HL.out.below (pw_below_drewN (pw_below_drewN (Below.refl _ _) _) _)) (hW1 ▸ pw_below_drewN (pw_below_drewN (Below.refl _ _) _) _) hB)
            rw [hW1]
            clear hW1 hc0 hc1 HS HL HC
            go_wp2_with fail
            refine (HD.out _).mono ?_
            rintro e' w' ⟨rfl, m2, rfl⟩
            go_wp2_with fail
            refine (lex_Word.calls ws _ _ HWd.out).mono ?_
            rintro e' w2 ⟨rfl, hd2⟩
            obtain ⟨m3, rfl⟩ := hd2
            have K2 := Lib.hid ((K0.out.drewN hB m2).drewN hB m3)
            clear K0
            obtain ⟨W2, hW2⟩ : ∃ W2, ((W1.alloc (.cells #[.int .i64 0, .string ws, .int .i64 0, .int .i64 0] 42)).drewN m2).drewN m3 = W2 := ⟨_, rfl⟩
            rw [hW2] at K2 ⊢
            clear hW2
            have n0 : W2.cell? ⟨W1.heap.size, 0, none⟩ = some (.int .i64 0) := (blk_cell K2.out.tk 0).trans rfl
            have n1 : W2.cell? ⟨W1.heap.size, 1, none⟩ = some (.string ws) := (blk_cell K2.out.tk 1).trans rfl
            have n2 : W2.cell? ⟨W1.heap.size, 2, none⟩ = some (.int .i64 0) := (blk_cell K2.out.tk 2).trans rfl
            have n3 : W2.cell? ⟨W1.heap.size, 3, none⟩ = some (.int .i64 0) := (blk_cell K2.out.tk 3).trans rfl
            have f0 := blk_frozen K2.out.tk 0
            have f2 := blk_frozen K2.out.tk 2
            go_wp2_with fail
            refine (scanner_take.calls base g src k line out _ ⟨0, ws, 0, 0⟩ (e : Int) K2.out.scn hn (Nat.le_trans hB (K2.out.bl).size)).mono ?_
            rintro e' w4 ⟨⟨v4, rfl⟩, hS4, hB4⟩
            have HS4 := Lib.hid hS4
            have HB4 := Lib.hid ((K2.out.bl).trans hB4)
            clear hS4 hB4
            go_wp2_with fail
            go_ret
            exact ⟨by rw [HX.out]; exact ⟨rfl, HS4.out.to_at hke'.symm⟩, HB4.out⟩
          · have hl : decide ((e : Int) < (src.size : Int)) = false := decide_eq_false (by omega)
            go_wp2_with fail
            go_quiet (fail)
            obtain ⟨W1, hW1⟩ : ∃ W1, (w.drewN m).drewN nq = W1 := ⟨_, rfl⟩
            have K0 := Lib.hid (Wk.new ws (hW1 ▸ (HS.out.drewN _).drewN _) (hW1 ▸ HL.out.below (pw_below_drewN (pw_below_drewN (Below.refl _ _) _) _)) (hW1 ▸ pw_below_drewN (pw_below_drewN (Below.refl _ _) _) _) hB)
            rw [hW1]
            clear hW1 hc0 hc1 HS HL HC
            go_wp2_with fail
            refine (HD.out _).mono ?_
            rintro e' w' ⟨rfl, m2, rfl⟩
            go_wp2_with fail
            refine (lex_Word.calls ws _ _ HWd.out).mono ?_
            rintro e' w2 ⟨rfl, hd2⟩
            obtain ⟨m3, rfl⟩ := hd2
            have K2 := Lib.hid ((K0.out.drewN hB m2).drewN hB m3)
            clear K0
            obtain ⟨W2, hW2⟩ : ∃ W2, ((W1.alloc (.cells #[.int .i64 0, .string ws, .int .i64 0, .int .i64 0] 42)).drewN m2).drewN m3 = W2 := ⟨_, rfl⟩
            rw [hW2] at K2 ⊢
            clear hW2
            have n0 : W2.cell? ⟨W1.heap.size, 0, none⟩ = some (.int .i64 0) := (blk_cell K2.out.tk 0).trans rfl
            have n1 : W2.cell? ⟨W1.heap.size, 1, none⟩ = some (.string ws) := (blk_cell K2.out.tk 1).trans rfl
            have n2 : W2.cell? ⟨W1.heap.size, 2, none⟩ = some (.int .i64 0) := (blk_cell K2.out.tk 2).trans rfl
            have n3 : W2.cell? ⟨W1.heap.size, 3, none⟩ = some (.int .i64 0) := (blk_cell K2.out.tk 3).trans rfl
            have f0 := blk_frozen K2.out.tk 0
            have f2 := blk_frozen K2.out.tk 2
            go_wp2_with fail
            refine (scanner_take.calls base g src k line out _ ⟨0, ws, 0, 0⟩ (e : Int) K2.out.scn hn (Nat.le_trans hB (K2.out.bl).size)).mono ?_
            rintro e' w4 ⟨⟨v4, rfl⟩, hS4, hB4⟩
            have HS4 := Lib.hid hS4
            have HB4 := Lib.hid ((K2.out.bl).trans hB4)
            clear hS4 hB4
            go_wp2_with fail
            go_ret
            exact ⟨by rw [HX.out]; exact ⟨rfl, HS4.out.to_at hke'.symm⟩, HB4.out⟩
end Go.Proofs.YteifffaonigidaaDoor.M
