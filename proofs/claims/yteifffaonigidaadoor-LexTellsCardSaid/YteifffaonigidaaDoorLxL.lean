/- The contract of the scanner's method word. -/
import Derived.Test.YteifffaonigidaaDoorLxD
namespace Go.Proofs.YteifffaonigidaaDoor.M
open Go.RowKit Go.Proofs.YteifffaonigidaaDoorW.PrintWords Go.Proofs.YteifffaonigidaaDoorW.PrintLast
open Go.Proofs.YteifffaonigidaaDoor
set_option linter.unusedVariables false
set_option linter.unusedSimpArgs false
def wPost (base g : Nat) (src : ByteArray) (k : Nat) (line : Int) (out : List S42) (e : Ending) (w' : World) : Prop :=
  match wtok (src.data.toList.drop k) with
  | .error x => e = .returned (.int .i64 x) ∧ Scn base w' g src (k : Int) line out
  | .ok (t, n) => e = .returned (.int .i64 0) ∧ Scn base w' g src ((k + n : Nat) : Int) line (out ++ [⟨t.f0, t.f1, t.f2, line⟩])
theorem part_call (c : UInt8) (W : World) : Calls Tryd.prog 60 #[.int .u8 (c.toNat : Int)] W fun e w' => e = .returned (.bool (partB c)) ∧ ∃ m, w' = W.drewN m :=
  (Lq.lex_part.calls _ _ W (part_f c)).mono fun e w' ⟨h, m⟩ => let ⟨j, hj⟩ := m; ⟨h, j, hj⟩
theorem digit_call (c : UInt8) (W : World) : Calls Tryd.prog 79 #[.int .u8 (c.toNat : Int)] W fun e w' => e = .returned (.bool (digitB c)) ∧ ∃ m, w' = W.drewN m :=
  (Lq.lex_digit.calls _ _ W (digit_f c)).mono fun e w' ⟨h, m⟩ => let ⟨j, hj⟩ := m; ⟨h, j, hj⟩
/-- The state of the walk: the scanner at g; at nb the token that is being made. -/
structure Wk (base g nb : Nat) (src : ByteArray) (k : Nat) (line : Int) (out : List S42) (ws : ByteArray) (w W : World) : Prop where
  own : ∃ v : Value, W.heap[g]? = some (.cells #[.string src, .int .i64 (k : Int), .int .i64 line, v] 71 (0, 0)) ∧ Kd.R k42 42 W base (fun j => j ≠ g ∧ j < nb) v out
  hg : base ≤ g
  gn : g < nb
  ld : LaidP W
  bl : Below base w W
  hb : base ≤ nb
  tk : W.heap[nb]? = some (.cells #[.int .i64 0, .string ws, .int .i64 0, .int .i64 0] 42 (0, 0))
theorem Wk.step {base g nb : Nat} {src : ByteArray} {k : Nat} {line : Int} {out : List S42} {ws : ByteArray} {w W W' : World} (h : Wk base g nb src k line out ws w W) (hb : base ≤ w.heap.size) (h2 : Below W.heap.size W W') : Wk base g nb src k line out ws w W' :=
  ⟨let ⟨v, h1, hr⟩ := h.own; ⟨v, blk_grown h1 (grown_of_below h2 none) (by simp), Kd.R_below hr h2⟩, h.hg, h.gn, h.ld.below h2, h.bl.trans (h2.mono (Nat.le_trans hb h.bl.size)), h.hb, blk_grown h.tk (grown_of_below h2 none) (by simp)⟩
theorem Wk.new {base g : Nat} {src : ByteArray} {k : Nat} {line : Int} {out : List S42} (ws : ByteArray) {w W : World} (h1 : Scn base W g src (k : Int) line out) (h2 : LaidP W) (h3 : Below base w W) (hb : base ≤ w.heap.size) :
    Wk base g W.heap.size src k line out ws w (W.alloc (.cells #[.int .i64 0, .string ws, .int .i64 0, .int .i64 0] 42)) := by
  obtain ⟨v, hbk, hg, hr⟩ := h1
  have ha : Below W.heap.size W (W.alloc (.cells #[.int .i64 0, .string ws, .int .i64 0, .int .i64 0] 42)) := (Below.refl _ _).alloc (Nat.le_refl _) _
  refine ⟨⟨v, blk_grown hbk (grown_of_below ha none) (by simp), Kd.R_below (Kd.R_mono (Kd.R_bound hr) fun j hj => ⟨hj.1, hj.2.2.1⟩) ha⟩, hg, blk_lt hbk, h2.below ha, h3.alloc (Nat.le_trans hb h3.size) _, Nat.le_trans hb h3.size, heap_alloc_new W _⟩
theorem Wk.drewN {base g nb : Nat} {src : ByteArray} {k : Nat} {line : Int} {out : List S42} {ws : ByteArray} {w W : World} (h : Wk base g nb src k line out ws w W) (hb : base ≤ w.heap.size) (m : Nat) : Wk base g nb src k line out ws w (W.drewN m) := h.step hb (pw_below_drewN (Below.refl _ _) m)
theorem Wk.scn {base g nb : Nat} {src : ByteArray} {k : Nat} {line : Int} {out : List S42} {ws : ByteArray} {w W : World} (h : Wk base g nb src k line out ws w W) : Scn base W g src (k : Int) line out :=
  let ⟨v, h1, hr⟩ := h.own; ⟨v, h1, h.hg, Kd.R_mono hr fun _ hj => hj.1⟩
theorem Wk.put {base g nb : Nat} {src : ByteArray} {k : Nat} {line : Int} {out : List S42} {ws : ByteArray} {w W : World} (h : Wk base g nb src k line out ws w W) (a b : Value) : Scn base ((W.setCell ⟨nb, 0, none⟩ a).setCell ⟨nb, 2, none⟩ b) g src (k : Int) line out := by
  obtain ⟨v, h1, hr⟩ := h.own
  have hgn := h.gn
  refine ⟨v, blk_far (blk_far h1 (show g ≠ nb by omega) _) (show g ≠ nb by omega) _, h.hg, Kd.R_mono (Kd.R_move hr fun j hj => ?_) fun _ hj => hj.1⟩
  exact (Below.heap_setCell _ ⟨nb, 2, none⟩ _ j (show j ≠ nb by omega)).trans (Below.heap_setCell W ⟨nb, 0, none⟩ _ j (show j ≠ nb by omega))
set_option maxHeartbeats 8000000 in
set_option maxRecDepth 100000 in
theorem scanner_word.calls (base g : Nat) (src : ByteArray) (k : Nat) (line : Int) (out : List S42) (w : World) (hS : Scn base w g src (k : Int) line out) (hn : out.length < 1000000000) (hk : k < src.size) (hp : partB src[k] = true) (hs : src.size ≤ 1000000) (hB : base ≤ w.heap.size) (hLd : LaidP w) :
    Calls Tryd.prog 80 #[.pointer (some ⟨g, 0, none⟩)] w fun e w' => wPost base g src k line out e w' ∧ Below base w w' := by
  have HS := Lib.hid hS
  have HL := Lib.hid hLd
  have HP := Lib.hid hp
  obtain ⟨v, hb, hg, hr⟩ := hS
  have hc0 : w.cell? ⟨g, 0, none⟩ = some (.string src) := (blk_cell hb 0).trans rfl
  have hc1 : w.cell? ⟨g, 1, none⟩ = some (.int .i64 k) := (blk_cell hb 1).trans rfl
  clear hr hb hLd hp
  go_enter Tryd.func80, Tryd.ntmps80
  go_wp2_with fail
  go_loopw [3] (fun v3 wr => ∃ e : Nat, k ≤ e ∧ e ≤ src.size ∧ v3 = .int .i64 e ∧ Hid ((src.data.toList.drop k).takeWhile partB = (src.data.toList.drop k).take (e - k) ++ (src.data.toList.drop e).takeWhile partB) ∧ ∃ m, wr = w.drewN m) (fun i _ => src.size + 2 - (intOf i).toNat)
  case atStart => exact ⟨k, Nat.le_refl _, by omega, rfl, Lib.hid (by simp), 0, rfl⟩
  case round =>
    obtain ⟨e, h1, h2, rfl, hq, m, rfl⟩ := hrel
    have hlen : src.data.toList.length = src.size := rfl
    by_cases hgo : ∃ h : e < src.size, partB src[e] = true
    · obtain ⟨hlt, hpe⟩ := hgo
      have hd := drop_at src e hlt
      have hl : (e : Int) < (src.size : Int) := by omega
      have hQ := Lib.hid (show (src.data.toList.drop k).takeWhile partB = (src.data.toList.drop k).take (e + 1 - k) ++ (src.data.toList.drop (e + 1)).takeWhile partB by
        rw [hq.out, hd, List.takeWhile_cons, if_pos hpe, show e + 1 - k = (e - k) + 1 by omega, List.take_succ_eq_append_getElem (by rw [List.length_drop]; omega), List.append_assoc]
        congr 1
        rw [List.getElem_drop]
        have : src.data.toList[k + (e - k)]'(by omega) = src[e] := by
          show src.data.toList[k + (e - k)]'(by omega) = src.data.toList[e]
          congr 1
          omega
        rw [this]; rfl)
      have hC := Lib.hid (part_call src[e])
      rw [hpe] at hC
      clear hd hq hpe
      go_wp2_with (go_at_call 60; refine (hC.out _).mono ?_; rintro e' w' ⟨rfl, m1, rfl⟩)
      go_roundw
      case rel => exact ⟨e + 1, by omega, by omega, by go_num, hQ, by exact ⟨_, rfl⟩⟩
      case measure => simp [intOf]; omega
    · have hke : k < e := by
        rcases Nat.lt_or_ge k e with h | h
        · exact h
        · obtain rfl : e = k := by omega
          exact absurd ⟨hk, HP.out⟩ hgo
      have hend : (src.data.toList.drop e).takeWhile partB = [] := by
        rcases Nat.lt_or_ge e src.size with h | h
        · rw [drop_at src e h, List.takeWhile_cons, if_neg (fun hp => hgo ⟨h, hp⟩)]
        · rw [List.drop_of_length_le (show src.data.toList.length ≤ e by omega)]; rfl
      have hW : (src.data.toList.drop k).takeWhile partB = (src.extract k e).data.toList := by
        rw [hq.out, hend, List.append_nil, ext_list]
      obtain ⟨ws, hws⟩ : ∃ ws, src.extract k e = ws := ⟨_, rfl⟩
      have hsz : ws.size = e - k := by rw [← hws, ByteArray.size_extract]; omega
      have hsz0 : 0 < ws.size := by omega
      have h0 : ws[0] = src[k] := by
        subst hws
        simp [ByteArray.getElem_extract]
      have hhd : (src.data.toList.drop k).headD 0 = src[k] := by rw [drop_at src k hk]; rfl
      rw [hws] at hW
      have hwt : wtok (src.data.toList.drop k) = if digitB src[k] = true then
          if ws.data.toList.all digitB = false ∨ 1 < ws.size ∧ src[k] = 48 then .error 11
          else if (intOfText ws.data.toList).2 = true then .ok (⟨1, ws, (intOfText ws.data.toList).1, 0⟩, ws.size) else .error 3
        else if wordB ws.data.toList = true then .ok (⟨0, ws, 0, 0⟩, ws.size) else .error 11 := by
        unfold wtok
        rw [hW, hhd]
        rfl
      have hcD := digit_call src[k]
      rw [← h0] at hcD hwt
      clear hW hend hhd hq
      have e0 : (k : Int) ≤ (e : Int) := by omega
      have e1 : (e : Int) ≤ (src.size : Int) := by omega
      have hC : ∀ h : e < src.size, ∀ W : World, Calls Tryd.prog 60 #[.int .u8 (src[e].toNat : Int)] W fun e w' => e = .returned (.bool false) ∧ ∃ m, w' = W.drewN m := by
        intro h W
        have := part_call src[e] W
        rw [show partB src[e] = false by cases hc : partB src[e]; rfl; exact absurd ⟨h, hc⟩ hgo] at this
        exact this
      have HWT := Lib.hid hwt
      have HC := Lib.hid hC
      have HD := Lib.hid hcD
      clear hwt hC hcD hgo h0
      have hU : ∀ e' w', wPost base g src k line out e' w' = (match (if digitB ws[0] = true then
          if ws.data.toList.all digitB = false ∨ 1 < ws.size ∧ ws[0] = 48 then .error 11
          else if (intOfText ws.data.toList).2 = true then .ok (⟨1, ws, (intOfText ws.data.toList).1, 0⟩, ws.size) else .error 3
        else if wordB ws.data.toList = true then .ok (⟨0, ws, 0, 0⟩, ws.size) else .error 11 : Except Int (S42 × Nat)) with
          | .error x => e' = .returned (.int .i64 x) ∧ Scn base w' g src (k : Int) line out
          | .ok (t, n) => e' = .returned (.int .i64 0) ∧ Scn base w' g src ((k + n : Nat) : Int) line (out ++ [⟨t.f0, t.f1, t.f2, line⟩])) := by
        intro e' w'
        unfold wPost
        rw [HWT.out]
      have HU := Lib.hid hU
      clear hU HWT
      have hke' : ((k + ws.size : Nat) : Int) = (e : Int) := by omega
      cases hD : digitB ws[0] with
      | true =>
        rw [hD] at HD HU
        have hcase : (ws.data.toList.all digitB = false) ∨ (ws.data.toList.all digitB = true ∧ 1 < ws.size ∧ ws[0] = 48) ∨ (ws.data.toList.all digitB = true ∧ ¬ 1 < ws.size) ∨ (ws.data.toList.all digitB = true ∧ 1 < ws.size ∧ ws[0] ≠ 48) := by
          cases ws.data.toList.all digitB
          · exact Or.inl rfl
          · by_cases h1 : 1 < ws.size
            · by_cases h2 : ws[0] = 48
              · exact Or.inr (Or.inl ⟨rfl, h1, h2⟩)
              · exact Or.inr (Or.inr (Or.inr ⟨rfl, h1, h2⟩))
            · exact Or.inr (Or.inr (Or.inl ⟨rfl, h1⟩))
        rcases hcase with hA | ⟨hA, hz1, hz2⟩ | ⟨hA, hz1⟩ | ⟨hA, hz1, hz2⟩
        · have hT : ¬ Lib.trimS ws.data.toList [48, 49, 50, 51, 52, 53, 54, 55, 56, 57] = [] := fun h => by rw [trim_nil, hA] at h; exact absurd h (by decide)
          have HX := Lib.hid (show ∀ e' w', wPost base g src k line out e' w' = (e' = .returned (.int .i64 11) ∧ Scn base w' g src (k : Int) line out) from fun e' w' => by rw [HU.out, if_pos rfl, if_pos (Or.inl hA)])
          clear HU hA
          rcases Nat.lt_or_ge e src.size with hlt | hge
          · have hl : (e : Int) < (src.size : Int) := by omega
            go_wp2_with (go_at_call 60; refine (HC.out hlt _).mono ?_; rintro e' w' ⟨rfl, m1, rfl⟩)
            go_quiet (fail)
            obtain ⟨W1, hW1⟩ : ∃ W1, (w.drewN (m + m1)).drewN nq = W1 := ⟨_, rfl⟩
            have K0 := Lib.hid (Wk.new ws (hW1 ▸ (HS.out.drewN _).drewN _) (hW1 ▸ HL.out.below (pw_below_drewN (pw_below_drewN (Below.refl _ _) _) _)) (hW1 ▸ pw_below_drewN (pw_below_drewN (Below.refl _ _) _) _) hB)
            rw [hW1]
            clear hW1 hc0 hc1 HS HL HC
            go_wp2_with fail
            refine (HD.out _).mono ?_
            rintro e' w' ⟨rfl, m2, rfl⟩
            go_wp2_with fail
            refine (trim_digits ws _ (by omega)).mono ?_
            rintro e' w2 ⟨rfl, hB2⟩
            have K2 := Lib.hid ((K0.out.drewN hB m2).step hB hB2)
            clear K0 hB2
            go_wp2_with fail
            go_ret
            exact ⟨by rw [HX.out]; exact ⟨rfl, K2.out.scn⟩, K2.out.bl⟩
          · have hl : decide ((e : Int) < (src.size : Int)) = false := decide_eq_false (by omega)
            go_wp2_with fail
            go_quiet (fail)
            obtain ⟨W1, hW1⟩ : ∃ W1, (w.drewN m).drewN nq = W1 := ⟨_, rfl⟩
            have K0 := Lib.hid (Wk.new ws (hW1 ▸ (HS.out.drewN _).drewN _) (hW1 ▸ HL.out.below (pw_below_drewN (pw_below_drewN (Below.refl _ _) _) _)) (hW1 ▸ pw_below_drewN (pw_below_drewN (Below.refl _ _) _) _) hB)
            rw [hW1]
            clear hW1 hc0 hc1 HS HL HC
            go_wp2_with fail
            refine (HD.out _).mono ?_
            rintro e' w' ⟨rfl, m2, rfl⟩
            go_wp2_with fail
            refine (trim_digits ws _ (by omega)).mono ?_
            rintro e' w2 ⟨rfl, hB2⟩
            have K2 := Lib.hid ((K0.out.drewN hB m2).step hB hB2)
            clear K0 hB2
            go_wp2_with fail
            go_ret
            exact ⟨by rw [HX.out]; exact ⟨rfl, K2.out.scn⟩, K2.out.bl⟩
        · have hT : Lib.trimS ws.data.toList [48, 49, 50, 51, 52, 53, 54, 55, 56, 57] = [] := (trim_nil _).2 hA
          have d1 : decide ((1 : Int) < (ws.size : Int)) = true := decide_eq_true (by omega)
          have d2 : ((ws[0].toNat : Int) == 48) = true := by rw [hz2]; rfl
          have HX := Lib.hid (show ∀ e' w', wPost base g src k line out e' w' = (e' = .returned (.int .i64 11) ∧ Scn base w' g src (k : Int) line out) from fun e' w' => by rw [HU.out, if_pos rfl, if_pos (Or.inr ⟨hz1, hz2⟩)])
          clear HU hA hz2
          rcases Nat.lt_or_ge e src.size with hlt | hge
          · have hl : (e : Int) < (src.size : Int) := by omega
            go_wp2_with (go_at_call 60; refine (HC.out hlt _).mono ?_; rintro e' w' ⟨rfl, m1, rfl⟩)
            go_quiet (fail)
            obtain ⟨W1, hW1⟩ : ∃ W1, (w.drewN (m + m1)).drewN nq = W1 := ⟨_, rfl⟩
            have K0 := Lib.hid (Wk.new ws (hW1 ▸ (HS.out.drewN _).drewN _) (hW1 ▸ HL.out.below (pw_below_drewN (pw_below_drewN (Below.refl _ _) _) _)) (hW1 ▸ pw_below_drewN (pw_below_drewN (Below.refl _ _) _) _) hB)
            rw [hW1]
            clear hW1 hc0 hc1 HS HL HC
            go_wp2_with fail
            refine (HD.out _).mono ?_
            rintro e' w' ⟨rfl, m2, rfl⟩
            go_wp2_with fail
            refine (trim_digits ws _ (by omega)).mono ?_
            rintro e' w2 ⟨rfl, hB2⟩
            have K2 := Lib.hid ((K0.out.drewN hB m2).step hB hB2)
            clear K0 hB2
            go_wp2_with fail
            go_ret
            exact ⟨by rw [HX.out]; exact ⟨rfl, K2.out.scn⟩, K2.out.bl⟩
          · have hl : decide ((e : Int) < (src.size : Int)) = false := decide_eq_false (by omega)
            go_wp2_with fail
            go_quiet (fail)
            obtain ⟨W1, hW1⟩ : ∃ W1, (w.drewN m).drewN nq = W1 := ⟨_, rfl⟩
            have K0 := Lib.hid (Wk.new ws (hW1 ▸ (HS.out.drewN _).drewN _) (hW1 ▸ HL.out.below (pw_below_drewN (pw_below_drewN (Below.refl _ _) _) _)) (hW1 ▸ pw_below_drewN (pw_below_drewN (Below.refl _ _) _) _) hB)
            rw [hW1]
            clear hW1 hc0 hc1 HS HL HC
            go_wp2_with fail
            refine (HD.out _).mono ?_
            rintro e' w' ⟨rfl, m2, rfl⟩
            go_wp2_with fail
            refine (trim_digits ws _ (by omega)).mono ?_
            rintro e' w2 ⟨rfl, hB2⟩
            have K2 := Lib.hid ((K0.out.drewN hB m2).step hB hB2)
            clear K0 hB2
            go_wp2_with fail
            go_ret
            exact ⟨by rw [HX.out]; exact ⟨rfl, K2.out.scn⟩, K2.out.bl⟩
        · have hT : Lib.trimS ws.data.toList [48, 49, 50, 51, 52, 53, 54, 55, 56, 57] = [] := (trim_nil _).2 hA
          have d1 : decide ((1 : Int) < (ws.size : Int)) = false := decide_eq_false (by omega)
          have hnb : ¬ (ws.data.toList.all digitB = false ∨ 1 < ws.size ∧ ws[0] = 48) := by
            rintro (h | h)
            · rw [hA] at h; exact absurd h (by decide)
            · exact hz1 h.1
          obtain ⟨r1, hr1⟩ : ∃ r, (intOfText ws.data.toList).1 = r := ⟨_, rfl⟩
          have hI : text_Int.f ws = some (r1, (intOfText ws.data.toList).2) := by unfold text_Int.f; rw [if_pos (by omega), ← hr1]
          cases hr2 : (intOfText ws.data.toList).2 with
          | false =>
            rw [hr2] at hI
            have HI := Lib.hid hI
            have HX := Lib.hid (show ∀ e' w', wPost base g src k line out e' w' = (e' = .returned (.int .i64 3) ∧ Scn base w' g src (k : Int) line out) from fun e' w' => by rw [HU.out, if_pos rfl, if_neg hnb, hr2, if_neg (by decide)])
            clear HU hI hnb hr1 hr2 hA
            rcases Nat.lt_or_ge e src.size with hlt | hge
            · have hl : (e : Int) < (src.size : Int) := by omega
              go_wp2_with (go_at_call 60; refine (HC.out hlt _).mono ?_; rintro e' w' ⟨rfl, m1, rfl⟩)
              go_quiet (fail)
              obtain ⟨W1, hW1⟩ : ∃ W1, (w.drewN (m + m1)).drewN nq = W1 := ⟨_, rfl⟩
              have K0 := Lib.hid (Wk.new ws (hW1 ▸ (HS.out.drewN _).drewN _) (hW1 ▸ HL.out.below (pw_below_drewN (pw_below_drewN (Below.refl _ _) _) _)) (hW1 ▸ pw_below_drewN (pw_below_drewN (Below.refl _ _) _) _) hB)
              rw [hW1]
              clear hW1 hc0 hc1 HS HL HC
              go_wp2_with fail
              refine (HD.out _).mono ?_
              rintro e' w' ⟨rfl, m2, rfl⟩
              go_wp2_with fail
              refine (trim_digits ws _ (by omega)).mono ?_
              rintro e' w2 ⟨rfl, hB2⟩
              have K2 := Lib.hid ((K0.out.drewN hB m2).step hB hB2)
              clear K0 hB2
              go_wp2_with fail
              refine (text_Int.calls ws r1 _ _ HI.out K2.out.ld).mono ?_
              rintro e' w3 ⟨rfl, hB3⟩
              have K3 := Lib.hid (K2.out.step hB hB3)
              clear K2 hB3
              go_wp2_with fail
              go_ret
              exact ⟨by rw [HX.out]; exact ⟨rfl, K3.out.scn⟩, K3.out.bl⟩
            · have hl : decide ((e : Int) < (src.size : Int)) = false := decide_eq_false (by omega)
              go_wp2_with fail
              go_quiet (fail)
              obtain ⟨W1, hW1⟩ : ∃ W1, (w.drewN m).drewN nq = W1 := ⟨_, rfl⟩
              have K0 := Lib.hid (Wk.new ws (hW1 ▸ (HS.out.drewN _).drewN _) (hW1 ▸ HL.out.below (pw_below_drewN (pw_below_drewN (Below.refl _ _) _) _)) (hW1 ▸ pw_below_drewN (pw_below_drewN (Below.refl _ _) _) _) hB)
              rw [hW1]
              clear hW1 hc0 hc1 HS HL HC
              go_wp2_with fail
              refine (HD.out _).mono ?_
              rintro e' w' ⟨rfl, m2, rfl⟩
              go_wp2_with fail
              refine (trim_digits ws _ (by omega)).mono ?_
              rintro e' w2 ⟨rfl, hB2⟩
              have K2 := Lib.hid ((K0.out.drewN hB m2).step hB hB2)
              clear K0 hB2
              go_wp2_with fail
              refine (text_Int.calls ws r1 _ _ HI.out K2.out.ld).mono ?_
              rintro e' w3 ⟨rfl, hB3⟩
              have K3 := Lib.hid (K2.out.step hB hB3)
              clear K2 hB3
              go_wp2_with fail
              go_ret
              exact ⟨by rw [HX.out]; exact ⟨rfl, K3.out.scn⟩, K3.out.bl⟩
          | true =>
            rw [hr2] at hI
            have HI := Lib.hid hI
            have HX := Lib.hid (show ∀ e' w', wPost base g src k line out e' w' = (e' = .returned (.int .i64 0) ∧ Scn base w' g src ((k + ws.size : Nat) : Int) line (out ++ [⟨1, ws, r1, line⟩])) from fun e' w' => by rw [HU.out, if_pos rfl, if_neg hnb, hr2, if_pos rfl, hr1])
            clear HU hI hnb hr1 hr2 hA
            rcases Nat.lt_or_ge e src.size with hlt | hge
            · have hl : (e : Int) < (src.size : Int) := by omega
              go_wp2_with (go_at_call 60; refine (HC.out hlt _).mono ?_; rintro e' w' ⟨rfl, m1, rfl⟩)
              go_quiet (fail)
              obtain ⟨W1, hW1⟩ : ∃ W1, (w.drewN (m + m1)).drewN nq = W1 := ⟨_, rfl⟩
              have K0 := Lib.hid (Wk.new ws (hW1 ▸ (HS.out.drewN _).drewN _) (hW1 ▸ HL.out.below (pw_below_drewN (pw_below_drewN (Below.refl _ _) _) _)) (hW1 ▸ pw_below_drewN (pw_below_drewN (Below.refl _ _) _) _) hB)
              rw [hW1]
              clear hW1 hc0 hc1 HS HL HC
              go_wp2_with fail
              refine (HD.out _).mono ?_
              rintro e' w' ⟨rfl, m2, rfl⟩
              go_wp2_with fail
              refine (trim_digits ws _ (by omega)).mono ?_
              rintro e' w2 ⟨rfl, hB2⟩
              have K2 := Lib.hid ((K0.out.drewN hB m2).step hB hB2)
              clear K0 hB2
              go_wp2_with fail
              refine (text_Int.calls ws r1 _ _ HI.out K2.out.ld).mono ?_
              rintro e' w3 ⟨rfl, hB3⟩
              have K3 := Lib.hid (K2.out.step hB hB3)
              clear K2 hB3
              have n0 : w3.cell? ⟨W1.heap.size, 0, none⟩ = some (.int .i64 0) := (blk_cell K3.out.tk 0).trans rfl
              have n1 : w3.cell? ⟨W1.heap.size, 1, none⟩ = some (.string ws) := (blk_cell K3.out.tk 1).trans rfl
              have n2 : w3.cell? ⟨W1.heap.size, 2, none⟩ = some (.int .i64 0) := (blk_cell K3.out.tk 2).trans rfl
              have n3 : w3.cell? ⟨W1.heap.size, 3, none⟩ = some (.int .i64 0) := (blk_cell K3.out.tk 3).trans rfl
              have f0 := blk_frozen K3.out.tk 0
              have f2 := blk_frozen K3.out.tk 2
              go_wp2_with fail
              refine (scanner_take.calls base g src k line out _ ⟨1, ws, r1, 0⟩ (e : Int) (K3.out.put _ _) hn (Nat.le_trans hB (below_setB (below_setB K3.out.bl K3.out.hb _) K3.out.hb _).size)).mono ?_
              rintro e' w4 ⟨⟨v4, rfl⟩, hS4, hB4⟩
              have HS4 := Lib.hid hS4
              have HB4 := Lib.hid ((below_setB (below_setB K3.out.bl K3.out.hb _) K3.out.hb _).trans hB4)
              clear hS4 hB4
              go_wp2_with fail
              go_ret
              exact ⟨by rw [HX.out]; exact ⟨rfl, HS4.out.to_at hke'.symm⟩, HB4.out⟩
            · have hl : decide ((e : Int) < (src.size : Int)) = false := decide_eq_false (by omega)
              go_wp2_with fail
              go_quiet (fail)
              obtain ⟨W1, hW1⟩ : ∃ W1, (w.drewN m).drewN nq = W1 := ⟨_, rfl⟩
              have K0 := Lib.hid (Wk.new ws (hW1 ▸ (HS.out.drewN _).drewN _) (hW1 ▸ HL.out.below (pw_below_drewN (pw_below_drewN (Below.refl _ _) _) _)) (hW1 ▸ pw_below_drewN (pw_below_drewN (Below.refl _ _) _) _) hB)
              rw [hW1]
              clear hW1 hc0 hc1 HS HL HC
              go_wp2_with fail
              refine (HD.out _).mono ?_
              rintro e' w' ⟨rfl, m2, rfl⟩
              go_wp2_with fail
              refine (trim_digits ws _ (by omega)).mono ?_
              rintro e' w2 ⟨rfl, hB2⟩
              have K2 := Lib.hid ((K0.out.drewN hB m2).step hB hB2)
              clear K0 hB2
              go_wp2_with fail
              refine (text_Int.calls ws r1 _ _ HI.out K2.out.ld).mono ?_
              rintro e' w3 ⟨rfl, hB3⟩
              have K3 := Lib.hid (K2.out.step hB hB3)
              clear K2 hB3
              have n0 : w3.cell? ⟨W1.heap.size, 0, none⟩ = some (.int .i64 0) := (blk_cell K3.out.tk 0).trans rfl
              have n1 : w3.cell? ⟨W1.heap.size, 1, none⟩ = some (.string ws) := (blk_cell K3.out.tk 1).trans rfl
              have n2 : w3.cell? ⟨W1.heap.size, 2, none⟩ = some (.int .i64 0) := (blk_cell K3.out.tk 2).trans rfl
              have n3 : w3.cell? ⟨W1.heap.size, 3, none⟩ = some (.int .i64 0) := (blk_cell K3.out.tk 3).trans rfl
              have f0 := blk_frozen K3.out.tk 0
              have f2 := blk_frozen K3.out.tk 2
              go_wp2_with fail
              refine (scanner_take.calls base g src k line out _ ⟨1, ws, r1, 0⟩ (e : Int) (K3.out.put _ _) hn (Nat.le_trans hB (below_setB (below_setB K3.out.bl K3.out.hb _) K3.out.hb _).size)).mono ?_
              rintro e' w4 ⟨⟨v4, rfl⟩, hS4, hB4⟩
              have HS4 := Lib.hid hS4
              have HB4 := Lib.hid ((below_setB (below_setB K3.out.bl K3.out.hb _) K3.out.hb _).trans hB4)
              clear hS4 hB4
              go_wp2_with fail
              go_ret
              exact ⟨by rw [HX.out]; exact ⟨rfl, HS4.out.to_at hke'.symm⟩, HB4.out⟩
        · have hT : Lib.trimS ws.data.toList [48, 49, 50, 51, 52, 53, 54, 55, 56, 57] = [] := (trim_nil _).2 hA
          have d1 : decide ((1 : Int) < (ws.size : Int)) = true := decide_eq_true (by omega)
          have d2 : ((ws[0].toNat : Int) == 48) = false := beq_eq_false_iff_ne.2 (fun h => hz2 (UInt8.toNat_inj.1 (show ws[0].toNat = (48 : UInt8).toNat by have h1 : (48 : UInt8).toNat = 48 := rfl; have h2 : (ws[0].toNat : Int) = 48 := (by simpa using h); omega)))
          have hnb : ¬ (ws.data.toList.all digitB = false ∨ 1 < ws.size ∧ ws[0] = 48) := by
            rintro (h | h)
            · rw [hA] at h; exact absurd h (by decide)
            · exact hz2 h.2
          obtain ⟨r1, hr1⟩ : ∃ r, (intOfText ws.data.toList).1 = r := ⟨_, rfl⟩
          have hI : text_Int.f ws = some (r1, (intOfText ws.data.toList).2) := by unfold text_Int.f; rw [if_pos (by omega), ← hr1]
          cases hr2 : (intOfText ws.data.toList).2 with
          | false =>
            rw [hr2] at hI
            have HI := Lib.hid hI
            have HX := Lib.hid (show ∀ e' w', wPost base g src k line out e' w' = (e' = .returned (.int .i64 3) ∧ Scn base w' g src (k : Int) line out) from fun e' w' => by rw [HU.out, if_pos rfl, if_neg hnb, hr2, if_neg (by decide)])
            clear HU hI hnb hr1 hr2 hA
            rcases Nat.lt_or_ge e src.size with hlt | hge
            · have hl : (e : Int) < (src.size : Int) := by omega
              go_wp2_with (go_at_call 60; refine (HC.out hlt _).mono ?_; rintro e' w' ⟨rfl, m1, rfl⟩)
              go_quiet (fail)
              obtain ⟨W1, hW1⟩ : ∃ W1, (w.drewN (m + m1)).drewN nq = W1 := ⟨_, rfl⟩
              have K0 := Lib.hid (Wk.new ws (hW1 ▸ (HS.out.drewN _).drewN _) (hW1 ▸ HL.out.below (pw_below_drewN (pw_below_drewN (Below.refl _ _) _) _)) (hW1 ▸ pw_below_drewN (pw_below_drewN (Below.refl _ _) _) _) hB)
              rw [hW1]
              clear hW1 hc0 hc1 HS HL HC
              go_wp2_with fail
              refine (HD.out _).mono ?_
              rintro e' w' ⟨rfl, m2, rfl⟩
              go_wp2_with fail
              refine (trim_digits ws _ (by omega)).mono ?_
              rintro e' w2 ⟨rfl, hB2⟩
              have K2 := Lib.hid ((K0.out.drewN hB m2).step hB hB2)
              clear K0 hB2
              go_wp2_with fail
              refine (text_Int.calls ws r1 _ _ HI.out K2.out.ld).mono ?_
              rintro e' w3 ⟨rfl, hB3⟩
              have K3 := Lib.hid (K2.out.step hB hB3)
              clear K2 hB3
              go_wp2_with fail
              go_ret
              exact ⟨by rw [HX.out]; exact ⟨rfl, K3.out.scn⟩, K3.out.bl⟩
            · have hl : decide ((e : Int) < (src.size : Int)) = false := decide_eq_false (by omega)
              go_wp2_with fail
              go_quiet (fail)
              obtain ⟨W1, hW1⟩ : ∃ W1, (w.drewN m).drewN nq = W1 := ⟨_, rfl⟩
              have K0 := Lib.hid (Wk.new ws (hW1 ▸ (HS.out.drewN _).drewN _) (hW1 ▸ HL.out.below (pw_below_drewN (pw_below_drewN (Below.refl _ _) _) _)) (hW1 ▸ pw_below_drewN (pw_below_drewN (Below.refl _ _) _) _) hB)
              rw [hW1]
              clear hW1 hc0 hc1 HS HL HC
              go_wp2_with fail
              refine (HD.out _).mono ?_
              rintro e' w' ⟨rfl, m2, rfl⟩
              go_wp2_with fail
              refine (trim_digits ws _ (by omega)).mono ?_
              rintro e' w2 ⟨rfl, hB2⟩
              have K2 := Lib.hid ((K0.out.drewN hB m2).step hB hB2)
              clear K0 hB2
              go_wp2_with fail
              refine (text_Int.calls ws r1 _ _ HI.out K2.out.ld).mono ?_
              rintro e' w3 ⟨rfl, hB3⟩
              have K3 := Lib.hid (K2.out.step hB hB3)
              clear K2 hB3
              go_wp2_with fail
              go_ret
              exact ⟨by rw [HX.out]; exact ⟨rfl, K3.out.scn⟩, K3.out.bl⟩
          | true =>
            rw [hr2] at hI
            have HI := Lib.hid hI
            have HX := Lib.hid (show ∀ e' w', wPost base g src k line out e' w' = (e' = .returned (.int .i64 0) ∧ Scn base w' g src ((k + ws.size : Nat) : Int) line (out ++ [⟨1, ws, r1, line⟩])) from fun e' w' => by rw [HU.out, if_pos rfl, if_neg hnb, hr2, if_pos rfl, hr1])
            clear HU hI hnb hr1 hr2 hA
            rcases Nat.lt_or_ge e src.size with hlt | hge
            · have hl : (e : Int) < (src.size : Int) := by omega
              go_wp2_with (go_at_call 60; refine (HC.out hlt _).mono ?_; rintro e' w' ⟨rfl, m1, rfl⟩)
              go_quiet (fail)
              obtain ⟨W1, hW1⟩ : ∃ W1, (w.drewN (m + m1)).drewN nq = W1 := ⟨_, rfl⟩
              have K0 := Lib.hid (Wk.new ws (hW1 ▸ (HS.out.drewN _).drewN _) (hW1 ▸ HL.out.below (pw_below_drewN (pw_below_drewN (Below.refl _ _) _) _)) (hW1 ▸ pw_below_drewN (pw_below_drewN (Below.refl _ _) _) _) hB)
              rw [hW1]
              clear hW1 hc0 hc1 HS HL HC
              go_wp2_with fail
              refine (HD.out _).mono ?_
              rintro e' w' ⟨rfl, m2, rfl⟩
              go_wp2_with fail
              refine (trim_digits ws _ (by omega)).mono ?_
              rintro e' w2 ⟨rfl, hB2⟩
              have K2 := Lib.hid ((K0.out.drewN hB m2).step hB hB2)
              clear K0 hB2
              go_wp2_with fail
              refine (text_Int.calls ws r1 _ _ HI.out K2.out.ld).mono ?_
              rintro e' w3 ⟨rfl, hB3⟩
              have K3 := Lib.hid (K2.out.step hB hB3)
              clear K2 hB3
              have n0 : w3.cell? ⟨W1.heap.size, 0, none⟩ = some (.int .i64 0) := (blk_cell K3.out.tk 0).trans rfl
              have n1 : w3.cell? ⟨W1.heap.size, 1, none⟩ = some (.string ws) := (blk_cell K3.out.tk 1).trans rfl
              have n2 : w3.cell? ⟨W1.heap.size, 2, none⟩ = some (.int .i64 0) := (blk_cell K3.out.tk 2).trans rfl
              have n3 : w3.cell? ⟨W1.heap.size, 3, none⟩ = some (.int .i64 0) := (blk_cell K3.out.tk 3).trans rfl
              have f0 := blk_frozen K3.out.tk 0
              have f2 := blk_frozen K3.out.tk 2
              go_wp2_with fail
              refine (scanner_take.calls base g src k line out _ ⟨1, ws, r1, 0⟩ (e : Int) (K3.out.put _ _) hn (Nat.le_trans hB (below_setB (below_setB K3.out.bl K3.out.hb _) K3.out.hb _).size)).mono ?_
              rintro e' w4 ⟨⟨v4, rfl⟩, hS4, hB4⟩
              have HS4 := Lib.hid hS4
              have HB4 := Lib.hid ((below_setB (below_setB K3.out.bl K3.out.hb _) K3.out.hb _).trans hB4)
              clear hS4 hB4
              go_wp2_with fail
              go_ret
              exact ⟨by rw [HX.out]; exact ⟨rfl, HS4.out.to_at hke'.symm⟩, HB4.out⟩
            · have hl : decide ((e : Int) < (src.size : Int)) = false := decide_eq_false (by omega)
              go_wp2_with fail
              go_quiet (fail)
              obtain ⟨W1, hW1⟩ : ∃ W1, (w.drewN m).drewN nq = W1 := ⟨_, rfl⟩
              have K0 := Lib.hid (Wk.new ws (hW1 ▸ (HS.out.drewN _).drewN _) (hW1 ▸ HL.out.below (pw_below_drewN (pw_below_drewN (Below.refl _ _) _) _)) (hW1 ▸ pw_below_drewN (pw_below_drewN (Below.refl _ _) _) _) hB)
              rw [hW1]
              clear hW1 hc0 hc1 HS HL HC
              go_wp2_with fail
              refine (HD.out _).mono ?_
              rintro e' w' ⟨rfl, m2, rfl⟩
              go_wp2_with fail
              refine (trim_digits ws _ (by omega)).mono ?_
              rintro e' w2 ⟨rfl, hB2⟩
              have K2 := Lib.hid ((K0.out.drewN hB m2).step hB hB2)
              clear K0 hB2
              go_wp2_with fail
              refine (text_Int.calls ws r1 _ _ HI.out K2.out.ld).mono ?_
              rintro e' w3 ⟨rfl, hB3⟩
              have K3 := Lib.hid (K2.out.step hB hB3)
              clear K2 hB3
              have n0 : w3.cell? ⟨W1.heap.size, 0, none⟩ = some (.int .i64 0) := (blk_cell K3.out.tk 0).trans rfl
              have n1 : w3.cell? ⟨W1.heap.size, 1, none⟩ = some (.string ws) := (blk_cell K3.out.tk 1).trans rfl
              have n2 : w3.cell? ⟨W1.heap.size, 2, none⟩ = some (.int .i64 0) := (blk_cell K3.out.tk 2).trans rfl
              have n3 : w3.cell? ⟨W1.heap.size, 3, none⟩ = some (.int .i64 0) := (blk_cell K3.out.tk 3).trans rfl
              have f0 := blk_frozen K3.out.tk 0
              have f2 := blk_frozen K3.out.tk 2
              go_wp2_with fail
              refine (scanner_take.calls base g src k line out _ ⟨1, ws, r1, 0⟩ (e : Int) (K3.out.put _ _) hn (Nat.le_trans hB (below_setB (below_setB K3.out.bl K3.out.hb _) K3.out.hb _).size)).mono ?_
              rintro e' w4 ⟨⟨v4, rfl⟩, hS4, hB4⟩
              have HS4 := Lib.hid hS4
              have HB4 := Lib.hid ((below_setB (below_setB K3.out.bl K3.out.hb _) K3.out.hb _).trans hB4)
              clear hS4 hB4
              go_wp2_with fail
              go_ret
              exact ⟨by rw [HX.out]; exact ⟨rfl, HS4.out.to_at hke'.symm⟩, HB4.out⟩
      | false =>
        rw [hD] at HD HU
        have hWd : lex_Word.f ws = some (wordB ws.data.toList) := by unfold lex_Word.f; rw [if_pos (by omega)]
        cases hw : wordB ws.data.toList with
        | false =>
          rw [hw] at hWd
          have HWd := Lib.hid hWd
          have HX := Lib.hid (show ∀ e' w', wPost base g src k line out e' w' = (e' = .returned (.int .i64 11) ∧ Scn base w' g src (k : Int) line out) from fun e' w' => by rw [HU.out, if_neg (by decide), hw, if_neg (by decide)])
          clear HU hWd
          rcases Nat.lt_or_ge e src.size with hlt | hge
          · have hl : (e : Int) < (src.size : Int) := by omega
            go_wp2_with (go_at_call 60; refine (HC.out hlt _).mono ?_; rintro e' w' ⟨rfl, m1, rfl⟩)
            go_quiet (fail)
            obtain ⟨W1, hW1⟩ : ∃ W1, (w.drewN (m + m1)).drewN nq = W1 := ⟨_, rfl⟩
            have K0 := Lib.hid (Wk.new ws (hW1 ▸ (HS.out.drewN _).drewN _) (hW1 ▸ HL.out.below (pw_below_drewN (pw_below_drewN (Below.refl _ _) _) _)) (hW1 ▸ pw_below_drewN (pw_below_drewN (Below.refl _ _) _) _) hB)
            rw [hW1]
            clear hW1 hc0 hc1 HS HL HC
            go_wp2_with fail
            refine (HD.out _).mono ?_
            rintro e' w' ⟨rfl, m2, rfl⟩
            go_wp2_with fail
            refine (lex_Word.calls ws _ _ HWd.out).mono ?_
            rintro e' w2 ⟨rfl, hd2⟩
            obtain ⟨m3, rfl⟩ := hd2
            have K2 := Lib.hid ((K0.out.drewN hB m2).drewN hB m3)
            clear K0
            obtain ⟨W2, hW2⟩ : ∃ W2, ((W1.alloc (.cells #[.int .i64 0, .string ws, .int .i64 0, .int .i64 0] 42)).drewN m2).drewN m3 = W2 := ⟨_, rfl⟩
            rw [hW2] at K2 ⊢
            clear hW2
            go_wp2_with fail
            go_ret
            exact ⟨by rw [HX.out]; exact ⟨rfl, K2.out.scn⟩, K2.out.bl⟩
          · have hl : decide ((e : Int) < (src.size : Int)) = false := decide_eq_false (by omega)
            go_wp2_with fail
            go_quiet (fail)
            obtain ⟨W1, hW1⟩ : ∃ W1, (w.drewN m).drewN nq = W1 := ⟨_, rfl⟩
            have K0 := Lib.hid (Wk.new ws (hW1 ▸ (HS.out.drewN _).drewN _) (hW1 ▸ HL.out.below (pw_below_drewN (pw_below_drewN (Below.refl _ _) _) _)) (hW1 ▸ pw_below_drewN (pw_below_drewN (Below.refl _ _) _) _) hB)
            rw [hW1]
            clear hW1 hc0 hc1 HS HL HC
            go_wp2_with fail
            refine (HD.out _).mono ?_
            rintro e' w' ⟨rfl, m2, rfl⟩
            go_wp2_with fail
            refine (lex_Word.calls ws _ _ HWd.out).mono ?_
            rintro e' w2 ⟨rfl, hd2⟩
            obtain ⟨m3, rfl⟩ := hd2
            have K2 := Lib.hid ((K0.out.drewN hB m2).drewN hB m3)
            clear K0
            obtain ⟨W2, hW2⟩ : ∃ W2, ((W1.alloc (.cells #[.int .i64 0, .string ws, .int .i64 0, .int .i64 0] 42)).drewN m2).drewN m3 = W2 := ⟨_, rfl⟩
            rw [hW2] at K2 ⊢
            clear hW2
            go_wp2_with fail
            go_ret
            exact ⟨by rw [HX.out]; exact ⟨rfl, K2.out.scn⟩, K2.out.bl⟩
        | true =>
          rw [hw] at hWd
          have HWd := Lib.hid hWd
          have HX := Lib.hid (show ∀ e' w', wPost base g src k line out e' w' = (e' = .returned (.int .i64 0) ∧ Scn base w' g src ((k + ws.size : Nat) : Int) line (out ++ [⟨0, ws, 0, line⟩])) from fun e' w' => by rw [HU.out, if_neg (by decide), hw, if_pos rfl])
          clear HU hWd
          rcases Nat.lt_or_ge e src.size with hlt | hge
          · have hl : (e : Int) < (src.size : Int) := by omega
            go_wp2_with (go_at_call 60; refine (HC.out hlt _).mono ?_; rintro e' w' ⟨rfl, m1, rfl⟩)
            go_quiet (fail)
            obtain ⟨W1, hW1⟩ : ∃ W1, (w.drewN (m + m1)).drewN nq = W1 := ⟨_, rfl⟩
            have K0 := Lib.hid (Wk.new ws (hW1 ▸ (HS.out.drewN _).drewN _) (hW1 ▸ HL.out.below (pw_below_drewN (pw_below_drewN (Below.refl _ _) _) _)) (hW1 ▸ pw_below_drewN (pw_below_drewN (Below.refl _ _) _) _) hB)
            rw [hW1]
            clear hW1 hc0 hc1 HS HL HC
            go_wp2_with fail
            refine (HD.out _).mono ?_
            rintro e' w' ⟨rfl, m2, rfl⟩
            go_wp2_with fail
            refine (lex_Word.calls ws _ _ HWd.out).mono ?_
            rintro e' w2 ⟨rfl, hd2⟩
            obtain ⟨m3, rfl⟩ := hd2
            have K2 := Lib.hid ((K0.out.drewN hB m2).drewN hB m3)
            clear K0
            obtain ⟨W2, hW2⟩ : ∃ W2, ((W1.alloc (.cells #[.int .i64 0, .string ws, .int .i64 0, .int .i64 0] 42)).drewN m2).drewN m3 = W2 := ⟨_, rfl⟩
            rw [hW2] at K2 ⊢
            clear hW2
            have n0 : W2.cell? ⟨W1.heap.size, 0, none⟩ = some (.int .i64 0) := (blk_cell K2.out.tk 0).trans rfl
            have n1 : W2.cell? ⟨W1.heap.size, 1, none⟩ = some (.string ws) := (blk_cell K2.out.tk 1).trans rfl
            have n2 : W2.cell? ⟨W1.heap.size, 2, none⟩ = some (.int .i64 0) := (blk_cell K2.out.tk 2).trans rfl
            have n3 : W2.cell? ⟨W1.heap.size, 3, none⟩ = some (.int .i64 0) := (blk_cell K2.out.tk 3).trans rfl
            have f0 := blk_frozen K2.out.tk 0
            have f2 := blk_frozen K2.out.tk 2
            go_wp2_with fail
            refine (scanner_take.calls base g src k line out _ ⟨0, ws, 0, 0⟩ (e : Int) K2.out.scn hn (Nat.le_trans hB (K2.out.bl).size)).mono ?_
            rintro e' w4 ⟨⟨v4, rfl⟩, hS4, hB4⟩
            have HS4 := Lib.hid hS4
            have HB4 := Lib.hid ((K2.out.bl).trans hB4)
            clear hS4 hB4
            go_wp2_with fail
            go_ret
            exact ⟨by rw [HX.out]; exact ⟨rfl, HS4.out.to_at hke'.symm⟩, HB4.out⟩
          · have hl : decide ((e : Int) < (src.size : Int)) = false := decide_eq_false (by omega)
            go_wp2_with fail
            go_quiet (fail)
            obtain ⟨W1, hW1⟩ : ∃ W1, (w.drewN m).drewN nq = W1 := ⟨_, rfl⟩
            have K0 := Lib.hid (Wk.new ws (hW1 ▸ (HS.out.drewN _).drewN _) (hW1 ▸ HL.out.below (pw_below_drewN (pw_below_drewN (Below.refl _ _) _) _)) (hW1 ▸ pw_below_drewN (pw_below_drewN (Below.refl _ _) _) _) hB)
            rw [hW1]
            clear hW1 hc0 hc1 HS HL HC
            go_wp2_with fail
            refine (HD.out _).mono ?_
            rintro e' w' ⟨rfl, m2, rfl⟩
            go_wp2_with fail
            refine (lex_Word.calls ws _ _ HWd.out).mono ?_
            rintro e' w2 ⟨rfl, hd2⟩
            obtain ⟨m3, rfl⟩ := hd2
            have K2 := Lib.hid ((K0.out.drewN hB m2).drewN hB m3)
            clear K0
            obtain ⟨W2, hW2⟩ : ∃ W2, ((W1.alloc (.cells #[.int .i64 0, .string ws, .int .i64 0, .int .i64 0] 42)).drewN m2).drewN m3 = W2 := ⟨_, rfl⟩
            rw [hW2] at K2 ⊢
            clear hW2
            have n0 : W2.cell? ⟨W1.heap.size, 0, none⟩ = some (.int .i64 0) := (blk_cell K2.out.tk 0).trans rfl
            have n1 : W2.cell? ⟨W1.heap.size, 1, none⟩ = some (.string ws) := (blk_cell K2.out.tk 1).trans rfl
            have n2 : W2.cell? ⟨W1.heap.size, 2, none⟩ = some (.int .i64 0) := (blk_cell K2.out.tk 2).trans rfl
            have n3 : W2.cell? ⟨W1.heap.size, 3, none⟩ = some (.int .i64 0) := (blk_cell K2.out.tk 3).trans rfl
            have f0 := blk_frozen K2.out.tk 0
            have f2 := blk_frozen K2.out.tk 2
            go_wp2_with fail
            refine (scanner_take.calls base g src k line out _ ⟨0, ws, 0, 0⟩ (e : Int) K2.out.scn hn (Nat.le_trans hB (K2.out.bl).size)).mono ?_
            rintro e' w4 ⟨⟨v4, rfl⟩, hS4, hB4⟩
            have HS4 := Lib.hid hS4
            have HB4 := Lib.hid ((K2.out.bl).trans hB4)
            clear hS4 hB4
            go_wp2_with fail
            go_ret
            exact ⟨by rw [HX.out]; exact ⟨rfl, HS4.out.to_at hke'.symm⟩, HB4.out⟩
end Go.Proofs.YteifffaonigidaaDoor.M
/- The contract of the scanner's method next: which method takes the token that begins here. -/
namespace Go.Proofs.YteifffaonigidaaDoor.M
open Go.RowKit Go.Proofs.YteifffaonigidaaDoorW.PrintWords Go.Proofs.YteifffaonigidaaDoorW.PrintLast
open Go.Proofs.YteifffaonigidaaDoor
set_option linter.unusedVariables false
set_option linter.unusedSimpArgs false
/-- The function that next chooses. -/
def nextF (l : List UInt8) : Nat :=
  match l with
  | [] => 78
  | c :: _ => if letterB c = true ∨ digitB c = true then 80 else if c = 34 then 81 else if c = 10 then 82 else 83
theorem letter_call (c : UInt8) (W : World) : Calls Tryd.prog 61 #[.int .u8 (c.toNat : Int)] W fun e w' => e = .returned (.bool (letterB c)) ∧ ∃ m, w' = W.drewN m :=
  (Lq.lex_letter.calls _ _ W (letter_f c)).mono fun e w' ⟨h, m⟩ => let ⟨j, hj⟩ := m; ⟨h, j, hj⟩
theorem digit_call' (c : UInt8) (W : World) : Calls Tryd.prog 79 #[.int .u8 (c.toNat : Int)] W fun e w' => e = .returned (.bool (digitB c)) ∧ ∃ m, w' = W.drewN m :=
  (Lq.lex_digit.calls _ _ W (digit_f c)).mono fun e w' ⟨h, m⟩ => let ⟨j, hj⟩ := m; ⟨h, j, hj⟩
set_option maxHeartbeats 8000000 in
set_option maxRecDepth 100000 in
theorem scanner_next.calls (base g : Nat) (src : ByteArray) (k : Nat) (line : Int) (out : List S42) (w : World) (hS : Scn base w g src (k : Int) line out) (hk : k ≤ src.size) :
    Calls Tryd.prog 59 #[.pointer (some ⟨g, 0, none⟩)] w fun e w' => e = .returned (.func (.func (nextF (src.data.toList.drop k))) #[.pointer (some ⟨g, 0, none⟩)] #[]) ∧ ∃ m, w' = w.drewN m := by
  obtain ⟨v, hb, hg, hr⟩ := hS
  have hc0 : w.cell? ⟨g, 0, none⟩ = some (.string src) := (blk_cell hb 0).trans rfl
  have hc1 : w.cell? ⟨g, 1, none⟩ = some (.int .i64 k) := (blk_cell hb 1).trans rfl
  clear hr hb
  by_cases hlt : k < src.size
  · have hd : src.data.toList.drop k = src[k] :: src.data.toList.drop (k + 1) := drop_at src k hlt
    have hl : ((k : Int) == (src.size : Int)) = false := beq_eq_false_iff_ne.2 (by omega)
    have hlt' : (k : Int) < (src.size : Int) := by omega
    have hCL := letter_call src[k]
    have hCD := digit_call' src[k]
    have hX : ∀ n, nextF (src[k] :: src.data.toList.drop (k + 1)) = n → nextF (src.data.toList.drop k) = n := fun n h => by rw [hd]; exact h
    cases hL : letterB src[k] with
    | true =>
      have hN := Lib.hid (hX 80 (if_pos (Or.inl hL)))
      rw [hL] at hCL
      have HCL := Lib.hid hCL
      clear hCL hCD hX hd
      go_enter Tryd.func59, Tryd.ntmps59
      go_wp2
      repeat (go_quiet (fail); try go_wp2_with (go_at_call 61; refine (HCL.out _).mono ?_; rintro e w' ⟨rfl, m1, rfl⟩))
      go_ret
      rw [hN.out]
      exact ⟨rfl, _, rfl⟩
    | false =>
      rw [hL] at hCL
      have HCL := Lib.hid hCL
      clear hCL
      cases hD : digitB src[k] with
      | true =>
        have hN := Lib.hid (hX 80 (if_pos (Or.inr hD)))
        rw [hD] at hCD
        have HCD := Lib.hid hCD
        clear hCD hX hd
        go_enter Tryd.func59, Tryd.ntmps59
        go_wp2
        repeat (go_quiet (fail); try go_wp2_with (first | (go_at_call 61; refine (HCL.out _).mono ?_; rintro e w' ⟨rfl, m1, rfl⟩) | (go_at_call 79; refine (HCD.out _).mono ?_; rintro e w' ⟨rfl, m2, rfl⟩)))
        go_ret
        rw [hN.out]
        exact ⟨rfl, _, rfl⟩
      | false =>
        rw [hD] at hCD
        have HCD := Lib.hid hCD
        have hno : ¬ (letterB src[k] = true ∨ digitB src[k] = true) := by rw [hL, hD]; simp
        clear hCD
        by_cases h34 : src[k] = 34
        · have hN := Lib.hid (hX 81 ((if_neg hno).trans (if_pos h34)))
          have c1 : ((src[k].toNat : Int) == 34) = true := by rw [h34]; rfl
          clear hX hd hno h34
          go_enter Tryd.func59, Tryd.ntmps59
          go_wp2
          repeat (go_quiet (fail); try go_wp2_with (first | (go_at_call 61; refine (HCL.out _).mono ?_; rintro e w' ⟨rfl, m1, rfl⟩) | (go_at_call 79; refine (HCD.out _).mono ?_; rintro e w' ⟨rfl, m2, rfl⟩)))
          go_ret
          rw [hN.out]
          exact ⟨rfl, _, rfl⟩
        · have hc34 : ((src[k].toNat : Int) == 34) = false := beq_eq_false_iff_ne.2 (fun h => h34 (UInt8.toNat_inj.1 (show src[k].toNat = (34 : UInt8).toNat by have h1 : (34 : UInt8).toNat = 34 := rfl; have h2 : (src[k].toNat : Int) = 34 := h; omega)))
          by_cases h10 : src[k] = 10
          · have hN := Lib.hid (hX 82 ((if_neg hno).trans ((if_neg h34).trans (if_pos h10))))
            have c1 : ((src[k].toNat : Int) == 10) = true := by rw [h10]; rfl
            clear hX hd hno h34 h10
            go_enter Tryd.func59, Tryd.ntmps59
            go_wp2
            repeat (go_quiet (fail); try go_wp2_with (first | (go_at_call 61; refine (HCL.out _).mono ?_; rintro e w' ⟨rfl, m1, rfl⟩) | (go_at_call 79; refine (HCD.out _).mono ?_; rintro e w' ⟨rfl, m2, rfl⟩)))
            go_ret
            rw [hN.out]
            exact ⟨rfl, _, rfl⟩
          · have hN := Lib.hid (hX 83 ((if_neg hno).trans ((if_neg h34).trans (if_neg h10))))
            have c1 : ((src[k].toNat : Int) == 10) = false := beq_eq_false_iff_ne.2 (fun h => h10 (UInt8.toNat_inj.1 (show src[k].toNat = (10 : UInt8).toNat by have h1 : (10 : UInt8).toNat = 10 := rfl; have h2 : (src[k].toNat : Int) = 10 := h; omega)))
            clear hX hd hno h34 h10
            go_enter Tryd.func59, Tryd.ntmps59
            go_wp2
            repeat (go_quiet (fail); try go_wp2_with (first | (go_at_call 61; refine (HCL.out _).mono ?_; rintro e w' ⟨rfl, m1, rfl⟩) | (go_at_call 79; refine (HCD.out _).mono ?_; rintro e w' ⟨rfl, m2, rfl⟩)))
            go_ret
            rw [hN.out]
            exact ⟨rfl, _, rfl⟩
  · obtain rfl : k = src.size := by omega
    have hN := Lib.hid (show nextF (src.data.toList.drop src.size) = 78 by rw [List.drop_of_length_le (show src.data.toList.length ≤ src.size from Nat.le_refl _)]; rfl)
    go_enter Tryd.func59, Tryd.ntmps59
    go_wp2
    repeat (go_quiet (fail); try go_wp2)
    go_ret
    rw [hN.out]
    exact ⟨rfl, _, rfl⟩
end Go.Proofs.YteifffaonigidaaDoor.M
/- The tokens of a text, by its bytes ('lexN'): plain facts. -/
namespace Go.Proofs.YteifffaonigidaaDoor.M
open Go.RowKit Go.Proofs.YteifffaonigidaaDoorW.PrintWords Go.Proofs.YteifffaonigidaaDoorW.PrintLast
open Go.Proofs.YteifffaonigidaaDoor
set_option linter.unusedVariables false
/-- What is done with the first token of a text that begins with no white byte: an error, or the token (its line left open), how many bytes it takes, whether the line ends. -/
def tok1 (l : List UInt8) : Except Int (S42 × Nat × Bool) :=
  match l with
  | [] => .error 11
  | c :: r =>
    if letterB c = true ∨ digitB c = true then (match wtok (c :: r) with | .error e => .error e | .ok (t, n) => .ok (t, n, false))
    else if c = 34 then (match qtok (c :: r) with | none => .error 11 | some (t, n) => .ok (⟨2, ⟨t.toArray⟩, 0, 0⟩, n, false))
    else if c = 10 then .ok (⟨3, ⟨#[]⟩, 0, 0⟩, 1, true)
    else .error 11
def putL (t : S42) (line : Int) : S42 := ⟨t.f0, t.f1, t.f2, line⟩
def lexN : Nat → List UInt8 → Int → Except (Int × Int) (List S42)
  | 0, _, _ => .ok []
  | f + 1, l, line =>
    if skipR l = [] then .ok [⟨4, ⟨#[]⟩, 0, line⟩]
    else match tok1 (skipR l) with
      | .error e => .error (e, line)
      | .ok (t, n, b) => (lexN f ((skipR l).drop n) (if b = true then line + 1 else line)).map (putL t line :: ·)
theorem skipF_len : ∀ (n : Nat) (l : List UInt8), (skipF n l).length ≤ l.length
  | 0, _ => Nat.le_refl _
  | n + 1, [] => by simp [skipF]
  | n + 1, c :: r => by
    unfold skipF
    split
    · have := skipF_len n r; simp; omega
    · split
      · have := skipF_len n (r.dropWhile (· != 10))
        have h2 := dropWhile_len r
        simp; omega
      · exact Nat.le_refl _
theorem skipR_len (l : List UInt8) : (skipR l).length ≤ l.length := skipF_len _ l
theorem wtok_pos {c : UInt8} {r : List UInt8} {t : S42} {n : Nat} (hc : letterB c = true ∨ digitB c = true) (h : wtok (c :: r) = .ok (t, n)) : 1 ≤ n ∧ n ≤ r.length + 1 ∧ (t.f0 = 0 ∨ t.f0 = 1) := by
  have hp : partB c = true := by rcases hc with h | h; exact part_letter c h; exact part_digit c h
  have h1 : 1 ≤ ((c :: r).takeWhile partB).length := by rw [List.takeWhile_cons, if_pos hp]; simp
  have h2 : ((c :: r).takeWhile partB).length ≤ r.length + 1 := (List.takeWhile_prefix partB).length_le
  unfold wtok at h
  split at h
  · split at h
    · cases h
    · split at h
      · injection h with h; injection h with ht hn; subst hn; subst ht; exact ⟨h1, h2, Or.inr rfl⟩
      · cases h
  · split at h
    · injection h with h; injection h with ht hn; subst hn; subst ht; exact ⟨h1, h2, Or.inl rfl⟩
    · cases h
theorem qtok_pos {l : List UInt8} {t : List UInt8} {n : Nat} (h : qtok l = some (t, n)) : 1 ≤ n ∧ n ≤ l.length := by
  unfold qtok at h
  cases hq : scanQ (l.drop 1) with
  | none => rw [hq] at h; simp at h
  | some q =>
    have hlt := scanQ_lt _ _ (Nat.le_refl _) q hq
    rw [List.length_drop] at hlt
    rw [hq, Option.bind_some] at h
    split at h
    · injection h with h; injection h with _ hn; omega
    · cases h
theorem tok1_pos {l : List UInt8} {t : S42} {n : Nat} {b : Bool} (h : tok1 l = .ok (t, n, b)) : 1 ≤ n ∧ n ≤ l.length ∧ t.f0 ≠ 4 := by
  cases l with
  | nil => cases h
  | cons c r =>
    unfold tok1 at h
    simp only at h
    split at h
    · rename_i hc
      cases hw : wtok (c :: r) with
      | error e => rw [hw] at h; cases h
      | ok x =>
        obtain ⟨t', n'⟩ := x
        rw [hw] at h
        injection h with h; injection h with ht h; injection h with hn hb
        subst ht; subst hn
        obtain ⟨h1, h2, h3⟩ := wtok_pos hc hw
        exact ⟨h1, h2, by omega⟩
    · split at h
      · cases hq : qtok (c :: r) with
        | none => rw [hq] at h; cases h
        | some x =>
          obtain ⟨t', n'⟩ := x
          rw [hq] at h
          injection h with h; injection h with ht h; injection h with hn hb
          subst ht; subst hn
          obtain ⟨h1, h2⟩ := qtok_pos hq
          exact ⟨h1, h2, by show (2 : Int) ≠ 4; decide⟩
      · split at h
        · injection h with h; injection h with ht h; injection h with hn hb
          subst ht; subst hn
          exact ⟨Nat.le_refl _, by simp, by decide⟩
        · cases h
theorem lexN_more : ∀ (f : Nat) (l : List UInt8) (line : Int), l.length + 1 ≤ f → lexN f l line = lexN (l.length + 1) l line := by
  suffices H : ∀ (m f f' : Nat) (l : List UInt8) (line : Int), l.length ≤ m → l.length + 1 ≤ f → l.length + 1 ≤ f' → lexN f l line = lexN f' l line by
    intro f l line h; exact H l.length f _ l line (Nat.le_refl _) h (Nat.le_refl _)
  intro m
  induction m with
  | zero =>
    intro f f' l line hm h1 h2
    obtain rfl : l = [] := List.length_eq_zero_iff.1 (by omega)
    obtain ⟨f, rfl⟩ : ∃ g, f = g + 1 := ⟨f - 1, by omega⟩
    obtain ⟨f', rfl⟩ : ∃ g, f' = g + 1 := ⟨f' - 1, by omega⟩
    rfl
  | succ m ih =>
    intro f f' l line hm h1 h2
    obtain ⟨f, rfl⟩ : ∃ g, f = g + 1 := ⟨f - 1, by omega⟩
    obtain ⟨f', rfl⟩ : ∃ g, f' = g + 1 := ⟨f' - 1, by omega⟩
    have hs := skipR_len l
    rw [lexN, lexN]
    by_cases he : skipR l = []
    · rw [if_pos he, if_pos he]
    · rw [if_neg he, if_neg he]
      have hpos := List.length_pos_iff.2 he
      cases ht : tok1 (skipR l) with
      | error e => rfl
      | ok x =>
        obtain ⟨t, n, b⟩ := x
        obtain ⟨p1, p2, _⟩ := tok1_pos ht
        simp only
        rw [ih f f' _ _ (by rw [List.length_drop]; omega) (by rw [List.length_drop]; omega) (by rw [List.length_drop]; omega)]
/-- The tokens of a text from a line on. -/
def lexL (l : List UInt8) (line : Int) : Except (Int × Int) (List S42) := lexN (l.length + 1) l line
theorem lexL_end (l : List UInt8) (line : Int) (h : skipR l = []) : lexL l line = .ok [⟨4, ⟨#[]⟩, 0, line⟩] := by
  unfold lexL; rw [lexN, if_pos h]
theorem lexL_step (l : List UInt8) (line : Int) (h : skipR l ≠ []) : lexL l line = match tok1 (skipR l) with
      | .error e => .error (e, line)
      | .ok (t, n, b) => (lexL ((skipR l).drop n) (if b = true then line + 1 else line)).map (putL t line :: ·) := by
  have hs := skipR_len l
  have hpos := List.length_pos_iff.2 h
  unfold lexL
  rw [lexN, if_neg h]
  cases ht : tok1 (skipR l) with
  | error e => rfl
  | ok x =>
    obtain ⟨t, n, b⟩ := x
    obtain ⟨p1, p2, _⟩ := tok1_pos ht
    simp only
    rw [lexN_more l.length _ _ (by rw [List.length_drop]; omega)]
end Go.Proofs.YteifffaonigidaaDoor.M
/- One round of Lex: what the method that next has chosen does. -/
namespace Go.Proofs.YteifffaonigidaaDoor.M
open Go.RowKit Go.Proofs.YteifffaonigidaaDoorW.PrintWords Go.Proofs.YteifffaonigidaaDoorW.PrintLast
open Go.Proofs.YteifffaonigidaaDoor
set_option linter.unusedVariables false
def lexR (l : List UInt8) : List S42 × Int × Int :=
  match lexL l 1 with
  | .ok ts => (ts, 0, 0)
  | .error (e, n) => ([], e, n)
def lex_Lex.f (a0 : ByteArray) : Option (List S42 × Int × Int) := if a0.size ≤ 1000000 then some (if (a0.size : Int) > 20000 then ([], 6, 0) else lexR a0.data.toList) else none
/-- The loop of Lex, n rounds ahead of its end. -/
def LexRel (src : ByteArray) (w : World) (n : Nat) (wr : World) : Prop :=
  ∃ (k : Nat) (line : Int) (out : List S42), k ≤ src.size ∧ out.length ≤ k + 1 ∧ (1 ≤ line ∧ line ≤ k + 1) ∧ Hid (Scn w.heap.size wr w.heap.size src (k : Int) line out) ∧ Hid (Below w.heap.size w wr) ∧
    ((n = src.size - k + 1 ∧ out.length ≤ k ∧ (∀ t, out.getLast? = some t → t.f0 ≠ 4) ∧ Hid (lexL src.data.toList 1 = (lexL (src.data.toList.drop k) line).map (out ++ ·))) ∨ (n = 0 ∧ (∃ t, out.getLast? = some t ∧ t.f0 = 4) ∧ Hid (lexL src.data.toList 1 = .ok out)))
theorem Scn.new (w : World) (src : ByteArray) : Scn w.heap.size (w.alloc (.cells #[.string src, .int .i64 0, .int .i64 1, .slice none 0 0] 71)) w.heap.size src 0 1 [] :=
  ⟨.slice none 0 0, heap_alloc_new w _, Nat.le_refl _, Kd.R_nil _ _ _ _ _⟩
theorem wtok_err {l : List UInt8} {x : Int} (h : wtok l = .error x) : x ≠ 0 := by
  unfold wtok at h
  split at h
  · split at h
    · injection h with h; omega
    · split at h
      · cases h
      · injection h with h; omega
  · split at h
    · cases h
    · injection h with h; omega
theorem map_err {x : Int × Int} (out : List S42) : (Except.error x : Except (Int × Int) (List S42)).map (out ++ ·) = .error x := rfl
theorem map_two (r : Except (Int × Int) (List S42)) (out : List S42) (t : S42) : (r.map (t :: ·)).map (out ++ ·) = r.map ((out ++ [t]) ++ ·) := by
  cases r with
  | error e => rfl
  | ok l => simp [Except.map]
def StepPost (src : ByteArray) (k k2 : Nat) (line : Int) (out : List S42) (w : World) (e : Ending) (w' : World) : Prop :=
  (e = .returned (.int .i64 0) ∧ ∃ n', n' < src.size - k + 1 ∧ LexRel src w n' w') ∨
    (∃ x, x ≠ 0 ∧ e = .returned (.int .i64 x) ∧ lexL src.data.toList 1 = .error (x, line) ∧ Scn w.heap.size w' w.heap.size src (k2 : Int) line out ∧ Below w.heap.size w w')
theorem lex_step (src : ByteArray) (k k2 : Nat) (line : Int) (out : List S42) (w w3 : World) (hs : src.size ≤ 1000000) (hk : k ≤ src.size) (hk2 : k2 ≤ src.size) (hd : src.data.toList.drop k2 = skipR (src.data.toList.drop k))
    (hol : out.length ≤ k) (hline : 1 ≤ line ∧ line ≤ k + 1) (hrun : lexL src.data.toList 1 = (lexL (src.data.toList.drop k) line).map (out ++ ·)) (hS : Scn w.heap.size w3 w.heap.size src (k2 : Int) line out) (hB : Below w.heap.size w w3) (hLd : LaidP w) :
    Calls Tryd.prog (nextF (src.data.toList.drop k2)) #[.pointer (some ⟨w.heap.size, 0, none⟩)] w3 fun e w' => StepPost src k k2 line out w e w' := by
  have hlen : src.data.toList.length = src.size := rfl
  have hkk : k ≤ k2 := by
    have h1 := skipR_len (src.data.toList.drop k)
    rw [← hd, List.length_drop, List.length_drop] at h1
    omega
  have hn : out.length < 1000000000 := by omega
  by_cases hlt : k2 < src.size
  · have hdr := drop_at src k2 hlt
    have hne : skipR (src.data.toList.drop k) ≠ [] := by rw [← hd, hdr]; simp
    have hstep := lexL_step (src.data.toList.drop k) line hne
    rw [← hd] at hstep
    -- a token
    have good : ∀ (t : S42) (n : Nat) (b : Bool) (w' : World), tok1 (src.data.toList.drop k2) = .ok (t, n, b) → Scn w.heap.size w' w.heap.size src ((k2 + n : Nat) : Int) (if b = true then line + 1 else line) (out ++ [putL t line]) → Below w.heap.size w w' →
        ∃ n', n' < src.size - k + 1 ∧ LexRel src w n' w' := by
      intro t n b w' ht hS' hB'
      obtain ⟨p1, p2, p3⟩ := tok1_pos ht
      rw [List.length_drop, hlen] at p2
      refine ⟨src.size - (k2 + n) + 1, by omega, k2 + n, if b = true then line + 1 else line, out ++ [putL t line], by omega, by simp; omega, ?_, Lib.hid hS', Lib.hid hB', Or.inl ⟨rfl, by simp; omega, ?_, Lib.hid ?_⟩⟩
      · split <;> omega
      · intro t' ht'
        simp at ht'
        subst ht'
        exact p3
      · rw [hrun, hstep, ht]
        simp only
        rw [map_two, List.drop_drop]
    have bad : ∀ (x : Int), tok1 (src.data.toList.drop k2) = .error x → lexL src.data.toList 1 = .error (x, line) := by
      intro x ht
      rw [hrun, hstep, ht]; rfl
    by_cases hc : letterB src[k2] = true ∨ digitB src[k2] = true
    · have hp : partB src[k2] = true := by rcases hc with h | h; exact part_letter _ h; exact part_digit _ h
      have hnf : nextF (src.data.toList.drop k2) = 80 := by rw [hdr]; exact if_pos hc
      have ht1 : tok1 (src.data.toList.drop k2) = (match wtok (src.data.toList.drop k2) with | .error e => .error e | .ok (t, n) => .ok (t, n, false)) := by
        rw [hdr]; exact if_pos hc
      rw [hnf]
      refine (scanner_word.calls w.heap.size w.heap.size src k2 line out w3 hS hn hlt hp hs hB.size (hLd.below hB)).mono ?_
      rintro e w' ⟨hp, hB'⟩
      unfold wPost at hp
      cases hw : wtok (src.data.toList.drop k2) with
      | error x =>
        rw [hw] at hp ht1
        exact Or.inr ⟨x, wtok_err hw, hp.1, bad x ht1, hp.2, hB.trans hB'⟩
      | ok y =>
        obtain ⟨t, n⟩ := y
        rw [hw] at hp ht1
        exact Or.inl ⟨hp.1, good t n false w' ht1 hp.2 (hB.trans hB')⟩
    · by_cases h34 : src[k2] = 34
      · have hnf : nextF (src.data.toList.drop k2) = 81 := by rw [hdr]; exact (if_neg hc).trans (if_pos h34)
        have ht1 : tok1 (src.data.toList.drop k2) = (match qtok (src.data.toList.drop k2) with | none => .error 11 | some (t, n) => .ok (⟨2, ⟨t.toArray⟩, 0, 0⟩, n, false)) := by
          rw [hdr]; exact (if_neg hc).trans (if_pos h34)
        rw [hnf]
        refine (scanner_quoted.calls w.heap.size w.heap.size src k2 line out w3 hS hn hlt hs hB.size).mono ?_
        rintro e w' ⟨hp, hB'⟩
        unfold qPost at hp
        cases hw : qtok (src.data.toList.drop k2) with
        | none =>
          rw [hw] at hp ht1
          exact Or.inr ⟨11, by decide, hp.1, bad 11 ht1, hp.2, hB.trans hB'⟩
        | some y =>
          obtain ⟨t, n⟩ := y
          rw [hw] at hp ht1
          exact Or.inl ⟨hp.1, good _ n false w' ht1 hp.2 (hB.trans hB')⟩
      · by_cases h10 : src[k2] = 10
        · have hnf : nextF (src.data.toList.drop k2) = 82 := by rw [hdr]; exact (if_neg hc).trans ((if_neg h34).trans (if_pos h10))
          have ht1 : tok1 (src.data.toList.drop k2) = .ok (⟨3, ⟨#[]⟩, 0, 0⟩, 1, true) := by
            rw [hdr]; exact (if_neg hc).trans ((if_neg h34).trans (if_pos h10))
          rw [hnf]
          refine (scanner_feed.calls w.heap.size w.heap.size src (k2 : Int) line out w3 hS hn hB.size (by omega) (by omega)).mono ?_
          rintro e w' ⟨he, hS', hB'⟩
          exact Or.inl ⟨he, good _ 1 true w' ht1 (hS'.to_at (by omega)) (hB.trans hB')⟩
        · have hnf : nextF (src.data.toList.drop k2) = 83 := by rw [hdr]; exact (if_neg hc).trans ((if_neg h34).trans (if_neg h10))
          have ht1 : tok1 (src.data.toList.drop k2) = .error 11 := by
            rw [hdr]; exact (if_neg hc).trans ((if_neg h34).trans (if_neg h10))
          rw [hnf]
          refine (scanner_wrong.calls w.heap.size w3).mono ?_
          rintro e w' ⟨he, rfl⟩
          exact Or.inr ⟨11, by decide, he, bad 11 ht1, hS, hB⟩
  · obtain rfl : k2 = src.size := by omega
    have hnil : src.data.toList.drop src.size = [] := List.drop_of_length_le (Nat.le_refl _)
    have hsk : skipR (src.data.toList.drop k) = [] := by rw [← hd, hnil]
    have hnf : nextF (src.data.toList.drop src.size) = 78 := by rw [hnil]; rfl
    rw [hnf]
    refine (scanner_end.calls w.heap.size w.heap.size src _ line out w3 hS hn hB.size).mono ?_
    rintro e w' ⟨he, hS', hB'⟩
    refine Or.inl ⟨he, 0, by omega, src.size, line, out ++ [⟨4, ⟨#[]⟩, 0, line⟩], Nat.le_refl _, by simp; omega, ⟨hline.1, by omega⟩, Lib.hid hS', Lib.hid (hB.trans hB'), Or.inr ⟨rfl, ⟨⟨4, ⟨#[]⟩, 0, line⟩, by simp, rfl⟩, Lib.hid ?_⟩⟩
    rw [hrun, lexL_end _ _ hsk]
    rfl
theorem nextF_cases (l : List UInt8) : nextF l = 78 ∨ nextF l = 80 ∨ nextF l = 81 ∨ nextF l = 82 ∨ nextF l = 83 := by
  unfold nextF
  split
  · exact Or.inl rfl
  · split
    · exact Or.inr (Or.inl rfl)
    · split
      · exact Or.inr (Or.inr (Or.inl rfl))
      · split
        · exact Or.inr (Or.inr (Or.inr (Or.inl rfl)))
        · exact Or.inr (Or.inr (Or.inr (Or.inr rfl)))
end Go.Proofs.YteifffaonigidaaDoor.M
/- The contract of lex.Lex, for every argument of at most 1000000 bytes. -/
namespace Go.Proofs.YteifffaonigidaaDoor.M
open Go.RowKit Go.Proofs.YteifffaonigidaaDoorW.PrintWords Go.Proofs.YteifffaonigidaaDoorW.PrintLast
open Go.Proofs.YteifffaonigidaaDoor
set_option linter.unusedVariables false
set_option linter.unusedSimpArgs false
set_option maxHeartbeats 8000000 in
set_option maxRecDepth 100000 in
theorem lex_Lex.calls (a0 : ByteArray) (r1 : List S42) (r2 r3 : Int) (w : World) (h : lex_Lex.f a0 = some (r1, r2, r3)) (hLd : LaidP w) :
    Calls Tryd.prog 25 #[.string a0] w fun e w' => ∃ v0_ : Value, e = .returned (.tuple #[v0_, .int .i64 r2, .int .i64 r3]) ∧ Kd.R k42 42 w' w.heap.size (fun _ => True) v0_ r1 ∧ Below w.heap.size w w' := by
  unfold lex_Lex.f at h
  by_cases hs0 : ¬ a0.size ≤ 1000000
  · rw [if_neg hs0] at h; exact absurd h (by simp)
  have hs := Decidable.not_not.1 hs0
  rw [if_pos hs] at h
  have h := Option.some.inj h
  by_cases hbig : (a0.size : Int) > 20000
  · rw [if_pos hbig] at h
    injection h with h1 h2
    injection h2 with h2 h3
    subst h1; subst h2; subst h3
    have hN := Kd.R_nil k42 42 w w.heap.size (fun _ => True)
    have c1 : decide ((20000 : Int) < (a0.size : Int)) = true := decide_eq_true hbig
    clear hLd
    go_enter Tryd.func25, Tryd.ntmps25
    go_wp2
    go_ret3
    exact ⟨_, rfl, hN, Below.refl _ _⟩
  · rw [if_neg hbig] at h
    have HR := Lib.hid h
    have HL := Lib.hid hLd
    have c1 : decide ((20000 : Int) < (a0.size : Int)) = false := decide_eq_false hbig
    have hN := Lib.hid (Scn.new w a0)
    have hBN : Below w.heap.size w (w.alloc (.cells #[.string a0, .int .i64 0, .int .i64 1, .slice none 0 0] 71)) := (Below.refl _ _).alloc (Nat.le_refl _) _
    have HBN := Lib.hid hBN
    clear h hLd hBN
    go_enter Tryd.func25, Tryd.ntmps25
    go_wp2_with fail
    go_loopg [] (a0.size + 1) (fun n wr => LexRel a0 w n wr)
    case atStart => exact ⟨0, 1, [], by omega, by simp, ⟨Int.le_refl _, by omega⟩, hN, HBN, Or.inl ⟨by omega, Nat.le_refl _, by simp, Lib.hid (by rw [List.drop_zero]; cases lexL a0.data.toList 1 <;> rfl)⟩⟩
    case round =>
      obtain ⟨k, line, out, hk, hout, hline, HS, HB, hst⟩ := hrel
      clear hN HBN
      obtain ⟨v, hb, hg, hr⟩ := HS.out
      obtain ⟨A, c, rfl, hcap, hrd⟩ := hr.2.reads
      have hC : Kd.C k42 wr A out.length out := ReadsRow.imp_ hrd (Below.refl _ _) (fun _ _ hp => k42.K_of_M hp)
      have hc3 : wr.cell? ⟨w.heap.size, 3, none⟩ = some (.slice A out.length c) := (blk_cell hb 3).trans rfl
      have hc2 : wr.cell? ⟨w.heap.size, 2, none⟩ = some (.int .i64 line) := (blk_cell hb 2).trans rfl
      have HRr := Lib.hid hr
      clear hb hr hrd
      rcases hst with ⟨rfl, hol, hlast, hrun⟩ | ⟨rfl, ⟨t, ht, ht4⟩, hfin⟩
      · have hS0 : ∀ m, Scn w.heap.size (wr.drewN m) w.heap.size a0 (k : Int) line out := fun m => HS.out.drewN m
        have hB0 : ∀ m, Below w.heap.size w (wr.drewN m) := fun m => pw_below_drewN HB.out m
        have hcond : (out.length = 0) ∨ (0 < out.length) := by omega
        rcases hcond with hz | hpos
        · have d1 : ((out.length : Int) == 0) = true := beq_iff_eq.2 (by omega)
          have HC := Lib.hid hC
          have HS0 := Lib.hid hS0
          have HB0 := Lib.hid hB0
          clear hC hout hlast hS0 hB0 HS HB HRr
          go_wp2
          repeat (go_quiet (fail); try go_wp2_with fail)
          refine (scanner_skip.calls w.heap.size w.heap.size a0 k line out _ (HS0.out _) hk hs (HB0.out nq).size).mono ?_
          rintro e w2 ⟨⟨v2, rfl⟩, k2, hk2, hd2, hS2, hB2⟩
          have HS2 := Lib.hid hS2
          have HB2 := Lib.hid ((HB0.out nq).trans hB2)
          have HST := Lib.hid (fun m3 => lex_step a0 k k2 line out w (w2.drewN m3) hs hk hk2 hd2 hol hline hrun.out (HS2.out.drewN m3) (pw_below_drewN HB2.out m3) HL.out)
          have HNX := Lib.hid (scanner_next.calls w.heap.size w.heap.size a0 k2 line out w2 HS2.out hk2)
          clear hS2 hB2 HS0 HB0 HC hd2 HS2 HB2
          have hfin : ∀ x, lexL a0.data.toList 1 = .error (x, line) → r1 = [] ∧ r2 = x ∧ r3 = line := by
            intro x hx
            have h := HR.out
            unfold lexR at h
            rw [hx] at h
            injection h with e1 e2
            injection e2 with e2 e3
            exact ⟨e1.symm, e2.symm, e3.symm⟩
          have HF := Lib.hid hfin
          clear hfin hrun
          rcases nextF_cases (a0.data.toList.drop k2) with hF | hF | hF | hF | hF
          all_goals rw [hF] at HST HNX
          all_goals clear hF
          all_goals go_wp2_with fail
          all_goals refine HNX.out.mono ?_
          all_goals rintro e w3 ⟨rfl, m3, rfl⟩
          all_goals go_wp2_with fail
          all_goals refine (HST.out m3).mono ?_
          all_goals rintro e w4 hpost
          all_goals clear HST HNX
          all_goals rcases hpost with ⟨rfl, n', hn', hrel⟩ | ⟨x, hx, rfl, herr, hS4, hB4⟩
          all_goals first
            | (have HRel := Lib.hid hrel
               clear hrel
               go_wp2_with fail
               go_roundg n'
               case measure => exact hn'
               case rel => exact HRel.out)
            | skip
          all_goals
            obtain ⟨q1, q2, q3⟩ := HF.out x herr
            subst q1; subst q2; subst q3
            obtain ⟨v4, hb4, _, _⟩ := hS4
            have hc4 : w4.cell? ⟨w.heap.size, 2, none⟩ = some (.int .i64 r3) := (blk_cell hb4 2).trans rfl
            have hx' : (r2 != 0) = true := bne_iff_ne.2 hx
            have HB4 := Lib.hid hB4
            have HNil := Lib.hid (Kd.R_nil k42 42 w w.heap.size (fun _ => True))
            clear hb4 hB4 hx
            go_wp2
            repeat (go_quiet (fail); try go_wp2_with fail)
            go_ret3
            exact ⟨_, rfl, Kd.R_nil _ _ _ _ _, pw_below_drewN HB4.out _⟩
        · obtain ⟨ad, rfl, hk0, _, _, _⟩ := at_T42 hC ((out.length - 1 : Nat) : Int) (by omega) (by omega)
          have hrd4 : (rd_T42 out ((out.length - 1 : Nat) : Int)).f0 ≠ 4 := by
            unfold rd_T42
            rw [Int.toNat_natCast, List.getD_eq_getElem?_getD, List.getElem?_eq_getElem (by omega)]
            exact hlast _ (by rw [List.getLast?_eq_getElem?, List.getElem?_eq_getElem (by omega)]; rfl)
          rw [Int.toNat_natCast] at hk0
          obtain ⟨kd, hkd⟩ : ∃ x, (rd_T42 out ((out.length - 1 : Nat) : Int)).f0 = x := ⟨_, rfl⟩
          rw [hkd] at hk0 hrd4
          have d0 : (kd != 4) = true := bne_iff_ne.2 hrd4
          have d1 : ((out.length : Int) == 0) = false := beq_eq_false_iff_ne.2 (by omega)
          have d2 : IntKind.i64.wrap ((out.length : Int) - 1) = ((out.length - 1 : Nat) : Int) := by rw [IntWalk.i64_in _ (by omega)]; omega
          have d3 : (0 : Int) ≤ ((out.length - 1 : Nat) : Int) := by omega
          have d4 : ((out.length - 1 : Nat) : Int) < (out.length : Int) := by omega
          have d5 : ((out.length - 1 : Nat) : Int).toNat = out.length - 1 := by omega
          have HC := Lib.hid hC
          have HS0 := Lib.hid hS0
          have HB0 := Lib.hid hB0
          clear hC hrd4 hkd hout hlast hS0 hB0 HS HB HRr
          go_wp2
          repeat (go_quiet (fail); try go_wp2_with fail)
          refine (scanner_skip.calls w.heap.size w.heap.size a0 k line out _ (HS0.out _) hk hs (HB0.out nq).size).mono ?_
          rintro e w2 ⟨⟨v2, rfl⟩, k2, hk2, hd2, hS2, hB2⟩
          have HS2 := Lib.hid hS2
          have HB2 := Lib.hid ((HB0.out nq).trans hB2)
          have HST := Lib.hid (fun m3 => lex_step a0 k k2 line out w (w2.drewN m3) hs hk hk2 hd2 hol hline hrun.out (HS2.out.drewN m3) (pw_below_drewN HB2.out m3) HL.out)
          have HNX := Lib.hid (scanner_next.calls w.heap.size w.heap.size a0 k2 line out w2 HS2.out hk2)
          clear hS2 hB2 HS0 HB0 HC hd2 HS2 HB2
          have hfin : ∀ x, lexL a0.data.toList 1 = .error (x, line) → r1 = [] ∧ r2 = x ∧ r3 = line := by
            intro x hx
            have h := HR.out
            unfold lexR at h
            rw [hx] at h
            injection h with e1 e2
            injection e2 with e2 e3
            exact ⟨e1.symm, e2.symm, e3.symm⟩
          have HF := Lib.hid hfin
          clear hfin hrun
          rcases nextF_cases (a0.data.toList.drop k2) with hF | hF | hF | hF | hF
          all_goals rw [hF] at HST HNX
          all_goals clear hF
          all_goals go_wp2_with fail
          all_goals refine HNX.out.mono ?_
          all_goals rintro e w3 ⟨rfl, m3, rfl⟩
          all_goals go_wp2_with fail
          all_goals refine (HST.out m3).mono ?_
          all_goals rintro e w4 hpost
          all_goals clear HST HNX
          all_goals rcases hpost with ⟨rfl, n', hn', hrel⟩ | ⟨x, hx, rfl, herr, hS4, hB4⟩
          all_goals first
            | (have HRel := Lib.hid hrel
               clear hrel
               go_wp2_with fail
               go_roundg n'
               case measure => exact hn'
               case rel => exact HRel.out)
            | skip
          all_goals
            obtain ⟨q1, q2, q3⟩ := HF.out x herr
            subst q1; subst q2; subst q3
            obtain ⟨v4, hb4, _, _⟩ := hS4
            have hc4 : w4.cell? ⟨w.heap.size, 2, none⟩ = some (.int .i64 r3) := (blk_cell hb4 2).trans rfl
            have hx' : (r2 != 0) = true := bne_iff_ne.2 hx
            have HB4 := Lib.hid hB4
            have HNil := Lib.hid (Kd.R_nil k42 42 w w.heap.size (fun _ => True))
            clear hb4 hB4 hx
            go_wp2
            repeat (go_quiet (fail); try go_wp2_with fail)
            go_ret3
            exact ⟨_, rfl, Kd.R_nil _ _ _ _ _, pw_below_drewN HB4.out _⟩
      · have h := HR.out
        unfold lexR at h
        rw [hfin.out] at h
        injection h with e1 e2
        injection e2 with e2 e3
        subst e1; subst e2; subst e3
        have hpos : 0 < out.length := by
          cases out with
          | nil => simp at ht
          | cons x l => simp
        obtain ⟨ad, rfl, hk0, _, _, _⟩ := at_T42 hC ((out.length - 1 : Nat) : Int) (by omega) (by omega)
        have hrd4 : (rd_T42 out ((out.length - 1 : Nat) : Int)).f0 = 4 := by
          unfold rd_T42
          rw [Int.toNat_natCast]
          rw [List.getLast?_eq_getElem?] at ht
          rw [List.getD_eq_getElem?_getD, ht]
          exact ht4
        rw [hrd4, Int.toNat_natCast] at hk0
        have d1 : ((out.length : Int) == 0) = false := beq_eq_false_iff_ne.2 (by omega)
        have d2 : IntKind.i64.wrap ((out.length : Int) - 1) = ((out.length - 1 : Nat) : Int) := by rw [IntWalk.i64_in _ (by omega)]; omega
        have d3 : (0 : Int) ≤ ((out.length - 1 : Nat) : Int) := by omega
        have d4 : ((out.length - 1 : Nat) : Int) < (out.length : Int) := by omega
        have d5 : ((out.length - 1 : Nat) : Int).toNat = out.length - 1 := by omega
        have HC := Lib.hid hC
        clear hC hrd4 ht ht4 hout hline
        go_wp2
        repeat (go_quiet (fail); try go_wp2)
        go_ret3
        exact ⟨_, rfl, Kd.R_mono (Kd.R_below HRr.out (pw_below_drewN (Below.refl _ _) _)) (fun _ _ => trivial), pw_below_drewN HB.out _⟩
end Go.Proofs.YteifffaonigidaaDoor.M
