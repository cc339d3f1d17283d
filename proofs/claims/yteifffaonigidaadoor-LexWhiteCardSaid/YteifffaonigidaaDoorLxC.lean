/- The contract of the scanner's method quoted. -/
import Derived.Test.YteifffaonigidaaDoorLxB
import Derived.Test.YteifffaonigidaaDoorTxD
import Derived.Test.YteifffaonigidaaDoorTxP
namespace Go.Proofs.YteifffaonigidaaDoor.M
open Go.RowKit Go.Proofs.YteifffaonigidaaDoorW.PrintWords Go.Proofs.YteifffaonigidaaDoorW.PrintLast
set_option linter.unusedVariables false
set_option linter.unusedSimpArgs false
theorem pw_below_call {base : Nat} {w w' : World} (hB : base ≤ w.heap.size) (h : Below w.drew.heap.size w.drew w') : Below base w w' := (pw_below_drewN (Below.refl base w) 1).trans (h.mono hB)
/-- How many bytes stand ahead of the quote that ends a text. -/
def scanQ : List UInt8 → Option Nat
  | [] => none
  | [c] => if c = 34 then some 0 else none
  | c :: d :: r => if c = 34 then some 0 else if c = 92 then (scanQ r).map (· + 2) else (scanQ (d :: r)).map (· + 1)
theorem scanQ_nil : scanQ [] = none := rfl
theorem scanQ_quote (r : List UInt8) : scanQ (34 :: r) = some 0 := by
  cases r with
  | nil => rfl
  | cons d r => unfold scanQ; rfl
theorem scanQ_plain (c : UInt8) (r : List UInt8) (h : c ≠ 34) (h2 : c ≠ 92) : scanQ (c :: r) = (scanQ r).map (· + 1) := by
  cases r with
  | nil => simp [scanQ, h]
  | cons d r => rw [scanQ, if_neg h, if_neg h2]
theorem scanQ_back1 : scanQ [92] = none := by simp [scanQ]
theorem scanQ_back (d : UInt8) (r : List UInt8) : scanQ (92 :: d :: r) = (scanQ r).map (· + 2) := by rw [scanQ, if_neg (by decide), if_pos rfl]
theorem scanQ_lt : ∀ (n : Nat) (l : List UInt8), l.length ≤ n → ∀ m, scanQ l = some m → m < l.length
  | _, [], _, m, h => by simp [scanQ] at h
  | n, [c], _, m, h => by
    unfold scanQ at h
    split at h
    · obtain rfl := Option.some.inj h; simp
    · simp at h
  | n + 1, c :: d :: r, hn, m, h => by
    unfold scanQ at h
    split at h
    · obtain rfl := Option.some.inj h; simp
    · split at h
      · cases hq : scanQ r with
        | none => rw [hq] at h; simp at h
        | some q =>
          rw [hq] at h
          obtain rfl : q + 2 = m := Option.some.inj h
          have := scanQ_lt n r (by simp at hn; omega) q hq
          simp; omega
      · cases hq : scanQ (d :: r) with
        | none => rw [hq] at h; simp at h
        | some q =>
          rw [hq] at h
          obtain rfl : q + 1 = m := Option.some.inj h
          have := scanQ_lt n (d :: r) (by simp at hn ⊢; omega) q hq
          simp at this ⊢; omega
/-- The text at the head of l (which begins with a quote): its contents, and how many bytes it takes. -/
def qtok (l : List UInt8) : Option (List UInt8 × Nat) :=
  (scanQ (l.drop 1)).bind fun n => if (unquoteL (l.take (n + 2))).2 = true then some ((unquoteL (l.take (n + 2))).1, n + 2) else none
def qPost (base g : Nat) (src : ByteArray) (k : Nat) (line : Int) (out : List S42) (e : Ending) (w' : World) : Prop :=
  match qtok (src.data.toList.drop k) with
  | none => e = .returned (.int .i64 11) ∧ Scn base w' g src (k : Int) line out
  | some (t, n) => e = .returned (.int .i64 0) ∧ Scn base w' g src ((k + n : Nat) : Int) line (out ++ [⟨2, ⟨t.toArray⟩, 0, line⟩])
set_option maxHeartbeats 8000000 in
set_option maxRecDepth 100000 in
theorem scanner_quoted.calls (base g : Nat) (src : ByteArray) (k : Nat) (line : Int) (out : List S42) (w : World) (hS : Scn base w g src (k : Int) line out) (hn : out.length < 1000000000) (hk : k < src.size) (hs : src.size ≤ 1000000) (hB : base ≤ w.heap.size) :
    Calls Tryd.prog 81 #[.pointer (some ⟨g, 0, none⟩)] w fun e w' => qPost base g src k line out e w' ∧ Below base w w' := by
  have HS := Lib.hid hS
  obtain ⟨v, hb, hg, hr⟩ := hS
  have hc0 : w.cell? ⟨g, 0, none⟩ = some (.string src) := (blk_cell hb 0).trans rfl
  have hc1 : w.cell? ⟨g, 1, none⟩ = some (.int .i64 k) := (blk_cell hb 1).trans rfl
  clear hr hb
  go_enter Tryd.func81, Tryd.ntmps81
  go_wp2_with fail
  go_loopw [3] (fun v3 wr => ∃ e : Nat, k + 1 ≤ e ∧ e ≤ src.size + 1 ∧ v3 = .int .i64 e ∧ Hid (scanQ (src.data.toList.drop (k + 1)) = (scanQ (src.data.toList.drop e)).map (· + (e - (k + 1)))) ∧ wr = w) (fun i _ => src.size + 2 - (intOf i).toNat)
  case atStart => exact ⟨k + 1, Nat.le_refl _, by omega, by go_num, Lib.hid (by simp), rfl⟩
  case round =>
    obtain ⟨e, h1, h2, rfl, hq, rfl⟩ := hrel
    have hlen : src.data.toList.length = src.size := rfl
    by_cases hlt : e < src.size
    · have hd := drop_at src e hlt
      have hl : (e : Int) < (src.size : Int) := by omega
      by_cases h34 : src[e].toNat = 34
      · have c1 : ((src[e].toNat : Int) != 34) = false := bne_eq_false_iff_eq.2 (by omega)
        have c2 : ((src[e].toNat : Int) == 34) = true := beq_iff_eq.2 (by omega)
        have hE : src[e] = 34 := UInt8.toNat_inj.1 h34
        have hQ : scanQ (src.data.toList.drop (k + 1)) = some (e - (k + 1)) := by
          rw [hq.out, hd, hE, scanQ_quote]; simp
        have hT : (src.data.toList.drop k).take (e - (k + 1) + 2) = (src.extract k (e + 1)).data.toList := by
          rw [T.extract_list]; congr 1; omega
        have hqt : qtok (src.data.toList.drop k) = if (unquoteL (src.extract k (e + 1)).data.toList).2 = true then some ((unquoteL (src.extract k (e + 1)).data.toList).1, e + 1 - k) else none := by
          unfold qtok
          rw [List.drop_drop, show k + 1 = k + 1 from rfl, hQ, Option.bind_some, hT, show e - (k + 1) + 2 = e + 1 - k by omega]
        obtain ⟨r1, hr1⟩ : ∃ r, (unquoteL (src.extract k (e + 1)).data.toList).1 = r := ⟨_, rfl⟩
        obtain ⟨r2, hr2⟩ : ∃ r, (unquoteL (src.extract k (e + 1)).data.toList).2 = r := ⟨_, rfl⟩
        rw [hr1, hr2] at hqt
        have hU : ∀ W : World, Calls Tryd.prog 22 #[.string (src.extract k (e + 1))] W fun e w' => e = .returned (.tuple #[.string ⟨r1.toArray⟩, .bool r2]) ∧ Below W.heap.size W w' := by
          intro W
          refine text_Unquote.calls _ _ _ W ?_
          unfold text_Unquote.f
          rw [hr1, hr2, if_pos]
          rw [ByteArray.size_extract]
          omega
        have HU := Lib.hid hU
        have HQ := Lib.hid hqt
        have e1 : IntKind.i64.wrap ((e : Int) + 1) = ((e + 1 : Nat) : Int) := by rw [IntWalk.i64_in _ (by omega)]; rfl
        have e2 : ((e + 1 : Nat) : Int).toNat = e + 1 := by omega
        have e3 : (0 : Int) ≤ ((e + 1 : Nat) : Int) := by omega
        have e4 : (k : Int) ≤ ((e + 1 : Nat) : Int) := by omega
        have e5 : ((e + 1 : Nat) : Int) ≤ (src.size : Int) := by omega
        clear hU hqt hQ hT hr1 hr2 hE hd hq h34
        go_wp2_with fail
        go_region_with (go_at_call 22; refine (HU.out _).mono ?_; rintro e w' ⟨rfl, hB1⟩; have HSw := Lib.hid (Scn.below (HS.out.drewN 1) hB1); have HBw := Lib.hid (pw_below_call hB hB1); clear hB1)
        all_goals clear HU HS hc0 hc1
        all_goals cases r2
        all_goals go_wp2_with fail
        all_goals first
          | (go_ret; exact ⟨by unfold qPost; rw [HQ.out]; exact ⟨rfl, HSw.out⟩, HBw.out⟩)
          | skip
        all_goals refine (scanner_take.calls base g src k line out _ ⟨2, ⟨r1.toArray⟩, 0, 0⟩ ((e + 1 : Nat) : Int) HSw.out hn (Nat.le_trans hB HBw.out.size)).mono ?_
        all_goals rintro e w2 ⟨⟨v, rfl⟩, hS2, hB2⟩
        all_goals have HS2 := Lib.hid hS2
        all_goals have HB2 := Lib.hid (HBw.out.trans hB2)
        all_goals clear hS2 hB2 HSw HBw
        all_goals go_wp2_with fail
        all_goals go_ret
        all_goals exact ⟨by unfold qPost; rw [HQ.out]; exact ⟨rfl, HS2.out.to_at (by omega)⟩, HB2.out⟩
      · have c1 : ((src[e].toNat : Int) != 34) = true := bne_iff_ne.2 (by omega)
        by_cases h92 : src[e].toNat = 92
        · have c2 : ((src[e].toNat : Int) == 92) = true := beq_iff_eq.2 (by omega)
          have hE : src[e] = 92 := UInt8.toNat_inj.1 h92
          have hQ := Lib.hid (show scanQ (src.data.toList.drop (k + 1)) = (scanQ (src.data.toList.drop (e + 2))).map (· + (e + 2 - (k + 1))) by
            rw [hq.out, hd, hE]
            by_cases h1' : e + 1 < src.size
            · rw [drop_at src (e + 1) h1', scanQ_back, Option.map_map]
              congr 1
              funext x
              simp only [Function.comp]
              omega
            · rw [List.drop_of_length_le (show src.data.toList.length ≤ e + 1 by omega), scanQ_back1, List.drop_of_length_le (show src.data.toList.length ≤ e + 2 by omega)]
              rfl)
          clear hE hd hq h34 h92
          go_wp2_with fail
          go_roundw
          case rel => exact ⟨e + 2, by omega, by omega, by go_num, hQ, by first | rfl | trivial⟩
          case measure => simp [intOf]; omega
        · have c2 : ((src[e].toNat : Int) == 92) = false := beq_eq_false_iff_ne.2 (by omega)
          have hQ := Lib.hid (show scanQ (src.data.toList.drop (k + 1)) = (scanQ (src.data.toList.drop (e + 1))).map (· + (e + 1 - (k + 1))) by
            rw [hq.out, hd, scanQ_plain _ _ (fun h => h34 (by rw [h]; rfl)) (fun h => h92 (by rw [h]; rfl)), Option.map_map]
            congr 1
            funext x
            simp only [Function.comp]
            omega)
          clear hd hq h34 h92
          go_wp2_with fail
          go_roundw
          case rel => exact ⟨e + 1, by omega, by omega, by go_num, hQ, by first | rfl | trivial⟩
          case measure => simp [intOf]; omega
    · have hl : decide ((e : Int) < (src.size : Int)) = false := decide_eq_false (by omega)
      have hl2 : decide ((src.size : Int) ≤ (e : Int)) = true := decide_eq_true (by omega)
      have hqt : qtok (src.data.toList.drop k) = none := by
        unfold qtok
        rw [List.drop_drop, hq.out, List.drop_of_length_le (show src.data.toList.length ≤ e by omega)]
        rfl
      have HQ := Lib.hid hqt
      clear hqt hq
      go_wp2_with fail
      go_ret
      exact ⟨by unfold qPost; rw [HQ.out]; exact ⟨rfl, HS.out⟩, Below.refl _ _⟩
end Go.Proofs.YteifffaonigidaaDoor.M
