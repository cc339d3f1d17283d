/- The contract of taquinref02.Parts, walked by hand: the parts of a pattern ('pitems'), for every pattern of at most 60000 bytes. -/
import Derived.Test.YteifffaonigidaaDoorPrD
import Derived.Deep.RegionHeld3
namespace Go.Proofs.YteifffaonigidaaDoor.M
open Go.RowKit Go.Proofs.YteifffaonigidaaDoorW.PrintWords Go.Proofs.YteifffaonigidaaDoorW.PrintLast
open Go.Proofs.YteifffaonigidaaDoor.Pure Go.Proofs.YteifffaonigidaaDoor.Pure.Rf Go.Proofs.YteifffaonigidaaDoor.PatPlain
set_option linter.unusedVariables false
set_option linter.unusedSimpArgs false
def taquinref02_Parts.f (k : Nat) (a0 : ByteArray) : Option (List S84) := if a0.size ≤ 60000 then some (partsR a0) else none
theorem taquinref02_Parts.mono : ∀ a0 k, LeO (taquinref02_Parts.f k a0) (taquinref02_Parts.f (k + 1) a0) := fun _ _ => LeO.refl _
/-- One round of Parts: where it stands. -/
structure PI (a0 : ByteArray) (w : World) (i f : Nat) (out : List S84) (v : Value) (W : World) : Prop where
  own : Kd.R k84 84 W w.heap.size (fun _ => True) v out
  bl : Below w.heap.size w W
  eq : partsR a0 = out ++ pitems a0 f i
  fuel : a0.size + 1 ≤ i + f
theorem PI.start (a0 : ByteArray) (w : World) : PI a0 w 0 (a0.size + 1) [] (.slice none 0 0) w := ⟨Kd.R_nil _ _ _ _ _, Below.refl _ _, rfl, by omega⟩
theorem PI.done {a0 : ByteArray} {w : World} {f : Nat} {out : List S84} {v : Value} {W : World} (h : PI a0 w a0.size f out v W) : partsR a0 = out := by
  rw [h.eq, pitems_end _ _ _ (Nat.le_refl _), List.append_nil]
theorem PI.next {a0 : ByteArray} {w : World} {i f : Nat} {out : List S84} {v : Value} {W : World} (h : PI a0 w i f out v W) (hi : i < a0.size) {v' : Value} {W' : World}
    (ho : Kd.R k84 84 W' w.heap.size (fun _ => True) v' (out ++ [item a0 i (at1 a0 i)])) (hb : Below w.heap.size w W') : ∃ f', PI a0 w (i + 1 + (at1 a0 i).2) f' (out ++ [item a0 i (at1 a0 i)]) v' W' := by
  have hf := h.fuel
  obtain ⟨f', rfl⟩ : ∃ f', f = f' + 1 := ⟨f - 1, by omega⟩
  refine ⟨f', ho, hb, ?_, by omega⟩
  rw [h.eq, pitems, if_pos hi, List.append_assoc]
  rfl
/-- The variable x of Parts: where it lies, what it holds. -/
structure XIs (w : World) (g : Nat) (v : Value) (out : List S84) (x : S84) (W : World) : Prop where
  blk : W.heap[g]? = some (.cells #[.int .i64 x.f0, .int .u8 x.f1, .string x.f2, .bool x.f3, .string x.f4] 84 (0, 0))
  own : Kd.R k84 84 W w.heap.size (fun j => True ∧ j ≠ g) v out
  bl : Below w.heap.size w W
  hg : w.heap.size ≤ g
theorem XIs.drew {w : World} {g : Nat} {v : Value} {out : List S84} {x : S84} {W : World} (h : XIs w g v out x W) (m : Nat) : XIs w g v out x (W.drewN m) :=
  ⟨blk_drewN h.blk m, Kd.R_drewN h.own m, pw_below_drewN h.bl m, h.hg⟩
theorem XIs.step {w : World} {g : Nat} {v : Value} {out : List S84} {x : S84} {W W' : World} (h : XIs w g v out x W) (h2 : Below W.heap.size W W') : XIs w g v out x W' :=
  ⟨blk_grown h.blk (grown_of_below h2 none) (by simp), Kd.R_below h.own h2, h.bl.trans (h2.mono h.bl.size), h.hg⟩
theorem XIs.new {a0 : ByteArray} {w : World} {i f : Nat} {out : List S84} {v : Value} {W W' : World} (h : PI a0 w i f out v W) (h2 : Below W.heap.size W W') (x : S84) :
    XIs w W'.heap.size v out x (W'.alloc (.cells #[.int .i64 x.f0, .int .u8 x.f1, .string x.f2, .bool x.f3, .string x.f4] 84)) := by
  have hb : Below w.heap.size w W' := h.bl.trans (h2.mono h.bl.size)
  have ha : Below W'.heap.size W' (W'.alloc (.cells #[.int .i64 x.f0, .int .u8 x.f1, .string x.f2, .bool x.f3, .string x.f4] 84)) := (Below.refl _ _).alloc (Nat.le_refl _) _
  exact ⟨heap_alloc_new W' _, Kd.R_below (Kd.R_elderB (Kd.R_below h.own h2) W'.heap.size (Nat.le_refl _)) ha, hb.trans (ha.mono hb.size), hb.size⟩
theorem XIs.set0 {w : World} {g : Nat} {v : Value} {out : List S84} {x : S84} {W : World} (h : XIs w g v out x W) (n : Int) : XIs w g v out ⟨n, x.f1, x.f2, x.f3, x.f4⟩ (W.setCell ⟨g, 0, none⟩ (.int .i64 n)) :=
  ⟨blk_put h.blk 0 _ rfl, Kd.R_far (p := ⟨g, 0, none⟩) h.own (fun _ hk => hk.2) _, below_set h.bl h.hg, h.hg⟩
theorem XIs.set {w : World} {g : Nat} {v : Value} {out : List S84} {x : S84} {W : World} (h : XIs w g v out x W) (y : S84) :
    XIs w g v out y (((((W.setCell ⟨g, 0, none⟩ (.int .i64 y.f0)).setCell ⟨g, 1, none⟩ (.int .u8 y.f1)).setCell ⟨g, 2, none⟩ (.string y.f2)).setCell ⟨g, 3, none⟩ (.bool y.f3)).setCell ⟨g, 4, none⟩ (.string y.f4)) :=
  ⟨blk_put (blk_put (blk_put (blk_put (blk_put h.blk 0 _ rfl) 1 _ rfl) 2 _ rfl) 3 _ rfl) 4 _ rfl,
   Kd.R_far (p := ⟨g, 4, none⟩) (Kd.R_far (p := ⟨g, 3, none⟩) (Kd.R_far (p := ⟨g, 2, none⟩) (Kd.R_far (p := ⟨g, 1, none⟩) (Kd.R_far (p := ⟨g, 0, none⟩) h.own (fun _ hk => hk.2) _) (fun _ hk => hk.2) _) (fun _ hk => hk.2) _) (fun _ hk => hk.2) _) (fun _ hk => hk.2) _,
   below_set (below_set (below_set (below_set (below_set h.bl h.hg) h.hg) h.hg) h.hg) h.hg, h.hg⟩
/-! ### what x is -/
theorem drop_len (a0 : ByteArray) (i : Nat) (h : a0.size ≤ i) : a0.data.toList.drop i = [] := List.drop_eq_nil_of_le (show a0.data.toList.length ≤ i from h)
theorem it_esc (a0 : ByteArray) (i : Nat) (h : i + 1 < a0.size) (hc : a0[i] = 92) : item a0 i (at1 a0 i) = ⟨0, (a0[i + 1].toNat : Int), ⟨#[]⟩, false, a0.extract i (i + 2)⟩ := by
  rw [at1_eq a0 i (by omega), hc, dropN a0 (i + 1) h]
  rfl
theorem it_star (a0 : ByteArray) (i : Nat) (h : i < a0.size) (hc : a0[i] = 42) : item a0 i (at1 a0 i) = ⟨1, (a0[i].toNat : Int), ⟨#[]⟩, false, a0.extract i (i + 1)⟩ := by
  rw [at1_eq a0 i h, hc]
  rfl
theorem it_any (a0 : ByteArray) (i : Nat) (h : i < a0.size) (hc : a0[i] = 63) : item a0 i (at1 a0 i) = ⟨2, (a0[i].toNat : Int), ⟨#[]⟩, false, a0.extract i (i + 1)⟩ := by
  rw [at1_eq a0 i h, hc]
  rfl
theorem it_byte (a0 : ByteArray) (i : Nat) (h : i < a0.size) (h92 : ¬ (a0[i] = 92 ∧ i + 1 < a0.size)) (h42 : a0[i] ≠ 42) (h63 : a0[i] ≠ 63) (h91 : a0[i] ≠ 91) : item a0 i (at1 a0 i) = ⟨0, (a0[i].toNat : Int), ⟨#[]⟩, false, a0.extract i (i + 1)⟩ := by
  rw [at1_eq a0 i h]
  by_cases hc : a0[i] = 92
  · rw [hc, drop_len a0 (i + 1) (by have : ¬ i + 1 < a0.size := fun x => h92 ⟨hc, x⟩; omega)]
    rfl
  · unfold part1
    rw [if_neg hc, if_neg h42, if_neg h63, if_neg h91]
    rfl
theorem part91 (r : List UInt8) : part1 91 r = (match cls r with | some (set, neg, n) => (.cls set neg, n) | none => (.byte 91, 0)) := by
  unfold part1
  rw [if_neg (by decide), if_neg (by decide), if_neg (by decide), if_pos (by decide)]
  cases cls r with
  | none => rfl
  | some x => rfl
theorem mk_take (a0 : ByteArray) (j n : Nat) : (⟨((a0.data.toList.drop j).take n).toArray⟩ : ByteArray) = a0.extract j (j + n) := by
  have h : (a0.extract j (j + n)).data.toList = (a0.data.toList.drop j).take n := by
    simp [ByteArray.data_extract, Array.toList_extract, List.extract_eq_take_drop]
  exact (bytes_eq _ _ h).symm
theorem it_not (a0 : ByteArray) (i n : Nat) (h : i + 1 < a0.size) (hc : a0[i] = 91) (h33 : a0[i + 1] = 33) (hn : clos (a0.data.toList.drop (i + 2)) = some n) : item a0 i (at1 a0 i) = ⟨3, 0, a0.extract (i + 2) (i + 2 + n), true, a0.extract i (i + 2 + n + 1)⟩ := by
  rw [at1_eq a0 i (by omega), hc, dropN a0 (i + 1) h, h33, part91, cls_not_some hn]
  unfold item
  simp only [kindP, byteP, setP, notP]
  rw [mk_take, show i + 1 + (n + 2) = i + 2 + n + 1 by omega]
/-- What cls answers where there is no '!' class. -/
theorem cls_plain (a0 : ByteArray) (i : Nat) (h : i < a0.size) (hno : ∀ h1 : i + 1 < a0.size, a0[i + 1] = 33 → clos (a0.data.toList.drop (i + 2)) = none) : cls (a0.data.toList.drop (i + 1)) = plainC (a0.data.toList.drop (i + 1)) := by
  by_cases h1 : i + 1 < a0.size
  · rw [dropN a0 (i + 1) h1]
    by_cases h33 : a0[i + 1] = 33
    · rw [h33]; exact cls_not_none (hno h1 h33)
    · exact cls_else h33
  · rw [drop_len a0 (i + 1) (by omega)]; exact cls_nil
theorem it_cls (a0 : ByteArray) (i n : Nat) (h : i < a0.size) (hc : a0[i] = 91) (hno : ∀ h1 : i + 1 < a0.size, a0[i + 1] = 33 → clos (a0.data.toList.drop (i + 2)) = none) (hn : clos (a0.data.toList.drop (i + 1)) = some n) : item a0 i (at1 a0 i) = ⟨3, 0, a0.extract (i + 1) (i + 1 + n), false, a0.extract i (i + 1 + n + 1)⟩ := by
  rw [at1_eq a0 i h, hc, part91, cls_plain a0 i h hno, plainC_some hn]
  unfold item
  simp only [kindP, byteP, setP, notP]
  rw [mk_take, show i + 1 + (n + 1) = i + 1 + n + 1 by omega]
theorem it_open (a0 : ByteArray) (i : Nat) (h : i < a0.size) (hc : a0[i] = 91) (hno : ∀ h1 : i + 1 < a0.size, a0[i + 1] = 33 → clos (a0.data.toList.drop (i + 2)) = none) (hn : clos (a0.data.toList.drop (i + 1)) = none) : item a0 i (at1 a0 i) = ⟨0, (a0[i].toNat : Int), ⟨#[]⟩, false, a0.extract i (i + 1)⟩ := by
  rw [at1_eq a0 i h, hc, part91, cls_plain a0 i h hno, plainC_none hn]
  rfl
theorem text_size (a0 : ByteArray) (i : Nat) (h : i < a0.size) : (item a0 i (at1 a0 i)).f4.size = 1 + (at1 a0 i).2 := by
  have := at1_le a0 i h
  show (a0.extract i (i + 1 + (at1 a0 i).2)).size = _
  rw [ByteArray.size_extract]
  omega
theorem closing_call (a0 : ByteArray) (hs : a0.size ≤ 60000) (j : Nat) (hj : j ≤ a0.size) (W : World) : Calls Tryd.prog 88 #[.string a0, .int .i64 (j : Int)] W fun e w' => e = .returned (.int .i64 (closI a0 j)) ∧ ∃ m, w' = W.drewN m := by
  obtain ⟨k, hk⟩ := (closing a0 hs j hj).get
  exact (taquinref02_closing.calls k a0 j _ W hk).mono fun e w' ⟨h, m⟩ => let ⟨x, hx⟩ := m; ⟨h, x, hx⟩
set_option maxHeartbeats 16000000 in
set_option maxRecDepth 100000 in
theorem taquinref02_Parts.calls (k : Nat) (a0 : ByteArray) (r : List (S84)) (w : World) (h : taquinref02_Parts.f k a0 = some r) :
    Calls Tryd.prog 67 #[.string a0] w fun e w' => ∃ v0_ : Value, e = .returned (v0_) ∧ Kd.R k84 84 w' w.heap.size (fun _ => True) v0_ r ∧ Below w.heap.size w w' := by
  unfold taquinref02_Parts.f at h
  by_cases hs0 : ¬ a0.size ≤ 60000
  · rw [if_neg hs0] at h; exact absurd h (by simp)
  have hs := Decidable.not_not.1 hs0
  rw [if_pos hs] at h
  have HF := Lib.hid (Option.some.inj h)
  clear hs0 h
  go_enter Tryd.func67, Tryd.ntmps67
  go_wp2_with fail
  go_loopw [3, 4] (fun v3 v4 wr => ∃ (i f : Nat) (out : List S84), i ≤ a0.size ∧ v4 = .int .i64 i ∧ out.length ≤ i ∧ Hid (PI a0 w i f out v3 wr)) (fun _ i _ => a0.size + 2 - (intOf i).toNat)
  case atStart => exact ⟨0, a0.size + 1, [], Nat.zero_le _, rfl, Nat.le_refl _, Lib.hid (PI.start a0 w)⟩
  case round =>
    obtain ⟨i, f, out, hi, rfl, hol, HR⟩ := hrel
    by_cases hlt : i < a0.size
    · have g1 : (i : Int) < (a0.size : Int) := by omega
      have g2 : (0 : Int) ≤ (i : Int) := by omega
      have g3 : (i : Int) ≤ (i : Int) + 1 := by omega
      have g4 : (i : Int) + 1 ≤ (a0.size : Int) := by omega
      have w1 : IntKind.i64.wrap ((i : Int) + 1) = (i : Int) + 1 := IntWalk.i64_in _ (by omega)
      go_upto_region 4 with fail
      go_cut [5] (fun v5 wc => ∃ g, v5 = .pointer (some ⟨g, 0, none⟩) ∧ Hid (XIs w g u3 out ⟨0, (a0[i].toNat : Int), ⟨#[]⟩, false, a0.extract i (i + 1)⟩ wc))
      case first =>
        go_region_held3 (fun _ => True) (exact trivial) (first | fail)
        all_goals go_wp2
        all_goals go_meet
        all_goals exact ⟨_, rfl, Lib.hid ((XIs.new HR.out (Below.refl _ _) ⟨0, (a0[i].toNat : Int), ⟨#[]⟩, false, a0.extract i (i + 1)⟩).step (below_drew1 (Below.refl _ _)))⟩
      case rest =>
        obtain ⟨g, rfl, HX⟩ := hcut
        go_upto_region 5 with fail
        go_cut [30] (fun v30 wd => v30 = .bool (decide (a0[i] = 92 ∧ i + 1 < a0.size)) ∧ wd = wc)
        case first =>
          clear HR HX
          by_cases hc : a0[i] = 92
          · have b92 : ((a0[i].toNat : Int) == 92) = true := by rw [hc]; rfl
            by_cases h1 : i + 1 < a0.size
            · have g5 : (i : Int) + 1 < (a0.size : Int) := by omega
              have hd : decide (a0[i] = 92 ∧ i + 1 < a0.size) = true := decide_eq_true ⟨hc, h1⟩
              have HD := Lib.hid hd
              clear hd hc
              go_wp2
              go_meet
              case rel => exact ⟨by rw [HD.out], by first | rfl | trivial⟩
            · have g5 : decide ((i : Int) + 1 < (a0.size : Int)) = false := decide_eq_false (by omega)
              have hd : decide (a0[i] = 92 ∧ i + 1 < a0.size) = false := decide_eq_false (fun h => h1 h.2)
              have HD := Lib.hid hd
              clear hd hc h1
              go_wp2
              go_meet
              case rel => exact ⟨by rw [HD.out], by first | rfl | trivial⟩
          · have b92 : ((a0[i].toNat : Int) == 92) = false := beq_eq_false_iff_ne.2 (fun e => hc (UInt8.toNat_inj.1 (by show _ = 92; omega)))
            have hd : decide (a0[i] = 92 ∧ i + 1 < a0.size) = false := decide_eq_false (fun h => hc h.1)
            have HD := Lib.hid hd
            clear hd hc
            go_wp2
            go_meet
            case rel => exact ⟨by rw [HD.out], by first | rfl | trivial⟩
        case rest =>
        obtain ⟨rfl, rfl⟩ := hcut
        go_upto_if 30 with fail
        go_cut [6] (fun v6 wd => Hid (XIs w g u3 out (item a0 i (at1 a0 i)) wd))
        case first =>
          clear HR
          have hc0 : wc.cell? ⟨g, 0, none⟩ = some (.int .i64 0) := (blk_cell HX.out.blk 0).trans rfl
          have hc1 : wc.cell? ⟨g, 1, none⟩ = some (.int .u8 (a0[i].toNat : Int)) := (blk_cell HX.out.blk 1).trans rfl
          have hc2 : wc.cell? ⟨g, 2, none⟩ = some (.string (⟨#[]⟩ : ByteArray)) := (blk_cell HX.out.blk 2).trans rfl
          have hc3 : wc.cell? ⟨g, 3, none⟩ = some (.bool false) := (blk_cell HX.out.blk 3).trans rfl
          have hc4 : wc.cell? ⟨g, 4, none⟩ = some (.string (a0.extract i (i + 1))) := (blk_cell HX.out.blk 4).trans rfl
          have hf0 := blk_frozen HX.out.blk 0
          have hf1 := blk_frozen HX.out.blk 1
          have hf2 := blk_frozen HX.out.blk 2
          have hf3 := blk_frozen HX.out.blk 3
          have hf4 := blk_frozen HX.out.blk 4
          by_cases hE : a0[i] = 92 ∧ i + 1 < a0.size
          · rw [decide_eq_true hE]
            obtain ⟨hE1, hE2⟩ := hE
            have hI := it_esc a0 i hE2 hE1
            have HI := Lib.hid hI
            have g5 : (i : Int) + 1 < (a0.size : Int) := by omega
            have g5a : (0 : Int) ≤ (i : Int) + 1 := by omega
            have g6 : (i : Int) ≤ (i : Int) + 2 := by omega
            have g7 : (i : Int) + 2 ≤ (a0.size : Int) := by omega
            have w2 : IntKind.i64.wrap ((i : Int) + 2) = (i : Int) + 2 := IntWalk.i64_in _ (by omega)
            clear hI hE1
            go_wp2
            go_region_held3 (fun _ => True) (exact trivial) (first | fail)
            all_goals go_wp2
            all_goals go_meet
            all_goals (rw [show ((i : Int) + 2).toNat = i + 2 by omega, HI.out]; exact Lib.hid ((HX.out.set ⟨0, (a0[i + 1].toNat : Int), ⟨#[]⟩, false, a0.extract i (i + 2)⟩).step (below_drew1 (Below.refl _ _))))
          · rw [decide_eq_false hE]
            by_cases k42_ : a0[i] = 42
            · have HI := Lib.hid (it_star a0 i hlt k42_)
              have b42 : ((a0[i].toNat : Int) == 42) = true := by rw [k42_]; rfl
              clear k42_ hE
              go_wp2
              go_meet
              case rel => rw [HI.out]; exact Lib.hid (HX.out.set0 1)
            · have b42 : ((a0[i].toNat : Int) == 42) = false := beq_eq_false_iff_ne.2 (fun e => k42_ (UInt8.toNat_inj.1 (by show _ = 42; omega)))
              by_cases k63_ : a0[i] = 63
              · have HI := Lib.hid (it_any a0 i hlt k63_)
                have b63 : ((a0[i].toNat : Int) == 63) = true := by rw [k63_]; rfl
                clear k63_ k42_ hE
                go_wp2
                go_meet
                case rel => rw [HI.out]; exact Lib.hid (HX.out.set0 2)
              · have b63 : ((a0[i].toNat : Int) == 63) = false := beq_eq_false_iff_ne.2 (fun e => k63_ (UInt8.toNat_inj.1 (by show _ = 63; omega)))
                by_cases k91_ : a0[i] = 91
                · have b91 : ((a0[i].toNat : Int) == 91) = true := by rw [k91_]; rfl
                  have w2 : IntKind.i64.wrap ((i : Int) + 2) = (i : Int) + 2 := IntWalk.i64_in _ (by omega)
                  by_cases hb : ∃ h1 : i + 1 < a0.size, a0[i + 1] = 33
                  · obtain ⟨h1, h33⟩ := hb
                    have g5 : (i : Int) + 1 < (a0.size : Int) := by omega
                    have g5a : (0 : Int) ≤ (i : Int) + 1 := by omega
                    have b33 : ((a0[i + 1].toNat : Int) == 33) = true := by rw [h33]; rfl
                    have hcm := closing_call a0 hs (i + 2) (by omega)
                    rw [show ((i + 2 : Nat) : Int) = (i : Int) + 2 by omega] at hcm
                    unfold closI at hcm
                    cases hn2 : clos (a0.data.toList.drop (i + 2)) with
                    | some n =>
                      rw [hn2] at hcm
                      have hnl := clos_lt hn2
                      rw [List.length_drop, show a0.data.toList.length = a0.size from rfl] at hnl
                      have hI := it_not a0 i n h1 k91_ h33 hn2
                      obtain ⟨e, he⟩ : ∃ e, i + 2 + n = e := ⟨_, rfl⟩
                      simp only at hcm
                      rw [he] at hcm hI
                      have HC2 := Lib.hid hcm
                      have HI := Lib.hid hI
                      have q0 : (0 : Int) ≤ (e : Int) := by omega
                      have q1 : (0 : Int) ≤ (i : Int) + 2 := by omega
                      have q2 : (i : Int) + 2 ≤ (e : Int) := by omega
                      have q3 : (e : Int) ≤ (a0.size : Int) := by omega
                      have q4 : (i : Int) ≤ (e : Int) + 1 := by omega
                      have q5 : (e : Int) + 1 ≤ (a0.size : Int) := by omega
                      have q6 : IntKind.i64.wrap ((e : Int) + 1) = (e : Int) + 1 := IntWalk.i64_in _ (by omega)
                      clear hcm hn2 hI hnl k91_ k42_ k63_ hE h33
                      go_wp2_with fail
                      refine (HC2.out _).mono ?_
                      rintro e' w' ⟨rfl, m, rfl⟩
                      go_wp2
                      go_region_held3 (fun _ => True) (exact trivial) (first | fail)
                      all_goals go_wp2
                      all_goals go_meet
                      all_goals ((try rw [show ((i : Int) + 2).toNat = i + 2 by omega]); (try rw [show ((e : Int) + 1).toNat = e + 1 by omega]); rw [HI.out]; exact Lib.hid ((HX.out.drew _).set ⟨3, 0, a0.extract (i + 2) e, true, a0.extract i (e + 1)⟩))
                    | none =>
                      rw [hn2] at hcm
                      have HC2 := Lib.hid hcm
                      have hno : ∀ h1 : i + 1 < a0.size, a0[i + 1] = 33 → clos (a0.data.toList.drop (i + 2)) = none := fun _ _ => hn2
                      clear hcm hn2 h33
                      have hcl := closing_call a0 hs (i + 1) (by omega)
                      rw [show ((i + 1 : Nat) : Int) = (i : Int) + 1 by omega] at hcl
                      unfold closI at hcl
                      cases hn : clos (a0.data.toList.drop (i + 1)) with
                      | none =>
                        rw [hn] at hcl
                        have HC1 := Lib.hid hcl
                        have HI := Lib.hid (it_open a0 i hlt k91_ hno hn)
                        clear hcl hn hno k91_ k42_ k63_ hE
                        go_wp2_with fail
                        refine (HC2.out _).mono ?_
                        rintro e' w' ⟨rfl, m0, rfl⟩
                        go_wp2_with fail
                        refine (HC1.out _).mono ?_
                        rintro e' w' ⟨rfl, m, rfl⟩
                        go_wp2
                        go_meet
                        case rel => rw [HI.out]; exact Lib.hid (HX.out.step (by repeat (first | exact Below.refl _ _ | apply pw_below_drewN | apply below_drew1)))
                      | some n =>
                        rw [hn] at hcl
                        have hnl := clos_lt hn
                        rw [List.length_drop, show a0.data.toList.length = a0.size from rfl] at hnl
                        have hI := it_cls a0 i n hlt k91_ hno hn
                        obtain ⟨e, he⟩ : ∃ e, i + 1 + n = e := ⟨_, rfl⟩
                        simp only at hcl
                        rw [he] at hcl hI
                        have HC1 := Lib.hid hcl
                        have HI := Lib.hid hI
                        have q0 : (0 : Int) ≤ (e : Int) := by omega
                        have q1 : (0 : Int) ≤ (i : Int) + 1 := by omega
                        have q2 : (i : Int) + 1 ≤ (e : Int) := by omega
                        have q3 : (e : Int) ≤ (a0.size : Int) := by omega
                        have q4 : (i : Int) ≤ (e : Int) + 1 := by omega
                        have q5 : (e : Int) + 1 ≤ (a0.size : Int) := by omega
                        have q6 : IntKind.i64.wrap ((e : Int) + 1) = (e : Int) + 1 := IntWalk.i64_in _ (by omega)
                        clear hcl hn hno hI hnl k91_ k42_ k63_ hE
                        go_wp2_with fail
                        refine (HC2.out _).mono ?_
                        rintro e' w' ⟨rfl, m0, rfl⟩
                        go_wp2_with fail
                        refine (HC1.out _).mono ?_
                        rintro e' w' ⟨rfl, m, rfl⟩
                        go_wp2
                        go_region_held3 (fun _ => True) (exact trivial) (first | fail)
                        all_goals go_wp2
                        all_goals go_meet
                        all_goals ((try rw [show ((i : Int) + 1).toNat = i + 1 by omega]); (try rw [show ((e : Int) + 1).toNat = e + 1 by omega]); rw [HI.out]; exact Lib.hid ((HX.out.drew _).set ⟨3, 0, a0.extract (i + 1) e, false, a0.extract i (e + 1)⟩))
                  · have hno : ∀ h1 : i + 1 < a0.size, a0[i + 1] = 33 → clos (a0.data.toList.drop (i + 2)) = none := fun h1 h33 => absurd ⟨h1, h33⟩ hb
                    by_cases h1 : i + 1 < a0.size
                    · have g5 : (i : Int) + 1 < (a0.size : Int) := by omega
                      have g5a : (0 : Int) ≤ (i : Int) + 1 := by omega
                      have b33 : ((a0[i + 1].toNat : Int) == 33) = false := beq_eq_false_iff_ne.2 (fun e => hb ⟨h1, UInt8.toNat_inj.1 (by show _ = 33; omega)⟩)
                      clear hb
                      have hcl := closing_call a0 hs (i + 1) (by omega)
                      rw [show ((i + 1 : Nat) : Int) = (i : Int) + 1 by omega] at hcl
                      unfold closI at hcl
                      cases hn : clos (a0.data.toList.drop (i + 1)) with
                      | none =>
                        rw [hn] at hcl
                        have HC1 := Lib.hid hcl
                        have HI := Lib.hid (it_open a0 i hlt k91_ hno hn)
                        clear hcl hn hno k91_ k42_ k63_ hE
                        go_wp2_with fail
                        refine (HC1.out _).mono ?_
                        rintro e' w' ⟨rfl, m, rfl⟩
                        go_wp2
                        go_meet
                        case rel => rw [HI.out]; exact Lib.hid (HX.out.step (by repeat (first | exact Below.refl _ _ | apply pw_below_drewN | apply below_drew1)))
                      | some n =>
                        rw [hn] at hcl
                        have hnl := clos_lt hn
                        rw [List.length_drop, show a0.data.toList.length = a0.size from rfl] at hnl
                        have hI := it_cls a0 i n hlt k91_ hno hn
                        obtain ⟨e, he⟩ : ∃ e, i + 1 + n = e := ⟨_, rfl⟩
                        simp only at hcl
                        rw [he] at hcl hI
                        have HC1 := Lib.hid hcl
                        have HI := Lib.hid hI
                        have q0 : (0 : Int) ≤ (e : Int) := by omega
                        have q1 : (0 : Int) ≤ (i : Int) + 1 := by omega
                        have q2 : (i : Int) + 1 ≤ (e : Int) := by omega
                        have q3 : (e : Int) ≤ (a0.size : Int) := by omega
                        have q4 : (i : Int) ≤ (e : Int) + 1 := by omega
                        have q5 : (e : Int) + 1 ≤ (a0.size : Int) := by omega
                        have q6 : IntKind.i64.wrap ((e : Int) + 1) = (e : Int) + 1 := IntWalk.i64_in _ (by omega)
                        clear hcl hn hno hI hnl k91_ k42_ k63_ hE
                        go_wp2_with fail
                        refine (HC1.out _).mono ?_
                        rintro e' w' ⟨rfl, m, rfl⟩
                        go_wp2
                        go_region_held3 (fun _ => True) (exact trivial) (first | fail)
                        all_goals go_wp2
                        all_goals go_meet
                        all_goals ((try rw [show ((i : Int) + 1).toNat = i + 1 by omega]); (try rw [show ((e : Int) + 1).toNat = e + 1 by omega]); rw [HI.out]; exact Lib.hid ((HX.out.drew _).set ⟨3, 0, a0.extract (i + 1) e, false, a0.extract i (e + 1)⟩))
                    · have g5 : decide ((i : Int) + 1 < (a0.size : Int)) = false := decide_eq_false (by omega)
                      clear hb
                      have hcl := closing_call a0 hs (i + 1) (by omega)
                      rw [show ((i + 1 : Nat) : Int) = (i : Int) + 1 by omega] at hcl
                      unfold closI at hcl
                      cases hn : clos (a0.data.toList.drop (i + 1)) with
                      | none =>
                        rw [hn] at hcl
                        have HC1 := Lib.hid hcl
                        have HI := Lib.hid (it_open a0 i hlt k91_ hno hn)
                        clear hcl hn hno k91_ k42_ k63_ hE
                        go_wp2_with fail
                        refine (HC1.out _).mono ?_
                        rintro e' w' ⟨rfl, m, rfl⟩
                        go_wp2
                        go_meet
                        case rel => rw [HI.out]; exact Lib.hid (HX.out.step (by repeat (first | exact Below.refl _ _ | apply pw_below_drewN | apply below_drew1)))
                      | some n =>
                        rw [hn] at hcl
                        have hnl := clos_lt hn
                        rw [List.length_drop, show a0.data.toList.length = a0.size from rfl] at hnl
                        have hI := it_cls a0 i n hlt k91_ hno hn
                        obtain ⟨e, he⟩ : ∃ e, i + 1 + n = e := ⟨_, rfl⟩
                        simp only at hcl
                        rw [he] at hcl hI
                        have HC1 := Lib.hid hcl
                        have HI := Lib.hid hI
                        have q0 : (0 : Int) ≤ (e : Int) := by omega
                        have q1 : (0 : Int) ≤ (i : Int) + 1 := by omega
                        have q2 : (i : Int) + 1 ≤ (e : Int) := by omega
                        have q3 : (e : Int) ≤ (a0.size : Int) := by omega
                        have q4 : (i : Int) ≤ (e : Int) + 1 := by omega
                        have q5 : (e : Int) + 1 ≤ (a0.size : Int) := by omega
                        have q6 : IntKind.i64.wrap ((e : Int) + 1) = (e : Int) + 1 := IntWalk.i64_in _ (by omega)
                        clear hcl hn hno hI hnl k91_ k42_ k63_ hE
                        go_wp2_with fail
                        refine (HC1.out _).mono ?_
                        rintro e' w' ⟨rfl, m, rfl⟩
                        go_wp2
                        go_region_held3 (fun _ => True) (exact trivial) (first | fail)
                        all_goals go_wp2
                        all_goals go_meet
                        all_goals ((try rw [show ((i : Int) + 1).toNat = i + 1 by omega]); (try rw [show ((e : Int) + 1).toNat = e + 1 by omega]); rw [HI.out]; exact Lib.hid ((HX.out.drew _).set ⟨3, 0, a0.extract (i + 1) e, false, a0.extract i (e + 1)⟩))
                · have b91 : ((a0[i].toNat : Int) == 91) = false := beq_eq_false_iff_ne.2 (fun e => k91_ (UInt8.toNat_inj.1 (by show _ = 91; omega)))
                  have HI := Lib.hid (it_byte a0 i hlt hE k42_ k63_ k91_)
                  clear k91_ k63_ k42_ hE
                  go_wp2
                  go_meet
                  case rel => rw [HI.out]; exact HX
        case rest =>
        have HY := hcut
        obtain ⟨x, hx⟩ : ∃ x, item a0 i (at1 a0 i) = x := ⟨_, rfl⟩
        have hts := text_size a0 i hlt
        have hle := at1_le a0 i hlt
        rw [hx] at hts
        rw [hx] at HY
        have hstep := fun (v' : Value) (W' : World) ho hb => HR.out.next (v' := v') (W' := W') hlt ho hb
        rw [hx] at hstep
        have HN := Lib.hid hstep
        have n0 : wc.cell? ⟨g, 0, none⟩ = some (.int .i64 x.f0) := (blk_cell HY.out.blk 0).trans rfl
        have n1 : wc.cell? ⟨g, 1, none⟩ = some (.int .u8 x.f1) := (blk_cell HY.out.blk 1).trans rfl
        have n2 : wc.cell? ⟨g, 2, none⟩ = some (.string x.f2) := (blk_cell HY.out.blk 2).trans rfl
        have n3 : wc.cell? ⟨g, 3, none⟩ = some (.bool x.f3) := (blk_cell HY.out.blk 3).trans rfl
        have n4 : wc.cell? ⟨g, 4, none⟩ = some (.string x.f4) := (blk_cell HY.out.blk 4).trans rfl
        have hlt3 : g < wc.heap.size := blk_lt HY.out.blk
        have ws : IntKind.i64.wrap ((i : Int) + (x.f4.size : Int)) = (i : Int) + (x.f4.size : Int) := IntWalk.i64_in _ (by omega)
        clear hstep HR HX
        go_wp2_with ((with_reducible refine gate_builtin (b := .append) (xs := #[.tmp 101, .tmp 103]) rfl ?_); at_builtin; refine Kd.R_append k84 (w0 := w) w.heap.size rfl (.tmp 101) (.tmp 103) 80 84 (.agg #[(.int .i64 0), (.int .u8 0), (.string ⟨#[]⟩), (.bool false), (.string ⟨#[]⟩)]) 56 rfl Tryd.underlying80 info84 rfl (by decide) (by omega) u3 out x [.int .i64 x.f0, .int .u8 x.f1, .string x.f2, .bool x.f3, .string x.f4] (fun k_ => True ∧ k_ ≠ g) (fun _ => False) rfl (by first | (go_simp; done) | (go_simp; rfl)) ?aP (fun _ hk => hk.elim) ?aF ?aO ?aB ?aS ?aL ?_; (case aP => exact k84_mkM _ _ _ x); (case aF => exact fun k_ hk => ⟨trivial, by omega⟩); (case aO => exact HY.out.own); (case aB => exact HY.out.bl); (case aS => exact HY.out.bl.size); (case aL => omega); intro v6 w6 ho hb hg hat; have HB6 := Lib.hid hb; have HO6 := Lib.hid (Kd.R_mono ho (fun _ _ => trivial)); have hbn6 := blk_grown HY.out.blk hg (Kd.R_away HY.out.own (fun _ hk => hk.2)); have m4 : w6.cell? ⟨g, 4, none⟩ = some (.string x.f4) := (blk_cell hbn6 4).trans rfl; clear HY n0 n1 n2 n3 n4 ho hb hg hat hbn6 hlt3)
        obtain ⟨f', hP⟩ := HN.out _ _ HO6.out HB6.out
        rw [show i + 1 + (at1 a0 i).2 = i + x.f4.size by omega] at hP
        have HP := Lib.hid hP
        clear hP HN HO6 HB6
        go_roundw
        case rel => exact ⟨i + x.f4.size, f', out ++ [x], by omega, by go_num, by simp only [List.length_append, List.length_cons, List.length_nil]; omega, HP⟩
        case measure => simp [intOf]; omega
    · obtain rfl : i = a0.size := by omega
      have g1 : decide ((a0.size : Int) < (a0.size : Int)) = false := decide_eq_false (by omega)
      have hX := HR.out.done.symm.trans HF.out
      subst hX
      go_wp2_with fail
      go_ret
      exact ⟨_, rfl, HR.out.own, HR.out.bl⟩
end Go.Proofs.YteifffaonigidaaDoor.M
