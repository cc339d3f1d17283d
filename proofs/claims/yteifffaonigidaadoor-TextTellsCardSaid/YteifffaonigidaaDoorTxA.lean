/- What the listed package-level variables hold ('LaidP'), and the contracts of text.Decimal and text.Int, for every argument, in every world in which they hold that. No condition. -/
import Derived.Test.YteifffaonigidaaDoorMx0
import Derived.Test.YteifffaonigidaaDoorShelf
import Derived.WalkSmall
import Derived.WalkLawsBesides
import Derived.WideLaws
namespace Go.Proofs.YteifffaonigidaaDoor.M
open Go.RowKit Go.Proofs.YteifffaonigidaaDoorW.PrintWords Go.Proofs.YteifffaonigidaaDoorW.PrintLast
set_option linter.unusedVariables false
set_option linter.unusedSimpArgs false

/-- What is asked of the library's variables. -/
structure LaidP (w : World) : Prop where
  pow : Lib.TabIs Tryd.prog w "internal/strconv.uint64pow10" .u64 Lib.pow10Tab
  syn : ∃ tp p, w.cell? ⟨1, 0, none⟩ = some (.iface tp p)
  rng : ∃ tp p, w.cell? ⟨2, 0, none⟩ = some (.iface tp p)
  mx : ∃ m, w.cell? ⟨0, 0, none⟩ = some (.int .i64 m)
theorem globalPow : Tryd.prog.globalNamed "internal/strconv.uint64pow10" = some 3 := by kernel_rfl
theorem tabs_below {n : String} {g : Nat} {k : IntKind} {zs : List Int} {w w' : World} (hg : Tryd.prog.globalNamed n = some g) (h : Lib.TabIs Tryd.prog w n k zs) (hb : Below w.heap.size w w') : Lib.TabIs Tryd.prog w' n k zs := by
  unfold Lib.TabIs World.var? at h ⊢
  rw [hg] at h ⊢
  simp only [Option.bind_some] at h ⊢
  have hlt : g < w.heap.size := by
    rcases Nat.lt_or_ge g w.heap.size with h' | h'
    · exact h'
    · rw [Array.getElem?_eq_none h'] at h
      simp at h
  rw [hb.block g hlt]
  exact h
theorem LaidP.below {w w' : World} (h : LaidP w) (hb : Below w.heap.size w w') : LaidP w' :=
  ⟨tabs_below globalPow h.pow hb, (let ⟨t, p, hc⟩ := h.syn; ⟨t, p, pw_cell_below hb hc⟩), (let ⟨t, p, hc⟩ := h.rng; ⟨t, p, pw_cell_below hb hc⟩), (let ⟨m, hc⟩ := h.mx; ⟨m, pw_cell_below hb hc⟩)⟩

theorem below_growD (w : World) (k : Nat) (os : Array Obj) : Below w.heap.size w (Go.Sort.grow (w.drewN k) os) :=
  ⟨rfl, rfl, rfl, by show w.heap.size ≤ (w.heap ++ os).size; rw [Array.size_append]; omega, fun i hi => by
    show (w.heap ++ os)[i]? = w.heap[i]?
    rw [Array.getElem?_append_left hi]⟩

/-! ### Decimal -/
def text_Decimal.f (a0 : Int) : Option (ByteArray) := if -9223372036854775808 ≤ a0 ∧ a0 ≤ 9223372036854775807 then some ⟨(Lib.itoa a0).toArray⟩ else none
theorem text_Decimal.calls (a0 : Int) (r : ByteArray) (w : World) (h : text_Decimal.f a0 = some r) (hLd : LaidP w) :
    Calls Tryd.prog 21 #[.int .i64 a0] w fun e w' => e = .returned (.string r) ∧ Below w.heap.size w w' := by
  unfold text_Decimal.f at h
  by_cases hc : -9223372036854775808 ≤ a0 ∧ a0 ≤ 9223372036854775807
  · rw [if_pos hc] at h
    obtain rfl := Option.some.inj h
    clear h
    have ht := hLd.pow
    clear hLd
    obtain ⟨h0, h1⟩ := hc
    have hC := Tryd.strconv_Itoa a0 h0 h1 w ht
    clear ht
    go_enter Tryd.func21, Tryd.ntmps21
    go_wp2_with (go_at_call 56; refine hC.mono ?_; rintro e w' ⟨rfl, k, os, rfl⟩)
    go_ret
    exact ⟨rfl, below_growD w k os⟩
  · rw [if_neg hc] at h
    exact absurd h (by simp)

theorem bytes_toList (a : ByteArray) : a.toList = a.data.toList := by
  exact ByteArray.toList_eq a
/-! ### Int -/
theorem parseInt_range (l : List UInt8) (v : Int) (h : Lib.parseIntB 64 l = .ok v) : -9223372036854775808 ≤ v ∧ v ≤ 9223372036854775807 := by
  unfold Lib.parseIntB at h
  cases l with
  | nil => simp at h
  | cons c r =>
    simp only at h
    split at h
    · simp at h
    · simp at h
    · rename_i u _
      split at h
      · simp at h
      · split at h
        · simp at h
        · rename_i h1 h2
          simp only [Lib.NumEnd.ok.injEq] at h
          simp only [Nat.reduceSub, Nat.reducePow] at h1 h2
          split at h
          · rename_i hn
            have : ¬ 9223372036854775808 < u := fun hh => h2 ⟨hn, hh⟩
            omega
          · rename_i hn
            have : ¬ 9223372036854775808 ≤ u := fun hh => h1 ⟨hn, hh⟩
            omega

/-- What text.Int answers. -/
def intOfText (l : List UInt8) : Int × Bool :=
  match Lib.parseIntB 64 l with
  | .ok v => if Lib.itoa v = l then (v, true) else (0, false)
  | _ => (0, false)
def text_Int.f (a0 : ByteArray) : Option (Int × Bool) := if a0.size ≤ 281474976710656 then some (intOfText a0.data.toList) else none

theorem below_bytesWorld (w : World) (e : TypeId) (s : ByteArray) : Below w.heap.size w (Lib.bytesWorld w e s) := by
  unfold Lib.bytesWorld
  have h := (Below.refl w.heap.size w).drew.alloc (Nat.le_refl _) (.cells (Lib.bytesCells w e s) e)
  refine ⟨h.os, h.tape, h.output, Nat.le_trans h.size (by simp [World.freeze]), fun i hi => ?_⟩
  rw [← h.block i hi]
  show ((w.drew.alloc (.cells (Lib.bytesCells w e s) e)).heap.modify w.heap.size _)[i]? = _
  rw [Array.getElem?_modify, if_neg (by omega)]

set_option maxHeartbeats 1000000 in
theorem int_ok (a0 : ByteArray) (v : Int) (w : World) (hs : a0.size ≤ 281474976710656) (hp : Lib.parseIntB 64 a0.data.toList = .ok v) (hLd : LaidP w) :
    Calls Tryd.prog 20 #[.string a0] w fun e w' => e = .returned (if Lib.itoa v = a0.data.toList then .tuple #[.int .i64 v, .bool true] else .tuple #[.int .i64 0, .bool false]) ∧ Below w.heap.size w w' := by
  have hr := parseInt_range _ _ hp
  have hC : Calls Tryd.prog 54 #[.string a0, .int .i64 10, .int .i64 64] w fun e w' => e = .returned (.tuple #[.int .i64 v, .nilIface]) ∧ Below w.heap.size w w' :=
    (Tryd.strconv_ParseInt_10_at64_ok a0 (by omega) v hp w).mono fun e w' ⟨he, hw⟩ => ⟨he, by
      rcases hw with rfl | ⟨t, rfl⟩
      · exact Below.refl _ _
      · exact below_bytesWorld _ _ _⟩
  have hD : ∀ w1, Below w.heap.size w w1 → Calls Tryd.prog 55 #[.int .i64 v, .int .i64 10] w1 fun e w' => e = .returned (.string ⟨(Lib.itoa v).toArray⟩) ∧ Below w.heap.size w w' := fun w1 hb =>
    (Tryd.strconv_FormatInt_10 v hr.1 hr.2 w1 (hLd.below hb).pow).mono fun e w' ⟨he, k, os, hw⟩ => ⟨he, hb.trans ((hw ▸ below_growD w1 k os).mono hb.size)⟩
  clear hp hs hLd
  obtain ⟨h0, h1⟩ := hr
  by_cases hi : Lib.itoa v = a0.data.toList
  · rw [if_pos hi]
    have hq : (!(Lib.itoa v == a0.toList)) = false := by rw [bytes_toList, hi]; simp
    have H := Lib.hid hq
    clear hq hi
    go_enter Tryd.func20, Tryd.ntmps20
    go_wp2_with (go_at_call 54; refine hC.mono ?_; rintro e w1 ⟨rfl, hb⟩; have HD := Lib.hid (hD w1 hb); clear hb) 
    clear hD
    refine HD.out.mono ?_
    rintro e w2 ⟨rfl, hb⟩
    have h2 := H.out
    clear HD H
    go_wp2
    go_ret2
    exact ⟨rfl, hb⟩
  · rw [if_neg hi]
    have hq : (!(Lib.itoa v == a0.toList)) = true := by rw [bytes_toList]; simpa using hi
    have H := Lib.hid hq
    clear hq hi
    go_enter Tryd.func20, Tryd.ntmps20
    go_wp2_with (go_at_call 54; refine hC.mono ?_; rintro e w1 ⟨rfl, hb⟩; have HD := Lib.hid (hD w1 hb); clear hb) 
    clear hD
    refine HD.out.mono ?_
    rintro e w2 ⟨rfl, hb⟩
    have h2 := H.out
    clear HD H
    go_wp2
    go_ret2
    exact ⟨rfl, hb⟩

/-- Where ParseInt hands back an error. -/
theorem int_no (a0 : ByteArray) (w : World) (n : Int) (u : TypeId)
    (hC : Calls Tryd.prog 54 #[.string a0, .int .i64 10, .int .i64 64] w fun e w' => ∃ x, e = .returned (.tuple #[.int .i64 n, .iface u x]) ∧ Below w.heap.size w w') :
    Calls Tryd.prog 20 #[.string a0] w fun e w' => e = .returned (.tuple #[.int .i64 0, .bool false]) ∧ Below w.heap.size w w' := by
  go_enter Tryd.func20, Tryd.ntmps20
  go_wp2_with (go_at_call 54; refine hC.mono ?_; rintro e w1 ⟨x, rfl, hb⟩)
  go_ret2
  exact ⟨rfl, hb⟩

theorem text_Int.calls (a0 : ByteArray) (r1 : Int) (r2 : Bool) (w : World) (h : text_Int.f a0 = some (r1, r2)) (hLd : LaidP w) :
    Calls Tryd.prog 20 #[.string a0] w fun e w' => e = .returned (.tuple #[.int .i64 r1, .bool r2]) ∧ Below w.heap.size w w' := by
  unfold text_Int.f at h
  by_cases hs : a0.size ≤ 281474976710656
  · rw [if_pos hs] at h
    have h := Option.some.inj h
    unfold intOfText at h
    by_cases h1 : ∃ v, Lib.parseIntB 64 a0.data.toList = .ok v
    · obtain ⟨v, hp⟩ := h1
      rw [hp] at h
      simp only at h
      refine (int_ok a0 v w hs hp hLd).mono fun e w' ⟨he, hb⟩ => ⟨?_, hb⟩
      rw [he]
      by_cases hi : Lib.itoa v = a0.data.toList
      · rw [if_pos hi] at h ⊢
        obtain ⟨rfl, rfl⟩ := Prod.mk.inj h
        rfl
      · rw [if_neg hi] at h ⊢
        obtain ⟨rfl, rfl⟩ := Prod.mk.inj h
        rfl
    · have hno : ∀ v, Lib.parseIntB 64 a0.data.toList ≠ .ok v := fun v hv => h1 ⟨v, hv⟩
      have hz : (0, false) = (r1, r2) := by
        split at h
        · rename_i v hv
          exact absurd hv (hno v)
        · exact h
      obtain ⟨rfl, rfl⟩ := Prod.mk.inj hz
      by_cases hp : Lib.parseIntB 64 a0.data.toList = .range
      · obtain ⟨tp, p, hc⟩ := hLd.rng
        exact int_no a0 w _ 104 ((Tryd.strconv_ParseInt_10_at64_range a0 hs hp _ w hc (.inr ⟨tp, p, rfl⟩)).mono fun e w' ⟨N, he, _, _, hb⟩ => ⟨_, he, hb⟩)
      · obtain ⟨tp, p, hc⟩ := hLd.syn
        exact int_no a0 w 0 104 ((Tryd.strconv_ParseInt_10_at64_syntax a0 hs hno hp _ w hc (.inr ⟨tp, p, rfl⟩)).mono fun e w' ⟨N, he, _, _, hb⟩ => ⟨_, he, hb⟩)
  · rw [if_neg hs] at h
    exact absurd h (by simp)
end Go.Proofs.YteifffaonigidaaDoor.M
