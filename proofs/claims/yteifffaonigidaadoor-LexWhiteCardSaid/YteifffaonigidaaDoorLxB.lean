/- The contract of the scanner's methods take, end, feed and wrong. -/
import Derived.Test.YteifffaonigidaaDoorLxA
import Derived.StillTailTactics
import Derived.Deep.RegionLaw
namespace Go.Proofs.YteifffaonigidaaDoor.M
open Go.RowKit Go.Proofs.YteifffaonigidaaDoorW.PrintWords Go.Proofs.YteifffaonigidaaDoorW.PrintLast
set_option linter.unusedVariables false
set_option linter.unusedSimpArgs false
theorem info42' : (Tryd.prog.info? 42).map (fun i => (i.zero, i.size, i.bytes)) = some (some (.agg #[(.int .i64 0), (.string ⟨#[]⟩), (.int .i64 0), (.int .i64 0)]), k42.sz, 40) := info42
theorem Scn.put {base : Nat} {w1 : World} {g : Nat} {src : ByteArray} {at_ line : Int} {v v1 : Value} {out : List S42} (hb : w1.heap[g]? = some (.cells #[.string src, .int .i64 at_, .int .i64 line, v] 71 (0, 0))) (hg : base ≤ g)
    (hr : Kd.R k42 42 w1 base (fun k => k ≠ g) v1 out) (e_ : Int) : Scn base ((w1.setCell ⟨g, 3, none⟩ v1).setCell ⟨g, 1, none⟩ (.int .i64 e_)) g src e_ line out :=
  ⟨v1, by simpa using blk_set (blk_set hb 3 v1) 1 (.int .i64 e_), hg, Kd.R_move hr fun k hk => (Below.heap_setCell _ ⟨g, 1, none⟩ _ k hk).trans (Below.heap_setCell w1 ⟨g, 3, none⟩ _ k hk)⟩
set_option maxHeartbeats 8000000 in
set_option maxRecDepth 100000 in
theorem scanner_take.calls (base g : Nat) (src : ByteArray) (at_ line : Int) (out : List S42) (w : World) (t : S42) (e_ : Int) (hS : Scn base w g src at_ line out) (hn : out.length < 1000000000) (hB : base ≤ w.heap.size) :
    Calls Tryd.prog 105 #[.pointer (some ⟨g, 0, none⟩), .agg #[.int .i64 t.f0, .string t.f1, .int .i64 t.f2, .int .i64 t.f3], .int .i64 e_] w fun e w' => (∃ v, e = .returned v) ∧ Scn base w' g src e_ line (out ++ [⟨t.f0, t.f1, t.f2, line⟩]) ∧ Below base w w' := by
  obtain ⟨v, hb, hg, hr⟩ := hS
  have hc2 : w.cell? ⟨g, 2, none⟩ = some (.int .i64 line) := (blk_cell hb 2).trans rfl
  have hgl := blk_lt hb
  obtain ⟨W2, hW2⟩ : ∃ W2, w.alloc (.cells #[.int .i64 t.f0, .string t.f1, .int .i64 t.f2, .int .i64 line] 42) = W2 := ⟨_, rfl⟩
  have hbl : Below w.heap.size w W2 := hW2 ▸ (Below.refl _ _).alloc (Nat.le_refl _) _
  have hbl0 : Below base w W2 := hW2 ▸ (Below.refl _ _).alloc hB _
  have hb2 : W2.heap[g]? = some (.cells #[.string src, .int .i64 at_, .int .i64 line, v] 71 (0, 0)) := blk_grown hb (grown_of_below hbl none) (by simp)
  have hr2 : Kd.R k42 42 W2 base (fun k => k ≠ g) v out := Kd.R_below hr hbl
  have hbn : W2.heap[w.heap.size]? = some (.cells #[.int .i64 t.f0, .string t.f1, .int .i64 t.f2, .int .i64 line] 42 (0, 0))   := by rw [← hW2]; exact heap_alloc_new w _
  have hl2 : W2.heap.size = w.heap.size + 1 := by rw [← hW2]; exact Array.size_push ..
  have hc3 : W2.cell? ⟨g, 3, none⟩ = some v := (blk_cell hb2 3).trans rfl
  have hf1 := blk_frozen hb2 1
  have hf3 := blk_frozen hb2 3
  have n0 : W2.cell? ⟨w.heap.size, 0, none⟩ = some (.int .i64 t.f0) := (blk_cell hbn 0).trans rfl
  have n1 : W2.cell? ⟨w.heap.size, 1, none⟩ = some (.string t.f1) := (blk_cell hbn 1).trans rfl
  have n2 : W2.cell? ⟨w.heap.size, 2, none⟩ = some (.int .i64 t.f2) := (blk_cell hbn 2).trans rfl
  have n3 : W2.cell? ⟨w.heap.size, 3, none⟩ = some (.int .i64 line) := (blk_cell hbn 3).trans rfl
  have HR := Lib.hid hr2
  have HBK := Lib.hid hb2
  clear hr hb hr2 hb2 hbn
  go_enter Tryd.func105, Tryd.ntmps105
  go_wp2
  try rw [hW2]
  clear hW2
  have hgv : some g ≠ v.ownBlock := fun h => HR.out.1 g h.symm rfl
  go_region_law (refine Kd.R_append_step k42 (w0 := w) base (by first | assumption | rfl) (.tmp 16) (.tmp 18) 37 42 (.agg #[(.int .i64 0), (.string ⟨#[]⟩), (.int .i64 0), (.int .i64 0)]) 40 rfl Tryd.underlying37 info42' rfl (by decide) (by decide) v out ⟨t.f0, t.f1, t.f2, line⟩ [.int .i64 t.f0, .string t.f1, .int .i64 t.f2, .int .i64 line] (fun k => k ≠ g) (fun _ => False) (by simp [Act.eval, Act.put]) (by simp [Act.eval, Act.put]) (k42_mkM _ _ _ ⟨t.f0, t.f1, t.f2, line⟩) (fun _ hk => hk.elim) (fun k hk => by have h1 := hbl.size; have h2 : W2.heap.size ≤ k := hk; omega) (Kd.R_drew HR.out) (pw_below_drewN hbl0 1) (by have h1 := hbl.size; exact Nat.le_trans hB h1) (by omega) ?_; intro v1 w1 hR1 hB1 hG1 hA1; obtain ⟨A1, c1, e1, _, _⟩ := hR1.2.reads; subst e1; have hb1 := blk_grown (show W2.drew.heap[g]? = _ from HBK.out) hG1 hgv; have q5 : w1.cell? ⟨g, 1, none⟩ = some (.int .i64 at_) := (blk_cell hb1 1).trans rfl; have q6 : w1.cell? ⟨g, 3, none⟩ = some v := (blk_cell hb1 3).trans rfl; have q1 := blk_frozen hb1 1; have q3 := blk_frozen hb1 3; have HB1 := Lib.hid hb1; have HR1 := Lib.hid hR1; have HO1 := Lib.hid hA1; have HW1 := Lib.hid hB1; clear hb1 hR1 hB1 hG1 hA1)
  all_goals clear hc2 hc3 hf1 hf3 n0 n1 n2 n3 q1 q3 q5 q6 HO1
  all_goals go_end0
  all_goals rw [List.length_append] at HR1
  all_goals exact ⟨⟨_, rfl⟩, Scn.put HB1.out hg HR1.out e_, below_setB (below_setB HW1.out hg _) hg _⟩
theorem scanner_end.calls (base g : Nat) (src : ByteArray) (at_ line : Int) (out : List S42) (w : World) (hS : Scn base w g src at_ line out) (hn : out.length < 1000000000) (hB : base ≤ w.heap.size) :
    Calls Tryd.prog 78 #[.pointer (some ⟨g, 0, none⟩)] w fun e w' => e = .returned (.int .i64 0) ∧ Scn base w' g src at_ line (out ++ [⟨4, ⟨#[]⟩, 0, line⟩]) ∧ Below base w w' := by
  have HT := Lib.hid (scanner_take.calls base g src at_ line out w ⟨4, ⟨#[]⟩, 0, 0⟩ at_ hS hn hB)
  obtain ⟨v, hb, hg, hr⟩ := hS
  have hc1 : w.cell? ⟨g, 1, none⟩ = some (.int .i64 at_) := (blk_cell hb 1).trans rfl
  clear hr hb
  go_enter Tryd.func78, Tryd.ntmps78
  go_wp2_with fail
  refine HT.out.mono ?_
  rintro e w1 ⟨⟨v, rfl⟩, hS1, hB1⟩
  have HS1 := Lib.hid hS1
  have HB1 := Lib.hid hB1
  clear hS1 hB1 HT
  go_wp2_with fail
  go_ret
  exact ⟨rfl, HS1.out, HB1.out⟩
theorem scanner_feed.calls (base g : Nat) (src : ByteArray) (at_ line : Int) (out : List S42) (w : World) (hS : Scn base w g src at_ line out) (hn : out.length < 1000000000) (hB : base ≤ w.heap.size) (ha : 0 ≤ at_ ∧ at_ < 1000000000) (hl : 0 ≤ line ∧ line < 1000000000) :
    Calls Tryd.prog 82 #[.pointer (some ⟨g, 0, none⟩)] w fun e w' => e = .returned (.int .i64 0) ∧ Scn base w' g src (at_ + 1) (line + 1) (out ++ [⟨3, ⟨#[]⟩, 0, line⟩]) ∧ Below base w w' := by
  have HT := Lib.hid (scanner_take.calls base g src at_ line out w ⟨3, ⟨#[]⟩, 0, 0⟩ (at_ + 1) hS hn hB)
  obtain ⟨v, hb, hg, hr⟩ := hS
  have hc1 : w.cell? ⟨g, 1, none⟩ = some (.int .i64 at_) := (blk_cell hb 1).trans rfl
  have e1 : IntKind.i64.wrap (at_ + 1) = at_ + 1 := IntWalk.i64_in _ (by omega)
  have e2 : IntKind.i64.wrap (line + 1) = line + 1 := IntWalk.i64_in _ (by omega)
  clear hr hb ha hl
  go_enter Tryd.func82, Tryd.ntmps82
  go_wp2_with fail
  refine HT.out.mono ?_
  rintro e w1 ⟨⟨v, rfl⟩, hS1, hB1⟩
  have HS1 := Lib.hid hS1
  have HB1 := Lib.hid hB1
  obtain ⟨v1, hb1, hg1, hr1⟩ := hS1
  have hc2 : w1.cell? ⟨g, 2, none⟩ = some (.int .i64 line) := (blk_cell hb1 2).trans rfl
  have hf2 := blk_frozen hb1 2
  clear hr1 hb1 hB1 HT hc1
  go_wp2_with fail
  go_ret
  exact ⟨rfl, HS1.out.set_line _, below_setB HB1.out hg _⟩
theorem scanner_wrong.calls (g : Nat) (w : World) :
    Calls Tryd.prog 83 #[.pointer (some ⟨g, 0, none⟩)] w fun e w' => e = .returned (.int .i64 11) ∧ w' = w := by
  go_enter Tryd.func83, Tryd.ntmps83
  go_wp2
  go_ret
  exact ⟨rfl, rfl⟩
end Go.Proofs.YteifffaonigidaaDoor.M
