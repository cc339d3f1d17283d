/- Patterns over lists of bytes: what a part is, what a list of parts matches, and how the greedy reading with one star to come back to decides it. -/
namespace Go.Proofs.YteifffaonigidaaDoor.PatPlain

inductive Part where
  | byte (b : UInt8)
  | star
  | any
  | cls (set : List UInt8) (neg : Bool)
deriving DecidableEq, Repr

/-- Has a set a byte? -/
def inSet : List UInt8 → UInt8 → Bool
  | a :: m :: b :: rest, c => if m = 45 then ((a ≤ c && c ≤ b) || inSet rest c) else (a == c || inSet (m :: b :: rest) c)
  | a :: rest, c => a == c || inSet rest c
  | [], _ => false

def fits : Part → UInt8 → Bool
  | .byte b, c => b == c
  | .star, _ => false
  | .any, _ => true
  | .cls set neg, c => inSet set c != neg

/-- Parts match a string. -/
def M : List Part → List UInt8 → Bool
  | [], s => s.isEmpty
  | .star :: ps, [] => M ps []
  | .star :: ps, c :: s => M ps (c :: s) || M (.star :: ps) s
  | _ :: _, [] => false
  | x :: ps, c :: s => fits x c && M ps s

theorem M_nil (s : List UInt8) : M [] s = s.isEmpty := by simp [M]
theorem M_star_nil (ps : List Part) : M (.star :: ps) [] = M ps [] := by simp [M]
theorem M_star_cons (ps : List Part) (c : UInt8) (s : List UInt8) : M (.star :: ps) (c :: s) = (M ps (c :: s) || M (.star :: ps) s) := by rw [M]
theorem M_one_nil (x : Part) (ps : List Part) (h : x ≠ .star) : M (x :: ps) [] = false := by cases x <;> simp_all [M]
theorem M_one_cons (x : Part) (ps : List Part) (c : UInt8) (s : List UInt8) (h : x ≠ .star) : M (x :: ps) (c :: s) = (fits x c && M ps s) := by cases x <;> simp_all [M]

theorem M_star_iff (ps : List Part) : ∀ s : List UInt8, M (.star :: ps) s = true ↔ ∃ n, n ≤ s.length ∧ M ps (s.drop n) = true
  | [] => by
    rw [M_star_nil]
    constructor
    · intro h; exact ⟨0, by simp, by simpa using h⟩
    · rintro ⟨n, _, h⟩; simpa using h
  | c :: s => by
    rw [M_star_cons, Bool.or_eq_true, M_star_iff ps s]
    constructor
    · rintro (h | ⟨n, hn, h⟩)
      · exact ⟨0, by simp, by simpa using h⟩
      · exact ⟨n + 1, by simp; omega, by simpa using h⟩
    · rintro ⟨n, hn, h⟩
      cases n with
      | zero => exact .inl (by simpa using h)
      | succ n => exact .inr ⟨n, by simp at hn; omega, by simpa using h⟩

/-- What a star matches behind some bytes it matches ahead of them. -/
theorem M_star_drop (ps : List Part) (s : List UInt8) (n : Nat) (h : M (.star :: ps) (s.drop n) = true) : M (.star :: ps) s = true := by
  rw [M_star_iff] at h ⊢
  obtain ⟨m, hm, h⟩ := h
  rw [List.drop_drop] at h
  rw [List.length_drop] at hm
  by_cases hn : n ≤ s.length
  · exact ⟨n + m, by omega, h⟩
  · refine ⟨s.length, Nat.le_refl _, ?_⟩
    rw [List.drop_eq_nil_of_le (by omega)] at h
    rw [List.drop_eq_nil_of_le (by omega)]
    exact h

/-- Parts without stars take one byte each. -/
theorem M_seg (ps : List Part) : ∀ (seg : List Part) (s : List UInt8), (∀ x ∈ seg, x ≠ .star) → M (seg ++ ps) s = true → seg.length ≤ s.length ∧ M ps (s.drop seg.length) = true
  | [], s, _, h => by simpa using h
  | x :: seg, [], hs, h => by
    rw [List.cons_append, M_one_nil _ _ (hs x (by simp))] at h
    exact absurd h (by simp)
  | x :: seg, c :: s, hs, h => by
    rw [List.cons_append, M_one_cons _ _ _ _ (hs x (by simp)), Bool.and_eq_true] at h
    obtain ⟨a, b⟩ := M_seg ps seg s (fun y hy => hs y (by simp [hy])) h.2
    exact ⟨by simp; omega, by simpa using b⟩

/-- What is left to be tried behind the last star: later places. -/
def later (q : List Part) (t : List UInt8) : Bool :=
  match t with
  | [] => false
  | _ :: t => M (.star :: q) t

theorem M_later (q : List Part) (t : List UInt8) : M (.star :: q) t = (M q t || later q t) := by
  cases t with
  | nil => simp [later, M_star_nil]
  | cons c t => rw [M_star_cons]; rfl

theorem later_iff (q : List Part) (t : List UInt8) : later q t = true ↔ ∃ n, 1 ≤ n ∧ n ≤ t.length ∧ M q (t.drop n) = true := by
  cases t with
  | nil => simp [later]; intro n h1 h2; omega
  | cons c t =>
    simp only [later]
    rw [M_star_iff]
    constructor
    · rintro ⟨n, hn, h⟩; exact ⟨n + 1, by omega, by simp; omega, by simpa using h⟩
    · rintro ⟨n, h1, hn, h⟩
      obtain ⟨m, rfl⟩ : ∃ m, n = m + 1 := ⟨n - 1, by omega⟩
      exact ⟨m, by simp at hn; omega, by simpa using h⟩

/-- At a further star the places that an earlier one has left are not needed. -/
theorem star_enough (seg ps : List Part) (t : List UInt8) (hs : ∀ x ∈ seg, x ≠ .star) (h : later (seg ++ .star :: ps) t = true) :
    M (.star :: ps) (t.drop seg.length) = true := by
  rw [later_iff] at h
  obtain ⟨n, h1, hn, h⟩ := h
  obtain ⟨hl, h⟩ := M_seg _ seg _ hs h
  rw [List.drop_drop, Nat.add_comm, ← List.drop_drop] at h
  exact M_star_drop _ _ _ h

/-- The place (at least 1) of the first ] behind the first byte. -/
def clos (r : List UInt8) : Option Nat :=
  match r with
  | [] => none
  | _ :: r => (r.findIdx? (· == 93)).map (· + 1)

/-- A class that begins with '[' and goes on with r: its set, whether it is a 'not', how many bytes of r it takes. -/
def cls (r : List UInt8) : Option (List UInt8 × Bool × Nat) :=
  let plain := (clos r).map fun n => (r.take n, false, n + 1)
  match r with
  | 33 :: r' => match clos r' with
    | some n => some (r'.take n, true, n + 2)
    | none => plain
  | _ => plain

/-- The part that begins with c and goes on with r, and how many bytes of r it takes. -/
def part1 (c : UInt8) (r : List UInt8) : Part × Nat :=
  if c = 92 then match r with
    | b :: _ => (.byte b, 1)
    | [] => (.byte 92, 0)
  else if c = 42 then (.star, 0)
  else if c = 63 then (.any, 0)
  else if c = 91 then match cls r with
    | some (set, neg, n) => (.cls set neg, n)
    | none => (.byte 91, 0)
  else (.byte c, 0)

def parts : List UInt8 → List Part
  | [] => []
  | c :: r => (part1 c r).1 :: parts (r.drop (part1 c r).2)
termination_by l => l.length
decreasing_by simp; omega

theorem parts_nil : parts [] = [] := by rw [parts]
theorem parts_cons (c : UInt8) (r : List UInt8) : parts (c :: r) = (part1 c r).1 :: parts (r.drop (part1 c r).2) := by rw [parts]

theorem findIdx?_snoc (l : List UInt8) (x : UInt8) (h : (x == 93) = false) : (l ++ [x]).findIdx? (· == 93) = l.findIdx? (· == 93) := by
  rw [List.findIdx?_append]
  cases hl : l.findIdx? (· == 93) with
  | none => simp [List.findIdx?_cons, h]
  | some n => simp

theorem clos_lt {r : List UInt8} {n : Nat} (h : clos r = some n) : 1 ≤ n ∧ n < r.length := by
  cases r with
  | nil => simp [clos] at h
  | cons c r =>
    simp only [clos, Option.map_eq_some_iff] at h
    obtain ⟨m, hm, rfl⟩ := h
    have := (List.findIdx?_eq_some_iff_getElem.1 hm).1
    simp
    omega

theorem clos_snoc (r : List UInt8) : clos (r ++ [42]) = clos r := by
  cases r with
  | nil => simp [clos]
  | cons c r => simp only [clos, List.cons_append]; rw [findIdx?_snoc _ _ (by decide)]

theorem take_snoc {r : List UInt8} {n : Nat} (x : UInt8) (h : n < r.length) : (r ++ [x]).take n = r.take n := by
  rw [List.take_append_of_le_length (by omega)]

theorem plain_snoc (r : List UInt8) : ((clos (r ++ [42])).map fun n => ((r ++ [42]).take n, false, n + 1)) = (clos r).map fun n => (r.take n, false, n + 1) := by
  rw [clos_snoc]
  cases h : clos r with
  | none => rfl
  | some n => simp only [Option.map_some]; rw [take_snoc _ (clos_lt h).2]

theorem cls_snoc (r : List UInt8) : cls (r ++ [42]) = cls r := by
  unfold cls
  simp only [plain_snoc]
  cases r with
  | nil => simp [clos]
  | cons c r =>
    by_cases hc : c = 33
    · subst hc
      simp only [List.cons_append]
      rw [clos_snoc]
      cases h : clos r with
      | none => rfl
      | some n => simp only; rw [take_snoc _ (clos_lt h).2]
    · simp only [List.cons_append]
      split
      · rename_i h; simp at h; exact absurd h.1 hc
      · split
        · rename_i h; simp at h; exact absurd h.1 hc
        · rfl

theorem cls_le {r set : List UInt8} {neg : Bool} {n : Nat} (h : cls r = some (set, neg, n)) : n ≤ r.length := by
  have plain : ((clos r).map fun n => (r.take n, false, n + 1)) = some (set, neg, n) → n ≤ r.length := by
    intro h
    simp only [Option.map_eq_some_iff, Prod.mk.injEq] at h
    obtain ⟨m, hm, _, _, rfl⟩ := h
    have := (clos_lt hm).2
    omega
  unfold cls at h
  split at h
  · rename_i r'
    split at h
    · rename_i m hm
      simp only [Option.some.injEq, Prod.mk.injEq] at h
      have := (clos_lt hm).2
      simp
      omega
    · exact plain h
  · exact plain h

theorem part1_le (c : UInt8) (r : List UInt8) : (part1 c r).2 ≤ r.length := by
  unfold part1
  split
  · cases r <;> simp
  · split
    · simp
    · split
      · simp
      · split
        · split
          · rename_i h; exact cls_le h
          · simp
        · simp

theorem part1_snoc (c : UInt8) (r : List UInt8) (h : ¬ (c = 92 ∧ r = [])) : part1 c (r ++ [42]) = part1 c r := by
  unfold part1
  by_cases hc : c = 92
  · simp only [hc, if_true]
    cases r with
    | nil => exact absurd ⟨hc, rfl⟩ h
    | cons b r => rfl
  · simp only [if_neg hc]
    rw [cls_snoc]

/-- A star behind a pattern that does not end with a backslash is a part of its own. -/
theorem parts_snoc : ∀ (n : Nat) (p : List UInt8), p.length ≤ n → p.getLast? ≠ some 92 → parts (p ++ [42]) = parts p ++ [.star]
  | _, [], _, _ => by rw [List.nil_append, parts_cons, parts_nil]; simp [part1, parts_nil]
  | 0, c :: r, h, _ => by simp at h
  | n + 1, c :: r, hn, h => by
    have hnot : ¬ (c = 92 ∧ r = []) := by
      rintro ⟨rfl, rfl⟩
      simp at h
    rw [List.cons_append, parts_cons, parts_cons, part1_snoc c r hnot, List.cons_append]
    congr 1
    have hle := part1_le c r
    rw [List.drop_append_of_le_length hle]
    refine parts_snoc n _ (by simp at hn ⊢; omega) ?_
    intro hl
    by_cases he : (part1 c r).2 < r.length
    · rw [List.getLast?_drop, if_neg (by omega)] at hl
      cases r with
      | nil => simp at he
      | cons b r => rw [List.getLast?_cons_cons] at h; exact h hl
    · rw [List.drop_eq_nil_of_le (by omega)] at hl
      simp at hl

/-- A string with a backslash ahead of each special byte. -/
def esc : List UInt8 → List UInt8
  | [] => []
  | c :: s => if c = 42 ∨ c = 63 ∨ c = 91 ∨ c = 92 then 92 :: c :: esc s else c :: esc s

theorem parts_esc (p : List UInt8) : ∀ t : List UInt8, parts (esc t ++ p) = t.map .byte ++ parts p
  | [] => by simp [esc]
  | c :: t => by
    by_cases h : c = 42 ∨ c = 63 ∨ c = 91 ∨ c = 92
    · simp only [esc, if_pos h, List.cons_append]
      rw [parts_cons]
      simp only [part1, if_true, List.drop_one, List.tail_cons, List.map_cons, List.cons_append]
      rw [parts_esc p t]
    · simp only [esc, if_neg h, List.cons_append]
      simp only [not_or] at h
      rw [parts_cons]
      simp only [part1, if_neg h.1, if_neg h.2.1, if_neg h.2.2.1, if_neg h.2.2.2, List.drop_zero, List.map_cons, List.cons_append]
      rw [parts_esc p t]

theorem M_bytes (ps : List Part) : ∀ (t s : List UInt8), M (t.map .byte ++ ps) (t ++ s) = M ps s
  | [], s => rfl
  | c :: t, s => by
    simp only [List.map_cons, List.cons_append]
    rw [M_one_cons _ _ _ _ (by simp)]
    simp [fits, M_bytes ps t s]

theorem M_bytes_iff : ∀ (t s : List UInt8), M (t.map .byte) s = decide (s = t)
  | [], s => by cases s <;> simp [M]
  | c :: t, [] => by simp [M]
  | c :: t, d :: s => by
    simp only [List.map_cons]
    rw [M_one_cons _ _ _ _ (by simp), M_bytes_iff t s]
    simp only [fits]
    rw [Bool.eq_iff_iff]
    simp
    intro _
    exact eq_comm

/-- A star behind: a beginning is enough. -/
theorem M_snoc_star (ps : List Part) : ∀ s : List UInt8, M (ps ++ [.star]) s = true ↔ ∃ n, n ≤ s.length ∧ M ps (s.take n) = true := by
  induction ps with
  | nil =>
    intro s
    rw [List.nil_append, M_star_iff]
    constructor
    · intro _; exact ⟨0, by simp, by simp [M]⟩
    · intro _; exact ⟨s.length, by simp, by simp [M]⟩
  | cons x ps ih =>
    intro s
    rw [List.cons_append]
    by_cases hx : x = .star
    · subst hx
      rw [M_star_iff]
      constructor
      · rintro ⟨n, hn, h⟩
        rw [ih] at h
        obtain ⟨m, hm, h⟩ := h
        rw [List.length_drop] at hm
        refine ⟨n + m, by omega, ?_⟩
        rw [M_star_iff]
        refine ⟨n, by simp; omega, ?_⟩
        rw [List.drop_take]
        rwa [show n + m - n = m from by omega]
      · rintro ⟨m, hm, h⟩
        rw [M_star_iff] at h
        obtain ⟨n, hn, h⟩ := h
        simp at hn
        refine ⟨n, by omega, ?_⟩
        rw [ih]
        refine ⟨m - n, by simp; omega, ?_⟩
        rwa [List.drop_take] at h
    · cases s with
      | nil =>
        rw [M_one_nil _ _ hx]
        constructor
        · intro h; exact absurd h (by simp)
        · rintro ⟨n, _, h⟩
          rw [List.take_nil, M_one_nil _ _ hx] at h
          exact absurd h (by simp)
      | cons c s =>
        rw [M_one_cons _ _ _ _ hx, Bool.and_eq_true, ih]
        constructor
        · rintro ⟨hf, n, hn, h⟩
          exact ⟨n + 1, by simp; omega, by rw [List.take_succ_cons, M_one_cons _ _ _ _ hx, hf, h]; rfl⟩
        · rintro ⟨n, hn, h⟩
          cases n with
          | zero => rw [List.take_zero, M_one_nil _ _ hx] at h; exact absurd h (by simp)
          | succ n =>
            rw [List.take_succ_cons, M_one_cons _ _ _ _ hx, Bool.and_eq_true] at h
            exact ⟨h.1, n, by simp at hn; omega, h.2⟩

def plainC (r : List UInt8) : Option (List UInt8 × Bool × Nat) := (clos r).map fun n => (r.take n, false, n + 1)
theorem cls_not_some {r : List UInt8} {n : Nat} (h : clos r = some n) : cls (33 :: r) = some (r.take n, true, n + 2) := by
  unfold cls
  simp only [h]
theorem cls_not_none {r : List UInt8} (h : clos r = none) : cls (33 :: r) = plainC (33 :: r) := by
  unfold cls
  simp only [h]
  rfl
theorem cls_nil : cls [] = plainC [] := rfl
theorem cls_else {c : UInt8} {r : List UInt8} (h : c ≠ 33) : cls (c :: r) = plainC (c :: r) := by
  unfold cls plainC
  split
  · rename_i hh
    simp only [List.cons.injEq] at hh
    exact absurd hh.1 h
  · rfl
theorem plainC_none {r : List UInt8} (h : clos r = none) : plainC r = none := by unfold plainC; rw [h]; rfl
theorem plainC_some {r : List UInt8} {n : Nat} (h : clos r = some n) : plainC r = some (r.take n, false, n + 1) := by unfold plainC; rw [h]; rfl
theorem cls_set_le {r set : List UInt8} {neg : Bool} {n : Nat} (h : cls r = some (set, neg, n)) : set.length ≤ r.length := by
  have plain : plainC r = some (set, neg, n) → set.length ≤ r.length := by
    intro h
    unfold plainC at h
    simp only [Option.map_eq_some_iff, Prod.mk.injEq] at h
    obtain ⟨m, _, rfl, _, _⟩ := h
    rw [List.length_take]
    omega
  cases r with
  | nil => exact plain h
  | cons c r =>
    by_cases hc : c = 33
    · subst hc
      cases hr : clos r with
      | none => rw [cls_not_none hr] at h; exact plain h
      | some m =>
        rw [cls_not_some hr] at h
        simp only [Option.some.injEq, Prod.mk.injEq] at h
        obtain ⟨rfl, _, _⟩ := h
        rw [List.length_take, List.length_cons]
        omega
    · rw [cls_else hc] at h
      exact plain h
end Go.Proofs.YteifffaonigidaaDoor.PatPlain
