/- The tracker of chapter 20 as a plain function. -/
namespace Go.Proofs.Ytdbidojncboalaa.Rs

/-- a tracker: how many intervals, which is next, how many pieces were taken, was one stray, was a last one taken -/
structure Tr where
  N : Int
  next : Int
  taken : Int
  stray : Bool
  done : Bool
deriving DecidableEq

abbrev Slot := Int × Int

def placedI (t : Tr) : Int := if t.stray then 6 else 0
/-- the intervals that are known by the next piece; and the tracker behind it -/
def take (t : Tr) (r : Int) : List Slot × Tr :=
  if t.done then ([], t) else
  if r < 0 then
    if r ≠ -1 then (List.replicate (t.N - t.next).toNat (t.taken, 7), { t with next := t.N, taken := t.taken + 1, done := true })
    else if t.N - t.next = 1 then ([(t.taken, placedI t)], { t with next := t.next + 1, taken := t.taken + 1, stray := false, done := true })
    else (List.replicate (t.N - t.next).toNat (t.taken, 5), { t with next := t.N, taken := t.taken + 1, done := true })
  else if (r - t.next) % 8 ≥ t.N - t.next - 1 then ([], { t with taken := t.taken + 1, stray := true })
  else if (r - t.next) % 8 = 0 then ([(t.taken, placedI t)], { t with next := t.next + 1, taken := t.taken + 1, stray := false })
  else (List.replicate ((r - t.next) % 8 + 1).toNat (t.taken, 5), { t with next := t.next + ((r - t.next) % 8 + 1), taken := t.taken + 1 })

def new (n : Int) : Tr := ⟨n, 0, 0, false, false⟩
structure Ok (t : Tr) : Prop where
  n0 : 0 ≤ t.next
  n1 : t.next ≤ t.N
  t0 : 0 ≤ t.taken

theorem new_ok {n : Int} (h : 0 ≤ n) : Ok (new n) := ⟨by simp [new], by simpa [new] using h, by simp [new]⟩
theorem take_ok {t : Tr} (h : Ok t) (r : Int) : Ok (take t r).2 := by
  obtain ⟨h0, h1, h2⟩ := h
  unfold take
  split
  · exact ⟨h0, h1, h2⟩
  · split
    · split
      · exact ⟨by simp; omega, by simp, by simp; omega⟩
      · split
        · exact ⟨by simp; omega, by simp; omega, by simp; omega⟩
        · exact ⟨by simp; omega, by simp, by simp; omega⟩
    · split
      · exact ⟨h0, h1, by simp; omega⟩
      · split
        · exact ⟨by simp; omega, by simp; omega, by simp; omega⟩
        · exact ⟨by simp; omega, by simp; omega, by simp; omega⟩
theorem take_N (t : Tr) (r : Int) : (take t r).2.N = t.N := by
  unfold take
  split
  · rfl
  · split <;> (repeat' split) <;> rfl
theorem take_len {t : Tr} (h : Ok t) (r : Int) : ((take t r).1.length : Int) = (take t r).2.next - t.next := by
  obtain ⟨h0, h1, h2⟩ := h
  unfold take
  split
  · simp
  · split
    · split
      · simp; omega
      · split
        · simp; omega
        · simp; omega
    · split
      · simp
      · split
        · simp; omega
        · simp; omega
theorem take_taken (t : Tr) (r : Int) : (take t r).2.taken = if t.done then t.taken else t.taken + 1 := by
  unfold take
  split
  · rfl
  · split <;> (repeat' split) <;> rfl

/-- the pieces are taken one by one up to the first last one: i is the first piece's number -/
def placeGo : Tr → Int → List Int → List Slot → List Int → List Slot × List Int × Tr
  | t, _, [], l, s => (l, s, t)
  | t, i, r :: rs, l, s =>
    if t.done then (l, s, t) else
    placeGo (take t r).2 (i + 1) rs (l ++ (take t r).1) (if (take t r).1.length = 0 ∧ (take t r).2.done = false then s ++ [i] else s)
def place (rs : List Int) (n : Int) : List Slot × List Int × Int :=
  if n < 0 ∨ n > 1048576 then ([], [], 0) else
  let (l, s, t) := placeGo (new n) 0 rs [] []
  (l ++ List.replicate (n - t.next).toNat (t.taken - 1, 5), s, t.taken)
end Go.Proofs.Ytdbidojncboalaa.Rs
