/-
  The frames of which bytes are made, what is left, and what was wrong: a plain function, and how it goes on when more bytes come. No condition.
-/
import Derived.Test.YtagadbgbicebaaaTk
namespace Go.Proofs.Ytagadbgbicebaaa
open Go Go.RowKit

structure Fm where
  k : Int
  f : Int
  body : List UInt8
def Fm.cells (x : Fm) : List Value := [i64 x.k, i64 x.f, .string (bs x.body)]
def fmCells (l : List Fm) : List Value := l.flatMap Fm.cells
theorem fmCells_len (l : List Fm) : (fmCells l).length = l.length * 3 := by
  induction l with
  | nil => rfl
  | cons x l ih =>
    have : fmCells (x :: l) = x.cells ++ fmCells l := rfl
    rw [this, List.length_append, ih]
    simp [Fm.cells]
    omega
theorem fmCells_append (l m : List Fm) : fmCells (l ++ m) = fmCells l ++ fmCells m := by simp [fmCells]

/-- the frames, the rest, the error -/
structure Fed where
  out : List Fm
  rest : List UInt8
  e : Int

def allF : Nat → List UInt8 → Fed
  | 0, l => ⟨[], l, 0⟩
  | n + 1, l =>
    if (tk l).e = 2 then ⟨[], l, 0⟩
    else if (tk l).e = 0 then ⟨⟨(tk l).k, (tk l).f, (tk l).body⟩ :: (allF n (l.drop (tk l).n)).out, (allF n (l.drop (tk l).n)).rest, (allF n (l.drop (tk l).n)).e⟩
    else ⟨[], [], (tk l).e⟩

theorem allF_two (n : Nat) (l : List UInt8) (h : (tk l).e = 2) : allF (n + 1) l = ⟨[], l, 0⟩ := by rw [allF, if_pos h]
theorem allF_ok (n : Nat) (l : List UInt8) (h : (tk l).e = 0) : allF (n + 1) l = ⟨⟨(tk l).k, (tk l).f, (tk l).body⟩ :: (allF n (l.drop (tk l).n)).out, (allF n (l.drop (tk l).n)).rest, (allF n (l.drop (tk l).n)).e⟩ := by
  rw [allF, if_neg (by omega), if_pos h]
theorem allF_bad (n : Nat) (l : List UInt8) (h : (tk l).e ≠ 2) (h' : (tk l).e ≠ 0) : allF (n + 1) l = ⟨[], [], (tk l).e⟩ := by
  rw [allF, if_neg h, if_neg h']

/-- what tk does: the error is 2, 3 or 4, or a frame of at least 4 bytes stands in front -/
theorem tk_ok {l : List UInt8} (h : (tk l).e = 0) : 4 ≤ (tk l).n ∧ (tk l).n ≤ l.length ∧ (tk l).n ≤ 1028 := by
  by_cases hs : l.length < 4
  · rw [tk_short l hs] at h; simp [Tk.no] at h
  · obtain ⟨b0, b1, b2, b3, r, rfl⟩ := long_of l hs
    rcases tk_cases b0 b1 b2 b3 r with ⟨_, h2, h3, h4⟩ | ⟨h1, h2⟩
    · rw [h2]; simp only [List.length_cons]; omega
    · rw [h2] at h; exact (h1 h).elim

theorem tk_two_nil : (tk []).e = 2 := rfl

/-- more bytes behind turn nothing, unless there were too few -/
theorem tk_more {l : List UInt8} (h : (tk l).e ≠ 2) (b : List UInt8) : tk (l ++ b) = tk l := by
  by_cases hs : l.length < 4
  · rw [tk_short l hs] at h; exact (h rfl).elim
  · obtain ⟨b0, b1, b2, b3, r, rfl⟩ := long_of l hs
    rw [List.cons_append, List.cons_append, List.cons_append, List.cons_append, tk_eq, tk_eq]
    rw [tk_eq] at h
    generalize b2.toNat * 256 + b3.toNat = N at *
    by_cases h1 : knownB b0.toNat = true
    · rw [if_pos h1, if_pos h1]
      rw [if_pos h1] at h
      by_cases h2 : 1024 < N
      · rw [if_pos h2, if_pos h2]
      · rw [if_neg h2, if_neg h2]
        rw [if_neg h2] at h
        by_cases h3 : r.length < N
        · rw [if_pos h3] at h; exact (h rfl).elim
        · rw [if_neg h3, if_neg (by rw [List.length_append]; omega), List.take_append_of_le_length (by omega)]
    · rw [if_neg h1, if_neg h1]

/-- enough fuel is enough -/
theorem allF_fuel : ∀ (n m : Nat) (l : List UInt8), l.length ≤ n → l.length ≤ m → allF n l = allF m l
  | 0, 0, _, _, _ => rfl
  | 0, m + 1, l, hn, _ => by
    have : l = [] := List.length_eq_zero_iff.1 (by omega)
    subst this
    rw [allF_two m [] tk_two_nil]; rfl
  | n + 1, 0, l, _, hm => by
    have : l = [] := List.length_eq_zero_iff.1 (by omega)
    subst this
    rw [allF_two n [] tk_two_nil]; rfl
  | n + 1, m + 1, l, hn, hm => by
    by_cases h2 : (tk l).e = 2
    · rw [allF_two n l h2, allF_two m l h2]
    · by_cases h0 : (tk l).e = 0
      · have := tk_ok h0
        rw [allF_ok n l h0, allF_ok m l h0, allF_fuel n m (l.drop (tk l).n) (by rw [List.length_drop]; omega) (by rw [List.length_drop]; omega)]
      · rw [allF_bad n l h2 h0, allF_bad m l h2 h0]

def allFr (l : List UInt8) : Fed := allF l.length l

theorem allFr_two (l : List UInt8) (h : (tk l).e = 2) : allFr l = ⟨[], l, 0⟩ := by
  unfold allFr
  cases hl : l.length with
  | zero => rfl
  | succ n => exact allF_two n l h
theorem allFr_ok (l : List UInt8) (h : (tk l).e = 0) : allFr l = ⟨⟨(tk l).k, (tk l).f, (tk l).body⟩ :: (allFr (l.drop (tk l).n)).out, (allFr (l.drop (tk l).n)).rest, (allFr (l.drop (tk l).n)).e⟩ := by
  have h1 := tk_ok h
  unfold allFr
  obtain ⟨n, hn⟩ : ∃ n, l.length = n + 1 := ⟨l.length - 1, by omega⟩
  rw [hn, allF_ok n l h, allF_fuel n (l.drop (tk l).n).length (l.drop (tk l).n) (by rw [List.length_drop]; omega) (Nat.le_refl _)]
theorem allFr_bad (l : List UInt8) (h : (tk l).e ≠ 2) (h' : (tk l).e ≠ 0) : allFr l = ⟨[], [], (tk l).e⟩ := by
  unfold allFr
  obtain ⟨n, hn⟩ : ∃ n, l.length = n + 1 := by
    cases l with
    | nil => exact (h rfl).elim
    | cons x l => exact ⟨l.length, rfl⟩
  rw [hn, allF_bad n l h h']

/-- the rest is no frame's beginning that is whole -/
theorem allFr_rest (n : Nat) : ∀ l : List UInt8, l.length ≤ n → (tk (allFr l).rest).e = 2 := by
  induction n with
  | zero =>
    intro l h
    have : l = [] := List.length_eq_zero_iff.1 (by omega)
    subst this; rfl
  | succ n ih =>
    intro l h
    by_cases h2 : (tk l).e = 2
    · rw [allFr_two l h2]; exact h2
    · by_cases h0 : (tk l).e = 0
      · have := tk_ok h0
        rw [allFr_ok l h0]; exact ih _ (by rw [List.length_drop]; omega)
      · rw [allFr_bad l h2 h0]; rfl

/-- how it goes on -/
theorem allFr_append (n : Nat) : ∀ l b : List UInt8, l.length ≤ n → allFr (l ++ b) =
    if (allFr l).e = 0 then ⟨(allFr l).out ++ (allFr ((allFr l).rest ++ b)).out, (allFr ((allFr l).rest ++ b)).rest, (allFr ((allFr l).rest ++ b)).e⟩ else allFr l := by
  induction n with
  | zero =>
    intro l b h
    have : l = [] := List.length_eq_zero_iff.1 (by omega)
    subst this; simp [allFr, allF]
  | succ n ih =>
    intro l b h
    by_cases h2 : (tk l).e = 2
    · rw [allFr_two l h2]; simp
    · have hm := tk_more h2 b
      by_cases h0 : (tk l).e = 0
      · have hk := tk_ok h0
        have h0' : (tk (l ++ b)).e = 0 := by rw [hm]; exact h0
        rw [allFr_ok (l ++ b) h0', allFr_ok l h0, hm, List.drop_append_of_le_length hk.2.1, ih (l.drop (tk l).n) b (by rw [List.length_drop]; omega)]
        split <;> simp
      · have h2' : (tk (l ++ b)).e ≠ 2 := by rw [hm]; exact h2
        have h0' : (tk (l ++ b)).e ≠ 0 := by rw [hm]; exact h0
        rw [allFr_bad (l ++ b) h2' h0', allFr_bad l h2 h0, hm, if_neg h0]

/-- frames take 4 bytes at least -/
theorem allFr_len (n : Nat) : ∀ l : List UInt8, l.length ≤ n → (allFr l).out.length * 4 + (allFr l).rest.length ≤ l.length := by
  induction n with
  | zero =>
    intro l h
    have : l = [] := List.length_eq_zero_iff.1 (by omega)
    subst this; simp [allFr, allF]
  | succ n ih =>
    intro l h
    by_cases h2 : (tk l).e = 2
    · rw [allFr_two l h2]; simp
    · by_cases h0 : (tk l).e = 0
      · have hk := tk_ok h0
        have := ih (l.drop (tk l).n) (by rw [List.length_drop]; omega)
        rw [allFr_ok l h0]
        simp only [List.length_cons]
        rw [List.length_drop] at this
        omega
      · rw [allFr_bad l h2 h0]; simp

theorem tk_two_short {l : List UInt8} (h : (tk l).e = 2) : l.length < 1028 := by
  by_cases hs : l.length < 4
  · omega
  · obtain ⟨b0, b1, b2, b3, r, rfl⟩ := long_of l hs
    rw [tk_eq] at h
    generalize b2.toNat * 256 + b3.toNat = N at *
    split at h
    · split at h
      · simp [Tk.no] at h
      · split at h
        · simp only [List.length_cons]; omega
        · simp at h
    · simp [Tk.no] at h
end Go.Proofs.Ytagadbgbicebaaa
