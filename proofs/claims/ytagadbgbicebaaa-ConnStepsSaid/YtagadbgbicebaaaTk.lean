/-
  Taking a frame off the front of a list of bytes: the plain function, and the contracts of both Takes by it. Conditions: lengths within the machine's bounds.
-/
import Derived.Test.YtagadbgbicebaaaFrmPut
namespace Go.Proofs.Ytagadbgbicebaaa
open Go Go.RowKit

/-- a list of bytes as a string -/
abbrev bs (l : List UInt8) : ByteArray := ⟨l.toArray⟩

/-- what stands in front: an error (0: none), the frame, how many bytes it takes -/
structure Tk where
  e : Int
  k : Int
  f : Int
  body : List UInt8
  n : Nat

def Tk.no (e : Int) : Tk := ⟨e, 0, 0, [], 0⟩

def tk : List UInt8 → Tk
  | b0 :: b1 :: b2 :: b3 :: r =>
    if knownB b0.toNat then
      (if 1024 < b2.toNat * 256 + b3.toNat then Tk.no 3
        else if r.length < b2.toNat * 256 + b3.toNat then Tk.no 2
        else ⟨0, b0.toNat, b1.toNat, r.take (b2.toNat * 256 + b3.toNat), 4 + (b2.toNat * 256 + b3.toNat)⟩)
    else Tk.no 4
  | _ => Tk.no 2

theorem tk_eq (b0 b1 b2 b3 : UInt8) (r : List UInt8) : tk (b0 :: b1 :: b2 :: b3 :: r) = if knownB b0.toNat then
      (if 1024 < b2.toNat * 256 + b3.toNat then Tk.no 3
        else if r.length < b2.toNat * 256 + b3.toNat then Tk.no 2
        else ⟨0, b0.toNat, b1.toNat, r.take (b2.toNat * 256 + b3.toNat), 4 + (b2.toNat * 256 + b3.toNat)⟩)
    else Tk.no 4 := rfl

theorem hd_bs (b0 b1 b2 b3 : UInt8) (r : List UInt8) : Hd (bs (b0 :: b1 :: b2 :: b3 :: r)) b0 b1 b2 b3 :=
  ⟨by simp [ByteArray.size], rfl, rfl, rfl, rfl⟩

theorem tk_short (l : List UInt8) (h : l.length < 4) : tk l = Tk.no 2 := by
  match l, h with
  | [], _ => rfl
  | [_], _ => rfl
  | [_, _], _ => rfl
  | [_, _, _], _ => rfl

theorem size_bs (l : List UInt8) : (bs l).size = l.length := by simp [ByteArray.size]

theorem long_of (l : List UInt8) (h : ¬ l.length < 4) : ∃ b0 b1 b2 b3 r, l = b0 :: b1 :: b2 :: b3 :: r := by
  match l, h with
  | b0 :: b1 :: b2 :: b3 :: r, _ => exact ⟨b0, b1, b2, b3, r, rfl⟩
  | [], h => simp at h
  | [_], h => simp at h
  | [_, _], h => simp at h
  | [_, _, _], h => simp at h

theorem extract_bs (b0 b1 b2 b3 : UInt8) (r : List UInt8) (n : Nat) : (bs (b0 :: b1 :: b2 :: b3 :: r)).extract 4 (4 + n) = bs (r.take n) := by
  apply ByteArray.ext
  simp [bs, ByteArray.data_extract]

/-- the cases of tk -/
theorem tk_cases (b0 b1 b2 b3 : UInt8) (r : List UInt8) :
    (tkErr (bs (b0 :: b1 :: b2 :: b3 :: r)) b0 b2 b3 = 0 ∧ tk (b0 :: b1 :: b2 :: b3 :: r) = ⟨0, b0.toNat, b1.toNat, r.take (b2.toNat * 256 + b3.toNat), 4 + (b2.toNat * 256 + b3.toNat)⟩ ∧ b2.toNat * 256 + b3.toNat ≤ r.length ∧ b2.toNat * 256 + b3.toNat ≤ 1024) ∨
    (tkErr (bs (b0 :: b1 :: b2 :: b3 :: r)) b0 b2 b3 ≠ 0 ∧ tk (b0 :: b1 :: b2 :: b3 :: r) = Tk.no (tkErr (bs (b0 :: b1 :: b2 :: b3 :: r)) b0 b2 b3)) := by
  have hs : (bs (b0 :: b1 :: b2 :: b3 :: r)).size = r.length + 4 := by simp [ByteArray.size]
  have hc := hdErr_cases b0 b2 b3
  rw [tk_eq]
  unfold tkErr
  rw [hs]
  generalize b2.toNat * 256 + b3.toNat = N at *
  rcases hc with ⟨hx, hk, hn⟩ | ⟨hx, hk, hn⟩ | ⟨hx, hk⟩
  · have c1 : ¬ 1024 < N := by omega
    by_cases h : r.length < N
    · have c2 : r.length + 4 < 4 + N := by omega
      right; simp [hx, hk, c1, h, c2]
    · have c2 : ¬ r.length + 4 < 4 + N := by omega
      left; simp [hx, hk, c1, h, c2]; omega
  · right; simp [hx, hk, hn]
  · right; simp [hx, hk]

theorem take3_c (l : List UInt8) (w : World) (hm : l.length ≤ maxLen) :
    Calls Try.prog 20 #[.string (bs l)] w fun e w' => e = .returned (.tuple #[frV (tk l).k (tk l).f (bs (tk l).body), i64 (tk l).n, i64 (tk l).e]) ∧ Upd [] w w' := by
  by_cases hs : l.length < 4
  · rw [tk_short l hs]
    exact take_short (bs l) w (by rw [size_bs]; exact hs)
  · obtain ⟨b0, b1, b2, b3, r, rfl⟩ := long_of l hs
    rcases tk_cases b0 b1 b2 b3 r with ⟨h1, h2, _⟩ | ⟨h1, h2⟩
    · have := take_ok _ b0 b1 b2 b3 (hd_bs b0 b1 b2 b3 r) w (by rw [size_bs]; exact hm) h1
      rw [h2, ← extract_bs b0 b1 b2 b3]
      exact this
    · have := take_err _ b0 b1 b2 b3 (hd_bs b0 b1 b2 b3 r) w h1
      rw [h2]
      exact this

theorem rtake3_c (l : List UInt8) (w : World) (hm : l.length ≤ maxLen) :
    Calls Try.prog 21 #[.string (bs l)] w fun e w' => ∃ m : Int, e = .returned (.tuple #[frV (tk l).k (tk l).f (bs (tk l).body), i64 m, i64 (tk l).e]) ∧ ((tk l).e = 0 → m = (tk l).n - 4) ∧ Upd [] w w' := by
  by_cases hs : l.length < 4
  · rw [tk_short l hs]
    exact (rtake_short (bs l) w (by rw [size_bs]; exact hs)).mono fun _ _ ⟨h1, h2⟩ => ⟨_, h1, fun h => by simp [Tk.no] at h, h2⟩
  · obtain ⟨b0, b1, b2, b3, r, rfl⟩ := long_of l hs
    have := rtake_long _ b0 b1 b2 b3 (hd_bs b0 b1 b2 b3 r) w (by rw [size_bs]; exact hm)
    rcases tk_cases b0 b1 b2 b3 r with ⟨h1, h2, _⟩ | ⟨h1, h2⟩
    · rw [h2, ← extract_bs b0 b1 b2 b3]
      rw [if_pos h1] at this
      exact this.mono fun _ _ ⟨h1, h2⟩ => ⟨_, h1, fun _ => by simp; omega, h2⟩
    · rw [h2]
      rw [if_neg h1] at this
      exact this.mono fun _ _ ⟨g1, g2⟩ => ⟨_, g1, fun h => (h1 h).elim, g2⟩
end Go.Proofs.Ytagadbgbicebaaa
