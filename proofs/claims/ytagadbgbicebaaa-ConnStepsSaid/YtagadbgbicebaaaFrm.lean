/-
  The contracts of the frames' functions (package frame, and the document's answer of chapter 5). Conditions: lengths within the machine's bounds.
-/
import Derived.Test.YtagadbgbicebaaaProg
import Derived.Test.YtagadbgbicebaaaBase
namespace Go.Proofs.Ytagadbgbicebaaa
open Go Go.RowKit

def costN (n : Int) : Int := 16 + min (max n 0) 1024
def asksB (k : Int) : Bool := decide (k = 2) || decide (k = 3) || decide (k = 4) || decide (k = 6) || decide (k = 7)
def knownB (k : Int) : Bool := decide (1 ≤ k) && decide (k ≤ 9)

theorem cost_c (n : Int) (w : World) : Calls Try.prog 15 #[i64 n] w fun e w' => e = .returned (i64 (costN n)) ∧ w = w' := by
  refine post fun R hR => ?_
  go_enter Try.func15, Try.ntmps15
  go_wp2
  all_goals exact hR.out _ _ ⟨ret_i (by unfold costN; omega), rfl⟩

theorem rcost_c (n : Int) (w : World) : Calls Try.prog 16 #[i64 n] w fun e w' => e = .returned (i64 (costN n)) ∧ w = w' := by
  refine post fun R hR => ?_
  go_enter Try.func16, Try.ntmps16
  go_wp2
  all_goals exact hR.out _ _ ⟨ret_i (by unfold costN; omega), rfl⟩

theorem asks_c (n : Int) (w : World) : Calls Try.prog 17 #[i64 n] w fun e w' => e = .returned (.bool (asksB n)) ∧ w = w' := by
  refine post fun R hR => ?_
  go_enter Try.func17, Try.ntmps17
  go_wp2
  all_goals refine hR.out _ _ ⟨ret_b ?_, rfl⟩
  all_goals simp_all [asksB]

theorem rasks_c (n : Int) (w : World) : Calls Try.prog 18 #[i64 n] w fun e w' => e = .returned (.bool (asksB n)) ∧ w = w' := by
  refine post fun R hR => ?_
  go_enter Try.func18, Try.ntmps18
  go_wp2
  all_goals refine hR.out _ _ ⟨ret_b ?_, rfl⟩
  all_goals rw [Bool.eq_iff_iff]
  all_goals simp [asksB] at *
  all_goals omega

theorem known_c (n : Int) (w : World) : Calls Try.prog 50 #[i64 n] w fun e w' => e = .returned (.bool (knownB n)) ∧ w = w' := by
  refine post fun R hR => ?_
  go_enter Try.func50, Try.ntmps50
  go_wp2
  all_goals refine hR.out _ _ ⟨ret_b ?_, rfl⟩
  all_goals simp_all [knownB]
  all_goals omega

theorem or8 (x y : Nat) (hx : x < 256) (hy : y < 256) : bits .or .i64 ((x : Int) * 256) (y : Int) = (x : Int) * 256 + (y : Int) :=
  by
  have hw : ∀ n : Int, 0 ≤ n → n < 2 ^ 63 → IntKind.i64.wrap n = n := fun n h0 h1 => by rw [IntKind.wrap_i64]; omega
  exact bits_join .i64 63 (by decide) hw 8 ((x : Int) * 256) (y : Int) (by omega) (by omega) (by omega) (by omega) (by omega) (by omega)

/-- the four bytes of a head -/
structure Hd (s : ByteArray) (b0 b1 b2 b3 : UInt8) : Prop where
  size : 4 ≤ s.size
  e0 : s[0]'(by omega) = b0
  e1 : s[1]'(by omega) = b1
  e2 : s[2]'(by omega) = b2
  e3 : s[3]'(by omega) = b3

set_option maxHeartbeats 400000 in
theorem head_short (s : ByteArray) (w : World) (hs : s.size < 4) :
    Calls Try.prog 22 #[.string s] w fun e w' => e = .returned (.tuple #[i64 0, i64 0, i64 0, i64 2]) ∧ Upd [] w w' := by
  refine post fun R hR => ?_
  go_enter Try.func22, Try.ntmps22
  go_wp2
  (try go_returns)
  exact hR.out _ _ ⟨rfl, Upd.refl _ _⟩

/-- what a head of four bytes tells -/
def hdErr (b0 b2 b3 : UInt8) : Int := if knownB b0.toNat then (if 1024 < b2.toNat * 256 + b3.toNat then 3 else 0) else 4

theorem hdErr_cases (b0 b2 b3 : UInt8) : (hdErr b0 b2 b3 = 0 ∧ knownB b0.toNat = true ∧ b2.toNat * 256 + b3.toNat ≤ 1024) ∨ (hdErr b0 b2 b3 = 3 ∧ knownB b0.toNat = true ∧ 1024 < b2.toNat * 256 + b3.toNat) ∨ (hdErr b0 b2 b3 = 4 ∧ knownB b0.toNat = false) := by
  unfold hdErr
  cases knownB b0.toNat with
  | false => simp
  | true =>
    by_cases h : 1024 < b2.toNat * 256 + b3.toNat
    · simp [h]
    · simp only [if_true, if_neg h]; left; exact ⟨trivial, trivial, by omega⟩

set_option maxHeartbeats 400000 in
theorem head_long (s : ByteArray) (b0 b1 b2 b3 : UInt8) (h : Hd s b0 b1 b2 b3) (w : World) :
    Calls Try.prog 22 #[.string s] w fun e w' => e = .returned (.tuple (if hdErr b0 b2 b3 = 0 then #[i64 b0.toNat, i64 b1.toNat, i64 (b2.toNat * 256 + b3.toNat), i64 0] else #[i64 0, i64 0, i64 0, i64 (hdErr b0 b2 b3)])) ∧ Upd [] w w' := by
  obtain ⟨hs, e0, e1, e2, e3⟩ := h
  have h0 : (0 : Int) < s.size := by omega
  have h1 : (1 : Int) < s.size := by omega
  have h2 : (2 : Int) < s.size := by omega
  have h3 : (3 : Int) < s.size := by omega
  have n0 : 0 < s.size := by omega
  have n1 : 1 < s.size := by omega
  have n2 : 2 < s.size := by omega
  have n3 : 3 < s.size := by omega
  have r0 := b0.toNat_lt
  have r1 := b1.toNat_lt
  have r2 := b2.toNat_lt
  have r3 := b3.toNat_lt
  have w0 : wrap64 (b0.toNat : Int) = b0.toNat := IntWalk.wrap64_in _ (by omega)
  have w1 : wrap64 (b1.toNat : Int) = b1.toNat := IntWalk.wrap64_in _ (by omega)
  have w2 : wrap64 (b2.toNat : Int) = b2.toNat := IntWalk.wrap64_in _ (by omega)
  have w3 : wrap64 (b3.toNat : Int) = b3.toNat := IntWalk.wrap64_in _ (by omega)
  have w4 : wrap64 ((b2.toNat : Int) * 256) = (b2.toNat : Int) * 256 := IntWalk.wrap64_in _ (by omega)
  have w5 := or8 b2.toNat b3.toNat (by omega) (by omega)
  rcases hdErr_cases b0 b2 b3 with ⟨hx, hk, hn⟩ | ⟨hx, hk, hn⟩ | ⟨hx, hk⟩
  · rw [hx, if_pos rfl]
    clear hx
    refine post fun R hR => ?_
    go_enter Try.func22, Try.ntmps22
    go_wp2_with fail
    go_quiet (fail)
    go_wp2_with (go_at_call 50; refine (known_c _ _).mono ?_; rintro e w' ⟨rfl, rfl⟩)
    go_quiet (fail)
    go_wp2_with fail
    refine bodyPost_ret (v := .tuple #[i64 b0.toNat, i64 b1.toNat, i64 (b2.toNat * 256 + b3.toNat), i64 0]) (by simp [results, Try.results22, go_sem]) rfl ?_
    exact hR.out _ _ ⟨rfl, by (repeat' (first | (with_reducible exact Upd.refl _ _) | (with_reducible assumption) | (with_reducible apply Upd.drew) | (with_reducible apply Upd.drewN) | (with_reducible apply Upd.alloc) | (with_reducible refine Upd.setCell ?_ (by simp) _) | (with_reducible refine Upd.setCell ?_ (by simp; omega) _)))⟩
  · rw [hx, if_neg (by omega)]
    clear hx
    refine post fun R hR => ?_
    go_enter Try.func22, Try.ntmps22
    go_wp2_with fail
    go_quiet (fail)
    go_wp2_with (go_at_call 50; refine (known_c _ _).mono ?_; rintro e w' ⟨rfl, rfl⟩)
    refine bodyPost_ret (v := .tuple #[i64 0, i64 0, i64 0, i64 3]) (by simp [results, Try.results22, go_sem]) rfl ?_
    exact hR.out _ _ ⟨rfl, by (repeat' (first | (with_reducible exact Upd.refl _ _) | (with_reducible assumption) | (with_reducible apply Upd.drew) | (with_reducible apply Upd.drewN) | (with_reducible apply Upd.alloc) | (with_reducible refine Upd.setCell ?_ (by simp) _) | (with_reducible refine Upd.setCell ?_ (by simp; omega) _)))⟩
  · rw [hx, if_neg (by omega)]
    clear hx
    refine post fun R hR => ?_
    go_enter Try.func22, Try.ntmps22
    go_wp2_with fail
    go_quiet (fail)
    go_wp2_with (go_at_call 50; refine (known_c _ _).mono ?_; rintro e w' ⟨rfl, rfl⟩)
    refine bodyPost_ret (v := .tuple #[i64 0, i64 0, i64 0, i64 4]) (by simp [results, Try.results22, go_sem]) rfl ?_
    exact hR.out _ _ ⟨rfl, by (repeat' (first | (with_reducible exact Upd.refl _ _) | (with_reducible assumption) | (with_reducible apply Upd.drew) | (with_reducible apply Upd.drewN) | (with_reducible apply Upd.alloc) | (with_reducible refine Upd.setCell ?_ (by simp) _) | (with_reducible refine Upd.setCell ?_ (by simp; omega) _)))⟩

/-- a frame as a value -/
abbrev frV (k f : Int) (s : ByteArray) : Value := .agg #[i64 k, i64 f, .string s]

/-- what taking a frame from the bytes s tells: an error, or 0 -/
def tkErr (s : ByteArray) (b0 b2 b3 : UInt8) : Int := if hdErr b0 b2 b3 = 0 then (if s.size < 4 + (b2.toNat * 256 + b3.toNat) then 2 else 0) else hdErr b0 b2 b3

set_option maxHeartbeats 400000 in
theorem take_short (s : ByteArray) (w : World) (hs : s.size < 4) :
    Calls Try.prog 20 #[.string s] w fun e w' => e = .returned (.tuple #[frV 0 0 ⟨#[]⟩, i64 0, i64 2]) ∧ Upd [] w w' := by
  refine post fun R hR => ?_
  go_enter Try.func20, Try.ntmps20
  go_wp2_with (fail)
  refine Calls.mono (head_short s _ hs) ?_
  rintro e w2 ⟨rfl, hu⟩
  have hh := hu.keep0 (heap_alloc_new w (.cells #[i64 0, i64 0, .string ⟨#[]⟩] 23))
  obtain ⟨c0, c1, c2, f0, f1, f2⟩ := cells3 hh
  go_wp2_with fail
  obtain ⟨d0, d1, d2, -⟩ := cells3 (hset3_2 (v := .string ⟨#[]⟩) (hset3_1 (v := i64 0) (hset3_0 (v := i64 0) hh)))
  refine bodyPost_ret (v := .tuple #[frV 0 0 ⟨#[]⟩, i64 0, i64 2]) (by simp [results, Try.results20, go_sem, *]) rfl ?_
  refine hR.out _ _ ?_
  refine ⟨rfl, ?_⟩
  have hu' := ((Upd.refl [] w).alloc (.cells #[i64 0, i64 0, .string ⟨#[]⟩] 23)).trans' hu
  refine hu'.trans (S' := [w.heap.size]) ?_ (by simp)
  (repeat' (first | (with_reducible exact Upd.refl _ _) | (with_reducible assumption) | (with_reducible apply Upd.drew) | (with_reducible apply Upd.drewN) | (with_reducible apply Upd.alloc) | (with_reducible refine Upd.setCell ?_ (by simp) _) | (with_reducible refine Upd.setCell ?_ (by simp; omega) _)))

set_option maxHeartbeats 400000 in
theorem take_err (s : ByteArray) (b0 b1 b2 b3 : UInt8) (h : Hd s b0 b1 b2 b3) (w : World) (hx : tkErr s b0 b2 b3 ≠ 0) :
    Calls Try.prog 20 #[.string s] w fun e w' => e = .returned (.tuple #[frV 0 0 ⟨#[]⟩, i64 0, i64 (tkErr s b0 b2 b3)]) ∧ Upd [] w w' := by
  have hd := head_long s b0 b1 b2 b3 h
  have hs := h.size
  rcases hdErr_cases b0 b2 b3 with ⟨e0, hk, hn⟩ | ⟨e0, hk, hn⟩ | ⟨e0, hk⟩
  · have hlt : s.size < 4 + (b2.toNat * 256 + b3.toNat) := by
      unfold tkErr at hx; rw [if_pos e0] at hx
      by_cases g : s.size < 4 + (b2.toNat * 256 + b3.toNat)
      · exact g
      · rw [if_neg g] at hx; exact (hx rfl).elim
    have ex : tkErr s b0 b2 b3 = 2 := by unfold tkErr; rw [if_pos e0, if_pos hlt]
    rw [ex]
    rw [e0, if_pos rfl] at hd
    have HD := Lib.hid hd
    have hlt' : (s.size : Int) - 4 < (b2.toNat : Int) * 256 + (b3.toNat : Int) := by omega
    clear hd hx ex e0 hk
    refine post fun R hR => ?_
    go_enter Try.func20, Try.ntmps20
    go_wp2_with (fail)
    refine Calls.mono (HD.out _) ?_
    rintro e w2 ⟨rfl, hu⟩
    have hh := hu.keep0 (heap_alloc_new w (.cells #[i64 0, i64 0, .string ⟨#[]⟩] 23))
    obtain ⟨c0, c1, c2, f0, f1, f2⟩ := cells3 hh
    go_wp2_with fail
    obtain ⟨d0, d1, d2, -⟩ := cells3 (hset3_2 (v := .string ⟨#[]⟩) (hset3_1 (v := i64 0) (hset3_0 (v := i64 0) hh)))
    refine bodyPost_ret (v := .tuple #[frV 0 0 ⟨#[]⟩, i64 0, i64 2]) (by simp [results, Try.results20, go_sem, *]) rfl ?_
    refine hR.out _ _ ?_
    refine ⟨rfl, ?_⟩
    have hu' := ((Upd.refl [] w).alloc (.cells #[i64 0, i64 0, .string ⟨#[]⟩] 23)).trans' hu
    refine hu'.trans (S' := [w.heap.size]) ?_ (by simp)
    (repeat' (first | (with_reducible exact Upd.refl _ _) | (with_reducible assumption) | (with_reducible apply Upd.drew) | (with_reducible apply Upd.drewN) | (with_reducible apply Upd.alloc) | (with_reducible refine Upd.setCell ?_ (by simp) _) | (with_reducible refine Upd.setCell ?_ (by simp; omega) _)))
  all_goals
    have ex : tkErr s b0 b2 b3 = hdErr b0 b2 b3 := by unfold tkErr; rw [if_neg (by omega)]
    rw [ex]
    rw [e0, if_neg (by omega)] at hd
    rw [e0]
    have HD := Lib.hid hd
    clear hd hx ex e0 hk
    refine post fun R hR => ?_
    go_enter Try.func20, Try.ntmps20
    go_wp2_with (fail)
    refine Calls.mono (HD.out _) ?_
    rintro e w2 ⟨rfl, hu⟩
    have hh := hu.keep0 (heap_alloc_new w (.cells #[i64 0, i64 0, .string ⟨#[]⟩] 23))
    obtain ⟨c0, c1, c2, f0, f1, f2⟩ := cells3 hh
    go_wp2_with fail
    obtain ⟨d0, d1, d2, -⟩ := cells3 (hset3_2 (v := .string ⟨#[]⟩) (hset3_1 (v := i64 0) (hset3_0 (v := i64 0) hh)))
    refine bodyPost_ret (v := .tuple #[frV 0 0 ⟨#[]⟩, i64 0, i64 _]) (by simp [results, Try.results20, go_sem, d0, d1, d2, frV]; rfl) rfl ?_
    refine hR.out _ _ ?_
    refine ⟨rfl, ?_⟩
    have hu' := ((Upd.refl [] w).alloc (.cells #[i64 0, i64 0, .string ⟨#[]⟩] 23)).trans' hu
    refine hu'.trans (S' := [w.heap.size]) ?_ (by simp)
    (repeat' (first | (with_reducible exact Upd.refl _ _) | (with_reducible assumption) | (with_reducible apply Upd.drew) | (with_reducible apply Upd.drewN) | (with_reducible apply Upd.alloc) | (with_reducible refine Upd.setCell ?_ (by simp) _) | (with_reducible refine Upd.setCell ?_ (by simp; omega) _)))

set_option maxHeartbeats 400000 in
theorem take_ok (s : ByteArray) (b0 b1 b2 b3 : UInt8) (h : Hd s b0 b1 b2 b3) (w : World) (hm : s.size ≤ maxLen) (hx : tkErr s b0 b2 b3 = 0) :
    Calls Try.prog 20 #[.string s] w fun e w' => e = .returned (.tuple #[frV b0.toNat b1.toNat (s.extract 4 (4 + (b2.toNat * 256 + b3.toNat))), i64 (4 + ((b2.toNat * 256 + b3.toNat : Nat) : Int)), i64 0]) ∧ Upd [] w w' := by
  have hd := head_long s b0 b1 b2 b3 h
  have hs := h.size
  have h0 : hdErr b0 b2 b3 = 0 := by
    unfold tkErr at hx; split at hx
    · assumption
    · rename_i g; exact (g hx).elim
  have hge : 4 + (b2.toNat * 256 + b3.toNat) ≤ s.size := by
    unfold tkErr at hx; rw [if_pos h0] at hx
    split at hx
    · cases hx
    · omega
  rw [h0, if_pos rfl] at hd
  have HD := Lib.hid hd
  have hge' : (b2.toNat : Int) * 256 + (b3.toNat : Int) ≤ (s.size : Int) - 4 := by omega
  clear hd hx h0
  generalize hn : b2.toNat * 256 + b3.toNat = n at *
  have hn' : (b2.toNat : Int) * 256 + (b3.toNat : Int) = (n : Int) := by omega
  rw [hn'] at HD hge'
  clear hn hn'
  unfold maxLen at hm
  refine post fun R hR => ?_
  go_enter Try.func20, Try.ntmps20
  go_wp2_with (fail)
  refine Calls.mono (HD.out _) ?_
  rintro e w2 ⟨rfl, hu⟩
  have hh := hu.keep0 (heap_alloc_new w (.cells #[i64 0, i64 0, .string ⟨#[]⟩] 23))
  obtain ⟨c0, c1, c2, f0, f1, f2⟩ := cells3 hh
  go_wp2_with fail
  obtain ⟨d0, d1, d2, -⟩ := cells3 (hset3_2 (v := .string (s.extract 4 (4 + n))) (hset3_1 (v := i64 b1.toNat) (hset3_0 (v := i64 b0.toNat) hh)))
  refine bodyPost_ret (v := .tuple #[frV b0.toNat b1.toNat (s.extract 4 (4 + n)), i64 (4 + (n : Int)), i64 0]) (by simp [results, Try.results20, go_sem, *]) rfl ?_
  refine hR.out _ _ ?_
  refine ⟨rfl, ?_⟩
  have hu' := ((Upd.refl [] w).alloc (.cells #[i64 0, i64 0, .string ⟨#[]⟩] 23)).trans' hu
  refine hu'.trans (S' := [w.heap.size]) ?_ (by simp)
  (repeat' (first | (with_reducible exact Upd.refl _ _) | (with_reducible assumption) | (with_reducible apply Upd.drew) | (with_reducible apply Upd.drewN) | (with_reducible apply Upd.alloc) | (with_reducible refine Upd.setCell ?_ (by simp) _) | (with_reducible refine Upd.setCell ?_ (by simp; omega) _)))

/-! The document's Take. -/

set_option maxHeartbeats 400000 in
theorem rtake_short (s : ByteArray) (w : World) (hs : s.size < 4) :
    Calls Try.prog 21 #[.string s] w fun e w' => e = .returned (.tuple #[frV 0 0 ⟨#[]⟩, i64 (-1), i64 2]) ∧ Upd [] w w' := by
  refine post fun R hR => ?_
  go_enter Try.func21, Try.ntmps21
  go_wp2_with fail
  refine bodyPost_ret (v := .tuple #[frV 0 0 ⟨#[]⟩, i64 (-1), i64 2]) (by simp [results, Try.results21, go_sem, *]) rfl ?_
  refine hR.out _ _ ?_
  refine ⟨rfl, ?_⟩
  (repeat' (first | (with_reducible exact Upd.refl _ _) | (with_reducible assumption) | (with_reducible apply Upd.drew) | (with_reducible apply Upd.drewN) | (with_reducible apply Upd.alloc) | (with_reducible refine Upd.setCell ?_ (by simp) _) | (with_reducible refine Upd.setCell ?_ (by simp; omega) _)))

set_option maxHeartbeats 400000 in
theorem rtake_long (s : ByteArray) (b0 b1 b2 b3 : UInt8) (h : Hd s b0 b1 b2 b3) (w : World) (hm : s.size ≤ maxLen) :
    Calls Try.prog 21 #[.string s] w fun e w' => e = .returned (.tuple (if tkErr s b0 b2 b3 = 0 then #[frV b0.toNat b1.toNat (s.extract 4 (4 + (b2.toNat * 256 + b3.toNat))), i64 (b2.toNat * 256 + b3.toNat : Nat), i64 0]
      else #[frV 0 0 ⟨#[]⟩, i64 (if hdErr b0 b2 b3 = 0 then (b2.toNat * 256 + b3.toNat : Nat) else -1), i64 (tkErr s b0 b2 b3)])) ∧ Upd [] w w' := by
  obtain ⟨hs, e0, e1, e2, e3⟩ := h
  unfold maxLen at hm
  have h0 : (0 : Int) < s.size := by omega
  have h1 : (1 : Int) < s.size := by omega
  have h2 : (2 : Int) < s.size := by omega
  have h3 : (3 : Int) < s.size := by omega
  have n0 : 0 < s.size := by omega
  have n1 : 1 < s.size := by omega
  have n2 : 2 < s.size := by omega
  have n3 : 3 < s.size := by omega
  have r0 := b0.toNat_lt
  have r1 := b1.toNat_lt
  have r2 := b2.toNat_lt
  have r3 := b3.toNat_lt
  have w0 : wrap64 (b0.toNat : Int) = b0.toNat := IntWalk.wrap64_in _ (by omega)
  have w1 : wrap64 (b1.toNat : Int) = b1.toNat := IntWalk.wrap64_in _ (by omega)
  have w2 : wrap64 (b2.toNat : Int) = b2.toNat := IntWalk.wrap64_in _ (by omega)
  have w3 : wrap64 (b3.toNat : Int) = b3.toNat := IntWalk.wrap64_in _ (by omega)
  have hkn : knownB b0.toNat = true ↔ 1 ≤ b0.toNat ∧ b0.toNat ≤ 9 := by simp [knownB]; omega
  rcases hdErr_cases b0 b2 b3 with ⟨hx, hk, hn⟩ | ⟨hx, hk, hn⟩ | ⟨hx, hk⟩
  · have hk' := hkn.1 hk
    have k1 : (1 : Int) ≤ b0.toNat := by omega
    have k2 : (b0.toNat : Int) ≤ 9 := by omega
    clear hkn hk
    by_cases hlt : s.size < 4 + (b2.toNat * 256 + b3.toNat)
    · have ex : tkErr s b0 b2 b3 = 2 := by unfold tkErr; rw [if_pos hx, if_pos hlt]
      rw [ex, if_neg (by omega), hx, if_pos rfl]
      clear ex hx
      refine post fun R hR => ?_
      go_enter Try.func21, Try.ntmps21
      go_wp2_with fail
      go_quiet (fail)
      go_wp2_with fail
      refine bodyPost_ret (v := .tuple #[frV 0 0 ⟨#[]⟩, i64 (b2.toNat * 256 + b3.toNat), i64 2]) (by simp [results, Try.results21, go_sem]) rfl ?_
      refine hR.out _ _ ⟨by simp, ?_⟩
      (repeat' (first | (with_reducible exact Upd.refl _ _) | (with_reducible assumption) | (with_reducible apply Upd.drew) | (with_reducible apply Upd.drewN) | (with_reducible apply Upd.alloc) | (with_reducible refine Upd.setCell ?_ (by simp) _) | (with_reducible refine Upd.setCell ?_ (by simp; omega) _)))
    · have ex : tkErr s b0 b2 b3 = 0 := by unfold tkErr; rw [if_pos hx, if_neg hlt]
      rw [ex, if_pos rfl]
      clear ex hx
      generalize hn : b2.toNat * 256 + b3.toNat = n at *
      have hn' : (b2.toNat : Int) * 256 + (b3.toNat : Int) = (n : Int) := by omega
      refine post fun R hR => ?_
      go_enter Try.func21, Try.ntmps21
      go_wp2_with fail
      go_quiet (fail)
      go_wp2_with fail
      go_region
      all_goals go_wp2_with fail
      obtain ⟨d0, d1, d2, -⟩ := cells3 (hset3_2 (v := .string (s.extract 4 (4 + n))) (hset3_1 (v := i64 b1.toNat) (hset3_0 (v := i64 b0.toNat) (heap_drewN (heap_alloc_new w (.cells #[i64 0, i64 0, .string ⟨#[]⟩] 23)) (nq + 1)))))
      refine bodyPost_ret (v := .tuple #[frV b0.toNat b1.toNat (s.extract 4 (4 + n)), i64 n, i64 0]) (by simp [results, Try.results21, go_sem, d0, d1, d2]) rfl ?_
      refine hR.out _ _ ⟨rfl, ?_⟩
      (repeat' (first | (with_reducible exact Upd.refl _ _) | (with_reducible assumption) | (with_reducible apply Upd.drew) | (with_reducible apply Upd.drewN) | (with_reducible apply Upd.alloc) | (with_reducible refine Upd.setCell ?_ (by simp) _) | (with_reducible refine Upd.setCell ?_ (by simp; omega) _)))
  · have hk' := hkn.1 hk
    have k1 : (1 : Int) ≤ b0.toNat := by omega
    have k2 : (b0.toNat : Int) ≤ 9 := by omega
    have ex : tkErr s b0 b2 b3 = 3 := by unfold tkErr; rw [if_neg (by omega), hx]
    rw [ex, if_neg (by omega), if_neg (by omega)]
    clear ex hx hkn hk
    refine post fun R hR => ?_
    go_enter Try.func21, Try.ntmps21
    go_wp2_with fail
    go_quiet (fail)
    go_wp2_with fail
    refine bodyPost_ret (v := .tuple #[frV 0 0 ⟨#[]⟩, i64 (-1), i64 3]) (by simp [results, Try.results21, go_sem, *]) rfl ?_
    refine hR.out _ _ ?_
    refine ⟨rfl, ?_⟩
    (repeat' (first | (with_reducible exact Upd.refl _ _) | (with_reducible assumption) | (with_reducible apply Upd.drew) | (with_reducible apply Upd.drewN) | (with_reducible apply Upd.alloc) | (with_reducible refine Upd.setCell ?_ (by simp) _) | (with_reducible refine Upd.setCell ?_ (by simp; omega) _)))
  · have hk' : b0.toNat < 1 ∨ 9 < b0.toNat := by
      rw [hk] at hkn
      simp at hkn
      omega
    have ex : tkErr s b0 b2 b3 = 4 := by unfold tkErr; rw [if_neg (by omega), hx]
    rw [ex, if_neg (by omega), if_neg (by omega)]
    clear ex hx hkn hk
    rcases hk' with hk' | hk'
    all_goals
      refine post fun R hR => ?_
      go_enter Try.func21, Try.ntmps21
      go_wp2_with fail
      refine bodyPost_ret (v := .tuple #[frV 0 0 ⟨#[]⟩, i64 (-1), i64 4]) (by simp [results, Try.results21, go_sem, *]) rfl ?_
      refine hR.out _ _ ?_
      refine ⟨rfl, ?_⟩
      (repeat' (first | (with_reducible exact Upd.refl _ _) | (with_reducible assumption) | (with_reducible apply Upd.drew) | (with_reducible apply Upd.drewN) | (with_reducible apply Upd.alloc) | (with_reducible refine Upd.setCell ?_ (by simp) _) | (with_reducible refine Upd.setCell ?_ (by simp; omega) _)))

end Go.Proofs.Ytagadbgbicebaaa
