/-
  The contracts of the functions that make a frame's bytes (package frame, and the document's answer of chapter 5). Conditions: lengths within the machine's bounds.
-/
import Derived.Test.YtagadbgbicebaaaFrm
import Derived.Deep.RegionHeld3
namespace Go.Proofs.Ytagadbgbicebaaa
open Go Go.RowKit

/-! Put. -/

theorem byte_c (n : Int) (w : World) (h : 0 ≤ n ∧ n ≤ 255) :
    Calls Try.prog 51 #[i64 n] w fun e w' => e = .returned (.string ⟨#[UInt8.ofNat n.toNat]⟩) ∧ Upd [] w w' := by
  have hcv : ∀ m, (convert 81 9 (.slice (some ⟨w.heap.size, 0, none⟩) 1 1)).run Try.prog ((w.alloc (.cells #[.int .u8 n] 5)).drewN m) = .ok (.string ⟨#[UInt8.ofNat n.toNat]⟩) ((w.alloc (.cells #[.int .u8 n] 5)).drewN m) := fun m =>
    run_convert_bytes_arg ((w.alloc (.cells #[.int .u8 n] 5)).drewN m) 81 5 Try.underlying81 Try.underlying5 w.heap.size 0 1 1 [n] rfl (fun i hi => by
      obtain rfl : i = 0 := by omega
      exact cellOf (heap_alloc_new w _) 0) 9 Try.underlying9
  have hcv0 := hcv 0
  simp only [World.drewN_zero] at hcv0
  clear hcv
  refine post fun R hR => ?_
  go_enter Try.func51, Try.ntmps51
  go_wp2_with fail
  exact hR.out _ _ ⟨rfl, by (repeat' (first | (with_reducible exact Upd.refl _ _) | (with_reducible assumption) | (with_reducible apply Upd.drew) | (with_reducible apply Upd.drewN) | (with_reducible apply Upd.alloc) | (with_reducible refine Upd.setCell ?_ (by simp) _) | (with_reducible refine Upd.setCell ?_ (by simp; omega) _)))⟩

/-- why a frame has no bytes -/
def ptErr (k f : Int) (n : Nat) : Int := if knownB k then (if f < 0 ∨ 255 < f then 1 else if 1024 < n then 3 else 0) else 4

set_option maxHeartbeats 400000 in
theorem put_c (k f : Int) (s : ByteArray) (w : World) (hm : s.size ≤ maxLen) :
    Calls Try.prog 13 #[frV k f s] w fun e w' => e = .returned (.tuple (if ptErr k f s.size = 0 then
      #[.string ⟨#[UInt8.ofNat k.toNat, UInt8.ofNat f.toNat, UInt8.ofNat (s.size / 256), UInt8.ofNat (s.size % 256)] ++ s.data⟩, i64 0] else #[.string ⟨#[]⟩, i64 (ptErr k f s.size)])) ∧ Upd [] w w' := by
  unfold maxLen at hm
  unfold frV
  cases hk : knownB k with
  | false =>
    have ex : ptErr k f s.size = 4 := by unfold ptErr; rw [hk]; rfl
    rw [ex, if_neg (by omega)]
    clear ex
    refine post fun R hR => ?_
    go_enter Try.func13, Try.ntmps13
    go_wp2_with (go_at_call 50; refine (known_c _ _).mono ?_; rintro e w' ⟨rfl, rfl⟩)
    (try go_returns)
    refine hR.out _ _ ⟨rfl, ?_⟩
    (repeat' (first | (with_reducible exact Upd.refl _ _) | (with_reducible assumption) | (with_reducible apply Upd.drew) | (with_reducible apply Upd.drewN) | (with_reducible apply Upd.alloc) | (with_reducible refine Upd.setCell ?_ (by simp) _) | (with_reducible refine Upd.setCell ?_ (by simp; omega) _)))
  | true =>
    by_cases hf : f < 0 ∨ 255 < f
    · have ex : ptErr k f s.size = 1 := by unfold ptErr; rw [hk, if_pos rfl, if_pos hf]
      rw [ex, if_neg (by omega)]
      clear ex
      rcases hf with hf | hf
      all_goals
        refine post fun R hR => ?_
        go_enter Try.func13, Try.ntmps13
        go_wp2_with (go_at_call 50; refine (known_c _ _).mono ?_; rintro e w' ⟨rfl, rfl⟩)
        (try go_returns)
        refine hR.out _ _ ⟨rfl, ?_⟩
        (repeat' (first | (with_reducible exact Upd.refl _ _) | (with_reducible assumption) | (with_reducible apply Upd.drew) | (with_reducible apply Upd.drewN) | (with_reducible apply Upd.alloc) | (with_reducible refine Upd.setCell ?_ (by simp) _) | (with_reducible refine Upd.setCell ?_ (by simp; omega) _)))
    · have f0 : 0 ≤ f := by omega
      have f1 : f ≤ 255 := by omega
      by_cases hn : 1024 < s.size
      · have ex : ptErr k f s.size = 3 := by unfold ptErr; rw [hk, if_pos rfl, if_neg hf, if_pos hn]
        rw [ex, if_neg (by omega)]
        clear ex hf
        refine post fun R hR => ?_
        go_enter Try.func13, Try.ntmps13
        go_wp2_with (go_at_call 50; refine (known_c _ _).mono ?_; rintro e w' ⟨rfl, rfl⟩)
        (try go_returns)
        refine hR.out _ _ ⟨rfl, ?_⟩
        (repeat' (first | (with_reducible exact Upd.refl _ _) | (with_reducible assumption) | (with_reducible apply Upd.drew) | (with_reducible apply Upd.drewN) | (with_reducible apply Upd.alloc) | (with_reducible refine Upd.setCell ?_ (by simp) _) | (with_reducible refine Upd.setCell ?_ (by simp; omega) _)))
      · have ex : ptErr k f s.size = 0 := by unfold ptErr; rw [hk, if_pos rfl, if_neg hf, if_neg hn]
        rw [ex, if_pos rfl]
        have hk2 : 1 ≤ k ∧ k ≤ 9 := by simpa [knownB] using hk
        clear ex hf
        have hcv : ∀ m, (convert 81 9 (.slice (some ⟨w.heap.size + 1, 0, none⟩) 4 4)).run Try.prog (((w.alloc (.cells #[i64 k, i64 f, .string s] 23)).alloc
              (.cells #[.int .u8 k, .int .u8 f, .int .u8 ((s.size : Int) / 256), .int .u8 ((s.size : Int) % 256)] 80)).drewN m) =
            .ok (.string ⟨#[UInt8.ofNat k.toNat, UInt8.ofNat f.toNat, UInt8.ofNat (s.size / 256), UInt8.ofNat (s.size % 256)]⟩) (((w.alloc (.cells #[i64 k, i64 f, .string s] 23)).alloc
              (.cells #[.int .u8 k, .int .u8 f, .int .u8 ((s.size : Int) / 256), .int .u8 ((s.size : Int) % 256)] 80)).drewN m) := fun m => by
          have hb := heap_drewN (heap_new2 w (.cells #[i64 k, i64 f, .string s] 23) (.cells #[.int .u8 k, .int .u8 f, .int .u8 ((s.size : Int) / 256), .int .u8 ((s.size : Int) % 256)] 80)) m
          exact run_convert_bytes_arg _ 81 5 Try.underlying81 Try.underlying5 (w.heap.size + 1) 0 4 4 [k, f, (s.size : Int) / 256, (s.size : Int) % 256] rfl (fun i hi => by
            match i, hi with
            | 0, _ => exact cellOf hb 0
            | 1, _ => exact cellOf hb 1
            | 2, _ => exact cellOf hb 2
            | 3, _ => exact cellOf hb 3) 9 Try.underlying9
        have hadd : (⟨#[UInt8.ofNat k.toNat, UInt8.ofNat f.toNat, UInt8.ofNat (s.size / 256), UInt8.ofNat (s.size % 256)]⟩ : ByteArray) ++ s = ⟨#[UInt8.ofNat k.toNat, UInt8.ofNat f.toNat, UInt8.ofNat (s.size / 256), UInt8.ofNat (s.size % 256)] ++ s.data⟩ := by
          apply ByteArray.ext; simp
        have HA := Lib.hid hadd
        clear hadd
        refine post fun R hR => ?_
        go_enter Try.func13, Try.ntmps13
        go_wp2_with (go_at_call 50; refine (known_c _ _).mono ?_; rintro e w' ⟨rfl, rfl⟩)
        go_quiet (fail)
        go_wp2_with fail
        refine hR.out _ _ ⟨?_, by (repeat' (first | (with_reducible exact Upd.refl _ _) | (with_reducible assumption) | (with_reducible apply Upd.drew) | (with_reducible apply Upd.drewN) | (with_reducible apply Upd.alloc) | (with_reducible refine Upd.setCell ?_ (by simp) _) | (with_reducible refine Upd.setCell ?_ (by simp; omega) _)))⟩
        rw [← HA.out]; rfl

theorem cells3a {w : World} {b : Nat} {t : TypeId} {v0 v1 v2 : Value} (h : w.heap[b]? = some (.cells #[v0, v1, v2] t (0, 0))) : w.cell? ⟨b, 0, none⟩ = some v0 ∧ w.cell? ⟨b, 1, none⟩ = some v1 ∧ w.cell? ⟨b, 2, none⟩ = some v2 :=
  ⟨cellOf h 0, cellOf h 1, cellOf h 2⟩

set_option maxHeartbeats 1000000 in
theorem rput_c (k f : Int) (s : ByteArray) (w : World) (hm : s.size ≤ maxLen) :
    Calls Try.prog 14 #[frV k f s] w fun e w' => e = .returned (.tuple (if ptErr k f s.size = 0 then
      #[.string ⟨#[UInt8.ofNat k.toNat, UInt8.ofNat f.toNat, UInt8.ofNat (s.size / 256), UInt8.ofNat (s.size % 256)] ++ s.data⟩, i64 0] else #[.string ⟨#[]⟩, i64 (ptErr k f s.size)])) ∧ Upd [] w w' := by
  unfold maxLen at hm
  unfold frV
  have hkn : knownB k = true ↔ 1 ≤ k ∧ k ≤ 9 := by simp [knownB]
  cases hk : knownB k with
  | false =>
    have ex : ptErr k f s.size = 4 := by unfold ptErr; rw [hk]; rfl
    rw [ex, if_neg (by omega)]
    have hk' : k < 1 ∨ 9 < k := by rw [hk] at hkn; simp at hkn; omega
    clear ex hkn hk
    rcases hk' with hk' | hk'
    all_goals
      refine post fun R hR => ?_
      go_enter Try.func14, Try.ntmps14
      go_wp2_with fail
      (try go_returns)
      refine hR.out _ _ ⟨rfl, ?_⟩
      (repeat' (first | (with_reducible exact Upd.refl _ _) | (with_reducible assumption) | (with_reducible apply Upd.drew) | (with_reducible apply Upd.drewN) | (with_reducible apply Upd.alloc) | (with_reducible refine Upd.setCell ?_ (by simp) _) | (with_reducible refine Upd.setCell ?_ (by simp; omega) _)))
  | true =>
    have hk2 := hkn.1 hk
    by_cases hf : f < 0 ∨ 255 < f
    · have ex : ptErr k f s.size = 1 := by unfold ptErr; rw [hk, if_pos rfl, if_pos hf]
      rw [ex, if_neg (by omega)]
      clear ex hkn hk
      rcases hf with hf | hf
      all_goals
        refine post fun R hR => ?_
        go_enter Try.func14, Try.ntmps14
        go_wp2_with fail
        (try go_returns)
        refine hR.out _ _ ⟨rfl, ?_⟩
        (repeat' (first | (with_reducible exact Upd.refl _ _) | (with_reducible assumption) | (with_reducible apply Upd.drew) | (with_reducible apply Upd.drewN) | (with_reducible apply Upd.alloc) | (with_reducible refine Upd.setCell ?_ (by simp) _) | (with_reducible refine Upd.setCell ?_ (by simp; omega) _)))
    · have f0 : 0 ≤ f := by omega
      have f1 : f ≤ 255 := by omega
      by_cases hn : 1024 < s.size
      · have ex : ptErr k f s.size = 3 := by unfold ptErr; rw [hk, if_pos rfl, if_neg hf, if_pos hn]
        rw [ex, if_neg (by omega)]
        clear ex hf hkn hk
        refine post fun R hR => ?_
        go_enter Try.func14, Try.ntmps14
        go_wp2_with fail
        (try go_returns)
        refine hR.out _ _ ⟨rfl, ?_⟩
        (repeat' (first | (with_reducible exact Upd.refl _ _) | (with_reducible assumption) | (with_reducible apply Upd.drew) | (with_reducible apply Upd.drewN) | (with_reducible apply Upd.alloc) | (with_reducible refine Upd.setCell ?_ (by simp) _) | (with_reducible refine Upd.setCell ?_ (by simp; omega) _)))
      · have ex : ptErr k f s.size = 0 := by unfold ptErr; rw [hk, if_pos rfl, if_neg hf, if_neg hn]
        rw [ex, if_pos rfl]
        clear ex hf hkn hk
        have hb0 := heap_alloc_new w (.cells #[i64 k, i64 f, .string s] 23)
        have k0 := cells3a (heap_drew hb0)
        refine post fun R hR => ?_
        go_enter Try.func14, Try.ntmps14
        go_wp2_with fail
        have p1 : 0 ≤ k ∧ k ≤ 255 := by omega
        have p2 : 0 ≤ f ∧ f ≤ 255 := by omega
        have p3 : 0 ≤ (s.size : Int) / 256 ∧ (s.size : Int) / 256 ≤ 255 := by omega
        have p4 : 0 ≤ (s.size : Int) % 256 ∧ (s.size : Int) % 256 ≤ 255 := by omega
        have q5 : 4 + s.size ≤ 9223372036854775807 := by omega
        have q6 : ¬ 9223372036854775807 < 4 + s.size := by omega
        have q1 : IntKind.i64.wrap ((s.size : Int) / 256) = (s.size : Int) / 256 := IntWalk.i64_in _ (by omega)
        have q2 : (s.size : Int).tmod 256 = (s.size : Int) % 256 := Int.tmod_eq_emod_of_nonneg (by omega)
        have q3 : IntKind.i64.wrap ((s.size : Int) % 256) = (s.size : Int) % 256 := IntWalk.i64_in _ (by omega)
        go_region_held3 (fun w' => w'.cell? ⟨w.heap.size, 0, none⟩ = some (i64 k) ∧ w'.cell? ⟨w.heap.size, 1, none⟩ = some (i64 f) ∧ w'.cell? ⟨w.heap.size, 2, none⟩ = some (.string s))
          ((first | (with_reducible exact k0) | (with_reducible exact k1) | (with_reducible exact k2) | (with_reducible exact k3) | (with_reducible exact k4)))
          ((first
            | (go_at_call 51; (with_reducible refine Calls.mono (byte_c k _ p1) ?_); rintro e w1 ⟨rfl, hu1⟩; have hb1 := hu1.keep0 hb0; have k1 := cells3a hb1)
            | (go_at_call 51; (with_reducible refine Calls.mono (byte_c f _ p2) ?_); rintro e w2 ⟨rfl, hu2⟩; have hb2 := hu2.keep0 hb1; have k2 := cells3a hb2)
            | (go_at_call 51; (with_reducible refine Calls.mono (byte_c ((s.size : Int) / 256) _ p3) ?_); rintro e w3 ⟨rfl, hu3⟩; have hb3 := hu3.keep0 hb2; have k3 := cells3a hb3)
            | (go_at_call 51; (with_reducible refine Calls.mono (byte_c ((s.size : Int) % 256) _ p4) ?_); rintro e w4 ⟨rfl, hu4⟩; have hb4 := hu4.keep0 hb3; have k4 := cells3a hb4)))
        all_goals go_wp2_with fail
        refine hR.out _ _ ⟨?_, ((((Upd.refl [] w).alloc _).drew.trans' hu1).trans' hu2).trans' (hu3.trans' hu4)⟩
        have e : ∀ a b c d : UInt8, (⟨#[a]⟩ ++ ⟨#[b]⟩ ++ ⟨#[c]⟩ ++ ⟨#[d]⟩ ++ s : ByteArray) = ⟨#[a, b, c, d] ++ s.data⟩ := fun a b c d => by
          apply ByteArray.ext; simp
        exact congrArg (fun x : ByteArray => Ending.returned (.tuple #[.string x, i64 0])) (e _ _ _ _)
/-- a frame's bytes -/
def ptStr (k f : Int) (s : ByteArray) : ByteArray :=
  if ptErr k f s.size = 0 then ⟨#[UInt8.ofNat k.toNat, UInt8.ofNat f.toNat, UInt8.ofNat (s.size / 256), UInt8.ofNat (s.size % 256)] ++ s.data⟩ else ⟨#[]⟩
theorem put2_c (k f : Int) (s : ByteArray) (w : World) (hm : s.size ≤ maxLen) :
    Calls Try.prog 13 #[frV k f s] w fun e w' => e = .returned (.tuple #[.string (ptStr k f s), i64 (ptErr k f s.size)]) ∧ Upd [] w w' :=
  (put_c k f s w hm).mono fun _ _ ⟨h1, h2⟩ => ⟨h1.trans (by unfold ptStr; split <;> simp_all), h2⟩
theorem rput2_c (k f : Int) (s : ByteArray) (w : World) (hm : s.size ≤ maxLen) :
    Calls Try.prog 14 #[frV k f s] w fun e w' => e = .returned (.tuple #[.string (ptStr k f s), i64 (ptErr k f s.size)]) ∧ Upd [] w w' :=
  (rput_c k f s w hm).mono fun _ _ ⟨h1, h2⟩ => ⟨h1.trans (by unfold ptStr; split <;> simp_all), h2⟩

theorem fawake_c (w : World) : Calls Try.prog 19 #[] w fun e w' => e = .returned (.bool true) ∧ Upd [] w w' := by
  have e1 : ptStr 5 0 ⟨#[]⟩ = ⟨#[5, 0, 0, 0]⟩ := by decide +kernel
  have e2 : ptErr 5 0 0 = 0 := by decide
  have hp := fun w => put2_c 5 0 ⟨#[]⟩ w (by decide)
  rw [e1, show (ByteArray.mk #[]).size = 0 from rfl, e2] at hp
  have HP := Lib.hid hp
  clear hp e1 e2
  refine post fun R hR => ?_
  go_enter Try.func19, Try.ntmps19
  go_wp2_with (fail)
  refine Calls.mono (HP.out _) ?_
  rintro e w1 ⟨rfl, hu1⟩
  go_wp2_with fail
  exact hR.out _ _ ⟨rfl, hu1⟩

end Go.Proofs.Ytagadbgbicebaaa
