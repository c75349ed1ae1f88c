/-
  The contracts of the feed's other functions, and chapter 6's example. No condition.
-/
import Derived.Test.YtagadbgbicebaaaFeed
namespace Go.Proofs.Ytagadbgbicebaaa
open Go Go.RowKit

theorem pushNil_c (t : ByteArray) (w : World) : Calls Try.prog 26 #[.pointer none, .string t] w fun e w' => e = .returned (.slice none 0 0) ∧ w = w' := by
  refine post fun R hR => ?_
  go_enter Try.func26, Try.ntmps26
  go_wp2_with fail
  go_step3
  go_wp2_with fail
  (try simp only [Exit.jump])
  (try rw [Exit.noGoto_ret])
  (try go_returns)
  exact hR.out _ _ ⟨rfl, rfl⟩

theorem pushBad_c {w : World} {b off : Nat} {cs : Array Value} {ty : TypeId} {x : Int} (hb : w.heap[b]? = some (.cells cs ty (0, 0))) (h1 : cs[off + 1]? = some (i64 x)) (hx : x ≠ 0) (t : ByteArray) :
    Calls Try.prog 26 #[.pointer (some ⟨b, off, none⟩), .string t] w fun e w' => e = .returned (.slice none 0 0) ∧ w = w' := by
  have c1 := (cellOf hb (off + 1)).trans h1
  have q : (x != 0) = true := by simpa using hx
  clear hb h1 hx
  refine post fun R hR => ?_
  go_enter Try.func26, Try.ntmps26
  go_wp2_with fail
  go_step3
  go_wp2_with fail
  (try simp only [Exit.jump])
  (try rw [Exit.noGoto_ret])
  (try go_returns)
  exact hR.out _ _ ⟨rfl, rfl⟩

theorem fnew_c (w : World) : Calls Try.prog 25 #[] w fun e w' => e = .returned (.pointer (some ⟨w.heap.size, 0, none⟩)) ∧ Upd [] w w' ∧ w'.heap[w.heap.size]? = some (.cells #[.string ⟨#[]⟩, i64 0] 50 (0, 0)) := by
  refine post fun R hR => ?_
  go_enter Try.func25, Try.ntmps25
  go_wp2_with fail
  exact hR.out _ _ ⟨rfl, (Upd.refl _ _).alloc _, heap_alloc_new _ _⟩

theorem waits_c {w : World} {b off : Nat} {cs : Array Value} {ty : TypeId} {s : ByteArray} (hb : w.heap[b]? = some (.cells cs ty (0, 0))) (h0 : cs[off]? = some (.string s)) :
    Calls Try.prog 29 #[.pointer (some ⟨b, off, none⟩)] w fun e w' => e = .returned (i64 s.size) ∧ w = w' := by
  have c0 := (cellOf hb off).trans h0
  refine post fun R hR => ?_
  go_enter Try.func29, Try.ntmps29
  go_wp2_with fail
  exact hR.out _ _ ⟨rfl, rfl⟩
theorem waitsNil_c (w : World) : Calls Try.prog 29 #[.pointer none] w fun e w' => e = .returned (i64 0) ∧ w = w' := by
  refine post fun R hR => ?_
  go_enter Try.func29, Try.ntmps29
  go_wp2_with fail
  exact hR.out _ _ ⟨rfl, rfl⟩
theorem broken_c {w : World} {b off : Nat} {cs : Array Value} {ty : TypeId} {x : Int} (hb : w.heap[b]? = some (.cells cs ty (0, 0))) (h1 : cs[off + 1]? = some (i64 x)) :
    Calls Try.prog 30 #[.pointer (some ⟨b, off, none⟩)] w fun e w' => e = .returned (i64 x) ∧ w = w' := by
  have c1 := (cellOf hb (off + 1)).trans h1
  refine post fun R hR => ?_
  go_enter Try.func30, Try.ntmps30
  go_wp2_with fail
  exact hR.out _ _ ⟨rfl, rfl⟩
theorem brokenNil_c (w : World) : Calls Try.prog 30 #[.pointer none] w fun e w' => e = .returned (i64 0) ∧ w = w' := by
  refine post fun R hR => ?_
  go_enter Try.func30, Try.ntmps30
  go_wp2_with fail
  exact hR.out _ _ ⟨rfl, rfl⟩

set_option maxHeartbeats 1000000 in
theorem feedAwake_c (w : World) : Calls Try.prog 24 #[] w fun e w' => e = .returned (.bool true) ∧ Upd [] w w' := by
  refine post fun R hR => ?_
  go_enter Try.func24, Try.ntmps24
  go_wp2_with (fail)
  refine Calls.mono (fnew_c _) ?_
  rintro e w1 ⟨rfl, hu1, hh1⟩
  go_wp2_with fail
  refine Calls.mono (push_c hh1 rfl rfl ⟨#[5, 0]⟩ (by decide)) ?_
  rintro e w2 ⟨v2, rfl, ho2, hu2, hh2⟩
  rw [show allFr ((ByteArray.mk #[]).data.toList ++ (ByteArray.mk #[5, 0]).data.toList) = ⟨[], [5, 0], 0⟩ from rfl] at ho2 hh2
  obtain ⟨ao2, cap2, rfl, -⟩ := own_slice ho2
  replace hh2 : w2.heap[w.heap.size]? = some (.cells #[.string ⟨#[5, 0]⟩, i64 0] 50 (0, 0)) := hh2
  go_wp2_with fail
  refine Calls.mono (push_c hh2 rfl rfl ⟨#[0, 0, 5]⟩ (by decide)) ?_
  rintro e w3 ⟨v3, rfl, ho3, hu3, hh3⟩
  rw [show allFr ((ByteArray.mk #[5, 0]).data.toList ++ (ByteArray.mk #[0, 0, 5]).data.toList) = ⟨[⟨5, 0, []⟩], [5], 0⟩ from rfl] at ho3 hh3
  obtain ⟨ao3, cap3, rfl, h3⟩ := own_slice ho3
  obtain ⟨g, rfl, hg1, hg2, hc⟩ := h3 (by decide)
  have k0 : w3.cell? ⟨g, 0, none⟩ = some (i64 5) := hc 0 _ rfl
  replace hh3 : w3.heap[w.heap.size]? = some (.cells #[.string ⟨#[5]⟩, i64 0] 50 (0, 0)) := hh3
  clear h3 hc
  go_wp2_with fail
  refine Calls.mono (waits_c (s := ⟨#[5]⟩) hh3 rfl) ?_
  rintro e w4 ⟨rfl, rfl⟩
  go_wp2_with fail
  exact hR.out _ _ ⟨rfl, (hu1.trans hu2 (by simp)).trans hu3 (by simp)⟩
end Go.Proofs.Ytagadbgbicebaaa
