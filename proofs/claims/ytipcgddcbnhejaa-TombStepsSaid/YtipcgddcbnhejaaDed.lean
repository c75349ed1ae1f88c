/-
  The contracts of the cache of responses (dedup.Cache). Conditions: the cache is one that its own functions made.
-/
import Derived.Test.YtipcgddcbnhejaaProg
import Derived.Test.YtipcgddcbnhejaaSub
import Derived.Deep.RegionHeld3
import Derived.Outline
import Derived.Deep.RegionLaw
namespace Go.Proofs.Ytipcgddcbnhejaa
open Go Go.RowKit

structure Kp where
  id : Int
  s : ByteArray
def Kp.cells (k : Kp) : List Value := [.int .u64 k.id, .string k.s]
def kpCells (l : List Kp) : List Value := l.flatMap Kp.cells
theorem kpCells_len (l : List Kp) : (kpCells l).length = l.length * 2 := by
  induction l with
  | nil => rfl
  | cons x l ih =>
    have : kpCells (x :: l) = x.cells ++ kpCells l := rfl
    rw [this, List.length_append, ih]
    simp [Kp.cells]
    omega

def ccells (ring : List Kp) (next n : Nat) : Array Value := (kpCells ring ++ [i64 next, i64 n]).toArray

/-- the responses that are kept, in the order in which they came -/
def keptOf (ring : List Kp) (next n : Nat) : List Kp := ((ring.take n ++ ring.take n).drop (if n = 8 then next else 0)).take n

theorem kp8 {ring : List Kp} (h : ring.length = 8) : ∃ a b c d e f g i, ring = [a, b, c, d, e, f, g, i] := by
  match ring, h with
  | [a, b, c, d, e, f, g, i], _ => exact ⟨a, b, c, d, e, f, g, i, rfl⟩

theorem cc16 {ring : List Kp} {next n : Nat} (h : ring.length = 8) : (ccells ring next n)[16]? = some (i64 next) := by
  obtain ⟨a, b, c, d, e, f, g, i, rfl⟩ := kp8 h; rfl
theorem cc17 {ring : List Kp} {next n : Nat} (h : ring.length = 8) : (ccells ring next n)[17]? = some (i64 n) := by
  obtain ⟨a, b, c, d, e, f, g, i, rfl⟩ := kp8 h; rfl
theorem ccring {ring : List Kp} {next n : Nat} (h : ring.length = 8) {j : Nat} (hj : j < 16) : (ccells ring next n)[j]? = (kpCells ring)[j]? := by
  unfold ccells
  rw [List.getElem?_toArray, List.getElem?_append_left (by rw [kpCells_len]; omega)]
theorem kpCells_take (ring : List Kp) (n : Nat) : kpCells (ring.take n) = (kpCells ring).take (n * 2) := by
  induction ring generalizing n with
  | nil => simp [kpCells]
  | cons x r ih =>
    cases n with
    | zero => simp [kpCells]
    | succ n =>
      have e1 : kpCells (x :: r) = .int .u64 x.id :: .string x.s :: kpCells r := rfl
      have e2 : kpCells (x :: r.take n) = .int .u64 x.id :: .string x.s :: kpCells (r.take n) := rfl
      rw [List.take_succ_cons, e1, e2, ih, show (n + 1) * 2 = n * 2 + 1 + 1 by omega, List.take_succ_cons, List.take_succ_cons]
theorem kpCells_drop (ring : List Kp) (n : Nat) : kpCells (ring.drop n) = (kpCells ring).drop (n * 2) := by
  induction ring generalizing n with
  | nil => simp [kpCells]
  | cons x r ih =>
    cases n with
    | zero => simp
    | succ n =>
      have e1 : kpCells (x :: r) = .int .u64 x.id :: .string x.s :: kpCells r := rfl
      rw [List.drop_succ_cons, e1, ih, show (n + 1) * 2 = n * 2 + 1 + 1 by omega, List.drop_succ_cons, List.drop_succ_cons]
theorem kpCells_append (a b : List Kp) : kpCells (a ++ b) = kpCells a ++ kpCells b := by simp [kpCells]

theorem info_kept : (Try.prog.info? 29).map (fun i => (i.zero, i.size, i.bytes)) = some (some (.agg #[.int .u64 0, .string ⟨#[]⟩]), 2, 24) := by kernel_rfl

theorem run_ring_h {b n : Nat} (hn : n ≤ 8) (w : World) : (Instr.sliceAt 30 (.pointer (some ⟨b, 0, none⟩)) none (some (i64 n)) none).run Try.prog w = .ok (.slice (some ⟨b, 0, none⟩) n 8) w := by
  have ht : Try.prog.underlying 30 = some (.array 8 29) := Try.underlying30
  obtain ⟨i0, hi, hz0, hz1, hz2⟩ := info_parts info_kept
  simp [Instr.sliceAt, Instr.sureAddr, run_underlying ht, Instr.sliceBounds, Addr.add, sizeOf, typeInfo, hi, Instr.sliceBound, asIntOf, hn, go_sem]
theorem run_ring_hm {b n : Nat} (hn : n ≤ 8) (w : World) : (Instr.sliceAt 30 (.pointer (some ⟨b, 0, none⟩)) none (some (i64 n)) (some (i64 n))).run Try.prog w = .ok (.slice (some ⟨b, 0, none⟩) n n) w := by
  have ht : Try.prog.underlying 30 = some (.array 8 29) := Try.underlying30
  obtain ⟨i0, hi, hz0, hz1, hz2⟩ := info_parts info_kept
  simp [Instr.sliceAt, Instr.sureAddr, run_underlying ht, Instr.sliceBounds, Addr.add, sizeOf, typeInfo, hi, Instr.sliceBound, asIntOf, hn, go_sem]

theorem keptOf_cells (ring : List Kp) (next n : Nat) : kpCells (keptOf ring next n) = (((kpCells ring).take (n * 2) ++ (kpCells ring).take (n * 2)).drop ((if n = 8 then next else 0) * 2)).take (n * 2) := by
  unfold keptOf
  rw [kpCells_take, kpCells_drop, kpCells_append, kpCells_take]
theorem keptOf_len {ring : List Kp} {next n : Nat} (hr : ring.length = 8) (hn : n ≤ 8) (hx : next < 8) : (keptOf ring next n).length = n := by
  unfold keptOf
  simp only [List.length_take, List.length_drop, List.length_append, hr]
  split <;> omega

/-- what a list of responses that is handed back reads as -/
def KpOut (w w' : World) (v : Value) (l : List Kp) : Prop := ∃ ao cap, v = .slice ao l.length cap ∧ (0 < l.length → ∃ g off, ao = some ⟨g, off, none⟩ ∧ w.heap.size ≤ g ∧ g < w'.heap.size ∧ ∀ j u, (kpCells l)[j]? = some u → w'.cell? ⟨g, off + j, none⟩ = some u)

set_option maxHeartbeats 1000000 in
theorem all_c {w : World} {b : Nat} {ring : List Kp} {next n : Nat} (hb : w.heap[b]? = some (.cells (ccells ring next n) 32 (0, 0))) (hr : ring.length = 8) (hn : n ≤ 8) (hx : next < 8) :
    Calls Try.prog 26 #[.pointer (some ⟨b, 0, none⟩)] w fun e w' => ∃ v, e = .returned v ∧ KpOut w w' v (keptOf ring next n) ∧ Upd [] w w' := by
  have c16 := (cellOf hb 16).trans (cc16 hr)
  have c17 := (cellOf hb 17).trans (cc17 hr)
  by_cases h0 : n = 0
  · subst h0
    obtain ⟨i0, hi, hz0, hz1, hz2⟩ := info_parts info_kept
    have hs1 : ∀ wx, (Instr.sliceAt 30 (.pointer (some ⟨b, 0, none⟩)) none (some (i64 (0 : Nat))) (some (i64 (0 : Nat)))).run Try.prog wx = .ok (.slice (some ⟨b, 0, none⟩) 0 0) wx := fun wx => run_ring_hm (n := 0) (by omega) wx
    have hs2 : ∀ wx, (Instr.sliceAt 30 (.pointer (some ⟨b, 0, none⟩)) none (some (i64 (0 : Nat))) none).run Try.prog wx = .ok (.slice (some ⟨b, 0, none⟩) 0 8) wx := fun wx => run_ring_h (n := 0) (by omega) wx
    have hrun : (Builtin.append_ #[60, 60] 60 #[.slice (some ⟨b, 0, none⟩) 0 0, .slice (some ⟨b, 0, none⟩) 0 8]).run Try.prog w.drew = .ok (.slice (some ⟨b, 0, none⟩) 0 0) w.drew := by
      have := run_append_room_cells (P := Try.prog) w.drew 60 60 29 i0 Try.underlying60 hi b 0 0 0 ⟨b, 0, none⟩ 0 8 [] (by simp) (by simp) (by simp) (by simp) (by simp) (by simp)
      exact this
    have e0 : ((0 : Nat) : Int) = 0 := rfl
    rw [e0] at c17
    have hs1' : ∀ wx, (Instr.sliceAt 30 (.pointer (some ⟨b, 0, none⟩)) none (some (i64 0)) (some (i64 0))).run Try.prog wx = .ok (.slice (some ⟨b, 0, none⟩) 0 0) wx := hs1
    have hs2' : ∀ wx, (Instr.sliceAt 30 (.pointer (some ⟨b, 0, none⟩)) none (some (i64 0)) none).run Try.prog wx = .ok (.slice (some ⟨b, 0, none⟩) 0 8) wx := hs2
    clear hs1 hs2 e0 hi hz0 hz1 hz2
    refine post fun R hR => ?_
    go_enter Try.func26, Try.ntmps26
    go_wp2_with fail
    go_region_law ((refine step_plain rfl (wp_append_run _ _ _ rfl rfl rfl hrun ?_)))
    all_goals
      go_wp2_with fail
      exact hR.out _ _ ⟨_, rfl, ⟨_, _, rfl, fun h => by simp [keptOf] at h⟩, (Upd.refl _ _).drew⟩
  · obtain ⟨i0, hi, hz0, hz1, hz2⟩ := info_parts info_kept
    have hcell : ∀ j u, ((kpCells ring).take (n * 2))[j]? = some u → w.drew.cell? ((⟨b, 0, none⟩ : Addr).add j) = some u := by
      intro j u hj
      rw [List.getElem?_take] at hj
      split at hj
      · rw [Addr.add_lit, Nat.zero_add]
        exact (cellOf (heap_drew hb) j).trans ((ccring hr (by omega)).trans hj)
      · cases hj
    have hlen : ((kpCells ring).take (n * 2)).length = n * 2 := by rw [List.length_take, kpCells_len]; omega
    obtain ⟨v', w2, hrun, hown, hgr⟩ := run_append_arg_grows (P := Try.prog) (w := w.drew) 60 60 29 i0 _ 2 24 Try.underlying60 hi hz0 hz1 hz2 rfl (by decide) ⟨b, 0, none⟩ n n ((kpCells ring).take (n * 2)) hlen hcell ⟨b, 0, none⟩ n 8 ((kpCells ring).take (n * 2)) hlen hcell (by omega) (by unfold maxLen; omega) (by omega)
    clear hcell hlen
    have hs1 : ∀ wx, (Instr.sliceAt 30 (.pointer (some ⟨b, 0, none⟩)) none (some (i64 n)) (some (i64 n))).run Try.prog wx = .ok (.slice (some ⟨b, 0, none⟩) n n) wx := fun wx => run_ring_hm hn wx
    have hs2 : ∀ wx, (Instr.sliceAt 30 (.pointer (some ⟨b, 0, none⟩)) none (some (i64 n)) none).run Try.prog wx = .ok (.slice (some ⟨b, 0, none⟩) n 8) wx := fun wx => run_ring_h hn wx
    obtain ⟨ao, cap, rfl, -, hrow⟩ := (sub_of_own hown).form
    obtain ⟨g, off, rfl, hg, hgl, hcs⟩ := hrow (by omega)
    clear hrow
    refine post fun R hR => ?_
    go_enter Try.func26, Try.ntmps26
    go_wp2_with fail
    go_region_law ((refine step_plain rfl (wp_append_run _ _ _ rfl rfl rfl hrun ?_)))
    all_goals
      have hb2 := (Upd.of_grown (S := []) hgr (by simp)).keep0 (heap_drew hb)
      have hu2 : Upd [] w w2 := (Upd.refl _ _).drew.trans' (Upd.of_grown hgr (by simp))
      have d16 := (cellOf hb2 16).trans (cc16 hr)
      have d17 := (cellOf hb2 17).trans (cc17 hr)
      have hcap : n + n ≤ cap := by
        obtain ⟨ao, cap', h1, h2, -⟩ := (sub_of_own hown).form
        injection h1 with _ _ h1
        omega
      have hkl := keptOf_len hr hn hx
      have HKL := Lib.hid hkl
      have HCS := Lib.hid hcs
      have hsz : w.heap.size ≤ g := hg
      clear hcs hown hrun hgr hs1 hs2 hi hz0 hz1 hz2 c16 c17 hb2 hg hkl
      by_cases h8 : n = 8
      · subst h8
        go_wp2_with fail
        refine hR.out _ _ ⟨_, rfl, ⟨_, _, (by rw [HKL.out]; first | rfl | (rw [Nat.add_sub_cancel_left]; rfl)), fun _ => ⟨g, _, rfl, hsz, hgl, fun j u hj => ?_⟩⟩, hu2⟩
        rw [keptOf_cells, if_pos rfl, List.getElem?_take] at hj
        split at hj
        · rw [List.getElem?_drop] at hj
          rw [Nat.add_assoc]
          exact HCS.out _ _ hj
        · cases hj
      · have h8' : ((n : Int) == 8) = false := by
          have : (n : Int) ≠ 8 := by omega
          simpa using this
        have H8 := Lib.hid h8
        clear h8
        go_wp2_with fail
        refine hR.out _ _ ⟨_, rfl, ⟨_, _, (by rw [HKL.out]; first | rfl | (rw [Nat.add_sub_cancel_left]; rfl)), fun _ => ⟨g, _, rfl, hsz, hgl, fun j u hj => ?_⟩⟩, hu2⟩
        rw [keptOf_cells, if_neg H8.out, List.getElem?_take] at hj
        split at hj
        · rw [List.getElem?_drop, Nat.zero_mul, Nat.zero_add] at hj
          exact HCS.out _ _ hj
        · cases hj
end Go.Proofs.Ytipcgddcbnhejaa
