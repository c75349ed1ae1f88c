/-
  The contracts of the cache's Get, Put, Len and Ids. Conditions: the cache is one that its own functions made.
-/
import Derived.Test.YtipcgddcbnhejaaDed
import Derived.Deep.DeepCutAuto
namespace Go.Proofs.Ytipcgddcbnhejaa
open Go Go.RowKit

/-- the first response of an id -/
def kpIx (l : List Kp) (id : Int) : Nat := l.findIdx (fun k => decide (k.id = id))
def kgB (l : List Kp) (id : Int) : Bool := decide (kpIx l id < l.length)
def kgS (l : List Kp) (id : Int) : ByteArray := ((l[kpIx l id]?).map Kp.s).getD ⟨#[]⟩

theorem kpIx_hit {l : List Kp} {id : Int} {k : Nat} (hk : k < l.length) (h : l[k].id = id) (hn : ∀ j, j < k → ∀ h : j < l.length, l[j].id ≠ id) : kpIx l id = k := by
  unfold kpIx
  rw [List.findIdx_eq hk]
  exact ⟨by simpa using h, fun j hj => by simpa using hn j hj (by omega)⟩
theorem kpIx_miss {l : List Kp} {id : Int} (hn : ∀ j (h : j < l.length), l[j].id ≠ id) : kpIx l id = l.length := by
  unfold kpIx
  rw [List.findIdx_eq_length]
  intro x hx
  obtain ⟨i, hi, rfl⟩ := List.getElem_of_mem hx
  simpa using hn i hi

theorem kpCells_get {l : List Kp} {k : Nat} (hk : k < l.length) : (kpCells l)[k * 2]? = some (.int .u64 l[k].id) ∧ (kpCells l)[k * 2 + 1]? = some (.string l[k].s) := by
  induction l generalizing k with
  | nil => simp at hk
  | cons x r ih =>
    have e1 : kpCells (x :: r) = .int .u64 x.id :: .string x.s :: kpCells r := rfl
    cases k with
    | zero => rw [e1]; exact ⟨rfl, rfl⟩
    | succ k =>
      have := ih (k := k) (by simpa using hk)
      rw [e1, show (k + 1) * 2 = k * 2 + 1 + 1 by omega]
      exact this

set_option maxRecDepth 100000 in
set_option maxHeartbeats 1000000 in
theorem get_c {w : World} {b : Nat} {ring : List Kp} {next n : Nat} (hb : w.heap[b]? = some (.cells (ccells ring next n) 32 (0, 0))) (hr : ring.length = 8) (hn : n ≤ 8) (hx : next < 8) (id : Int) :
    Calls Try.prog 10 #[.pointer (some ⟨b, 0, none⟩), .int .u64 id] w fun e w' => e = .returned (.tuple #[.string (kgS (keptOf ring next n) id), .bool (kgB (keptOf ring next n) id)]) ∧ Upd [] w w' := by
  have hall := all_c hb hr hn hx
  have hlen := keptOf_len hr hn hx
  generalize keptOf ring next n = l at *
  have HALL := Lib.hid hall
  have HLEN := Lib.hid hlen
  clear hall hlen
  refine post fun R hR => ?_
  go_enter Try.func10, Try.ntmps10
  go_wp2_with fail
  refine HALL.out.mono ?_
  rintro e w1 ⟨v, rfl, ⟨ao, cap, rfl, hrow⟩, hu⟩
  go_wp2_with fail
  by_cases h0 : 0 < l.length
  · obtain ⟨g, off, rfl, hg, hgl, hcs⟩ := hrow h0
    have HCS := Lib.hid hcs
    have hll : l.length ≤ 8 := by have := HLEN.out; omega
    clear hcs hrow
    go_loopw [11] (fun i wr => ∃ k : Nat, i = i64 k ∧ k ≤ l.length ∧ (∀ j, j < k → ∀ h : j < l.length, l[j].id ≠ id) ∧ Upd [] w1 wr) (fun i _ => l.length - (intOf i).toNat)
    case atStart => exact ⟨0, rfl, Nat.zero_le _, fun j hj => by omega, Upd.refl _ _⟩
    case round =>
      obtain ⟨k, rfl, hk, hno, hur⟩ := hrel
      have HNO := Lib.hid hno
      clear hno
      by_cases hlt : k < l.length
      · obtain ⟨e1, e2⟩ := kpCells_get hlt
        have c1 := (World.cell?_of_block (a := ⟨g, off + k * 2, none⟩) (hur.block g hgl (by simp))).trans (HCS.out _ _ e1)
        have c2 := (World.cell?_of_block (a := ⟨g, off + k * 2 + 1, none⟩) (hur.block g hgl (by simp))).trans (HCS.out _ _ e2)
        clear e1 e2
        by_cases he : l[k].id = id
        · have hf := kpIx_hit hlt he HNO.out
          have hf1 : kgS l id = l[k].s := by unfold kgS; rw [hf, List.getElem?_eq_getElem hlt]; rfl
          have hf2 : kgB l id = true := by unfold kgB; rw [hf]; simpa using hlt
          rw [he] at c1
          have HF1 := Lib.hid hf1
          have HF2 := Lib.hid hf2
          clear hf hf1 hf2 he
          go_wp2_with (fail)
          exact hR.out _ _ ⟨by rw [HF1.out, HF2.out]; rfl, hu.trans' (hur.alloc _)⟩
        · have hq : (l[k].id == id) = false := by simpa using he
          have HE := Lib.hid he
          clear he
          generalize hid : l[k].id = ix at c1 hq
          generalize hs : l[k].s = sx at c2
          clear hid hs
          go_wp2_with (fail)
          go_roundw
          case rel =>
            refine ⟨k + 1, by go_num, by omega, fun j hj h => ?_, hur.alloc _⟩
            by_cases e : j = k
            · subst e; exact HE.out
            · exact HNO.out j (by omega) h
          case measure => simp [intOf]; omega
      · have hf := kpIx_miss (l := l) (id := id) (fun j h => HNO.out j (by omega) h)
        have hf1 : kgS l id = ⟨#[]⟩ := by unfold kgS; rw [hf, List.getElem?_eq_none (Nat.le_refl _)]; rfl
        have hf2 : kgB l id = false := by unfold kgB; rw [hf]; simp
        have HF1 := Lib.hid hf1
        have HF2 := Lib.hid hf2
        clear hf hf1 hf2
        go_wp2_with (fail)
        exact hR.out _ _ ⟨by rw [HF1.out, HF2.out]; rfl, hu.trans' hur⟩
  · obtain rfl : l = [] := List.eq_nil_of_length_eq_zero (by omega)
    refine wp_loop_once ?_
    go_wp2_with (fail)
    exact hR.out _ _ ⟨rfl, hu⟩

theorem getNil_c (id : Int) (w : World) : Calls Try.prog 10 #[.pointer none, .int .u64 id] w fun e w' => e = .returned (.tuple #[.string ⟨#[]⟩, .bool false]) ∧ w = w' := by
  have hall : ∀ w, Calls Try.prog 26 #[.pointer none] w fun e w' => e = .returned (.slice none 0 0) ∧ w = w' := by
    intro w
    refine post fun R hR => ?_
    go_enter Try.func26, Try.ntmps26
    go_wp2_with fail
    exact hR.out _ _ ⟨rfl, rfl⟩
  have HALL := Lib.hid hall
  clear hall
  refine post fun R hR => ?_
  go_enter Try.func10, Try.ntmps10
  go_wp2_with fail
  refine (HALL.out _).mono ?_
  rintro e w1 ⟨rfl, rfl⟩
  go_wp2_with fail
  refine wp_loop_once ?_
  go_wp2_with (fail)
  exact hR.out _ _ ⟨rfl, rfl⟩

theorem len_c {w : World} {b : Nat} {ring : List Kp} {next n : Nat} (hb : w.heap[b]? = some (.cells (ccells ring next n) 32 (0, 0))) (hr : ring.length = 8) (hn : n ≤ 8) (hx : next < 8) :
    Calls Try.prog 11 #[.pointer (some ⟨b, 0, none⟩)] w fun e w' => e = .returned (i64 (keptOf ring next n).length) ∧ Upd [] w w' := by
  have hall := all_c hb hr hn hx
  generalize keptOf ring next n = l at *
  have HALL := Lib.hid hall
  clear hall
  refine post fun R hR => ?_
  go_enter Try.func11, Try.ntmps11
  go_wp2_with fail
  refine HALL.out.mono ?_
  rintro e w1 ⟨v, rfl, ⟨ao, cap, rfl, hrow⟩, hu⟩
  go_wp2_with fail
  exact hR.out _ _ ⟨rfl, hu⟩

theorem allNil_c (w : World) : Calls Try.prog 26 #[.pointer none] w fun e w' => e = .returned (.slice none 0 0) ∧ w = w' := by
  refine post fun R hR => ?_
  go_enter Try.func26, Try.ntmps26
  go_wp2_with fail
  exact hR.out _ _ ⟨rfl, rfl⟩
theorem lenNil_c (w : World) : Calls Try.prog 11 #[.pointer none] w fun e w' => e = .returned (i64 0) ∧ w = w' := by
  refine post fun R hR => ?_
  go_enter Try.func11, Try.ntmps11
  go_wp2_with fail
  refine (allNil_c _).mono ?_
  rintro e w1 ⟨rfl, rfl⟩
  go_wp2_with fail
  exact hR.out _ _ ⟨rfl, rfl⟩
theorem idsNil_c (w : World) : Calls Try.prog 16 #[.pointer none] w fun e w' => e = .returned (.slice none 0 0) ∧ w = w' := by
  refine post fun R hR => ?_
  go_enter Try.func16, Try.ntmps16
  go_wp2_with fail
  refine (allNil_c _).mono ?_
  rintro e w1 ⟨rfl, rfl⟩
  go_wp2_with fail
  refine wp_loop_once ?_
  go_wp2_with (fail)
  exact hR.out _ _ ⟨rfl, rfl⟩
theorem putNil_c (id : Int) (s : ByteArray) (w : World) : Calls Try.prog 9 #[.pointer none, .int .u64 id, .string s] w fun e w' => e = .returned (i64 17) ∧ w = w' := by
  refine post fun R hR => ?_
  go_enter Try.func9, Try.ntmps9
  go_wp2_with fail
  exact hR.out _ _ ⟨rfl, rfl⟩

/-- the last eight -/
def last8 (l : List Kp) : List Kp := l.drop (l.length - 8)

theorem put_kept {ring : List Kp} {next n : Nat} (hr : ring.length = 8) (hn : n ≤ 8) (hx : next < 8) (hi : n < 8 → next = n) (k : Kp) :
    keptOf (ring.set next k) ((next + 1) % 8) (min (n + 1) 8) = last8 (keptOf ring next n ++ [k]) ∧ (min (n + 1) 8 < 8 → (next + 1) % 8 = min (n + 1) 8) := by
  obtain ⟨a, b, c, d, e, f, g, i, rfl⟩ := kp8 hr
  have h : n = 0 ∨ n = 1 ∨ n = 2 ∨ n = 3 ∨ n = 4 ∨ n = 5 ∨ n = 6 ∨ n = 7 ∨ n = 8 := by omega
  have h2 : next = 0 ∨ next = 1 ∨ next = 2 ∨ next = 3 ∨ next = 4 ∨ next = 5 ∨ next = 6 ∨ next = 7 := by omega
  refine ⟨?_, by omega⟩
  rcases h with rfl | rfl | rfl | rfl | rfl | rfl | rfl | rfl | rfl
  all_goals first
    | (obtain rfl := hi (by omega); rfl)
    | (rcases h2 with rfl | rfl | rfl | rfl | rfl | rfl | rfl | rfl <;> rfl)

theorem put_cells {ring : List Kp} {next n : Nat} (hr : ring.length = 8) (hx : next < 8) (k : Kp) (next' n' : Nat) :
    ((((ccells ring next n).setIfInBounds (next * 2) (.int .u64 k.id)).setIfInBounds (next * 2 + 1) (.string k.s)).setIfInBounds 16 (i64 next')).setIfInBounds 17 (i64 n') = ccells (ring.set next k) next' n' := by
  obtain ⟨a, b, c, d, e, f, g, i, rfl⟩ := kp8 hr
  have h2 : next = 0 ∨ next = 1 ∨ next = 2 ∨ next = 3 ∨ next = 4 ∨ next = 5 ∨ next = 6 ∨ next = 7 := by omega
  rcases h2 with rfl | rfl | rfl | rfl | rfl | rfl | rfl | rfl <;> rfl
end Go.Proofs.Ytipcgddcbnhejaa
