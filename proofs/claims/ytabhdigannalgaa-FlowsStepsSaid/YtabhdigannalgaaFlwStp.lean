/-
  The steps of flows, opened; and chapter 40's own small loops. No condition.
-/
import Derived.Test.YtabhdigannalgaaFlwOwn
import Derived.Test.YtabhdigannalgaaOpen
namespace Go.Proofs.Ytabhdigannalgaa
open Go Go.RowKit Go.Maps Go.ChangeShapes Go.WideShapes Go.ChangeAt

structure FStp where
  kind : Int
  o : Int
  n : Int
  x : It
def FStp.cells (s : FStp) : List Value := [i64 s.kind, i64 s.o, i64 s.n, i64 s.x.c, i64 s.x.k, i64 s.x.f, .string s.x.b, i64 s.x.a]
def FStp.good (s : FStp) : Prop := inI s.kind ∧ inI s.o ∧ inI s.n ∧ s.x.b.size ≤ maxLen
theorem FStp.parse (vs : List Value) (h : AllOK [.int .i64, .int .i64, .int .i64, .int .i64, .int .i64, .int .i64, .string, .int .i64] vs) : ∃ s, FStp.cells s = vs ∧ FStp.good s := by
  obtain ⟨a, r, rfl, ha, h⟩ := h.i64
  obtain ⟨b, r, rfl, hb, h⟩ := h.i64
  obtain ⟨c, r, rfl, hc, h⟩ := h.i64
  obtain ⟨x1, r, rfl, -, h⟩ := h.i64
  obtain ⟨x2, r, rfl, -, h⟩ := h.i64
  obtain ⟨x3, r, rfl, -, h⟩ := h.i64
  obtain ⟨x4, r, rfl, h4, h⟩ := h.str
  obtain ⟨x5, r, rfl, -, h⟩ := h.i64
  obtain rfl := h.none
  exact ⟨⟨a, b, c, ⟨x1, x2, x3, x4, x5⟩⟩, rfl, ha, hb, hc, h4⟩
theorem flat_fstp : flat Try.prog 6 70 = some [.int .i64, .int .i64, .int .i64, .int .i64, .int .i64, .int .i64, .string, .int .i64] := by kernel_rfl
theorem cells_fstp : Try.prog.cellsOf 70 = 8 := by kernel_rfl
theorem fsrow {w wr : World} {b off : Nat} {l : List FStp} (hr : RowsAt w b off 8 FStp.cells l) (hu : Upd [] w wr) (hb : b < w.heap.size) {k : Nat} (hk : k < l.length) :
    wr.cell? ⟨b, off + k * 8, none⟩ = some (i64 (l[k].kind)) ∧ wr.cell? ⟨b, off + k * 8 + 1, none⟩ = some (i64 (l[k].o)) ∧ wr.cell? ⟨b, off + k * 8 + 2, none⟩ = some (i64 (l[k].n)) ∧ wr.cell? ⟨b, off + k * 8 + 3, none⟩ = some (i64 (l[k].x.c)) ∧ wr.cell? ⟨b, off + k * 8 + 4, none⟩ = some (i64 (l[k].x.k)) ∧ wr.cell? ⟨b, off + k * 8 + 5, none⟩ = some (i64 (l[k].x.f)) ∧ wr.cell? ⟨b, off + k * 8 + 6, none⟩ = some (.string (l[k].x.b)) ∧ wr.cell? ⟨b, off + k * 8 + 7, none⟩ = some (i64 (l[k].x.a)) := by
  have h0 := hr k l[k] (List.getElem?_eq_getElem hk)
  exact ⟨(hu.below.cell (p := ⟨b, off + k * 8, none⟩) hb).trans (h0 0 (by omega)), (hu.below.cell (p := ⟨b, off + k * 8 + 1, none⟩) hb).trans (h0 1 (by omega)), (hu.below.cell (p := ⟨b, off + k * 8 + 2, none⟩) hb).trans (h0 2 (by omega)), (hu.below.cell (p := ⟨b, off + k * 8 + 3, none⟩) hb).trans (h0 3 (by omega)), (hu.below.cell (p := ⟨b, off + k * 8 + 4, none⟩) hb).trans (h0 4 (by omega)), (hu.below.cell (p := ⟨b, off + k * 8 + 5, none⟩) hb).trans (h0 5 (by omega)), (hu.below.cell (p := ⟨b, off + k * 8 + 6, none⟩) hb).trans (h0 6 (by omega)), (hu.below.cell (p := ⟨b, off + k * 8 + 7, none⟩) hb).trans (h0 7 (by omega))⟩

set_option maxRecDepth 100000 in
set_option maxHeartbeats 2000000 in
theorem fmuch_c (ao : Option Addr) (cap : Nat) (l : List FStp) (w : World) (hcap : l.length ≤ maxLen) (hao : l = [] ∨ ∃ b off, ao = some ⟨b, off, none⟩ ∧ RowsAt w b off 8 FStp.cells l ∧ b < w.heap.size) (hgood : ∀ x ∈ l, x.good) :
    Calls Try.prog 28 #[.slice ao l.length cap] w fun e w' => ∃ x, e = .returned (.bool x) ∧ (x = false → l.length ≤ 200) ∧ w = w' := by
  have HAO := Lib.hid hao
  have HGood := Lib.hid hgood
  unfold maxLen at hcap
  clear hao hgood
  refine post fun R hR => ?_
  go_enter Try.func28, Try.ntmps28
  go_wp2_with (fail)
  go_loop [3] (fun i => ∃ (k : Nat), i = i64 k ∧ k ≤ l.length) (fun i => l.length - (intOf i).toNat)
  case atStart => exact ⟨0, rfl, Nat.zero_le _⟩
  case round =>
    obtain ⟨k, rfl, hk⟩ := hrel
    by_cases hlt : k < l.length
    · obtain ⟨b, off, rfl, hrows, hb⟩ : ∃ b off, ao = some ⟨b, off, none⟩ ∧ RowsAt w b off 8 FStp.cells l ∧ b < w.heap.size := by
        rcases HAO.out with e | e
        · rw [e] at hlt; simp at hlt
        · exact e
      obtain ⟨c0, c1, c2, c3, c4, c5, c6, c7⟩ := fsrow hrows (Upd.refl _ _) hb hlt
      obtain ⟨-, -, -, hsz⟩ := HGood.out l[k] (List.getElem_mem hlt)
      unfold maxLen at hsz
      clear hrows c1 c3 c4 c5 c7
      generalize l[k].kind = kd at *
      generalize l[k].n = n at *
      generalize l[k].x.b = s at *
      generalize hss : s.size = z at *
      have HSS := Lib.hid hss
      by_cases hz : 1100 < z
      · have hz1 : ((1100 : Int) < (z : Int)) := by omega
        by_cases hk1 : kd = 1
        · subst hk1
          by_cases hn0 : 0 < n
          · by_cases hn5 : n < 5
            · go_wp2_with (fail)
              exact hR.out _ _ ⟨true, rfl, fun e => (by cases e), rfl⟩
            · have hn5' : decide (n < 5) = false := by simpa using hn5
              go_wp2_with (fail)
              exact hR.out _ _ ⟨true, rfl, fun e => (by cases e), rfl⟩
          · have hn0' : decide (0 < n) = false := by simpa using hn0
            go_wp2_with (fail)
            exact hR.out _ _ ⟨true, rfl, fun e => (by cases e), rfl⟩
        · have hq : (kd == 1) = false := by simp [hk1]
          go_wp2_with (fail)
          exact hR.out _ _ ⟨true, rfl, fun e => (by cases e), rfl⟩
      · have hz1 : decide ((1100 : Int) < (z : Int)) = false := decide_eq_false (by omega)
        by_cases hk1 : kd = 1
        · subst hk1
          by_cases hn0 : 0 < n
          · by_cases hn5 : n < 5
            · go_wp2_with (fail)
              exact hR.out _ _ ⟨true, rfl, fun e => (by cases e), rfl⟩
            · have hn5' : decide (n < 5) = false := by simpa using hn5
              go_wp2_with (fail)
              go_round
              case rel => exact ⟨k + 1, by go_num, by omega⟩
              case measure => simp [intOf]; omega
          · have hn0' : decide (0 < n) = false := by simpa using hn0
            go_wp2_with (fail)
            go_round
            case rel => exact ⟨k + 1, by go_num, by omega⟩
            case measure => simp [intOf]; omega
        · have hq : (kd == 1) = false := by simp [hk1]
          go_wp2_with (fail)
          go_round
          case rel => exact ⟨k + 1, by go_num, by omega⟩
          case measure => simp [intOf]; omega
    · go_wp2_with (fail)
      exact hR.out _ _ ⟨decide ((200 : Int) < l.length), rfl, fun e => (by have := of_decide_eq_false e; omega), rfl⟩

set_option maxRecDepth 100000 in
set_option maxHeartbeats 2000000 in
theorem fequal_c {w : World} {u v : Value} {base1 base2 : Nat} (l : List It) (h1 : Sub w base1 74 5 u l.length (ics l)) (h2 : Sub w base2 74 5 v l.length (ics l)) (hlen : l.length ≤ 1000) :
    Calls Try.prog 31 #[u, v] w fun e w' => e = .returned (.bool true) ∧ Upd [] w w' := by
  obtain ⟨ao, cap, rfl, hc1, hr1⟩ := h1.form
  obtain ⟨bo, cap2, rfl, hc2, hr2⟩ := h2.form
  have HR1 := Lib.hid hr1
  have HR2 := Lib.hid hr2
  have H1 := Lib.hid (h1.mono (Nat.zero_le _))
  have H2 := Lib.hid (h2.mono (Nat.zero_le _))
  clear hr1 hr2 h1 h2
  refine post fun R hR => ?_
  go_enter Try.func31, Try.ntmps31
  go_wp2_with (fail)
  go_loopw [5] (fun i wr => ∃ (k : Nat), i = i64 k ∧ k ≤ l.length ∧ Upd [] w wr) (fun i _ => l.length - (intOf i).toNat)
  case atStart => exact ⟨0, rfl, Nat.zero_le _, Upd.refl _ _⟩
  case round =>
    obtain ⟨k, rfl, hk, hu⟩ := hrel
    by_cases hlt : k < l.length
    · obtain ⟨g, off, rfl, hg1, hg2, -⟩ := HR1.out (by omega)
      obtain ⟨g', off', rfl, hg1', hg2', -⟩ := HR2.out (by omega)
      obtain ⟨c0, c1, c2, c3, c4⟩ := its_get (H1.out.upd0 hu) hlt rfl
      obtain ⟨d0, d1, d2, d3, d4⟩ := its_get (H2.out.upd0 hu) hlt rfl
      generalize l[k] = x at *
      rcases x with ⟨xc, xk, xf, xb, xa⟩
      clear H1 H2 HR1 HR2
      go_wp2_with (fail)
      go_quiet (fail)
      go_wp2_with (fail)
      go_roundw
      case rel => exact ⟨k + 1, by go_num, by omega, hu.drewN _⟩
      case measure => simp [intOf]; omega
    · have e : k = l.length := by omega
      go_wp2_with (fail)
      exact hR.out _ _ ⟨rfl, hu⟩
end Go.Proofs.Ytabhdigannalgaa
