/-
  DrrSteps: what any steps do to a ring, one behind the other, who is served, and what waits behind each. For every list of steps. No condition.
-/
import Derived.Test.YtabhdigannalgaaDrrX
namespace Go.Proofs.Ytabhdigannalgaa
open Go Go.RowKit Go.ChangeShapes Go.WideShapes Go.ChangeAt

set_option maxRecDepth 100000 in
set_option maxHeartbeats 16000000 in
theorem drrSteps_c (ao : Option Addr) (cap : Nat) (l : List DStp) (w : World) (hlen : l.length ≤ 250) (hao : l = [] ∨ ∃ b off, ao = some ⟨b, off, none⟩ ∧ RowsAt w b off 3 DStp.cells l ∧ b < w.heap.size) (hgood : ∀ x ∈ l, x.good) :
    Trues 5 #[.slice ao l.length cap] w := by
  unfold Trues
  have HAO := Lib.hid hao
  have HGood := Lib.hid hgood
  clear hao hgood
  refine post fun R hR => ?_
  go_enter Try.func5, Try.ntmps5
  go_wp2_with (fail)
  refine Calls.mono (dnew2_c _) ?_
  rintro e w1 ⟨B, rfl, hu1, hA1⟩
  have hBz : w.heap.size ≤ B := hA1.zb
  go_wp2_with (fail)
  refine Calls.mono (rnew25_c _) ?_
  rintro e w2 ⟨g0, rfl, hR2, hu2⟩
  have hA2 := (hA1.cut).upd0 hu2
  have hx2 := hu1.trans' hu2
  clear hA1
  go_upto_region 5 with (fail)
  obtain ⟨W, hW⟩ : ∃ W, W = w2.heap.size := ⟨_, rfl⟩
  have hB3 := heap_alloc_new w2 (.cells #[.slice (some ⟨g0, 0, none⟩) 9 9, .slice none 0 0] 46)
  have hux := (Upd.refl [] w2).alloc (.cells #[.slice (some ⟨g0, 0, none⟩) 9 9, .slice none 0 0] 46)
  have hX3 : ∃ (r : Rg) (fv rv : Value) (Z Y : Nat → Prop), DrX w (w2.alloc (.cells #[.slice (some ⟨g0, 0, none⟩) 9 9, .slice none 0 0] 46)) w2.heap.size B 0 28 [] r r fv rv fv rv Z Y := ⟨Rg.new, _, _, _, _, hB3, (hA2.upd0 hux), (hR2.cut).upd0 hux, fun x hz hy => (hy.1.elim id (fun q => by have := hz.2; omega)),
    fun q => (by have := q.2; have := hu2.size; omega), fun q => (by have := q.2; omega), fun x hx => hx.1, fun x hx => (hx.1.elim False.elim (Nat.le_trans hu1.size)), hx2.size, hx2.trans' hux⟩
  rw [← hW] at hX3 ⊢
  clear hW hB3 hux hR2 hA2 hx2 hu1 hu2
  generalize w2.alloc (.cells #[.slice (some ⟨g0, 0, none⟩) 9 9, .slice none 0 0] 46) = w3 at *
  go_wp2_with (fail)
  go_loopw [5] (fun i wr => ∃ (k : Nat) (r : Rg) (fv rv : Value) (Z Y : Nat → Prop), i = i64 k ∧ k ≤ l.length ∧ DrX w wr W B k 28 [] r r fv rv fv rv Z Y) (fun i _ => l.length - (intOf i).toNat)
  case atStart =>
    obtain ⟨r, fv, rv, Z, Y, h⟩ := hX3
    exact ⟨0, r, fv, rv, Z, Y, rfl, Nat.zero_le _, h⟩
  case round =>
    clear hX3
    obtain ⟨k, r, fv, rv, Z, Y, rfl, hk, hX⟩ := hrel
    by_cases hlt : k < l.length
    · obtain ⟨b, off, rfl, hrows, hb⟩ : ∃ b off, ao = some ⟨b, off, none⟩ ∧ RowsAt w b off 3 DStp.cells l ∧ b < w.heap.size := by
        rcases HAO.out with e | e
        · rw [e] at hlt; simp at hlt
        · exact e
      obtain ⟨c0, c1, c2⟩ := dsrow hrows hX.upd hb hlt
      clear hrows
      obtain ⟨⟨g1, g2⟩, ⟨g3, g4⟩, ⟨g5, g6⟩⟩ := HGood.out l[k] (List.getElem_mem hlt)
      generalize l[k].kind = kd at *
      generalize l[k].flow = fl at *
      generalize l[k].n = n at *
      have hfI : inI fl := ⟨g3, g4⟩
      have hK9 : k + 1 ≤ 900 := by omega
      obtain ⟨cv0, hF0, hI0, -⟩ := hX.ref
      obtain ⟨gf, offf, capf, rfl, -, -⟩ := hF0.form
      obtain ⟨ar, cr, rfl, -, -⟩ := hI0.sl
      clear hF0 hI0
      go_upto_region 9 with (fail)
      obtain ⟨S, hS⟩ : ∃ S, S = wr.heap.size := ⟨_, rfl⟩
      have hS4 := heap_alloc_new wr (.cells #[i64 kd, i64 fl, i64 n] 35)
      have hux := (Upd.refl [] wr).alloc (.cells #[i64 kd, i64 fl, i64 n] 35)
      have hX4 := hX.cut.same hux
      have hSZ : ¬ cutZ Z wr S := fun q => by have := q.2; omega
      have hSW : S ≠ W := by have := hX.lt; omega
      have hwS : w.heap.size ≤ S := by have := hX.upd.size; omega
      rw [← hS] at hS4 ⊢
      clear hX hS c0 c1 c2
      generalize cutZ Z wr = Z4 at *
      generalize cutZ Y wr = Y4 at *
      generalize wr.alloc (.cells #[i64 kd, i64 fl, i64 n] 35) = w4 at *
      obtain ⟨e0, e1, e2, -⟩ := cells3 hS4
      obtain ⟨b0, b1, -⟩ := cells2 hX4.hW
      have hok := hX4.ring.ok
      have hsm := hX4.ring.2.2.1
      by_cases k1 : kd = 1
      · have hq : (kd == 1) = true := by simp [k1]
        have HK := Lib.hid k1
        clear k1
        by_cases h0 : 0 < n
        · by_cases h5 : n < 5
          · have HX4 := Lib.hid hX4
            clear hX4 hS4
            go_wp2_with (fail)
            go_roundw
            case rel => exact ⟨k + 1, _, _, _, _, _, by go_num, by omega, { HX4.out with ring := HX4.out.ring.more (fun _ q => q) (Nat.le_succ k) }⟩
            case measure => simp [intOf]; omega
          · have hrc := rset25_c hX4.ref fl n
            have HRC := Lib.hid hrc
            have HX4 := Lib.hid hX4
            have HS4 := Lib.hid hS4
            clear hrc hX4 hS4
            go_wp2_with (fail)
            refine HRC.out.mono ?_
            rintro e w5 ⟨fv5, rv5, rfl, hR5, hu5⟩
            have hX5 := HX4.out.rf hu5 hR5
            have hS5 := hu5.keep0 HS4.out
            have hSZ5 : ¬ cutZ Z4 w4 S := fun q => hSZ q.1
            obtain ⟨cv5, hF5, hI5, -⟩ := hR5
            obtain ⟨g5, off5, cap5, rfl, -, -⟩ := hF5.form
            obtain ⟨ar5, cr5, rfl, -, -⟩ := hI5.sl
            clear HRC HX4 HS4 hu5 cv5 hF5 hI5 e0 e1 e2 b0 b1 hSZ hok hsm
            obtain ⟨b0, b1, p0, p1⟩ := cells2 hX5.hW
            have t1 := hX5.lt
            go_upto_region 19 with (fail)
            have hX6 := (hX5.put (.slice (some ⟨g5, off5, none⟩) 9 cap5) (.slice ar5 (r.set fl n).row.length cr5)).same ((Upd.refl [] _).alloc (.cells #[.slice (some ⟨g5, off5, none⟩) 9 cap5, .slice ar5 (r.set fl n).row.length cr5] 46))
            have hS6 := heap_alloc_old (heap_setCell_ne (c := W) (heap_setCell_ne (c := W) hS5 hSW 0 (.slice (some ⟨g5, off5, none⟩) 9 cap5)) hSW 1 (.slice ar5 (r.set fl n).row.length cr5)) (.cells #[.slice (some ⟨g5, off5, none⟩) 9 cap5, .slice ar5 (r.set fl n).row.length cr5] 46)
            clear hX5 hS5 b0 b1 p0 p1 t1
            generalize (((w5.setCell ⟨W, 0, none⟩ (.slice (some ⟨g5, off5, none⟩) 9 cap5)).setCell ⟨W, 1, none⟩ (.slice ar5 (r.set fl n).row.length cr5)).alloc (.cells #[.slice (some ⟨g5, off5, none⟩) 9 cap5, .slice ar5 (r.set fl n).row.length cr5] 46)) = w6 at *
            generalize w5.heap.size = X6 at *
            have hSZ6 := hSZ5
            clear hSZ5
            generalize cutZ Z4 w4 = Z6 at *
            generalize grow Y4 w4 = Y6 at *
            have HX6 := Lib.hid hX6
            have HS6 := Lib.hid hS6
            obtain ⟨e0, e1, e2, -⟩ := cells3 hS6
            clear hS6 hX6
            have hrg := ring_set_c HX6.out.ring (by omega) fl n
            have HRG := Lib.hid hrg
            clear hrg
            go_wp2_with (fail)
            refine HRG.out.mono ?_
            rintro e w7 ⟨rfl, hp, hA7⟩
            have hX7 := HX6.out.rg hp hA7
            have hsm7 := rsame25_c hX7.ring hK9 hX7.ref
            have HSM7 := Lib.hid hsm7
            obtain ⟨b0, b1, -⟩ := cells2 hX7.hW
            have HX7 := Lib.hid hX7
            clear hp hA7 hX7 hsm7 HRG HX6 HS6 e0 e1 e2
            go_wp2_with (fail)
            refine HSM7.out.mono ?_
            rintro e w8 ⟨rfl, hu8⟩
            have HX8 := Lib.hid (HX7.out.same hu8)
            clear hu8 HX7 HSM7 b0 b1
            go_wp2_with (fail)
            go_roundw
            case rel => exact ⟨k + 1, _, _, _, _, _, by go_num, by omega, HX8.out⟩
            case measure => simp [intOf]; omega
        · have hrc := rset25_c hX4.ref fl n
          have HRC := Lib.hid hrc
          have HX4 := Lib.hid hX4
          have HS4 := Lib.hid hS4
          clear hrc hX4 hS4
          go_wp2_with (fail)
          refine HRC.out.mono ?_
          rintro e w5 ⟨fv5, rv5, rfl, hR5, hu5⟩
          have hX5 := HX4.out.rf hu5 hR5
          have hS5 := hu5.keep0 HS4.out
          have hSZ5 : ¬ cutZ Z4 w4 S := fun q => hSZ q.1
          obtain ⟨cv5, hF5, hI5, -⟩ := hR5
          obtain ⟨g5, off5, cap5, rfl, -, -⟩ := hF5.form
          obtain ⟨ar5, cr5, rfl, -, -⟩ := hI5.sl
          clear HRC HX4 HS4 hu5 cv5 hF5 hI5 e0 e1 e2 b0 b1 hSZ hok hsm
          obtain ⟨b0, b1, p0, p1⟩ := cells2 hX5.hW
          have t1 := hX5.lt
          go_upto_region 19 with (fail)
          have hX6 := (hX5.put (.slice (some ⟨g5, off5, none⟩) 9 cap5) (.slice ar5 (r.set fl n).row.length cr5)).same ((Upd.refl [] _).alloc (.cells #[.slice (some ⟨g5, off5, none⟩) 9 cap5, .slice ar5 (r.set fl n).row.length cr5] 46))
          have hS6 := heap_alloc_old (heap_setCell_ne (c := W) (heap_setCell_ne (c := W) hS5 hSW 0 (.slice (some ⟨g5, off5, none⟩) 9 cap5)) hSW 1 (.slice ar5 (r.set fl n).row.length cr5)) (.cells #[.slice (some ⟨g5, off5, none⟩) 9 cap5, .slice ar5 (r.set fl n).row.length cr5] 46)
          clear hX5 hS5 b0 b1 p0 p1 t1
          generalize (((w5.setCell ⟨W, 0, none⟩ (.slice (some ⟨g5, off5, none⟩) 9 cap5)).setCell ⟨W, 1, none⟩ (.slice ar5 (r.set fl n).row.length cr5)).alloc (.cells #[.slice (some ⟨g5, off5, none⟩) 9 cap5, .slice ar5 (r.set fl n).row.length cr5] 46)) = w6 at *
          generalize w5.heap.size = X6 at *
          have hSZ6 := hSZ5
          clear hSZ5
          generalize cutZ Z4 w4 = Z6 at *
          generalize grow Y4 w4 = Y6 at *
          have HX6 := Lib.hid hX6
          have HS6 := Lib.hid hS6
          obtain ⟨e0, e1, e2, -⟩ := cells3 hS6
          clear hS6 hX6
          have hrg := ring_set_c HX6.out.ring (by omega) fl n
          have HRG := Lib.hid hrg
          clear hrg
          go_wp2_with (fail)
          refine HRG.out.mono ?_
          rintro e w7 ⟨rfl, hp, hA7⟩
          have hX7 := HX6.out.rg hp hA7
          have hsm7 := rsame25_c hX7.ring hK9 hX7.ref
          have HSM7 := Lib.hid hsm7
          obtain ⟨b0, b1, -⟩ := cells2 hX7.hW
          have HX7 := Lib.hid hX7
          clear hp hA7 hX7 hsm7 HRG HX6 HS6 e0 e1 e2
          go_wp2_with (fail)
          refine HSM7.out.mono ?_
          rintro e w8 ⟨rfl, hu8⟩
          have HX8 := Lib.hid (HX7.out.same hu8)
          clear hu8 HX7 HSM7 b0 b1
          go_wp2_with (fail)
          go_roundw
          case rel => exact ⟨k + 1, _, _, _, _, _, by go_num, by omega, HX8.out⟩
          case measure => simp [intOf]; omega
      · have hq1 : (kd == 1) = false := by simp [k1]
        have HK1 := Lib.hid k1
        clear k1
        by_cases k2 : kd = 2
        · have hq : (kd == 2) = true := by simp [k2]
          have HK := Lib.hid k2
          clear k2
          have hrc := rpush25_c hX4.ref hok hsm (by omega) fl n
          have HRC := Lib.hid hrc
          have HX4 := Lib.hid hX4
          have HS4 := Lib.hid hS4
          clear hrc hX4 hS4
          go_wp2_with (fail)
          refine HRC.out.mono ?_
          rintro e w5 ⟨fv5, rv5, rfl, hR5, hu5⟩
          have hX5 := HX4.out.rf hu5 hR5
          have hS5 := hu5.keep0 HS4.out
          have hSZ5 : ¬ cutZ Z4 w4 S := fun q => hSZ q.1
          obtain ⟨cv5, hF5, hI5, -⟩ := hR5
          obtain ⟨g5, off5, cap5, rfl, -, -⟩ := hF5.form
          obtain ⟨ar5, cr5, rfl, -, -⟩ := hI5.sl
          clear HRC HX4 HS4 hu5 cv5 hF5 hI5 e0 e1 e2 b0 b1 hSZ hok hsm
          obtain ⟨b0, b1, p0, p1⟩ := cells2 hX5.hW
          have t1 := hX5.lt
          go_upto_region 24 with (fail)
          have hX6 := (hX5.put (.slice (some ⟨g5, off5, none⟩) 9 cap5) (.slice ar5 (r.push fl n).row.length cr5)).same ((Upd.refl [] _).alloc (.cells #[.slice (some ⟨g5, off5, none⟩) 9 cap5, .slice ar5 (r.push fl n).row.length cr5] 46))
          have hS6 := heap_alloc_old (heap_setCell_ne (c := W) (heap_setCell_ne (c := W) hS5 hSW 0 (.slice (some ⟨g5, off5, none⟩) 9 cap5)) hSW 1 (.slice ar5 (r.push fl n).row.length cr5)) (.cells #[.slice (some ⟨g5, off5, none⟩) 9 cap5, .slice ar5 (r.push fl n).row.length cr5] 46)
          clear hX5 hS5 b0 b1 p0 p1 t1
          generalize (((w5.setCell ⟨W, 0, none⟩ (.slice (some ⟨g5, off5, none⟩) 9 cap5)).setCell ⟨W, 1, none⟩ (.slice ar5 (r.push fl n).row.length cr5)).alloc (.cells #[.slice (some ⟨g5, off5, none⟩) 9 cap5, .slice ar5 (r.push fl n).row.length cr5] 46)) = w6 at *
          generalize w5.heap.size = X6 at *
          have hSZ6 := hSZ5
          clear hSZ5
          generalize cutZ Z4 w4 = Z6 at *
          generalize grow Y4 w4 = Y6 at *
          have HX6 := Lib.hid hX6
          have HS6 := Lib.hid hS6
          obtain ⟨e0, e1, e2, -⟩ := cells3 hS6
          clear hS6 hX6
          have hrg := ring_push_c HX6.out.ring (by omega) hfI n
          have HRG := Lib.hid hrg
          clear hrg
          go_wp2_with (fail)
          refine HRG.out.mono ?_
          rintro e w7 ⟨rfl, hp, hA7⟩
          have hX7 := HX6.out.rg hp hA7
          have hsm7 := rsame25_c hX7.ring hK9 hX7.ref
          have HSM7 := Lib.hid hsm7
          obtain ⟨b0, b1, -⟩ := cells2 hX7.hW
          have HX7 := Lib.hid hX7
          clear hp hA7 hX7 hsm7 HRG HX6 HS6 e0 e1 e2
          go_wp2_with (fail)
          refine HSM7.out.mono ?_
          rintro e w8 ⟨rfl, hu8⟩
          have HX8 := Lib.hid (HX7.out.same hu8)
          clear hu8 HX7 HSM7 b0 b1
          go_wp2_with (fail)
          go_roundw
          case rel => exact ⟨k + 1, _, _, _, _, _, by go_num, by omega, HX8.out⟩
          case measure => simp [intOf]; omega
        · have hq2 : (kd == 2) = false := by simp [k2]
          have HK2 := Lib.hid k2
          clear k2
          by_cases k3 : kd = 3
          · have hq : (kd == 3) = true := by simp [k3]
            have HK := Lib.hid k3
            clear k3
            have hrc := rrest25_c hX4.ref hok hsm (by omega) fl (n.tmod 2 != 0)
            have HRC := Lib.hid hrc
            have HX4 := Lib.hid hX4
            have HS4 := Lib.hid hS4
            clear hrc hX4 hS4
            go_wp2_with (fail)
            refine HRC.out.mono ?_
            rintro e w5 ⟨fv5, rv5, rfl, hR5, hu5⟩
            have hX5 := HX4.out.rf hu5 hR5
            have hS5 := hu5.keep0 HS4.out
            have hSZ5 : ¬ cutZ Z4 w4 S := fun q => hSZ q.1
            obtain ⟨cv5, hF5, hI5, -⟩ := hR5
            obtain ⟨g5, off5, cap5, rfl, -, -⟩ := hF5.form
            obtain ⟨ar5, cr5, rfl, -, -⟩ := hI5.sl
            clear HRC HX4 HS4 hu5 cv5 hF5 hI5 e0 e1 e2 b0 b1 hSZ hok hsm
            obtain ⟨b0, b1, p0, p1⟩ := cells2 hX5.hW
            have t1 := hX5.lt
            go_upto_region 29 with (fail)
            have hX6 := (hX5.put (.slice (some ⟨g5, off5, none⟩) 9 cap5) (.slice ar5 (r.rest fl (n.tmod 2 != 0)).row.length cr5)).same ((Upd.refl [] _).alloc (.cells #[.slice (some ⟨g5, off5, none⟩) 9 cap5, .slice ar5 (r.rest fl (n.tmod 2 != 0)).row.length cr5] 46))
            have hS6 := heap_alloc_old (heap_setCell_ne (c := W) (heap_setCell_ne (c := W) hS5 hSW 0 (.slice (some ⟨g5, off5, none⟩) 9 cap5)) hSW 1 (.slice ar5 (r.rest fl (n.tmod 2 != 0)).row.length cr5)) (.cells #[.slice (some ⟨g5, off5, none⟩) 9 cap5, .slice ar5 (r.rest fl (n.tmod 2 != 0)).row.length cr5] 46)
            clear hX5 hS5 b0 b1 p0 p1 t1
            generalize (((w5.setCell ⟨W, 0, none⟩ (.slice (some ⟨g5, off5, none⟩) 9 cap5)).setCell ⟨W, 1, none⟩ (.slice ar5 (r.rest fl (n.tmod 2 != 0)).row.length cr5)).alloc (.cells #[.slice (some ⟨g5, off5, none⟩) 9 cap5, .slice ar5 (r.rest fl (n.tmod 2 != 0)).row.length cr5] 46)) = w6 at *
            generalize w5.heap.size = X6 at *
            have hSZ6 := hSZ5
            clear hSZ5
            generalize cutZ Z4 w4 = Z6 at *
            generalize grow Y4 w4 = Y6 at *
            have HX6 := Lib.hid hX6
            have HS6 := Lib.hid hS6
            obtain ⟨e0, e1, e2, -⟩ := cells3 hS6
            clear hS6 hX6
            have hrg := ring_rest_c HX6.out.ring (by omega) hfI (n.tmod 2 != 0)
            have HRG := Lib.hid hrg
            clear hrg
            go_wp2_with (fail)
            refine HRG.out.mono ?_
            rintro e w7 ⟨rfl, hp, hA7⟩
            have hX7 := HX6.out.rg hp hA7
            have hsm7 := rsame25_c hX7.ring hK9 hX7.ref
            have HSM7 := Lib.hid hsm7
            obtain ⟨b0, b1, -⟩ := cells2 hX7.hW
            have HX7 := Lib.hid hX7
            clear hp hA7 hX7 hsm7 HRG HX6 HS6 e0 e1 e2
            go_wp2_with (fail)
            refine HSM7.out.mono ?_
            rintro e w8 ⟨rfl, hu8⟩
            have HX8 := Lib.hid (HX7.out.same hu8)
            clear hu8 HX7 HSM7 b0 b1
            go_wp2_with (fail)
            go_roundw
            case rel => exact ⟨k + 1, _, _, _, _, _, by go_num, by omega, HX8.out⟩
            case measure => simp [intOf]; omega
          · have hq3 : (kd == 3) = false := by simp [k3]
            have HK3 := Lib.hid k3
            clear k3
            by_cases k4 : kd = 4
            · have hq : (kd == 4) = true := by simp [k4]
              have HK := Lib.hid k4
              clear k4
              have hrc := rdrop25_c hX4.ref hok fl
              have HRC := Lib.hid hrc
              have HX4 := Lib.hid hX4
              have HS4 := Lib.hid hS4
              clear hrc hX4 hS4
              go_wp2_with (fail)
              refine HRC.out.mono ?_
              rintro e w5 ⟨fv5, rv5, rfl, hR5, hu5⟩
              have hX5 := HX4.out.rf hu5 hR5
              have hS5 := hu5.keep0 HS4.out
              have hSZ5 : ¬ cutZ Z4 w4 S := fun q => hSZ q.1
              obtain ⟨cv5, hF5, hI5, -⟩ := hR5
              obtain ⟨g5, off5, cap5, rfl, -, -⟩ := hF5.form
              obtain ⟨ar5, cr5, rfl, -, -⟩ := hI5.sl
              clear HRC HX4 HS4 hu5 cv5 hF5 hI5 e0 e1 e2 b0 b1 hSZ hok hsm
              obtain ⟨b0, b1, p0, p1⟩ := cells2 hX5.hW
              have t1 := hX5.lt
              go_upto_region 34 with (fail)
              have hX6 := (hX5.put (.slice (some ⟨g5, off5, none⟩) 9 cap5) (.slice ar5 (r.drop fl).row.length cr5)).same ((Upd.refl [] _).alloc (.cells #[.slice (some ⟨g5, off5, none⟩) 9 cap5, .slice ar5 (r.drop fl).row.length cr5] 46))
              have hS6 := heap_alloc_old (heap_setCell_ne (c := W) (heap_setCell_ne (c := W) hS5 hSW 0 (.slice (some ⟨g5, off5, none⟩) 9 cap5)) hSW 1 (.slice ar5 (r.drop fl).row.length cr5)) (.cells #[.slice (some ⟨g5, off5, none⟩) 9 cap5, .slice ar5 (r.drop fl).row.length cr5] 46)
              clear hX5 hS5 b0 b1 p0 p1 t1
              generalize (((w5.setCell ⟨W, 0, none⟩ (.slice (some ⟨g5, off5, none⟩) 9 cap5)).setCell ⟨W, 1, none⟩ (.slice ar5 (r.drop fl).row.length cr5)).alloc (.cells #[.slice (some ⟨g5, off5, none⟩) 9 cap5, .slice ar5 (r.drop fl).row.length cr5] 46)) = w6 at *
              generalize w5.heap.size = X6 at *
              have hSZ6 := hSZ5
              clear hSZ5
              generalize cutZ Z4 w4 = Z6 at *
              generalize grow Y4 w4 = Y6 at *
              have HX6 := Lib.hid hX6
              have HS6 := Lib.hid hS6
              obtain ⟨e0, e1, e2, -⟩ := cells3 hS6
              clear hS6 hX6
              have hrg := ring_drop_c HX6.out.ring (by omega) hfI
              have HRG := Lib.hid hrg
              clear hrg
              go_wp2_with (fail)
              refine HRG.out.mono ?_
              rintro e w7 ⟨rfl, hp, hA7⟩
              have hX7 := HX6.out.rg hp hA7
              have hsm7 := rsame25_c hX7.ring hK9 hX7.ref
              have HSM7 := Lib.hid hsm7
              obtain ⟨b0, b1, -⟩ := cells2 hX7.hW
              have HX7 := Lib.hid hX7
              clear hp hA7 hX7 hsm7 HRG HX6 HS6 e0 e1 e2
              go_wp2_with (fail)
              refine HSM7.out.mono ?_
              rintro e w8 ⟨rfl, hu8⟩
              have HX8 := Lib.hid (HX7.out.same hu8)
              clear hu8 HX7 HSM7 b0 b1
              go_wp2_with (fail)
              go_roundw
              case rel => exact ⟨k + 1, _, _, _, _, _, by go_num, by omega, HX8.out⟩
              case measure => simp [intOf]; omega
            · have hq4 : (kd == 4) = false := by simp [k4]
              have HK4 := Lib.hid k4
              clear k4
              have hrc := rturn25_c hX4.ref hok hsm (by omega)
              have HRC := Lib.hid hrc
              have HX4 := Lib.hid hX4
              have HS4 := Lib.hid hS4
              clear hrc hX4 hS4
              go_wp2_with (fail)
              refine HRC.out.mono ?_
              rintro e w5 ⟨fv5, rv5, rfl, hR5, hu5⟩
              have hX5 := HX4.out.rf hu5 hR5
              have hS5 := hu5.keep0 HS4.out
              have hSZ5 : ¬ cutZ Z4 w4 S := fun q => hSZ q.1
              obtain ⟨cv5, hF5, hI5, -⟩ := hR5
              obtain ⟨g5, off5, cap5, rfl, -, -⟩ := hF5.form
              obtain ⟨ar5, cr5, rfl, -, -⟩ := hI5.sl
              clear HRC HX4 HS4 hu5 cv5 hF5 hI5 e0 e1 e2 b0 b1 hSZ hok hsm
              obtain ⟨b0, b1, p0, p1⟩ := cells2 hX5.hW
              have t1 := hX5.lt
              go_upto_region 12 with (fail)
              have hX6 := (hX5.put (.slice (some ⟨g5, off5, none⟩) 9 cap5) (.slice ar5 (r.turn.r).row.length cr5)).same ((Upd.refl [] _).alloc (.cells #[.slice (some ⟨g5, off5, none⟩) 9 cap5, .slice ar5 (r.turn.r).row.length cr5] 46))
              have hS6 := heap_alloc_old (heap_setCell_ne (c := W) (heap_setCell_ne (c := W) hS5 hSW 0 (.slice (some ⟨g5, off5, none⟩) 9 cap5)) hSW 1 (.slice ar5 (r.turn.r).row.length cr5)) (.cells #[.slice (some ⟨g5, off5, none⟩) 9 cap5, .slice ar5 (r.turn.r).row.length cr5] 46)
              clear hX5 hS5 b0 b1 p0 p1 t1
              generalize (((w5.setCell ⟨W, 0, none⟩ (.slice (some ⟨g5, off5, none⟩) 9 cap5)).setCell ⟨W, 1, none⟩ (.slice ar5 (r.turn.r).row.length cr5)).alloc (.cells #[.slice (some ⟨g5, off5, none⟩) 9 cap5, .slice ar5 (r.turn.r).row.length cr5] 46)) = w6 at *
              generalize w5.heap.size = X6 at *
              have hSZ6 := hSZ5
              clear hSZ5
              generalize cutZ Z4 w4 = Z6 at *
              generalize grow Y4 w4 = Y6 at *
              have HX6 := Lib.hid hX6
              have HS6 := Lib.hid hS6
              obtain ⟨e0, e1, e2, -⟩ := cells3 hS6
              clear hS6 hX6
              have hrg := ring_turn_c HX6.out.ring (by omega)
              have HRG := Lib.hid hrg
              clear hrg
              go_wp2_with (fail)
              refine HRG.out.mono ?_
              rintro e w7 ⟨rfl, hp, hA7⟩
              have hX7 := HX6.out.rg hp hA7
              have hsm7 := rsame25_c hX7.ring hK9 hX7.ref
              have HSM7 := Lib.hid hsm7
              obtain ⟨b0, b1, -⟩ := cells2 hX7.hW
              have HX7 := Lib.hid hX7
              clear hp hA7 hX7 hsm7 HRG HX6 HS6 e0 e1 e2
              go_wp2_with (fail)
              refine HSM7.out.mono ?_
              rintro e w8 ⟨rfl, hu8⟩
              have HX8 := Lib.hid (HX7.out.same hu8)
              clear hu8 HX7 HSM7 b0 b1
              go_wp2_with (fail)
              go_roundw
              case rel => exact ⟨k + 1, _, _, _, _, _, by go_num, by omega, HX8.out⟩
              case measure => simp [intOf]; omega
    · have e : k = l.length := by omega
      have hu := hX.upd
      clear hX
      go_wp2_with (fail)
      refine Calls.mono (drrAwake_c _) ?_
      rintro e w5 ⟨rfl, hu5⟩
      go_wp2_with (fail)
      exact hR.out _ _ ⟨rfl, hu.trans' hu5⟩

set_option maxRecDepth 100000 in
theorem drrSteps9_c (ao : Option Addr) (n cap : Nat) (w : World) (hn : 250 < n) : Trues 5 #[.slice ao n cap] w := by
  unfold Trues
  refine post fun R hR => ?_
  go_enter Try.func5, Try.ntmps5
  go_wp2_with (fail)
  refine Calls.mono (drrAwake_c _) ?_
  rintro e w5 ⟨rfl, hu5⟩
  go_wp2_with (fail)
  exact hR.out _ _ ⟨rfl, hu5⟩

set_option maxRecDepth 100000 in
theorem drrSteps_walk {H : Type} {enc : TypeId × Value → H} {W : World} {base : Nat} {args : Array Value} {ds gs : List (DataW H)} {before : List MemPlace}
    (hval : ∀ (j : Nat) t v, Try.f5.params[j]? = some t → args[j]? = some v → Value.okWide Try.prog W .any base t v)
    (hW : DataW.Whole enc Try.prog Try.f5.params.toList [] false W args.toList ds gs before) : Trues 5 args W := by
  obtain ⟨p, q, hA, -, rfl, -, -⟩ := hW
  rw [Try.params5] at hA hval
  obtain ⟨v0, d0, rfl, rfl, h0⟩ := trodAll_one hA
  obtain ⟨ao, cap, l, rfl, hlc, hcap, hg, hl⟩ := open_list DStp.parse Try.underlying22 flat_dstp cells_dstp (by decide) (hval 0 22 v0 rfl rfl) h0
  by_cases hbig : 250 < l.length
  · exact drrSteps9_c ao l.length cap W hbig
  · refine drrSteps_c ao cap l W (by omega) ?_ hg
    rcases hl with rfl | ⟨b, off, rfl, hr⟩
    · exact .inl rfl
    · cases l with
      | nil => exact .inl rfl
      | cons x r => exact .inr ⟨b, off, rfl, hr, World.block_lt_of_cell? W _ (hr 0 x rfl 0 (by decide))⟩

set_option maxRecDepth 100000 in
theorem drrSteps_lifted (os : Os) (started : os.Started) (H : Type) (enc : TypeId × Value → H) :
    ReturnsInHanded {} Try.checked os 5 .any (Rows.drrStepsSpec.pre6 enc Try.prog Try.f5 Rows.drrStepsRow.domain false) (Rows.drrStepsSpec.post enc Try.prog Try.f5 false true false false) := by
  refine returnsInHanded_of_change (C := Try.checked) own started (by kernel_rfl) Try.func5
    (ChangeSpec.witness6 (enc := enc) (C := Try.checked) false ⟨#[], #[.slice none 0 0], []⟩ 8 (by kernel_rfl) (by kernel_rfl) (by kernel_rfl) (by kernel_rfl)) ?_
  intro W base args ds gs before hval hW hcnd _
  refine Calls.mono (drrSteps_walk hval hW) fun e W' ⟨he, hu⟩ => ?_
  exact ⟨_, he, law_post rfl rfl (by kernel_rfl) hW (fun ds h => by match ds, h with | [_], _ => rfl) hu⟩

set_option maxRecDepth 100000 in
theorem drrSteps_over : Rows.drrStepsRow.holds Try.pinned (OpenSpec.ofChange Rows.drrStepsSpec) :=
  OpenClaim.holds_of_wide 5 Try.f5 rfl rfl rfl rfl rfl rfl rfl ⟨rfl, rfl, rfl, rfl, rfl⟩ rfl rfl rfl rfl rfl (by kernel_rfl) Try.func5 (by kernel_rfl)
    (of_decide_eq_true (by kernel_rfl)) (by unfold Func.isWrapper; first | (rw [if_pos (by decide +kernel)]; kernel_rfl) | (rw [if_neg (by decide +kernel)]; exact ⟨rfl, rfl⟩))
    (fun os started H enc _ => drrSteps_lifted os started H enc)

theorem drrSteps_proved : Rows.DrrStepsSaid := drrSteps_over
end Go.Proofs.Ytabhdigannalgaa
