/-
  FlowsSteps: what any steps do to flows, one behind the other, whose turn it is, and what waits behind each. For every list of steps. No condition.
-/
import Derived.Test.YtabhdigannalgaaR4X
import Derived.Deep.RegionHeld3
namespace Go.Proofs.Ytabhdigannalgaa
open Go Go.RowKit Go.Maps Go.ChangeShapes Go.WideShapes Go.ChangeAt

set_option maxRecDepth 100000 in
set_option maxHeartbeats 16000000 in
theorem flowsSteps_c (ao : Option Addr) (cap : Nat) (l : List FStp) (w : World) (hcap : l.length ≤ maxLen) (hao : l = [] ∨ ∃ b off, ao = some ⟨b, off, none⟩ ∧ RowsAt w b off 8 FStp.cells l ∧ b < w.heap.size) (hgood : ∀ x ∈ l, x.good) :
    Trues 8 #[.slice ao l.length cap] w := by
  unfold Trues
  have HM := Lib.hid (fmuch_c ao cap l w hcap hao hgood)
  have HAO := Lib.hid hao
  have HGood := Lib.hid hgood
  clear hao hgood hcap
  refine post fun R hR => ?_
  go_enter Try.func8, Try.ntmps8
  go_wp2_with (fail)
  refine HM.out.mono ?_
  rintro e w1 ⟨x, rfl, hx, rfl⟩
  clear HM
  cases x with
  | true =>
    go_wp2_with (fail)
    refine Calls.mono (flwAwake_c _) ?_
    rintro e w5 ⟨rfl, hu5⟩
    go_wp2_with (fail)
    exact hR.out _ _ ⟨rfl, hu5⟩
  | false =>
    have hlen := hx rfl
    clear hx
    go_wp2_with (fail)
    refine Calls.mono (fnew_c _) ?_
    rintro e w1 ⟨B, rfl, hu1, hA1⟩
    go_wp2_with (fail)
    refine Calls.mono (r4new_c _) ?_
    rintro e w2 ⟨g0, x0, rfl, hR2, hu2⟩
    have hA2 := (hA1.cut).upd0 hu2
    have hx2 := hu1.trans' hu2
    clear hA1
    go_upto_region 5 with (fail)
    obtain ⟨W, hW⟩ : ∃ W, W = w2.heap.size := ⟨_, rfl⟩
    have hB3 := heap_alloc_new w2 (.cells #[.slice (some ⟨g0, 0, none⟩) 9 9, .slice none 0 0, .slice (some ⟨x0, 0, none⟩) 9 9] 81)
    have hux := (Upd.refl [] w2).alloc (.cells #[.slice (some ⟨g0, 0, none⟩) 9 9, .slice none 0 0, .slice (some ⟨x0, 0, none⟩) 9 9] 81)
    have hX3 : ∃ (r : Rg) (its : Nat → List It) (fv rv xv : Value) (Z Y : Nat → Prop), FlX w (w2.alloc (.cells #[.slice (some ⟨g0, 0, none⟩) 9 9, .slice none 0 0, .slice (some ⟨x0, 0, none⟩) 9 9] 81)) w2.heap.size B 0 r r its its fv rv xv fv rv xv Z Y ∧ GoodI its := ⟨Rg.new, fun _ => [], _, _, _, _, _, ⟨hB3, (hA2.upd0 hux), (hR2.cut).upd0 hux, fun x hz hy => (hy.1.elim id (fun q => by have := hz.2; omega)),
      fun q => (by have := q.2; have := hu2.size; omega), fun q => (by have := q.2; omega), fun x hx => hx.1, fun x hx => (hx.1.elim False.elim (Nat.le_trans hu1.size)), hx2.size, hx2.trans' hux⟩, fun j hj x hx => by cases hx⟩
    rw [← hW] at hX3 ⊢
    clear hW hB3 hux hR2 hA2 hx2 hu1 hu2
    generalize w2.alloc (.cells #[.slice (some ⟨g0, 0, none⟩) 9 9, .slice none 0 0, .slice (some ⟨x0, 0, none⟩) 9 9] 81) = w3 at *
    go_wp2_with (fail)
    go_loopw [5] (fun i wr => ∃ (k : Nat) (r : Rg) (its : Nat → List It) (fv rv xv : Value) (Z Y : Nat → Prop), i = i64 k ∧ k ≤ l.length ∧ FlX w wr W B k r r its its fv rv xv fv rv xv Z Y ∧ GoodI its) (fun i _ => l.length - (intOf i).toNat)
    case atStart =>
      obtain ⟨r, its, fv, rv, xv, Z, Y, h, hg⟩ := hX3
      exact ⟨0, r, its, fv, rv, xv, Z, Y, rfl, Nat.zero_le _, h, hg⟩
    case round =>
      clear hX3
      obtain ⟨k, r, its, fv, rv, xv, Z, Y, rfl, hk, hX, hG⟩ := hrel
      by_cases hlt : k < l.length
      · obtain ⟨b, off, rfl, hrows, hb⟩ : ∃ b off, ao = some ⟨b, off, none⟩ ∧ RowsAt w b off 8 FStp.cells l ∧ b < w.heap.size := by
          rcases HAO.out with e | e
          · rw [e] at hlt; simp at hlt
          · exact e
        obtain ⟨c0, c1, c2, c3, c4, c5, c6, c7⟩ := fsrow hrows hX.upd hb hlt
        clear hrows
        obtain ⟨⟨g1, g2⟩, hfI, hnI, hxb⟩ := HGood.out l[k] (List.getElem_mem hlt)
        generalize l[k].kind = kd at *
        generalize l[k].o = fl at *
        generalize l[k].n = n at *
        generalize l[k].x = x at *
        have hK9 : k + 1 ≤ 900 := by omega
        obtain ⟨fa0, fc0, ra0, rn0, rc0, xa0, xc0, rfl, rfl, rfl⟩ := hX.ref.shape
        go_upto_region 9 with (fail)
        obtain ⟨S, hS⟩ : ∃ S, S = wr.heap.size := ⟨_, rfl⟩
        have hS4 := heap_alloc_new wr (.cells #[i64 kd, i64 fl, i64 n, i64 x.c, i64 x.k, i64 x.f, .string x.b, i64 x.a] 70)
        have hux := (Upd.refl [] wr).alloc (.cells #[i64 kd, i64 fl, i64 n, i64 x.c, i64 x.k, i64 x.f, .string x.b, i64 x.a] 70)
        have hX4 := hX.cut.same hux
        have hSZ : ¬ cutZ Z wr S := fun q => by have := q.2; omega
        have hSW : S ≠ W := by have := hX.lt; omega
        have hwS : w.heap.size ≤ S := by have := hX.upd.size; omega
        rw [← hS] at hS4 ⊢
        clear hX hS c0 c1 c2 c3 c4 c5 c6 c7 hux
        generalize cutZ Z wr = Z4 at *
        generalize cutZ Y wr = Y4 at *
        generalize wr.alloc (.cells #[i64 kd, i64 fl, i64 n, i64 x.c, i64 x.k, i64 x.f, .string x.b, i64 x.a] 70) = w4 at *
        obtain ⟨e0, e1, e2, e3, e4, e5, e6, e7, -⟩ := cells8 hS4
        obtain ⟨b0, b1, b2, -⟩ := cells3 hX4.hW
        have hok := hX4.fw.ok
        obtain ⟨hsm, hlen, hlk⟩ := hX4.fw.small
        by_cases k1 : kd = 1
        · have hq : (kd == 1) = true := by simp [k1]
          have HK := Lib.hid k1
          clear k1
          as_aux_lemma =>
            have hrc := r4set_c hX4.ref fl n
            have HRC := Lib.hid hrc
            have HX4 := Lib.hid hX4
            have HS4 := Lib.hid hS4
            clear hrc hX4 hS4
            go_wp2_with (fail)
            refine HRC.out.mono ?_
            rintro e w5 ⟨fv5, rv5, xv5, rfl, hR5, hu5⟩
            have hX5 := HX4.out.rf hu5 hR5
            have hS5 := hu5.keep0 HS4.out
            have hSZ5 : ¬ cutZ Z4 w4 S := fun q => hSZ q.1
            obtain ⟨fa5, fc5, ra5, rn5, rc5, xa5, xc5, rfl, rfl, rfl⟩ := hR5.shape
            clear HRC HX4 HS4 hu5 hR5 e0 e1 e2 e3 e4 e5 e6 e7 b0 b1 b2 hSZ hok hsm hlen hlk
            obtain ⟨b0, b1, b2, p0, p1, p2⟩ := cells3 hX5.hW
            have t1 := hX5.lt
            go_upto_region 18 with (fail)
            have hX6 := (hX5.put (.slice fa5 9 fc5) (.slice ra5 rn5 rc5) (.slice xa5 9 xc5)).same ((Upd.refl [] _).alloc (.cells #[.slice fa5 9 fc5, .slice ra5 rn5 rc5, .slice xa5 9 xc5] 81))
            have hS6 := heap_alloc_old (heap_setCell_ne (c := W) (heap_setCell_ne (c := W) (heap_setCell_ne (c := W) hS5 hSW 0 (.slice fa5 9 fc5)) hSW 1 (.slice ra5 rn5 rc5)) hSW 2 (.slice xa5 9 xc5)) (.cells #[.slice fa5 9 fc5, .slice ra5 rn5 rc5, .slice xa5 9 xc5] 81)
            have hu56 : Upd [W] w5 ((((w5.setCell ⟨W, 0, none⟩ (.slice fa5 9 fc5)).setCell ⟨W, 1, none⟩ (.slice ra5 rn5 rc5)).setCell ⟨W, 2, none⟩ (.slice xa5 9 xc5)).alloc (.cells #[.slice fa5 9 fc5, .slice ra5 rn5 rc5, .slice xa5 9 xc5] 81)) := ((((Upd.refl _ _).setCell (p := ⟨W, 0, none⟩) (by simp) _).setCell (p := ⟨W, 1, none⟩) (by simp) _).setCell (p := ⟨W, 2, none⟩) (by simp) _).alloc _
            have hyW := hX5.yW
            clear hX5 hS5 b0 b1 b2 p0 p1 p2 t1
            generalize (((w5.setCell ⟨W, 0, none⟩ (.slice fa5 9 fc5)).setCell ⟨W, 1, none⟩ (.slice ra5 rn5 rc5)).setCell ⟨W, 2, none⟩ (.slice xa5 9 xc5)).alloc (.cells #[.slice fa5 9 fc5, .slice ra5 rn5 rc5, .slice xa5 9 xc5] 81) = w6 at *
            generalize w5.heap.size = X6 at *
            have hSZ6 := hSZ5
            clear hSZ5
            generalize cutZ Z4 w4 = Z6 at *
            generalize hY6 : grow Y4 w4 = Y6 at *
            have HY6 := Lib.hid hY6
            have HX6 := Lib.hid hX6
            have HS6 := Lib.hid hS6
            have HU56 := Lib.hid hu56
            have HYW := Lib.hid hyW
            obtain ⟨e0, e1, e2, e3, e4, e5, e6, e7, -⟩ := cells8 hS6
            clear hS6 hX6 hY6 hu56 hyW
            have hrg := fset_c HX6.out.fw (by omega) fl n
            have HRG := Lib.hid hrg
            clear hrg
            go_wp2_with (fail)
            refine HRG.out.mono ?_
            rintro e w7 ⟨rfl, hp, hA7⟩
            have hX7 := HX6.out.rg hp hA7
            have HGN := Lib.hid (hG)
            have hsm7 := fsame_c hX7.fw hK9 HGN.out hX7.ref
            have HSM7 := Lib.hid hsm7
            obtain ⟨b0, b1, b2, -⟩ := cells3 hX7.hW
            have HX7 := Lib.hid hX7
            clear hX7 hsm7 HX6 HS6 e0 e1 e2 e3 e4 e5 e6 e7
            (try clear HRG hp hA7)
            go_wp2_with (fail)
            refine HSM7.out.mono ?_
            rintro e w8 ⟨rfl, hu8⟩
            have HX8 := Lib.hid (HX7.out.same hu8)
            clear hu8 HX7 HSM7 b0 b1 b2
            go_wp2_with (fail)
            go_roundw
            case rel => exact ⟨k + 1, _, _, _, _, _, _, _, by go_num, by omega, HX8.out, HGN.out⟩
            case measure => simp [intOf]; omega
        · have hq1 : (kd == 1) = false := by simp [k1]
          have HK1 := Lib.hid k1
          clear k1
          by_cases k2 : kd = 2
          · have hq : (kd == 2) = true := by simp [k2]
            have HK := Lib.hid k2
            clear k2
            as_aux_lemma =>
              have hli : (rowI its fl).length ≤ 1000 := by
                unfold rowI
                split
                · have := hlen fl.toNat (by omega); omega
                · simp
              have HLI := Lib.hid hli
              clear hli
              have hrc := r4drop2_c hX4.ref hok hlk fl
              have HRC := Lib.hid hrc
              have HX4 := Lib.hid hX4
              have HS4 := Lib.hid hS4
              clear hrc hX4 hS4
              go_wp2_with (fail)
              refine HRC.out.mono ?_
              rintro e w5 ⟨fv5, rv5, xv5, va, vc, rfl, hR5, hu5, hv5, hy5⟩
              have hX5 := HX4.out.rf hu5 hR5
              have hS5 := hu5.keep0 HS4.out
              have hSZ5 : ¬ cutZ Z4 w4 S := fun q => hSZ q.1
              obtain ⟨fa5, fc5, ra5, rn5, rc5, xa5, xc5, rfl, rfl, rfl⟩ := hR5.shape
              clear HRC HX4 HS4 hu5 hR5 e0 e1 e2 e3 e4 e5 e6 e7 b0 b1 b2 hSZ hok hsm hlen hlk
              obtain ⟨b0, b1, b2, p0, p1, p2⟩ := cells3 hX5.hW
              have t1 := hX5.lt
              go_upto_region 23 with (fail)
              have hX6 := (hX5.put (.slice fa5 9 fc5) (.slice ra5 rn5 rc5) (.slice xa5 9 xc5)).same ((Upd.refl [] _).alloc (.cells #[.slice fa5 9 fc5, .slice ra5 rn5 rc5, .slice xa5 9 xc5] 81))
              have hS6 := heap_alloc_old (heap_setCell_ne (c := W) (heap_setCell_ne (c := W) (heap_setCell_ne (c := W) hS5 hSW 0 (.slice fa5 9 fc5)) hSW 1 (.slice ra5 rn5 rc5)) hSW 2 (.slice xa5 9 xc5)) (.cells #[.slice fa5 9 fc5, .slice ra5 rn5 rc5, .slice xa5 9 xc5] 81)
              have hu56 : Upd [W] w5 ((((w5.setCell ⟨W, 0, none⟩ (.slice fa5 9 fc5)).setCell ⟨W, 1, none⟩ (.slice ra5 rn5 rc5)).setCell ⟨W, 2, none⟩ (.slice xa5 9 xc5)).alloc (.cells #[.slice fa5 9 fc5, .slice ra5 rn5 rc5, .slice xa5 9 xc5] 81)) := ((((Upd.refl _ _).setCell (p := ⟨W, 0, none⟩) (by simp) _).setCell (p := ⟨W, 1, none⟩) (by simp) _).setCell (p := ⟨W, 2, none⟩) (by simp) _).alloc _
              have hyW := hX5.yW
              clear hX5 hS5 b0 b1 b2 p0 p1 p2 t1
              generalize (((w5.setCell ⟨W, 0, none⟩ (.slice fa5 9 fc5)).setCell ⟨W, 1, none⟩ (.slice ra5 rn5 rc5)).setCell ⟨W, 2, none⟩ (.slice xa5 9 xc5)).alloc (.cells #[.slice fa5 9 fc5, .slice ra5 rn5 rc5, .slice xa5 9 xc5] 81) = w6 at *
              generalize w5.heap.size = X6 at *
              have hSZ6 := hSZ5
              clear hSZ5
              generalize cutZ Z4 w4 = Z6 at *
              generalize hY6 : grow Y4 w4 = Y6 at *
              have HY6 := Lib.hid hY6
              have HX6 := Lib.hid hX6
              have HS6 := Lib.hid hS6
              have HU56 := Lib.hid hu56
              have HYW := Lib.hid hyW
              obtain ⟨e0, e1, e2, e3, e4, e5, e6, e7, -⟩ := cells8 hS6
              clear hS6 hX6 hY6 hu56 hyW
              have hv6 := hv5.upd HU56.out (fun y hy hm => by have := List.mem_singleton.1 hm; subst this; exact HYW.out (by rw [← HY6.out]; exact .inl (hy5 _ hy)))
              have HV6 := Lib.hid hv6
              have HY5 := Lib.hid hy5
              have hrg := fdrop_c HX6.out.fw (by omega) hfI
              have HRG := Lib.hid hrg
              clear hrg hv5 hv6 hy5
              generalize hL : rowI its fl = L at *
              go_wp2_with (fail)
              refine HRG.out.mono ?_
              rintro e w7 ⟨v7, rfl, hs7, hp, hA7⟩
              have hX7 := HX6.out.rg hp hA7
              have hv7 := HV6.out.updP hp (fun y hy q => HX6.out.dj y q (by rw [← HY6.out]; exact .inl (HY5.out y hy)))
              have hal := falike_c L hs7 hv7 HLI.out
              obtain ⟨ao7, cap7, rfl, -⟩ := hs7.form
              have HAL := Lib.hid hal
              have HXX := Lib.hid hX7
              clear hs7 hp hA7 hX7 hv7 hal HRG
              go_wp2_with (fail)
              refine HAL.out.mono ?_
              rintro e w9 ⟨rfl, hu9⟩
              have hX7 := HXX.out.same hu9
              clear hu9 HXX HAL HV6 HY5
              have HGN := Lib.hid (hG.drop fl)
              have hsm7 := fsame_c hX7.fw hK9 HGN.out hX7.ref
              have HSM7 := Lib.hid hsm7
              obtain ⟨b0, b1, b2, -⟩ := cells3 hX7.hW
              have HX7 := Lib.hid hX7
              clear hX7 hsm7 HX6 HS6 e0 e1 e2 e3 e4 e5 e6 e7
              (try clear HRG hp hA7)
              go_wp2_with (fail)
              refine HSM7.out.mono ?_
              rintro e w8 ⟨rfl, hu8⟩
              have HX8 := Lib.hid (HX7.out.same hu8)
              clear hu8 HX7 HSM7 b0 b1 b2
              go_wp2_with (fail)
              go_roundw
              case rel => exact ⟨k + 1, _, _, _, _, _, _, _, by go_num, by omega, HX8.out, HGN.out⟩
              case measure => simp [intOf]; omega
          · have hq2 : (kd == 2) = false := by simp [k2]
            have HK2 := Lib.hid k2
            clear k2
            by_cases k3 : kd = 3
            · have hq : (kd == 3) = true := by simp [k3]
              have HK := Lib.hid k3
              clear k3
              as_aux_lemma =>
                have hrc := r4rest_c hX4.ref hok hsm (by omega) fl (n.tmod 2 != 0)
                have HRC := Lib.hid hrc
                have HX4 := Lib.hid hX4
                have HS4 := Lib.hid hS4
                clear hrc hX4 hS4
                go_wp2_with (fail)
                refine HRC.out.mono ?_
                rintro e w5 ⟨fv5, rv5, xv5, rfl, hR5, hu5⟩
                have hX5 := HX4.out.rf hu5 hR5
                have hS5 := hu5.keep0 HS4.out
                have hSZ5 : ¬ cutZ Z4 w4 S := fun q => hSZ q.1
                obtain ⟨fa5, fc5, ra5, rn5, rc5, xa5, xc5, rfl, rfl, rfl⟩ := hR5.shape
                clear HRC HX4 HS4 hu5 hR5 e0 e1 e2 e3 e4 e5 e6 e7 b0 b1 b2 hSZ hok hsm hlen hlk
                obtain ⟨b0, b1, b2, p0, p1, p2⟩ := cells3 hX5.hW
                have t1 := hX5.lt
                go_upto_region 28 with (fail)
                have hX6 := (hX5.put (.slice fa5 9 fc5) (.slice ra5 rn5 rc5) (.slice xa5 9 xc5)).same ((Upd.refl [] _).alloc (.cells #[.slice fa5 9 fc5, .slice ra5 rn5 rc5, .slice xa5 9 xc5] 81))
                have hS6 := heap_alloc_old (heap_setCell_ne (c := W) (heap_setCell_ne (c := W) (heap_setCell_ne (c := W) hS5 hSW 0 (.slice fa5 9 fc5)) hSW 1 (.slice ra5 rn5 rc5)) hSW 2 (.slice xa5 9 xc5)) (.cells #[.slice fa5 9 fc5, .slice ra5 rn5 rc5, .slice xa5 9 xc5] 81)
                have hu56 : Upd [W] w5 ((((w5.setCell ⟨W, 0, none⟩ (.slice fa5 9 fc5)).setCell ⟨W, 1, none⟩ (.slice ra5 rn5 rc5)).setCell ⟨W, 2, none⟩ (.slice xa5 9 xc5)).alloc (.cells #[.slice fa5 9 fc5, .slice ra5 rn5 rc5, .slice xa5 9 xc5] 81)) := ((((Upd.refl _ _).setCell (p := ⟨W, 0, none⟩) (by simp) _).setCell (p := ⟨W, 1, none⟩) (by simp) _).setCell (p := ⟨W, 2, none⟩) (by simp) _).alloc _
                have hyW := hX5.yW
                clear hX5 hS5 b0 b1 b2 p0 p1 p2 t1
                generalize (((w5.setCell ⟨W, 0, none⟩ (.slice fa5 9 fc5)).setCell ⟨W, 1, none⟩ (.slice ra5 rn5 rc5)).setCell ⟨W, 2, none⟩ (.slice xa5 9 xc5)).alloc (.cells #[.slice fa5 9 fc5, .slice ra5 rn5 rc5, .slice xa5 9 xc5] 81) = w6 at *
                generalize w5.heap.size = X6 at *
                have hSZ6 := hSZ5
                clear hSZ5
                generalize cutZ Z4 w4 = Z6 at *
                generalize hY6 : grow Y4 w4 = Y6 at *
                have HY6 := Lib.hid hY6
                have HX6 := Lib.hid hX6
                have HS6 := Lib.hid hS6
                have HU56 := Lib.hid hu56
                have HYW := Lib.hid hyW
                obtain ⟨e0, e1, e2, e3, e4, e5, e6, e7, -⟩ := cells8 hS6
                clear hS6 hX6 hY6 hu56 hyW
                have hrg := frest_c HX6.out.fw (by omega) hfI (n.tmod 2 != 0)
                have HRG := Lib.hid hrg
                clear hrg
                go_wp2_with (fail)
                refine HRG.out.mono ?_
                rintro e w7 ⟨rfl, hp, hA7⟩
                have hX7 := HX6.out.rg hp hA7
                have HGN := Lib.hid (hG)
                have hsm7 := fsame_c hX7.fw hK9 HGN.out hX7.ref
                have HSM7 := Lib.hid hsm7
                obtain ⟨b0, b1, b2, -⟩ := cells3 hX7.hW
                have HX7 := Lib.hid hX7
                clear hX7 hsm7 HX6 HS6 e0 e1 e2 e3 e4 e5 e6 e7
                (try clear HRG hp hA7)
                go_wp2_with (fail)
                refine HSM7.out.mono ?_
                rintro e w8 ⟨rfl, hu8⟩
                have HX8 := Lib.hid (HX7.out.same hu8)
                clear hu8 HX7 HSM7 b0 b1 b2
                go_wp2_with (fail)
                go_roundw
                case rel => exact ⟨k + 1, _, _, _, _, _, _, _, by go_num, by omega, HX8.out, HGN.out⟩
                case measure => simp [intOf]; omega
            · have hq3 : (kd == 3) = false := by simp [k3]
              have HK3 := Lib.hid k3
              clear k3
              by_cases k4 : kd = 4
              · have hq : (kd == 4) = true := by simp [k4]
                have HK := Lib.hid k4
                clear k4
                as_aux_lemma =>
                  have hxs : (.agg #[i64 x.c, i64 x.k, i64 x.f, .string x.b, i64 x.a] : Value) = iv x := rfl
                  have hrc := r4push_c hX4.ref hok hsm (by omega) hlen fl x hxb
                  have HRC := Lib.hid hrc
                  have HX4 := Lib.hid hX4
                  have HS4 := Lib.hid hS4
                  clear hrc hX4 hS4
                  go_wp2_with (fail)
                  refine HRC.out.mono ?_
                  rintro e w5 ⟨fv5, rv5, xv5, rfl, hR5, hu5⟩
                  have hX5 := HX4.out.rf hu5 hR5
                  have hS5 := hu5.keep0 HS4.out
                  have hSZ5 : ¬ cutZ Z4 w4 S := fun q => hSZ q.1
                  obtain ⟨fa5, fc5, ra5, rn5, rc5, xa5, xc5, rfl, rfl, rfl⟩ := hR5.shape
                  clear HRC HX4 HS4 hu5 hR5 e0 e1 e2 e3 e4 e5 e6 e7 b0 b1 b2 hSZ hok hsm hlen hlk
                  obtain ⟨b0, b1, b2, p0, p1, p2⟩ := cells3 hX5.hW
                  have t1 := hX5.lt
                  go_upto_region 33 with (fail)
                  have hX6 := (hX5.put (.slice fa5 9 fc5) (.slice ra5 rn5 rc5) (.slice xa5 9 xc5)).same ((Upd.refl [] _).alloc (.cells #[.slice fa5 9 fc5, .slice ra5 rn5 rc5, .slice xa5 9 xc5] 81))
                  have hS6 := heap_alloc_old (heap_setCell_ne (c := W) (heap_setCell_ne (c := W) (heap_setCell_ne (c := W) hS5 hSW 0 (.slice fa5 9 fc5)) hSW 1 (.slice ra5 rn5 rc5)) hSW 2 (.slice xa5 9 xc5)) (.cells #[.slice fa5 9 fc5, .slice ra5 rn5 rc5, .slice xa5 9 xc5] 81)
                  have hu56 : Upd [W] w5 ((((w5.setCell ⟨W, 0, none⟩ (.slice fa5 9 fc5)).setCell ⟨W, 1, none⟩ (.slice ra5 rn5 rc5)).setCell ⟨W, 2, none⟩ (.slice xa5 9 xc5)).alloc (.cells #[.slice fa5 9 fc5, .slice ra5 rn5 rc5, .slice xa5 9 xc5] 81)) := ((((Upd.refl _ _).setCell (p := ⟨W, 0, none⟩) (by simp) _).setCell (p := ⟨W, 1, none⟩) (by simp) _).setCell (p := ⟨W, 2, none⟩) (by simp) _).alloc _
                  have hyW := hX5.yW
                  clear hX5 hS5 b0 b1 b2 p0 p1 p2 t1
                  generalize (((w5.setCell ⟨W, 0, none⟩ (.slice fa5 9 fc5)).setCell ⟨W, 1, none⟩ (.slice ra5 rn5 rc5)).setCell ⟨W, 2, none⟩ (.slice xa5 9 xc5)).alloc (.cells #[.slice fa5 9 fc5, .slice ra5 rn5 rc5, .slice xa5 9 xc5] 81) = w6 at *
                  generalize w5.heap.size = X6 at *
                  have hSZ6 := hSZ5
                  clear hSZ5
                  generalize cutZ Z4 w4 = Z6 at *
                  generalize hY6 : grow Y4 w4 = Y6 at *
                  have HY6 := Lib.hid hY6
                  have HX6 := Lib.hid hX6
                  have HS6 := Lib.hid hS6
                  have HU56 := Lib.hid hu56
                  have HYW := Lib.hid hyW
                  obtain ⟨e0, e1, e2, e3, e4, e5, e6, e7, -⟩ := cells8 hS6
                  clear hS6 hX6 hY6 hu56 hyW
                  have hc : ∀ w', Upd [] w6 w' → (w'.cell? ⟨S, 1, none⟩ = some (i64 fl) ∧ w'.cell? ⟨S, 3, none⟩ = some (i64 x.c) ∧ w'.cell? ⟨S, 4, none⟩ = some (i64 x.k) ∧ w'.cell? ⟨S, 5, none⟩ = some (i64 x.f) ∧ w'.cell? ⟨S, 6, none⟩ = some (.string x.b) ∧ w'.cell? ⟨S, 7, none⟩ = some (i64 x.a)) := fun w' hw => by
                    have h1 := hw.keep0 HS6.out
                    exact ⟨cellOf h1 1, cellOf h1 3, cellOf h1 4, cellOf h1 5, cellOf h1 6, cellOf h1 7⟩
                  have hps : ∀ w', Upd [] w6 w' → Calls Try.prog 34 #[.pointer (some ⟨B, 0, none⟩), i64 fl, .agg #[i64 x.c, i64 x.k, i64 x.f, .string x.b, i64 x.a]] w' fun e w'' => e = .returned (i64 (r.pushE fl x.cost)) ∧ (w''.cell? ⟨S, 1, none⟩ = some (i64 fl) ∧ w''.cell? ⟨S, 3, none⟩ = some (i64 x.c) ∧ w''.cell? ⟨S, 4, none⟩ = some (i64 x.k) ∧ w''.cell? ⟨S, 5, none⟩ = some (i64 x.f) ∧ w''.cell? ⟨S, 6, none⟩ = some (.string x.b) ∧ w''.cell? ⟨S, 7, none⟩ = some (i64 x.a)) ∧ UpdP Z6 w6 w'' ∧ FwAt w'' (grow Z6 w6) B (k + 1) (r.push fl x.cost) (pushI r its fl x) := fun w' hw => by
                    refine (fpush_c (HX6.out.fw.upd0 hw) (by omega) hfI x hxb).mono ?_
                    rintro e w'' ⟨rfl, hp, hA⟩
                    have hp2 : UpdP Z6 w6 w'' := (UpdP.of0 hw).trans hp (fun y q => .inl q)
                    have h1 := hp2.keep HS6.out hSZ6
                    exact ⟨rfl, ⟨cellOf h1 1, cellOf h1 3, cellOf h1 4, cellOf h1 5, cellOf h1 6, cellOf h1 7⟩, hp2, hA.more (fun y q => q.imp id (Nat.le_trans hw.size)) (Nat.le_refl _)⟩
                  have ho := fun w' => ours_c x w'
                  unfold iv at ho
                  have HO := Lib.hid ho
                  have HC := Lib.hid hc
                  have HPS := Lib.hid hps
                  clear hc hps ho hxs e0 e2
                  generalize r.pushE fl x.cost = E at *
                  go_wp2_with (fail)
                  go_region_held3 (fun w' => w'.cell? ⟨S, 1, none⟩ = some (i64 fl) ∧ w'.cell? ⟨S, 3, none⟩ = some (i64 x.c) ∧ w'.cell? ⟨S, 4, none⟩ = some (i64 x.k) ∧ w'.cell? ⟨S, 5, none⟩ = some (i64 x.f) ∧ w'.cell? ⟨S, 6, none⟩ = some (.string x.b) ∧ w'.cell? ⟨S, 7, none⟩ = some (i64 x.a))
                    ((first | exact HC.out _ (Upd.refl _ _) | exact HC.out _ (Upd.refl _ _).drew | exact HC.out _ hu4 | exact hc5))
                    ((first
                      | (go_at_call 35; (with_reducible refine Calls.mono (HO.out _) ?_); rintro e w9 ⟨rfl, huu⟩; have hu4 := (by first | exact (Upd.refl _ _).drew.trans' huu | exact (Upd.refl _ _).trans' huu : Upd [] w6 w9); clear huu)
                      | (go_at_call 34; (with_reducible refine Calls.mono (HPS.out _ hu4) ?_); rintro e w7 ⟨rfl, hc5, hp, hA7⟩)))
                  rename_i hHeld
                  have hX7 := HX6.out.rg hp hA7
                  have e0 := 0
                  have e2 := 0
                  clear hHeld hc5 hp hA7 hu4 HO HC HPS
                  have HGN := Lib.hid (hG.push r fl hxb)
                  have hsm7 := fsame_c hX7.fw hK9 HGN.out hX7.ref
                  have HSM7 := Lib.hid hsm7
                  obtain ⟨b0, b1, b2, -⟩ := cells3 hX7.hW
                  have HX7 := Lib.hid hX7
                  clear hX7 hsm7 HX6 HS6 e0 e1 e2 e3 e4 e5 e6 e7
                  (try clear HRG hp hA7)
                  go_wp2_with (fail)
                  refine HSM7.out.mono ?_
                  rintro e w8 ⟨rfl, hu8⟩
                  have HX8 := Lib.hid (HX7.out.same hu8)
                  clear hu8 HX7 HSM7 b0 b1 b2
                  go_wp2_with (fail)
                  go_roundw
                  case rel => exact ⟨k + 1, _, _, _, _, _, _, _, by go_num, by omega, HX8.out, HGN.out⟩
                  case measure => simp [intOf]; omega
              · have hq4 : (kd == 4) = false := by simp [k4]
                have HK4 := Lib.hid k4
                clear k4
                as_aux_lemma =>
                  have hrc := r4next_c hX4.ref hok hlk hsm (by omega) hlen
                  have HRC := Lib.hid hrc
                  have HX4 := Lib.hid hX4
                  have HS4 := Lib.hid hS4
                  clear hrc hX4 hS4
                  generalize hy : nextX r its = y at *
                  have HY := Lib.hid hy
                  clear hy
                  unfold iv at HRC
                  go_wp2_with (fail)
                  refine HRC.out.mono ?_
                  rintro e w5 ⟨fv5, rv5, xv5, rfl, hR5, hu5⟩
                  have hX5 := HX4.out.rf hu5 hR5
                  have hS5 := hu5.keep0 HS4.out
                  have hSZ5 : ¬ cutZ Z4 w4 S := fun q => hSZ q.1
                  obtain ⟨fa5, fc5, ra5, rn5, rc5, xa5, xc5, rfl, rfl, rfl⟩ := hR5.shape
                  have hz5 := hu5.size
                  clear HRC HX4 HS4 hu5 hR5 e0 e1 e2 e3 e4 e5 e6 e7 b0 b1 b2 hSZ hok hsm hlen hlk
                  obtain ⟨b0, b1, b2, p0, p1, p2⟩ := cells3 hX5.hW
                  have t1 := hX5.lt
                  go_upto_region 12 with (fail)
                  have hX6 := ((hX5.put (.slice fa5 9 fc5) (.slice ra5 rn5 rc5) (.slice xa5 9 xc5)).same ((Upd.refl [] _).alloc (.cells #[.slice fa5 9 fc5, .slice ra5 rn5 rc5, .slice xa5 9 xc5] 81))).same ((Upd.refl [] _).alloc (.cells #[i64 y.c, i64 y.k, i64 y.f, .string y.b, i64 y.a] 68))
                  have hV6 := heap_new2 (((w5.setCell ⟨W, 0, none⟩ (.slice fa5 9 fc5)).setCell ⟨W, 1, none⟩ (.slice ra5 rn5 rc5)).setCell ⟨W, 2, none⟩ (.slice xa5 9 xc5)) (.cells #[.slice fa5 9 fc5, .slice ra5 rn5 rc5, .slice xa5 9 xc5] 81) (.cells #[i64 y.c, i64 y.k, i64 y.f, .string y.b, i64 y.a] 68)
                  have hz6 : (((w5.setCell ⟨W, 0, none⟩ (.slice fa5 9 fc5)).setCell ⟨W, 1, none⟩ (.slice ra5 rn5 rc5)).setCell ⟨W, 2, none⟩ (.slice xa5 9 xc5)).heap.size = w5.heap.size := by simp
                  rw [hz6] at hV6
                  have hVZ : ¬ cutZ Z4 w4 (w5.heap.size + 1) := fun q => by have := q.2; omega
                  clear hX5 hS5 b0 b1 b2 p0 p1 p2 t1 hz6
                  generalize ((((w5.setCell ⟨W, 0, none⟩ (.slice fa5 9 fc5)).setCell ⟨W, 1, none⟩ (.slice ra5 rn5 rc5)).setCell ⟨W, 2, none⟩ (.slice xa5 9 xc5)).alloc (.cells #[.slice fa5 9 fc5, .slice ra5 rn5 rc5, .slice xa5 9 xc5] 81)).alloc (.cells #[i64 y.c, i64 y.k, i64 y.f, .string y.b, i64 y.a] 68) = w6 at *
                  generalize w5.heap.size = X6 at *
                  clear hSZ5 hz5
                  generalize cutZ Z4 w4 = Z6 at *
                  generalize grow Y4 w4 = Y6 at *
                  have hrg := fnext_c hX6.fw (by omega)
                  rw [HY.out] at hrg
                  unfold iv at hrg
                  have HRG := Lib.hid hrg
                  have HX6 := Lib.hid hX6
                  have HV6 := Lib.hid hV6
                  clear hrg hX6 hV6
                  go_wp2_with (fail)
                  refine HRG.out.mono ?_
                  rintro e w7 ⟨rfl, hp, hA7⟩
                  have hX7 := HX6.out.rg hp hA7
                  have hV7 := hp.keep HV6.out hVZ
                  clear hp hA7 HRG
                  go_upto_region 13 with (fail)
                  have hX8 := hX7.same ((Upd.refl [] _).alloc (.cells #[i64 y.c, i64 y.k, i64 y.f, .string y.b, i64 y.a] 74))
                  have hV8 := heap_alloc_old hV7 (.cells #[i64 y.c, i64 y.k, i64 y.f, .string y.b, i64 y.a] 74)
                  have hU8 := heap_alloc_new w7 (.cells #[i64 y.c, i64 y.k, i64 y.f, .string y.b, i64 y.a] 74)
                  clear hX7 hV7
                  generalize w7.alloc (.cells #[i64 y.c, i64 y.k, i64 y.f, .string y.b, i64 y.a] 74) = w8 at *
                  generalize w7.heap.size = U8 at *
                  have hc : ∀ w', Upd [] w8 w' → (w'.cell? ⟨U8, 0, none⟩ = some (i64 y.c) ∧ w'.cell? ⟨U8, 1, none⟩ = some (i64 y.k) ∧ w'.cell? ⟨U8, 2, none⟩ = some (i64 y.f) ∧ w'.cell? ⟨U8, 3, none⟩ = some (.string y.b) ∧ w'.cell? ⟨U8, 4, none⟩ = some (i64 y.a) ∧
                      w'.cell? ⟨X6 + 1, 0, none⟩ = some (i64 y.c) ∧ w'.cell? ⟨X6 + 1, 1, none⟩ = some (i64 y.k) ∧ w'.cell? ⟨X6 + 1, 2, none⟩ = some (i64 y.f) ∧ w'.cell? ⟨X6 + 1, 3, none⟩ = some (.string y.b) ∧ w'.cell? ⟨X6 + 1, 4, none⟩ = some (i64 y.a)) := fun w' hw => by
                    have h1 := hw.keep0 hU8
                    have h2 := hw.keep0 hV8
                    exact ⟨cellOf h1 0, cellOf h1 1, cellOf h1 2, cellOf h1 3, cellOf h1 4, cellOf h2 0, cellOf h2 1, cellOf h2 2, cellOf h2 3, cellOf h2 4⟩
                  have ho := fun w' => ours_c y w'
                  unfold iv at ho
                  have HO := Lib.hid ho
                  have HC := Lib.hid hc
                  have HX8' := Lib.hid hX8
                  obtain ⟨c0, c1, c2, c3, c4, d0, d1, d2, d3, d4⟩ := hc _ (Upd.refl _ _)
                  clear hc ho hU8 hV8 hX8 HV6 HX6
                  generalize r.turn.n = tn at *
                  generalize r.turn.ok = tk at *
                  rcases y with ⟨yc, yk, yf, yb, ya⟩
                  simp only at HO HC c0 c1 c2 c3 c4 d0 d1 d2 d3 d4
                  go_wp2_with (fail)
                  go_region_held3 (fun w' => w'.cell? ⟨U8, 0, none⟩ = some (i64 yc) ∧ w'.cell? ⟨U8, 1, none⟩ = some (i64 yk) ∧ w'.cell? ⟨U8, 2, none⟩ = some (i64 yf) ∧ w'.cell? ⟨U8, 3, none⟩ = some (.string yb) ∧ w'.cell? ⟨U8, 4, none⟩ = some (i64 ya) ∧
                      w'.cell? ⟨X6 + 1, 0, none⟩ = some (i64 yc) ∧ w'.cell? ⟨X6 + 1, 1, none⟩ = some (i64 yk) ∧ w'.cell? ⟨X6 + 1, 2, none⟩ = some (i64 yf) ∧ w'.cell? ⟨X6 + 1, 3, none⟩ = some (.string yb) ∧ w'.cell? ⟨X6 + 1, 4, none⟩ = some (i64 ya))
                    (exact HC.out _ (by (repeat' (first | (with_reducible exact Upd.refl _ _) | (with_reducible exact huu) | (with_reducible apply Upd.drew) | (with_reducible apply Upd.alloc) | (with_reducible refine Upd.setCell ?_ (.inr (by simp; omega)) _) | (with_reducible refine Upd.setCell ?_ (.inr (by simp)) _)))))
                    ((first
                      | (go_at_call 35; (with_reducible refine Calls.mono (HO.out _) ?_); rintro e w9 ⟨rfl, hu0⟩; have huu := (by first | exact (Upd.refl _ _).drew.trans' hu0 | exact (Upd.refl _ _).trans' hu0 : Upd [] w8 w9))))
                  rename_i hHeld
                  have hX7 := HX8'.out.same huu
                  have HX6 := 0
                  have HS6 := 0
                  have e0 := 0
                  have e1 := 0
                  have e2 := 0
                  have e3 := 0
                  have e4 := 0
                  have e5 := 0
                  have e6 := 0
                  have e7 := 0
                  clear hHeld c0 c1 c2 c3 c4 d0 d1 d2 d3 d4 HO HC HX8' hu0 huu
                  have HGN := Lib.hid (hG.next r)
                  have hsm7 := fsame_c hX7.fw hK9 HGN.out hX7.ref
                  have HSM7 := Lib.hid hsm7
                  obtain ⟨b0, b1, b2, -⟩ := cells3 hX7.hW
                  have HX7 := Lib.hid hX7
                  clear hX7 hsm7 HX6 HS6 e0 e1 e2 e3 e4 e5 e6 e7
                  (try clear HRG hp hA7)
                  go_wp2_with (fail)
                  refine HSM7.out.mono ?_
                  rintro e w8 ⟨rfl, hu8⟩
                  have HX8 := Lib.hid (HX7.out.same hu8)
                  clear hu8 HX7 HSM7 b0 b1 b2
                  go_wp2_with (fail)
                  go_roundw
                  case rel => exact ⟨k + 1, _, _, _, _, _, _, _, by go_num, by omega, HX8.out, HGN.out⟩
                  case measure => simp [intOf]; omega
      · have e : k = l.length := by omega
        have hu := hX.upd
        clear hX
        go_wp2_with (fail)
        refine Calls.mono (flwAwake_c _) ?_
        rintro e w5 ⟨rfl, hu5⟩
        go_wp2_with (fail)
        exact hR.out _ _ ⟨rfl, hu.trans' hu5⟩

set_option maxRecDepth 100000 in
theorem flowsSteps_walk {H : Type} {enc : TypeId × Value → H} {W : World} {base : Nat} {args : Array Value} {ds gs : List (DataW H)} {before : List MemPlace}
    (hval : ∀ (j : Nat) t v, Try.f8.params[j]? = some t → args[j]? = some v → Value.okWide Try.prog W .any base t v)
    (hW : DataW.Whole enc Try.prog Try.f8.params.toList [] false W args.toList ds gs before) : Trues 8 args W := by
  obtain ⟨p, q, hA, -, rfl, -, -⟩ := hW
  rw [Try.params8] at hA hval
  obtain ⟨v0, d0, rfl, rfl, h0⟩ := trodAll_one hA
  obtain ⟨ao, cap, l, rfl, hlc, hcap, hg, hl⟩ := open_list FStp.parse Try.underlying57 flat_fstp cells_fstp (by decide) (hval 0 57 v0 rfl rfl) h0
  refine flowsSteps_c ao cap l W (Nat.le_trans hlc hcap) ?_ hg
  rcases hl with rfl | ⟨b, off, rfl, hr⟩
  · exact .inl rfl
  · cases l with
    | nil => exact .inl rfl
    | cons x r => exact .inr ⟨b, off, rfl, hr, World.block_lt_of_cell? W _ (hr 0 x rfl 0 (by decide))⟩

set_option maxRecDepth 100000 in
theorem flowsSteps_lifted (os : Os) (started : os.Started) (H : Type) (enc : TypeId × Value → H) :
    ReturnsInHanded {} Try.checked os 8 .any (Rows.flowsStepsSpec.pre6 enc Try.prog Try.f8 Rows.flowsStepsRow.domain false) (Rows.flowsStepsSpec.post enc Try.prog Try.f8 false true false false) := by
  refine returnsInHanded_of_change (C := Try.checked) own started (by kernel_rfl) Try.func8
    (ChangeSpec.witness6 (enc := enc) (C := Try.checked) false ⟨#[], #[.slice none 0 0], []⟩ 8 (by kernel_rfl) (by kernel_rfl) (by kernel_rfl) (by kernel_rfl)) ?_
  intro W base args ds gs before hval hW hcnd _
  refine Calls.mono (flowsSteps_walk hval hW) fun e W' ⟨he, hu⟩ => ?_
  exact ⟨_, he, law_post rfl rfl (by kernel_rfl) hW (fun ds h => by match ds, h with | [_], _ => rfl) hu⟩

set_option maxRecDepth 100000 in
theorem flowsSteps_over : Rows.flowsStepsRow.holds Try.pinned (OpenSpec.ofChange Rows.flowsStepsSpec) :=
  OpenClaim.holds_of_wide 8 Try.f8 rfl rfl rfl rfl rfl rfl rfl ⟨rfl, rfl, rfl, rfl, rfl⟩ rfl rfl rfl rfl rfl (by kernel_rfl) Try.func8 (by kernel_rfl)
    (of_decide_eq_true (by kernel_rfl)) (by unfold Func.isWrapper; first | (rw [if_pos (by decide +kernel)]; kernel_rfl) | (rw [if_neg (by decide +kernel)]; exact ⟨rfl, rfl⟩))
    (fun os started H enc _ => flowsSteps_lifted os started H enc)

theorem flowsSteps_proved : Rows.FlowsStepsSaid := flowsSteps_over
end Go.Proofs.Ytabhdigannalgaa
