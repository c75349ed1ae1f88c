/-
  The law's own same (chapter 38): a table and the document's table are alike. Condition: sixteen connections at most.
-/
import Derived.Test.YtagadbgbicebaaaConnOf
namespace Go.Proofs.Ytagadbgbicebaaa
open Go Go.RowKit

set_option maxRecDepth 100000 in
set_option maxHeartbeats 1000000 in
/-- two rows of the same numbers -/
theorem rints38_c {w : World} {u v : Value} {l : List Int} (h : Sub w 0 3 1 u l.length (l.map i64)) (h2 : Sub w 0 3 1 v l.length (l.map i64)) (hlen : l.length ≤ 1000) :
    Calls Try.prog 64 #[u, v] w fun e w' => e = .returned (.bool true) ∧ Upd [] w w' := by
  obtain ⟨ao, cap, rfl, hcap, hrow⟩ := h.form
  obtain ⟨ao2, cap2, rfl, hcap2, hrow2⟩ := h2.form
  by_cases h0 : 0 < l.length
  · obtain ⟨g, off, rfl, -, hg, hc⟩ := hrow h0
    obtain ⟨g2, off2, rfl, -, hg2, hc2⟩ := hrow2 h0
    have HC := Lib.hid hc
    have HC2 := Lib.hid hc2
    have hget : ∀ k (hk : k < l.length), (l.map i64)[k]? = some (i64 l[k]) := fun k hk => by rw [List.getElem?_map, List.getElem?_eq_getElem hk]; rfl
    have HG := Lib.hid hget
    clear hrow hrow2 h h2 hc hc2 hget
    refine post fun R hR => ?_
    go_enter Try.func64, Try.ntmps64
    go_wp2_with fail
    go_loopw [5] (fun i wr => ∃ k : Nat, i = i64 k ∧ k ≤ l.length ∧ Upd [] w wr) (fun i _ => l.length - (intOf i).toNat)
    case atStart => exact ⟨0, rfl, Nat.zero_le _, Upd.refl _ _⟩
    case round =>
      obtain ⟨k, rfl, hk, hu⟩ := hrel
      by_cases hlt : k < l.length
      · have c1 := (hu.below.cell (p := ⟨g, off + k, none⟩) hg).trans (HC.out k _ (HG.out k hlt))
        have c2 := (hu.below.cell (p := ⟨g2, off2 + k, none⟩) hg2).trans (HC2.out k _ (HG.out k hlt))
        generalize l[k] = y at c1 c2
        go_wp2_with (fail)
        go_quiet (fail)
        go_wp2_with (fail)
        go_roundw
        case rel => exact ⟨k + 1, by go_num, by omega, by (repeat' (first | (with_reducible exact Upd.refl _ _) | (with_reducible assumption) | (with_reducible apply Upd.drew) | (with_reducible apply Upd.drewN) | (with_reducible apply Upd.alloc) | (with_reducible refine Upd.setCell ?_ (by simp) _) | (with_reducible refine Upd.setCell ?_ (by simp; omega) _)))⟩
        case measure => simp [intOf]; omega
      · go_wp2_with (fail)
        exact hR.out _ _ ⟨rfl, hu⟩
  · obtain rfl : l = [] := List.eq_nil_of_length_eq_zero (by omega)
    clear h hrow h2 hrow2
    refine post fun R hR => ?_
    go_enter Try.func64, Try.ntmps64
    go_wp2_with fail
    refine wp_loop_once ?_
    go_wp2_with fail
    exact hR.out _ _ ⟨rfl, Upd.refl _ _⟩

set_option maxRecDepth 100000 in
set_option maxHeartbeats 4000000 in
theorem csame38_c {w : World} {Z Y : Nat → Prop} {b : Nat} {l : List Ln} {v : Value} (h : TblAt w Z b l) (hr : RcAt w Y v l) :
    Calls Try.prog 46 #[.pointer (some ⟨b, 0, none⟩), v] w fun e w' => e = .returned (.bool true) ∧ Upd [] w w' := by
  have hlen := h.len
  obtain ⟨ao, cap, rfl⟩ := hr.form
  have H := Lib.hid h
  have HR := Lib.hid hr
  clear h hr
  refine post fun R hR => ?_
  go_enter Try.func46, Try.ntmps46
  go_wp2_with (fail)
  refine (tbl_len_c H.out).mono ?_
  rintro e w1 ⟨rfl, hu1⟩
  have hst : ∃ k : Nat, (-1 : Int) = (k : Int) - 1 ∧ k ≤ l.length + 2 ∧ Upd [] w w1 := ⟨0, by omega, by omega, hu1⟩
  have HST := Lib.hid hst
  clear hst hu1
  go_wp2_with (fail)
  go_loopw [5] (fun i wr => ∃ k : Nat, i = i64 ((k : Int) - 1) ∧ k ≤ l.length + 2 ∧ Upd [] w wr) (fun i _ => (l.length + 1 - intOf i).toNat)
  case atStart =>
    obtain ⟨k, e, h1, h2⟩ := HST.out
    exact ⟨k, by rw [← e], h1, h2⟩
  case round =>
    obtain ⟨k, rfl, hk, hu⟩ := hrel
    generalize hi : (k : Int) - 1 = i at *
    have hi1 : -1 ≤ i := by omega
    have hi2 : i ≤ l.length + 1 := by omega
    have HIK := Lib.hid hi
    clear hi
    have hT := H.out.upd0 hu
    have hC := HR.out.upd0 hu
    by_cases hlt : i ≤ l.length
    · have hth := cthere_c ao l.length cap i wr
      have how := tbl_owner_c hT i
      cases hl : lnAt l i with
      | none =>
        have hth' : thereN i l.length = false := decide_eq_false (by have := lnAt_none hl; omega)
        have hbr : tbroken l i = 0 := by unfold tbroken; rw [hl]
        have hwa : twaits l i = 0 := by unfold twaits; rw [hl]
        rw [hth'] at hth
        have HTH := Lib.hid hth
        have hT' := Lib.hid hT
        have hC' := Lib.hid hC
        have HU := Lib.hid hu
        clear hth hth' hl hT hC hu how
        go_wp2_with (fail)
        refine HTH.out.mono ?_
        rintro e w2 ⟨rfl, rfl⟩
        go_wp2_with (fail)
        refine (tbl_owner_c hT'.out _).mono ?_
        rintro e w3 ⟨rfl, hu3⟩
        go_wp2_with (fail)
        refine (cowner38_c (hC'.out.upd0 hu3) _).mono ?_
        rintro e w4 ⟨rfl, rfl⟩
        go_wp2_with (fail)
        refine (tbl_takes_c (hT'.out.upd0 hu3) _).mono ?_
        rintro e w4 ⟨rfl, hu4⟩
        have hu34 := hu3.trans' hu4
        go_wp2_with (fail)
        refine (ctakes38_c (hC'.out.upd0 hu34) _).mono ?_
        rintro e w5 ⟨rfl, rfl⟩
        go_wp2_with (fail)
        refine (tbl_broken_c (hT'.out.upd0 hu34) _).mono ?_
        rintro e w5 ⟨rfl, hu5⟩
        rw [hbr]
        have hu35 := hu34.trans' hu5
        go_wp2_with (fail)
        refine (tbl_waits_c (hT'.out.upd0 hu35) _).mono ?_
        rintro e w6 ⟨rfl, hu6⟩
        rw [hwa]
        have hu36 := hu35.trans' hu6
        go_wp2_with (fail)
        go_roundw
        case rel => exact ⟨k + 1, by have := HIK.out; congr 1; omega, by have := HIK.out; omega, HU.out.trans' hu36⟩
        case measure => simp [intOf]; omega
      | some m =>
        obtain ⟨n0, hm, hml⟩ := lnAt_some hl
        have hth' : thereN i l.length = true := decide_eq_true (by omega)
        have hbr : tbroken l i = m.e := by unfold tbroken; rw [hl]
        have hwa : twaits l i = m.out.length := by unfold twaits; rw [hl]
        rw [hth'] at hth
        obtain ⟨q, rfl⟩ : ∃ q : Nat, i = q := ⟨i.toNat, by omega⟩
        obtain ⟨ps, hps, hX⟩ := hC
        have hpl : ps.length = l.length := by rw [← hps, List.length_map]
        obtain ⟨ao', cap', e', -, hrow⟩ := hX.form
        rw [hpl] at e' hrow
        injection e' with e1 e2 e3
        subst e1; subst e3
        obtain ⟨g, off, rfl, hg⟩ := hrow (by omega)
        rw [← hpl] at hX
        obtain ⟨-, -, -, c3, c4⟩ := hX.get (k := q) (by omega)
        obtain ⟨co, cc, hcv, -⟩ := (hX.out _ (List.getElem_mem (show q < ps.length by omega))).form
        have hpm : ps[q].1 = m := by
          have : (ps.map Prod.fst)[q]? = some m := by rw [hps]; simpa using hm
          rw [List.getElem?_map, List.getElem?_eq_getElem (show q < ps.length by omega)] at this
          simpa using this
        rw [hcv] at c4
        rw [hpm] at c3 c4
        have HTH := Lib.hid hth
        have hT' := Lib.hid hT
        have hC' := Lib.hid (show RcAt wr Y (.slice (some ⟨g, off, none⟩) l.length cap) l from ⟨ps, hps, by rw [← hpl]; exact hX⟩)
        have HU := Lib.hid hu
        have hql : (q : Int) < l.length := hml
        clear hth hth' hl hT hu how hm hX hps hpl hrow hcv hpm
        go_wp2_with (fail)
        refine HTH.out.mono ?_
        rintro e w2 ⟨rfl, rfl⟩
        generalize hmo : m.out.length = mo at *
        clear hmo
        go_wp2_with (fail)
        refine (tbl_owner_c hT'.out _).mono ?_
        rintro e w3 ⟨rfl, hu3⟩
        go_wp2_with (fail)
        refine (cowner38_c (hC'.out.upd0 hu3) _).mono ?_
        rintro e w4 ⟨rfl, rfl⟩
        go_wp2_with (fail)
        refine (tbl_takes_c (hT'.out.upd0 hu3) _).mono ?_
        rintro e w4 ⟨rfl, hu4⟩
        have hu34 := hu3.trans' hu4
        go_wp2_with (fail)
        refine (ctakes38_c (hC'.out.upd0 hu34) _).mono ?_
        rintro e w5 ⟨rfl, rfl⟩
        go_wp2_with (fail)
        refine (tbl_broken_c (hT'.out.upd0 hu34) _).mono ?_
        rintro e w5 ⟨rfl, hu5⟩
        rw [hbr]
        have hu35 := hu34.trans' hu5
        go_wp2_with (fail)
        refine (tbl_waits_c (hT'.out.upd0 hu35) _).mono ?_
        rintro e w6 ⟨rfl, hu6⟩
        rw [hwa]
        have hu36 := hu35.trans' hu6
        go_wp2_with (fail)
        go_roundw
        case rel => exact ⟨k + 1, by have := HIK.out; congr 1; omega, by have := HIK.out; omega, HU.out.trans' hu36⟩
        case measure => simp [intOf]; omega
    · have hT' := Lib.hid hT
      have hC' := Lib.hid hC
      have HU := Lib.hid hu
      have hst : ∃ k : Nat, (-1 : Int) = (k : Int) - 1 ∧ k ≤ 11 := ⟨0, by omega, by omega⟩
      have HST2 := Lib.hid hst
      clear hT hC hu hst HST
      go_wp2_with (fail)
      go_loopw [8] (fun i wx => ∃ k : Nat, i = i64 ((k : Int) - 1) ∧ k ≤ 11 ∧ Upd [] wr wx) (fun i _ => (10 - intOf i).toNat)
      case atStart =>
        obtain ⟨k, e, h1⟩ := HST2.out
        exact ⟨k, by rw [← e], h1, Upd.refl _ _⟩
      case round =>
        obtain ⟨k2, rfl, hk2, hux⟩ := hrel
        generalize hi : (k2 : Int) - 1 = j at *
        have hj1 : -1 ≤ j := by omega
        have hj2 : j ≤ 10 := by omega
        have HIK2 := Lib.hid hi
        clear hi
        by_cases hj : j < 10
        · have ho1 := tbl_of_c (hT'.out.upd0 hux) j
          have HO1 := Lib.hid ho1
          have hC2 := hC'.out.upd0 hux
          have hol : (tof l j).length ≤ 1000 := by have := tofK_len l j l.length; unfold tof; omega
          clear ho1
          go_wp2_with (fail)
          refine HO1.out.mono ?_
          rintro e w2 ⟨v2, rfl, hs2, hu2⟩
          have HO2 := Lib.hid (cof38_c (hC2.upd0 hu2) hlen j)
          go_wp2_with (fail)
          refine HO2.out.mono ?_
          rintro e w3 ⟨v3, rfl, hs3, hu3⟩
          have HO3 := Lib.hid (rints38_c (hs2.upd0 hu3) hs3 hol)
          have hx3 := (hux.trans' hu2).trans' hu3
          clear hs2 hs3 hu2 hu3 hC2 hux HO1 HO2
          go_wp2_with (fail)
          refine HO3.out.mono ?_
          rintro e w4 ⟨rfl, hu4⟩
          go_wp2_with (fail)
          go_roundw
          case rel => exact ⟨k2 + 1, by have := HIK2.out; congr 1; omega, by have := HIK2.out; omega, hx3.trans' hu4⟩
          case measure => simp [intOf]; omega
        · go_wp2_with (fail)
          exact hR.out _ _ ⟨rfl, HU.out.trans' hux⟩
end Go.Proofs.Ytagadbgbicebaaa
