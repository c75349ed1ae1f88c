/-
  AccountKeeps: as long as no limit is set, what is taken is never below 0, nor above the limit, and what is taken and what is free come to the limit. For every limit and list of steps. No condition.
-/
import Derived.Test.YtnhanldefebjbaaAStep
import Derived.Test.YtnhanldefebjbaaAccountAwake
import Derived.Test.YtnhanldefebjbaaAccRef
import Derived.Deep.RegionHeld3
import Derived.Deep.DeepCutAuto
import Derived.Deep.CutBlock
namespace Go.Proofs.Ytnhanldefebjbaa
open Go Go.RowKit Go.ChangeShapes Go.WideShapes Go.ChangeAt

theorem wrap_sub_ne {t n : Int} (hn : -9223372036854775808 ≤ n ∧ n ≤ 9223372036854775807) (h : n ≠ 0) : (wrap64 (t - n) == t) = false := by
  have : wrap64 (t - n) ≠ t := by
    unfold wrap64; omega
  simpa using this

theorem keepRow {w wr : World} {b off : Nat} {l : List AStep} (hr : RowsAt w b off 2 AStep.cells l) (hu : Upd [] w wr) (hb : b < w.heap.size) {k : Nat} (hk : k < l.length) :
    wr.cell? ⟨b, off + k * 2, none⟩ = some (i64 (l[k].kind)) ∧ wr.cell? ⟨b, off + k * 2 + 1, none⟩ = some (i64 (l[k].n)) := by
  have h0 := hr k l[k] (List.getElem?_eq_getElem hk)
  exact ⟨(hu.below.cell (p := ⟨b, off + k * 2, none⟩) hb).trans (h0 0 (by omega)), (hu.below.cell (p := ⟨b, off + k * 2 + 1, none⟩) hb).trans (h0 1 (by omega))⟩

set_option maxRecDepth 100000 in
set_option maxHeartbeats 4000000 in
theorem akeeps_c (limit : Int) (b off cap : Nat) (l : List AStep) (w : World) (hlen : l.length ≤ 2000) (hlim : 0 ≤ limit ∧ limit ≤ 1048576) (hrows : RowsAt w b off 2 AStep.cells l) (hb : b < w.heap.size) (hgood : ∀ x ∈ l, x.good) :
    Trues 4 #[i64 limit, .slice (some ⟨b, off, none⟩) l.length cap] w := by
  unfold Trues
  have HRows := Lib.hid hrows
  have HGood := Lib.hid hgood
  clear hrows hgood
  obtain ⟨l1, l2⟩ := hlim
  refine post fun R hR => ?_
  go_enter Try.func4, Try.ntmps4
  go_wp2_with (fail)
  refine Calls.mono (anew_c _ _) ?_
  rintro e w1 ⟨rfl, hu1, hh1⟩
  rw [show max 0 (min limit 1048576) = limit from by omega] at hh1
  go_wp2_with (fail)
  go_loopw [6] (fun i wr => ∃ (k : Nat) (t : Int), i = i64 k ∧ k ≤ l.length ∧ wr.heap[w.heap.size]? = some (.cells #[i64 limit, i64 t] 40 (0, 0)) ∧ (0 ≤ t ∧ t ≤ limit) ∧ Upd [] w wr)
    (fun i _ => l.length - (intOf i).toNat)
  case atStart => exact ⟨0, 0, rfl, Nat.zero_le _, hh1, by omega, hu1⟩
  case round =>
    clear hh1 hu1
    obtain ⟨k, t, rfl, hk, hA, ht, hu⟩ := hrel
    obtain ⟨t1, t2⟩ := ht
    by_cases hlt : k < l.length
    · obtain ⟨c0, c1⟩ := keepRow HRows.out hu hb hlt
      obtain ⟨hs1, hs2⟩ := HGood.out l[k] (List.getElem_mem hlt)
      generalize l[k].kind = kd at *
      generalize l[k].n = n at *
      go_wp2_with (fail)
      refine Calls.mono (taken_c (off := 0) (l := limit) (t := t) ⟨hA, rfl, rfl⟩) ?_
      rintro e w2 ⟨rfl, hu2⟩
      have hA2 := hu2.keep0 hA
      have c02 := (hu2.below.cell (p := ⟨b, off + k * 2, none⟩) (by have := hu.size; simp; omega)).trans c0
      have c12 := (hu2.below.cell (p := ⟨b, off + k * 2 + 1, none⟩) (by have := hu.size; simp; omega)).trans c1
      have hu' := hu.trans' hu2
      clear hA c0 c1 hu hu2
      go_upto_if 43 with (fail)
      go_cut [9] (fun _ wc => ∃ t', wc.heap[w.heap.size]? = some (.cells #[i64 limit, i64 t'] 40 (0, 0)) ∧ (0 ≤ t' ∧ t' ≤ limit) ∧ Upd [] w wc)
      case first =>
        by_cases hn0 : n < 0
        · have hw := wrap_sub_ne (t := t) hs2 (by omega)
          have hT := atake2_c hA2 n (by omega) (by omega)
          have hG := agive2_c hA2 n (by omega)
          rw [show moveErr (max (limit - t) 0) n 13 = 1 from by unfold moveErr; rw [if_pos hn0], show movedBy 1 t n = t from rfl] at hT
          rw [show moveErr t n 1 = 1 from by unfold moveErr; rw [if_pos hn0], show movedBy 1 t (-n) = t from rfl] at hG
          have HT := Lib.hid hT
          have HG := Lib.hid hG
          clear hT hG
          by_cases hk1 : kd = 1
          · have hq : (kd == 1) = true := by simp [hk1]
            have HQ := Lib.hid hk1
            clear hk1
            go_wp2_with (fail)
            refine Calls.mono (HT.out) ?_
            rintro e w4 ⟨rfl, hu4, hA4⟩
            go_wp2_with (fail)
            refine Calls.mono (taken_c (off := 0) (l := limit) (t := t) ⟨hA4, rfl, rfl⟩) ?_
            rintro e w5 ⟨rfl, hu5⟩
            go_wp2_with (fail)
            go_meet
            case rel => exact ⟨t, hu5.keep0 hA4, ⟨by omega, by omega⟩, (hu'.trans hu4 (by simp)).trans' hu5⟩
          · have hq : (kd == 1) = false := by simp [hk1]
            have HQ := Lib.hid hk1
            clear hk1
            go_wp2_with (fail)
            refine Calls.mono (HG.out) ?_
            rintro e w4 ⟨rfl, hu4, hA4⟩
            go_wp2_with (fail)
            go_meet
            case rel => exact ⟨t, hA4, ⟨by omega, by omega⟩, hu'.trans hu4 (by simp)⟩
        · by_cases hk1 : kd = 1
          · have hq : (kd == 1) = true := by simp [hk1]
            have HQ := Lib.hid hk1
            clear hk1
            have hT := atake2_c hA2 n (by omega) (by omega)
            by_cases hn1 : max (limit - t) 0 < n
            · have hw : (t - n == t) = false := by
                have : t - n ≠ t := by omega
                simpa using this
              rw [show moveErr (max (limit - t) 0) n 13 = 13 from by unfold moveErr; rw [if_neg hn0, if_pos hn1], show movedBy 13 t n = t from rfl] at hT
              have HT := Lib.hid hT
              have HN := Lib.hid hn1
              clear hT hn1
              go_wp2_with (fail)
              refine Calls.mono (HT.out) ?_
              rintro e w4 ⟨rfl, hu4, hA4⟩
              go_wp2_with (fail)
              refine Calls.mono (taken_c (off := 0) (l := limit) (t := t) ⟨hA4, rfl, rfl⟩) ?_
              rintro e w5 ⟨rfl, hu5⟩
              go_wp2_with (fail)
              go_meet
              case rel => exact ⟨t, hu5.keep0 hA4, ⟨by omega, by omega⟩, (hu'.trans hu4 (by simp)).trans' hu5⟩
            · rw [show moveErr (max (limit - t) 0) n 13 = 0 from by unfold moveErr; rw [if_neg hn0, if_neg hn1], show movedBy 0 t n = t + n from rfl] at hT
              have HT := Lib.hid hT
              have hn2 : t + n ≤ limit := by omega
              have hw : (t + n - n == t) = true := by simp
              have hw0 : decide (0 ≤ n) = true := by simp; omega
              clear hT hn1
              go_wp2_with (fail)
              refine Calls.mono (HT.out) ?_
              rintro e w4 ⟨rfl, hu4, hA4⟩
              go_wp2_with (fail)
              refine Calls.mono (taken_c (off := 0) (l := limit) (t := t + n) ⟨hA4, rfl, rfl⟩) ?_
              rintro e w5 ⟨rfl, hu5⟩
              go_wp2_with (fail)
              go_meet
              case rel => exact ⟨t + n, hu5.keep0 hA4, ⟨by omega, by omega⟩, (hu'.trans hu4 (by simp)).trans' hu5⟩
          · have hq : (kd == 1) = false := by simp [hk1]
            have HQ := Lib.hid hk1
            clear hk1
            have hG := agive2_c hA2 n (by omega)
            by_cases hn1 : t < n
            · rw [show moveErr t n 1 = 1 from by unfold moveErr; rw [if_neg hn0, if_pos hn1], show movedBy 1 t (-n) = t from rfl] at hG
              have HG := Lib.hid hG
              clear hG
              go_wp2_with (fail)
              refine Calls.mono (HG.out) ?_
              rintro e w4 ⟨rfl, hu4, hA4⟩
              go_wp2_with (fail)
              go_meet
              case rel => exact ⟨t, hA4, ⟨by omega, by omega⟩, hu'.trans hu4 (by simp)⟩
            · rw [show moveErr t n 1 = 0 from by unfold moveErr; rw [if_neg hn0, if_neg hn1], show movedBy 0 t (-n) = t - n from rfl] at hG
              have HG := Lib.hid hG
              clear hG
              go_wp2_with (fail)
              refine Calls.mono (HG.out) ?_
              rintro e w4 ⟨rfl, hu4, hA4⟩
              go_wp2_with (fail)
              refine Calls.mono (taken_c (off := 0) (l := limit) (t := t - n) ⟨hA4, rfl, rfl⟩) ?_
              rintro e w5 ⟨rfl, hu5⟩
              go_wp2_with (fail)
              go_meet
              case rel => exact ⟨t - n, hu5.keep0 hA4, ⟨by omega, by omega⟩, (hu'.trans hu4 (by simp)).trans' hu5⟩
      case rest =>
        obtain ⟨t', hA4, ⟨t4, t5⟩, hu4⟩ := hcut
        clear hA2 c02 c12 hu'
        have hr := room_c (w := wc) (off := 0) (l := limit) (t := t') ⟨hA4, rfl, rfl⟩ (by omega) (by omega)
        rw [show max (limit - t') 0 = limit - t' from by omega] at hr
        have hr' := fun w' (hu : Upd [] wc w') => room_c (w := w') (off := 0) (l := limit) (t := t') ⟨hu.keep0 hA4, rfl, rfl⟩ (by omega) (by omega)
        rw [show max (limit - t') 0 = limit - t' from by omega] at hr'
        have hk' := fun w' (hu : Upd [] wc w') => taken_c (w := w') (off := 0) (l := limit) (t := t') ⟨hu.keep0 hA4, rfl, rfl⟩
        have hlast : (t' + (limit - t') == limit) = true := by
          have : t' + (limit - t') = limit := by omega
          simpa using this
        have hlast2 : (t' + (limit - t') != limit) = false := by
          have : t' + (limit - t') = limit := by omega
          simpa using this
        have HR' := Lib.hid hr'
        have HK := Lib.hid hk'
        clear hr hr' hk'
        go_wp2_with (fail)
        refine Calls.mono (HK.out _ (Upd.refl _ _)) ?_
        rintro e w5 ⟨rfl, hu5⟩
        go_wp2_with (fail)
        refine Calls.mono (HK.out _ hu5) ?_
        rintro e w6 ⟨rfl, hu6⟩
        have hu56 := hu5.trans' hu6
        go_wp2_with (fail)
        refine Calls.mono (HK.out _ hu56) ?_
        rintro e w7 ⟨rfl, hu7⟩
        have hu57 := hu56.trans' hu7
        go_wp2_with (fail)
        refine Calls.mono (HR'.out _ hu57) ?_
        rintro e w8 ⟨rfl, hu8⟩
        have hu58 := hu57.trans' hu8
        go_wp2_with (fail)
        go_roundw
        case rel => exact ⟨k + 1, t', by go_num, by omega, hu58.keep0 hA4, by omega, hu4.trans' hu58⟩
        case measure => simp [intOf]; omega
    · have e : k = l.length := by omega
      go_wp2_with (fail)
      refine (aawake_c _).mono ?_
      rintro e w5 ⟨rfl, hu5⟩
      go_wp2_with (fail)
      exact hR.out _ _ ⟨rfl, hu.trans' hu5⟩

set_option maxRecDepth 100000 in
theorem akeeps0_c (limit : Int) (ao : Option Addr) (cap : Nat) (w : World) (hlim : 0 ≤ limit ∧ limit ≤ 1048576) :
    Trues 4 #[i64 limit, .slice ao 0 cap] w := by
  unfold Trues
  obtain ⟨l1, l2⟩ := hlim
  refine post fun R hR => ?_
  go_enter Try.func4, Try.ntmps4
  go_wp2_with (fail)
  refine Calls.mono (anew_c _ _) ?_
  rintro e w1 ⟨rfl, hu1, hh1⟩
  go_wp2_with (fail)
  refine wp_loop_once ?_
  go_wp2_with (fail)
  refine (aawake_c _).mono ?_
  rintro e w5 ⟨rfl, hu5⟩
  go_wp2_with (fail)
  exact hR.out _ _ ⟨rfl, hu1.trans' hu5⟩

set_option maxRecDepth 100000 in
theorem akeeps9_c (limit : Int) (ao : Option Addr) (n cap : Nat) (w : World) (hn : 2000 < n ∨ limit < 0 ∨ 1048576 < limit) :
    Trues 4 #[i64 limit, .slice ao n cap] w := by
  unfold Trues
  by_cases h1 : 2000 < n
  · refine post fun R hR => ?_
    go_enter Try.func4, Try.ntmps4
    go_wp2_with (fail)
    refine (aawake_c _).mono ?_
    rintro e w5 ⟨rfl, hu5⟩
    go_wp2_with (fail)
    exact hR.out _ _ ⟨rfl, hu5⟩
  · by_cases h2 : limit < 0
    · refine post fun R hR => ?_
      go_enter Try.func4, Try.ntmps4
      go_wp2_with (fail)
      refine (aawake_c _).mono ?_
      rintro e w5 ⟨rfl, hu5⟩
      go_wp2_with (fail)
      exact hR.out _ _ ⟨rfl, hu5⟩
    · have h3 : 1048576 < limit := by omega
      refine post fun R hR => ?_
      go_enter Try.func4, Try.ntmps4
      go_wp2_with (fail)
      refine (aawake_c _).mono ?_
      rintro e w5 ⟨rfl, hu5⟩
      go_wp2_with (fail)
      exact hR.out _ _ ⟨rfl, hu5⟩

set_option maxRecDepth 100000 in
theorem accountKeeps_walk {H : Type} {enc : TypeId × Value → H} {W : World} {base : Nat} {args : Array Value} {ds gs : List (DataW H)} {before : List MemPlace}
    (hval : ∀ (j : Nat) t v, Try.f4.params[j]? = some t → args[j]? = some v → Value.okWide Try.prog W .any base t v)
    (hW : DataW.Whole enc Try.prog Try.f4.params.toList [] false W args.toList ds gs before) : Trues 4 args W := by
  obtain ⟨p, q, hA, -, rfl, -, -⟩ := hW
  rw [Try.params4] at hA hval
  obtain ⟨v0, v1, d0, d1, p0, p1, rfl, rfl, rfl, h0, h1⟩ := trodAll_two hA
  obtain ⟨n, rfl, rfl, rfl, wn⟩ := open_int Try.underlying3 (hval 0 3 v0 rfl rfl) h0
  obtain ⟨ao, cap, l, rfl, hlc, hcap, hg, hl⟩ := open_list AStep.parse Try.underlying22 flat_astep cells_astep (by decide) (hval 1 22 v1 rfl rfl) h1
  by_cases hbig : 2000 < l.length ∨ n < 0 ∨ 1048576 < n
  · exact akeeps9_c n ao l.length cap W hbig
  · have hlim : 0 ≤ n ∧ n ≤ 1048576 := by omega
    have hlen : l.length ≤ 2000 := by omega
    rcases hl with rfl | ⟨b, off, rfl, hr⟩
    · exact akeeps0_c n ao cap W hlim
    · cases l with
      | nil => exact akeeps0_c n _ cap W hlim
      | cons x r =>
        exact akeeps_c n b off cap (x :: r) W hlen hlim hr (World.block_lt_of_cell? W _ (hr 0 x rfl 0 (by decide))) hg

set_option maxRecDepth 100000 in
theorem accountKeeps_lifted (os : Os) (started : os.Started) (H : Type) (enc : TypeId × Value → H) :
    ReturnsInHanded {} Try.checked os 4 .any (Rows.accountKeepsSpec.pre6 enc Try.prog Try.f4 Rows.accountKeepsRow.domain false) (Rows.accountKeepsSpec.post enc Try.prog Try.f4 false true false false) := by
  refine returnsInHanded_of_change (C := Try.checked) own started (by kernel_rfl) Try.func4
    (ChangeSpec.witness6 (enc := enc) (C := Try.checked) false ⟨#[], #[.int .i64 0, .slice none 0 0], []⟩ 8 (by kernel_rfl) (by kernel_rfl) (by kernel_rfl) (by kernel_rfl)) ?_
  intro W base args ds gs before hval hW hcnd _
  refine Calls.mono (accountKeeps_walk hval hW) fun e W' ⟨he, hu⟩ => ?_
  exact ⟨_, he, law_post rfl rfl (by kernel_rfl) hW (fun ds h => by match ds, h with | [_, _], _ => rfl) hu⟩

set_option maxRecDepth 100000 in
theorem accountKeeps_over : Rows.accountKeepsRow.holds Try.pinned (OpenSpec.ofChange Rows.accountKeepsSpec) :=
  OpenClaim.holds_of_wide 4 Try.f4 rfl rfl rfl rfl rfl rfl rfl ⟨rfl, rfl, rfl, rfl, rfl⟩ rfl rfl rfl rfl rfl (by kernel_rfl) Try.func4 (by kernel_rfl)
    (of_decide_eq_true (by kernel_rfl)) (by unfold Func.isWrapper; first | (rw [if_pos (by decide +kernel)]; kernel_rfl) | (rw [if_neg (by decide +kernel)]; exact ⟨rfl, rfl⟩))
    (fun os started H enc _ => accountKeeps_lifted os started H enc)

theorem accountKeeps_proved : Rows.AccountKeepsSaid := accountKeeps_over
end Go.Proofs.Ytnhanldefebjbaa
