/-
  The contract of names.Of: the table of any declarations. Condition: lengths within the machine's bounds.
-/
import Derived.Test.YtagnclphmhjoiaaNam
import Derived.Deep.RegionLaw
namespace Go.Proofs.Ytagnclphmhjoiaa
open Go Go.RowKit Go.Maps

/-- rows of c cells each -/
def DRows (w : World) (b off : Nat) (l : List Dc) : Prop := ∀ (i : Nat) (s : Dc), l[i]? = some s → ∀ j, j < 5 → w.cell? ⟨b, off + i * 5 + j, none⟩ = s.cells[j]?

theorem drow {w wr : World} {b off : Nat} {l : List Dc} {S : List Nat} (hr : DRows w b off l) (hu : Upd S w wr) (hb : b < w.heap.size) (hS : b ∉ S) {k : Nat} (hk : k < l.length) :
    wr.cell? ⟨b, off + k * 5, none⟩ = some (i64 l[k].kind) ∧ wr.cell? ⟨b, off + k * 5 + 1, none⟩ = some (.string l[k].name) ∧ wr.cell? ⟨b, off + k * 5 + 2, none⟩ = some (.slice l[k].fa l[k].fn l[k].fc) ∧ wr.cell? ⟨b, off + k * 5 + 3, none⟩ = some (.slice l[k].ma l[k].mn l[k].mc) ∧ wr.cell? ⟨b, off + k * 5 + 4, none⟩ = some (i64 l[k].at_) := by
  have h0 := hr k l[k] (List.getElem?_eq_getElem hk)
  have hc : ∀ j, wr.cell? ⟨b, j, none⟩ = w.cell? ⟨b, j, none⟩ := fun j => World.cell?_of_block (hu.block b hb hS)
  exact ⟨(hc _).trans (h0 0 (by omega)), (hc _).trans (h0 1 (by omega)), (hc _).trans (h0 2 (by omega)), (hc _).trans (h0 3 (by omega)), (hc _).trans (h0 4 (by omega))⟩

set_option maxRecDepth 100000 in
set_option maxHeartbeats 2000000 in
theorem of_c (b off cap : Nat) (l : List Dc) (w : World) (hlen : l.length ≤ 2000000000000) (hrows : DRows w b off l) (hb : b < w.heap.size) (hgood : ∀ x ∈ l, x.name.size ≤ maxLen) (hpos : 0 < l.length) :
    Calls Try.prog 8 #[.slice (some ⟨b, off, none⟩) l.length cap] w fun e w' => ∃ T M v n D, e = .returned (.pointer (some ⟨T, 0, none⟩)) ∧ TabAt w' T M v n D l ∧ Upd [] w w' := by
  have HRows := Lib.hid hrows
  have HGood := Lib.hid hgood
  clear hrows hgood
  have hmm := @run_makeMap Try.prog
  refine post fun R hR => ?_
  go_enter Try.func8, Try.ntmps8
  go_wp2_with (fail)
  obtain ⟨wo, hwo⟩ : ∃ wo, wo = (w.alloc (.map #[] 0)).alloc (.cells #[.map (some w.heap.size), .slice none 0 0] 55) := ⟨_, rfl⟩
  obtain ⟨M, hM⟩ : ∃ M, M = w.heap.size := ⟨_, rfl⟩
  have hT0 : wo.heap[M + 1]? = some (.cells #[.map (some M), .slice none 0 0] 55 (0, 0)) := by rw [hwo, hM]; exact heap_new2 _ _ _
  have hO0 : wo.ownsMap (H := Unit) Try.prog 9 (plainElem Try.prog 3) M 0 (.map []) := by rw [hwo, hM]; exact (World.ownsMap_made _ _ _ _).alloc _
  have hU0 : Upd [] w wo := by rw [hwo]; exact ((Upd.refl _ _).alloc _).alloc _
  have hMw : w.heap.size ≤ M := by omega
  rw [← hwo, ← hM]
  clear hwo hM hmm
  go_loopw [13] (fun i wr => ∃ (k : Nat) (v : Value) (n : Nat) (D : DataW Unit), i = i64 k ∧ k ≤ l.length ∧ TabAt wr (M + 1) M v n D (l.take k) ∧ Upd [] w wr ∧ (∀ g ∈ blkL v, w.heap.size ≤ g)) (fun i _ => l.length - (intOf i).toNat)
  case atStart => exact ⟨0, _, 0, _, rfl, Nat.zero_le _, ⟨hT0, hO0, datOk_nil, by simp, sub_nil _ _ _ _⟩, hU0, by simp [blkL]⟩
  case round =>
    clear hT0 hO0 hU0
    obtain ⟨k, v, n, D, rfl, hk, hT, hu, hv⟩ := hrel
    by_cases hlt : k < l.length
    · obtain ⟨c0, c1, c2, c3, c4⟩ := drow HRows.out hu hb (by simp) hlt
      have hsn : l.take (k + 1) = l.take k ++ [l[k]] := List.take_succ_eq_append_getElem hlt
      have hnm := HGood.out l[k] (List.getElem_mem hlt)
      have HSN := Lib.hid hsn
      clear hsn
      generalize l[k] = d at *
      obtain ⟨kd, nm, fa, fn, fc, ma, mn, mc, at_⟩ := d
      simp only at c0 c1 c2 c3 c4 hnm
      obtain ⟨hh, hown, hok, hbd, hks⟩ := hT
      have hlt2 : M + 1 < wr.heap.size := lt_of_heap hh
      go_wp2_with (fail)
      obtain ⟨w1, hw1⟩ : ∃ w1, w1 = wr.alloc (.cells #[i64 kd, .string nm, .slice fa fn fc, .slice ma mn mc, i64 at_] 34) := ⟨_, rfl⟩
      have hS1 : w1.heap[wr.heap.size]? = some (.cells #[i64 kd, .string nm, .slice fa fn fc, .slice ma mn mc, i64 at_] 34 (0, 0)) := by rw [hw1]; exact heap_alloc_new _ _
      have hh1 : w1.heap[M + 1]? = some (.cells #[.map (some M), v] 55 (0, 0)) := by rw [hw1]; exact heap_alloc_old hh _
      have hown1 : w1.ownsMap Try.prog 9 (plainElem Try.prog 3) M n D := by rw [hw1]; exact hown.alloc _
      have hu1 : Upd [] w w1 := by rw [hw1]; exact hu.alloc _
      have hks1 := hks.upd0 (w' := w1) (by rw [hw1]; exact (Upd.refl _ _).alloc _)
      have hs1 : wr.heap.size < w1.heap.size := lt_of_heap hS1
      rw [← hw1]
      clear hw1 hh hown hks c0 c1 c2 c3 c4
      generalize wr.heap.size = B at *
      have hlk := fun nq => look_c (w := w1.drewN nq) hown1 hok nm hnm
      obtain ⟨g0, g1, -⟩ := cells2 hh1
      obtain ⟨e0, e1, -⟩ := cells5 hS1
      go_quiet (fail)
      have hlen2 : (l.take k).length = k := by rw [List.length_take]; omega
      have HL2 := Lib.hid hlen2
      have HOK := Lib.hid hok
      clear hlk hlen2 hok
      by_cases hfd : fndB (l.take k) nm = true
      · have hh2 := heap_drewN hh1 nq
        have hS2 := heap_drewN hS1 nq
        have hown2 : (w1.drewN nq).ownsMap Try.prog 9 (plainElem Try.prog 3) M n D := hown1
        have hu2 := hu1.drewN nq
        have hks2 := hks1.upd0 ((Upd.refl _ _).drewN nq)
        generalize w1.drewN nq = w2 at *
        have hs2 : B < w2.heap.size := lt_of_heap hS2
        have hs2' : M + 1 < w2.heap.size := lt_of_heap hh2
        clear hh1 hS1 hown1 hu1 hks1 hs1 g0 g1 e0 e1
        obtain ⟨g0, g1, -, gf⟩ := cells2 hh2
        obtain ⟨e0, e1, -⟩ := cells5 hS2
        obtain ⟨i0, hi, hz0, hz1, hz2⟩ := info_parts info_int
        have hb63 : k + 1 ≤ maxLen := by unfold maxLen; omega
        have hb47 : (k + 1) * 8 ≤ 140737488355328 := by omega
        rw [HL2.out] at hks2
        have hne : M + 1 ∉ blkL v := fun hm => by
          obtain ⟨cs, hc⟩ := hks2.ty _ hm
          rw [hh2] at hc; injection hc with hc; injection hc with _ hc; cases hc
        have hMne : M ∉ blkL v := fun hm => by
          obtain ⟨cs, hc⟩ := hks2.ty _ hm
          obtain ⟨es, clock, hb, _⟩ := hown2
          rw [hb] at hc; cases hc
        have HB1 := Lib.hid hb63
        have HB2 := Lib.hid hb47
        have HK2 := Lib.hid hks2
        have HNE := Lib.hid hne
        have HMNE := Lib.hid hMne
        have HO2 := Lib.hid hown2
        have HU2 := Lib.hid hu2
        clear hb63 hb47 hks2 hne hMne hown2 hu2
        go_wp2_with (fail)
        go_region_law ((refine step_plain rfl (wp_append_sub _ _ 53 rfl 0 3 i0 _ 1 8 Try.underlying53 hi hz0 hz1 hz2 rfl (by decide) v k _ rfl (HK2.out.upd0 (by repeat' (first | exact Upd.refl _ _ | apply Upd.drew | apply Upd.alloc))) _ 1 1 [i64 kd] rfl (src_block (by first | exact heap_alloc_new _ _ | exact heap_drew (heap_alloc_new _ _)) 1 1) rfl (by intro u hu; simp at hu; subst hu; rfl) HB1.out HB2.out (Nat.zero_le _) ?_); intro ao' cap' w5 hs5 hu5 hb5; have hh5 := hu5.keep (o := .cells #[.map (some M), v] 55 (0, 0)) (by (repeat' (first | (with_reducible exact hh2) | (with_reducible refine heap_setCell_ne ?_ (by omega) _ _) | (with_reducible refine heap_alloc_old ?_ _) | (with_reducible refine heap_drew ?_) | (with_reducible refine heap_drewN ?_ _)))) HNE.out; obtain ⟨-, q1, -, q2⟩ := cells2 hh5; have ho5 : w5.ownsMap Try.prog 9 (plainElem Try.prog 3) M n D := HO2.out.keepU (hu5.trans2 (by repeat' (first | exact Upd.refl _ _ | apply Upd.drew | apply Upd.alloc))) HMNE.out; have hw5 : Upd [] w w5 := HU2.out.trans (hu5.trans2 (by repeat' (first | exact Upd.refl _ _ | apply Upd.drew | apply Upd.alloc))) (fun g hg => .inr (hv g hg)); have HS5 := Lib.hid hs5; have HO5 := Lib.hid ho5; have HW5 := Lib.hid hw5; have HH5 := Lib.hid hh5; have HB5 := Lib.hid (hb5.imp id (fun ⟨g, h1, h2⟩ => ⟨g, h1, Nat.le_trans (by simp) h2⟩) : blkL (.slice ao' (k + 1) cap') = blkL v ∨ ∃ g, blkL (.slice ao' (k + 1) cap') = [g] ∧ w2.heap.size ≤ g); clear hs5 ho5 hw5 hu5 hb5 hh5))
        all_goals
          go_wp2_with (fail)
          go_roundw
          case rel =>
            have hl1 : (l.take (k + 1)).length = k + 1 := by rw [List.length_take]; omega
            have hl0 := HL2.out
            refine ⟨k + 1, _, _, _, by go_num, by omega, ⟨heap_setCell HH5.out _ _, HO5.out.setCell (by simp) _, by rw [HSN.out]; exact datOk_same HOK.out (by simpa [fndB] using hfd), by rw [hl1]; omega, ?_⟩, HW5.out.setCell (.inr (by simp; omega)) _, ?_⟩
            · have h6 := HS5.out
              rw [hl1, HSN.out, List.map_append]
              refine h6.keepB fun g hg => ?_
              refine Below.heap_setCell _ _ _ _ ?_
              rintro rfl
              rcases HB5.out with h7 | ⟨g, h7, h8⟩
              · exact HNE.out (h7 ▸ hg)
              · rw [h7] at hg; simp at hg; omega
            · intro g hg
              rcases HB5.out with h7 | ⟨g', h7, h8⟩
              · exact hv g (h7 ▸ hg)
              · rw [h7] at hg; simp at hg; omega
          case measure => simp [intOf]; omega
      · have hfd' : fndB (l.take k) nm = false := by simpa using hfd
        have hh3 := heap_drewN hh1 nq
        have hS3 := heap_drewN hS1 nq
        have hown3 : (w1.drewN nq).ownsMap Try.prog 9 (plainElem Try.prog 3) M n D := hown1
        have hu3 := hu1.drewN nq
        have hks3 := hks1.upd0 ((Upd.refl _ _).drewN nq)
        generalize w1.drewN nq = w3 at *
        have hs2 : B < w3.heap.size := lt_of_heap hS3
        have hs2' : M + 1 < w3.heap.size := lt_of_heap hh3
        clear hh1 hS1 hown1 hu1 hks1 hs1 g0 g1 e0 e1
        obtain ⟨g0, g1, -, gf⟩ := cells2 hh3
        obtain ⟨e0, e1, -⟩ := cells5 hS3
        have hb63 : n < maxLen := by have := HL2.out; unfold maxLen; omega
        have wfk : (Lit.int .i64 (k : Int)).wf = true := by
          simp only [Lit.wf, IntKind.min, IntKind.max, IntKind.signed, IntKind.bits, Bool.and_eq_true, decide_eq_true_eq, if_true]; omega
        have hMne : M ∉ blkL v := fun hm => by
          obtain ⟨cs, hc⟩ := hks3.ty _ hm
          obtain ⟨es, clock, hb, _⟩ := hown3
          rw [hb] at hc; cases hc
        obtain ⟨w2, hrun, hown2, hg3⟩ := World.ownsMap.update (w := w3.drew) (World.ownsMap.drew hown3) skey Try.underlying52 hb63 (skey_of nm hnm) (plainElem_int Try.underlying3 wfk)
        have hug : Upd [M] w3 w2 := (Upd.refl _ _).drew.trans' (Upd.of_grown hg3 (by simp))
        have hh2 := hug.keep hh3 (by simp)
        have hS2 := hug.keep hS3 (by simp; omega)
        have hu2 : Upd [] w w2 := hu3.trans hug (by simp; omega)
        have hks2 := hks3.upd hug (fun g hg => by simp; rintro rfl; exact hMne hg)
        have HDAT := Lib.hid (datOk_put (d := ⟨kd, nm, fa, fn, fc, ma, mn, mc, at_⟩) HOK.out (skey.key (skey_of nm hnm)) (by simpa [fndB] using hfd'))
        rw [HL2.out] at HDAT
        have HN2 := Lib.hid hown2
        clear hb63 hown3 wfk hg3 hown2 hu3 hks3 hMne hug
        go_wp2_with (fail)
        go_region
        have hs3 : B < w2.heap.size := lt_of_heap hS2
        have hs3' : M + 1 < w2.heap.size := lt_of_heap hh2
        clear g0 g1 gf e0 e1 hs2 hs2' hrun hh3 hS3
        have hown2 := HN2.out
        obtain ⟨g0, g1, -, gf⟩ := cells2 hh2
        obtain ⟨e0, e1, -⟩ := cells5 hS2
        obtain ⟨i0, hi, hz0, hz1, hz2⟩ := info_parts info_int
        have hb63 : k + 1 ≤ maxLen := by unfold maxLen; omega
        have hb47 : (k + 1) * 8 ≤ 140737488355328 := by omega
        rw [HL2.out] at hks2
        have hne : M + 1 ∉ blkL v := fun hm => by
          obtain ⟨cs, hc⟩ := hks2.ty _ hm
          rw [hh2] at hc; injection hc with hc; injection hc with _ hc; cases hc
        have hMne : M ∉ blkL v := fun hm => by
          obtain ⟨cs, hc⟩ := hks2.ty _ hm
          obtain ⟨es, clock, hb, _⟩ := hown2
          rw [hb] at hc; cases hc
        have HB1 := Lib.hid hb63
        have HB2 := Lib.hid hb47
        have HK2 := Lib.hid hks2
        have HNE := Lib.hid hne
        have HMNE := Lib.hid hMne
        have HO2 := Lib.hid hown2
        have HU2 := Lib.hid hu2
        clear hb63 hb47 hks2 hne hMne hown2 hu2
        go_wp2_with (fail)
        go_region_law ((refine step_plain rfl (wp_append_sub _ _ 53 rfl 0 3 i0 _ 1 8 Try.underlying53 hi hz0 hz1 hz2 rfl (by decide) v k _ rfl (HK2.out.upd0 (by repeat' (first | exact Upd.refl _ _ | apply Upd.drew | apply Upd.alloc))) _ 1 1 [i64 kd] rfl (src_block (by first | exact heap_alloc_new _ _ | exact heap_drew (heap_alloc_new _ _)) 1 1) rfl (by intro u hu; simp at hu; subst hu; rfl) HB1.out HB2.out (Nat.zero_le _) ?_); intro ao' cap' w5 hs5 hu5 hb5; have hh5 := hu5.keep (o := .cells #[.map (some M), v] 55 (0, 0)) (by (repeat' (first | (with_reducible exact hh2) | (with_reducible refine heap_setCell_ne ?_ (by omega) _ _) | (with_reducible refine heap_alloc_old ?_ _) | (with_reducible refine heap_drew ?_) | (with_reducible refine heap_drewN ?_ _)))) HNE.out; obtain ⟨-, q1, -, q2⟩ := cells2 hh5; have ho5 : w5.ownsMap Try.prog 9 (plainElem Try.prog 3) M (n + 1) (D.put (skl nm) (.lit (.int .i64 k))) := HO2.out.keepU (hu5.trans2 (by repeat' (first | exact Upd.refl _ _ | apply Upd.drew | apply Upd.alloc))) HMNE.out; have hw5 : Upd [] w w5 := HU2.out.trans (hu5.trans2 (by repeat' (first | exact Upd.refl _ _ | apply Upd.drew | apply Upd.alloc))) (fun g hg => .inr (hv g hg)); have HS5 := Lib.hid hs5; have HO5 := Lib.hid ho5; have HW5 := Lib.hid hw5; have HH5 := Lib.hid hh5; have HB5 := Lib.hid (hb5.imp id (fun ⟨g, h1, h2⟩ => ⟨g, h1, Nat.le_trans (by simp) h2⟩) : blkL (.slice ao' (k + 1) cap') = blkL v ∨ ∃ g, blkL (.slice ao' (k + 1) cap') = [g] ∧ w2.heap.size ≤ g); clear hs5 ho5 hw5 hu5 hb5 hh5))
        all_goals
          go_wp2_with (fail)
          go_roundw
          case rel =>
            have hl1 : (l.take (k + 1)).length = k + 1 := by rw [List.length_take]; omega
            have hl0 := HL2.out
            refine ⟨k + 1, _, _, _, by go_num, by omega, ⟨heap_setCell HH5.out _ _, HO5.out.setCell (by simp) _, by rw [HSN.out]; exact HDAT.out, by rw [hl1]; omega, ?_⟩, HW5.out.setCell (.inr (by simp; omega)) _, ?_⟩
            · have h6 := HS5.out
              rw [hl1, HSN.out, List.map_append]
              refine h6.keepB fun g hg => ?_
              refine Below.heap_setCell _ _ _ _ ?_
              rintro rfl
              rcases HB5.out with h7 | ⟨g, h7, h8⟩
              · exact HNE.out (h7 ▸ hg)
              · rw [h7] at hg; simp at hg; omega
            · intro g hg
              rcases HB5.out with h7 | ⟨g', h7, h8⟩
              · exact hv g (h7 ▸ hg)
              · rw [h7] at hg; simp at hg; omega
          case measure => simp [intOf]; omega
    · have hkl : k = l.length := by omega
      have htk : l.take k = l := by rw [hkl]; exact List.take_length
      rw [htk] at hT
      have HT := Lib.hid hT
      clear hT htk hkl
      go_wp2_with (fail)
      exact hR.out _ _ ⟨_, _, _, _, _, rfl, HT.out, hu⟩
end Go.Proofs.Ytagnclphmhjoiaa
