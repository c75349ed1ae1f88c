/-
  The contract of the document's Finite (chapter 12). Condition: lengths within the machine's bounds.
-/
import Derived.Test.YtagnclphmhjoiaaCkRef
namespace Go.Proofs.Ytagnclphmhjoiaa
open Go Go.RowKit Go.Maps

theorem stepF_get {qs : List Dq} {ks : List Bool} {j : Nat} (h : j < qs.length) (h2 : j < (stepF qs ks).length) : (stepF qs ks)[j] = finD (qs.map Dq.d) ks qs[j] := List.getElem_map _
/-- a row that is written from its front -/
def partB (n : Nat) (l : List Bool) (j : Nat) : List Bool := l.take j ++ List.replicate (n - j) false
theorem partB_zero (n : Nat) (l : List Bool) : partB n l 0 = List.replicate n false := by unfold partB; simp
theorem partB_len {n : Nat} {l : List Bool} {j : Nat} (h : l.length = n) (hj : j ≤ n) : (partB n l j).length = n := by
  unfold partB; simp; omega
theorem partB_all {n : Nat} {l : List Bool} (h : l.length = n) : partB n l n = l := by
  unfold partB; rw [← h]; simp
theorem partB_set {n : Nat} {l : List Bool} {j : Nat} (h : l.length = n) (hj : j < n) (hl : j < l.length) {b : Bool} (hb : l[j] = b) : (partB n l j).set j b = partB n l (j + 1) := by
  subst hb
  unfold partB
  have h1 : n - j = n - (j + 1) + 1 := by omega
  rw [List.set_append_right _ _ (by simp; omega), h1, List.replicate_succ, List.length_take, show j - min j l.length = 0 by omega, List.set_cons_zero, List.take_succ_eq_append_getElem hl, List.append_assoc]
  rfl

set_option maxRecDepth 100000 in
set_option maxHeartbeats 4000000 in
theorem rFinite_c {w : World} {ao : Option Addr} {cap : Nat} {qs : List Dq} (h : QArg w ao qs) (hlen : qs.length ≤ 100) :
    Calls Try.prog 23 #[.slice ao qs.length cap] w fun e w' => ∃ K, e = .returned (.slice (some ⟨K, 0, none⟩) qs.length qs.length) ∧ BoAt w' K (finE qs) ∧ Upd [] w w' := by
  obtain ⟨i0, hi0, hz0, hz1, hz2⟩ := info_parts info_boo
  obtain ⟨Z, hZ⟩ : ∃ Z, Z = ((List.replicate qs.length false).map Value.bool).toArray := ⟨_, rfl⟩
  have hmk : ∀ wx, (Instr.makeSlice 46 (i64 qs.length) (i64 qs.length)).run Try.prog wx = .ok (.slice (some ⟨wx.heap.size, 0, none⟩) qs.length qs.length) (wx.alloc (.cells Z 4)) := by
    intro wx
    have := run_make (P := Try.prog) wx 46 4 i0 _ Try.underlying46 hi0 hz0 .i64 .i64 (qs.length : Int) (qs.length : Int) (by omega) (by omega) (by rw [hz2]; omega) (by omega)
    rw [this, hz1, show ((qs.length : Int)).toNat = qs.length by omega, Nat.mul_one]
    rw [show (Value.bool false).cells = #[.bool false] from rfl, madeCells_brow, hZ]
  have HZ := Lib.hid hZ
  clear hZ
  have H := Lib.hid h
  have HLEN := Lib.hid hlen
  have hl100 := hlen
  clear h hi0 hz0 hz1 hz2 hlen
  refine post fun R hR => ?_
  go_enter Try.func23, Try.ntmps23
  go_upto_region 2 with (fail)
  have hK := heap_alloc_new w (.cells Z 4)
  have hu3 := (Upd.refl [] w).alloc (.cells Z 4)
  generalize w.alloc (.cells Z 4) = w1 at *
  generalize w.heap.size = K0 at *
  have HK := Lib.hid (show BoAt w1 K0 (iterF qs 0) from by rw [HZ.out] at hK; exact hK)
  have HU1 := Lib.hid hu3
  clear hK hu3
  go_wp2_with (fail)
  go_loopw [3, 4] (fun o i wr => ∃ k K : Nat, i = i64 k ∧ o = .slice (some ⟨K, 0, none⟩) qs.length qs.length ∧ k ≤ qs.length ∧ Hid (BoAt wr K (iterF qs k) ∧ Upd [] w wr)) (fun _ i _ => qs.length - (intOf i).toNat)
  case atStart => exact ⟨0, K0, rfl, rfl, Nat.zero_le _, Lib.hid ⟨HK.out, HU1.out⟩⟩
  case round =>
    obtain ⟨k, K, rfl, rfl, hk, HR⟩ := hrel
    by_cases hlt : k < qs.length
    · generalize wr = wo at *
      go_upto_region 6 with (fail)
      have hK := heap_alloc_new wo (.cells Z 4)
      have hu3 := (Upd.refl [] wo).alloc (.cells Z 4)
      generalize wo.alloc (.cells Z 4) = w2 at *
      obtain ⟨N, hNe⟩ : ∃ N, N = wo.heap.size := ⟨_, rfl⟩
      rw [← hNe] at hK ⊢
      have HNE := Lib.hid hNe
      have HU2 := Lib.hid (HR.out.2.trans' hu3)
      have HKS := Lib.hid (HR.out.1.upd0 hu3)
      have HN0 := Lib.hid (show BoAt w2 N (List.replicate qs.length false) from by rw [HZ.out] at hK; exact hK)
      have HKN := Lib.hid (show K ≠ N from by have := lt_of_heap HR.out.1; rw [hNe]; omega)
      have HUW := Lib.hid hu3
      clear hK hu3 hNe
      obtain ⟨ks, hks⟩ : ∃ ks, ks = iterF qs k := ⟨_, rfl⟩
      have HKL := Lib.hid (show ks.length = qs.length from by rw [hks]; exact iterF_len qs k)
      rw [← hks] at HKS
      have HKE := Lib.hid hks
      clear hks
      have HSL := Lib.hid (show (stepF qs ks).length = qs.length from stepF_len qs ks)
      have HNW := Lib.hid (show w.heap.size ≤ N from by rw [HNE.out]; exact HR.out.2.size)
      go_wp2_with (fail)
      go_loopw [6] (fun i wr => ∃ j : Nat, i = i64 j ∧ j ≤ qs.length ∧ Hid (BoAt wr N (partB qs.length (stepF qs ks) j) ∧ BoAt wr K ks ∧ Upd [] w wr)) (fun i _ => qs.length - (intOf i).toNat)
      case atStart => exact ⟨0, rfl, Nat.zero_le _, Lib.hid ⟨by rw [partB_zero]; exact HN0.out, HKS.out, HU2.out⟩⟩
      case round =>
        obtain ⟨j, rfl, hj, HI⟩ := hrel
        by_cases hlj : j < qs.length
        · obtain ⟨b, off, rfl, hb, hr⟩ : ∃ b off, ao = some ⟨b, off, none⟩ ∧ b < w.heap.size ∧ DRows w b off (qs.map Dq.d) := by
            rcases H.out.rows with e | e
            · have : qs.length = 0 := by simpa using congrArg List.length e
              omega
            · exact e
          have hlt2 : j < (qs.map Dq.d).length := by simpa using hlj
          obtain ⟨r0, r1, r2, r3, r4⟩ := drow hr HI.out.2.2 hb (by simp) hlt2
          have hqd : (qs.map Dq.d)[j] = qs[j].d := by simp
          rw [hqd] at r0 r1 r2 r3 r4
          have hfc := rone_c (kcap := qs.length) (cap := cap) (H.out.upd0 HI.out.2.2) HLEN.out HI.out.2.1 HKL.out ((H.out.deep qs[j] (List.getElem_mem hlj)).upd0 HI.out.2.2)
          simp only [dv] at hfc
          have hjs : j < (stepF qs ks).length := by rw [HSL.out]; exact hlj
          have HST := Lib.hid (fun b (e : finD (qs.map Dq.d) ks qs[j] = b) => partB_set HSL.out hlj hjs (b := b) (by rw [stepF_get hlj]; exact e))
          have HPL := Lib.hid (partB_len HSL.out (Nat.le_of_lt hlj))
          have HFC := Lib.hid hfc
          clear hfc hr hb hqd hlt2 hjs
          generalize hfv : finD (qs.map Dq.d) ks qs[j] = fv at *
          have HSE := Lib.hid (HST.out fv rfl)
          clear hfv HST
          generalize qs[j].d = d at *
          go_upto_region 9 with (fail)
          go_wp2_with (first | (go_at_call 27; refine HFC.out.mono ?_; rintro e w5 ⟨rfl, hu5⟩; have hN5 := HI.out.1.upd0 hu5; have hkj := hN5.get (j := j) (by rw [HPL.out]; exact hlj); have hfz := frzOf hN5 j))
          go_roundw
          case measure => simp [intOf]; omega
          case rel =>
            refine ⟨j + 1, by go_num, by omega, Lib.hid ⟨?_, ?_, (HI.out.2.2.trans' hu5).setCell (.inr HNW.out) _⟩⟩
            · have := heap_setCell (HI.out.1.upd0 hu5) j (.bool fv)
              rw [← HSE.out]
              unfold BoAt
              rw [this, List.setIfInBounds_toArray, List.map_set]
            · exact heap_setCell_ne (HI.out.2.1.upd0 hu5) HKN.out j _
        · go_wp2_with (fail)
          go_roundw
          case measure => simp [intOf]; omega
          case rel =>
            refine ⟨k + 1, N, by go_num, rfl, by omega, Lib.hid ⟨?_, HI.out.2.2⟩⟩
            have hje : j = qs.length := by omega
            have h1 := HI.out.1
            rw [hje, partB_all HSL.out, HKE.out] at h1
            exact h1
    · go_wp2_with (fail)
      refine hR.out _ _ ⟨K, rfl, ?_, HR.out.2⟩
      have hke : k = qs.length := by omega
      have h1 := HR.out.1
      rw [hke] at h1
      exact h1
end Go.Proofs.Ytagnclphmhjoiaa
