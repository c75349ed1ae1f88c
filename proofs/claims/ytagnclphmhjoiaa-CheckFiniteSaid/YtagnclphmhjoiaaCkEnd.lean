/-
  The contracts of check.Finite and check.Check (chapter 12). Condition: lengths within the machine's bounds.
-/
import Derived.Test.YtagnclphmhjoiaaCkIter
import Derived.Deep.LoopGhost
namespace Go.Proofs.Ytagnclphmhjoiaa
open Go Go.RowKit Go.Maps

theorem info_boo : (Try.prog.info? 4).map (fun i => (i.zero, i.size, i.bytes)) = some (some (.bool false), 1, 1) := by kernel_rfl
theorem madeCells_brow (n : Nat) : madeCells #[.bool false] n = ((List.replicate n false).map Value.bool).toArray := by
  have h1 : madeCells #[.bool false] n = (Array.range n).map (fun _ => .bool false) := by
    unfold madeCells
    congr 1
    funext i
    have : i % 1 = 0 := by omega
    simp [this]
  rw [h1, List.map_replicate]
  apply Array.ext
  · simp
  · intro i h1 h2
    simp
theorem of_arg {w : World} {ao : Option Addr} {cap : Nat} {qs : List Dq} (h : QArg w ao qs) (hlen : qs.length ≤ 100) : Calls Try.prog 8 #[.slice ao qs.length cap] w fun e w' => ∃ T M v n D, e = .returned (.pointer (some ⟨T, 0, none⟩)) ∧ TabAt w' T M v n D (qs.map Dq.d) ∧ Upd [] w w' := by
  have := ofA_c (cap := cap) h.rows (by simp; omega) (fun x hx => by obtain ⟨q, hq, rfl⟩ := List.mem_map.1 hx; exact (h.deep q hq).name)
  rwa [List.length_map] at this

set_option maxRecDepth 100000 in
set_option maxHeartbeats 4000000 in
theorem ckFinite_c {w : World} {ao : Option Addr} {cap : Nat} {qs : List Dq} (h : QArg w ao qs) (hlen : qs.length ≤ 100) :
    Calls Try.prog 22 #[.slice ao qs.length cap] w fun e w' => ∃ K, e = .returned (.slice (some ⟨K, 0, none⟩) qs.length qs.length) ∧ BoAt w' K (finE qs) ∧ Upd [] w w' := by
  obtain ⟨i0, hi0, hz0, hz1, hz2⟩ := info_parts info_boo
  obtain ⟨Z, hZ⟩ : ∃ Z, Z = ((List.replicate qs.length false).map Value.bool).toArray := ⟨_, rfl⟩
  have hmk : ∀ wx, (Instr.makeSlice 46 (i64 qs.length) (i64 qs.length)).run Try.prog wx = .ok (.slice (some ⟨wx.heap.size, 0, none⟩) qs.length qs.length) (wx.alloc (.cells Z 4)) := by
    intro wx
    have := run_make (P := Try.prog) wx 46 4 i0 _ Try.underlying46 hi0 hz0 .i64 .i64 (qs.length : Int) (qs.length : Int) (by omega) (by omega) (by rw [hz2]; omega) (by omega)
    rw [this, hz1, show ((qs.length : Int)).toNat = qs.length by omega, Nat.mul_one]
    rw [show (Value.bool false).cells = #[.bool false] from rfl, madeCells_brow, hZ]
  have HZ := Lib.hid hZ
  clear hZ
  have HOF := Lib.hid (of_arg (cap := cap) h hlen)
  have H := Lib.hid h
  have HLEN := Lib.hid hlen
  clear h hi0 hz0 hz1 hz2 hlen
  refine post fun R hR => ?_
  go_enter Try.func22, Try.ntmps22
  go_wp2_with (fail)
  go_step3
  go_upto_region 2 with (first | (go_at_call 8; refine HOF.out.mono ?_; rintro e w1 ⟨T, M, v, n, D, rfl, hT, hu1⟩))
  have hC := heap_alloc_new w1 (.cells #[.slice ao qs.length cap, .pointer (some ⟨T, 0, none⟩)] 64)
  have hu2 := hu1.alloc (.cells #[.slice ao qs.length cap, .pointer (some ⟨T, 0, none⟩)] 64)
  have hT2 := hT.upd ((Upd.refl [] w1).alloc (.cells #[.slice ao qs.length cap, .pointer (some ⟨T, 0, none⟩)] 64))
  generalize w1.alloc (.cells #[.slice ao qs.length cap, .pointer (some ⟨T, 0, none⟩)] 64) = w2 at *
  generalize w1.heap.size = C at *
  have HC := Lib.hid (show CkAt w2 C ao cap T M v n D qs from ⟨hC, hT2, H.out.upd0 hu2, HLEN.out⟩)
  have HU2 := Lib.hid hu2
  clear hC hu2 hT2 hT hu1 HOF
  go_wp2_with (fail)
  go_step3
  go_wp2_with (fail)
  have hK := heap_alloc_new w2 (.cells Z 4)
  have hu3 := (Upd.refl [] w2).alloc (.cells Z 4)
  generalize w2.alloc (.cells Z 4) = w3 at *
  obtain ⟨K, hKe⟩ : ∃ K, K = w2.heap.size := ⟨_, rfl⟩
  rw [← hKe] at hK ⊢
  have HKE := Lib.hid hKe
  have HK := Lib.hid (show BoAt w3 K (List.replicate qs.length false) from by rw [HZ.out] at hK; exact hK)
  have HU3 := Lib.hid hu3
  clear hK hKe hu3 hmk HZ
  go_loopg [6] qs.length (fun k _ wr => ∃ c ks, k = qs.length - c ∧ Hid (Kn qs c ks ∧ BoAt wr K ks ∧ Upd [] w2 wr))
  case atStart => exact ⟨0, _, rfl, Lib.hid ⟨Kn.start qs, HK.out, HU3.out⟩⟩
  case round =>
    obtain ⟨c, ks, rfl, HR⟩ := hrel
    generalize wr = wo at *
    go_wp2_with (fail)
    go_loopg [17] qs.length (fun k i wr => ∃ j : Nat, i = i64 j ∧ j ≤ qs.length ∧ k = qs.length - j ∧ Hid ((∀ i (h1 : i < ks.length) (h2 : i < qs.length), i < j → ks[i] = false → finD (qs.map Dq.d) ks qs[i] = false) ∧ Upd [] wo wr))
    case atStart => exact ⟨0, rfl, Nat.zero_le _, rfl, Lib.hid ⟨fun i _ _ h => by omega, Upd.refl _ _⟩⟩
    case round =>
      obtain ⟨j, rfl, hj, rfl, HN⟩ := hrel
      have HU := Lib.hid (HR.out.2.2.trans' HN.out.2)
      have HKS := Lib.hid (HR.out.2.1.upd0 HN.out.2)
      have hjb : j ≤ 100 := by have := HLEN.out; omega
      by_cases hlt : j < qs.length
      · obtain ⟨b, off, rfl, hb, hr⟩ : ∃ b off, ao = some ⟨b, off, none⟩ ∧ b < w2.heap.size ∧ DRows w2 b off (qs.map Dq.d) := by
          rcases HC.out.arg.rows with e | e
          · have : qs.length = 0 := by simpa using congrArg List.length e
            omega
          · exact e
        have hlt2 : j < (qs.map Dq.d).length := by simpa using hlt
        obtain ⟨r0, r1, r2, r3, r4⟩ := drow hr HU.out hb (by simp) hlt2
        have hqd : (qs.map Dq.d)[j] = qs[j].d := by simp
        rw [hqd] at r0 r1 r2 r3 r4
        have hjk : j < ks.length := by rw [HR.out.1.len]; exact hlt
        have hkj := HKS.out.get hjk
        have hfc : ∀ w', Upd [] wr w' → Calls Try.prog 26 #[.pointer (some ⟨C, 0, none⟩), dv qs[j].d, .slice (some ⟨K, 0, none⟩) qs.length qs.length] w' fun e w'' => e = .returned (.bool (finD (qs.map Dq.d) ks qs[j])) ∧ Upd [] w' w'' := fun w' hu => by
          have := finite_c (HC.out.upd0 (HU.out.trans' hu)) (kcap := qs.length) (HKS.out.upd0 hu) HR.out.1.len ((HC.out.arg.deep qs[j] (List.getElem_mem hlt)).upd0 (HU.out.trans' hu))
          rwa [HR.out.1.len] at this
        simp only [dv] at hfc
        have HFC := Lib.hid hfc
        have HMORE := Lib.hid (fun (h0 : ks[j] = false) h1 => HR.out.1.more hjk hlt h0 h1)
        have HNEXT := Lib.hid (fun (h : ks[j] = false → finD (qs.map Dq.d) ks qs[j] = false) => (show ∀ i (h1 : i < ks.length) (h2 : i < qs.length), i < j + 1 → ks[i] = false → finD (qs.map Dq.d) ks qs[i] = false from fun i h1 h2 h3 h4 => by
          by_cases e : i = j
          · subst e; exact h h4
          · exact HN.out.1 i h1 h2 (by omega) h4))
        clear hfc hr hb hqd hlt2
        generalize hfv : finD (qs.map Dq.d) ks qs[j] = fv at *
        generalize hkv : ks[j] = kv at *
        have HFV := Lib.hid hfv
        have HKV := Lib.hid hkv
        clear hfv hkv
        generalize qs[j].d = d at *
        clear hkj
        have hA := heap_alloc_new wr (.cells #[i64 d.kind, .string d.name, .slice d.fa d.fn d.fc, .slice d.ma d.mn d.mc, i64 d.at_] 34)
        have hu := (Upd.refl [] wr).alloc (.cells #[i64 d.kind, .string d.name, .slice d.fa d.fn d.fc, .slice d.ma d.mn d.mc, i64 d.at_] 34)
        have HA := Lib.hid hA
        have HU4 := Lib.hid hu
        clear hA hu
        go_upto_region 6 with (fail)
        have hA := HA.out
        have hu := HU4.out
        clear HA HU4 r0 r1 r2 r3 r4
        generalize wr.alloc (.cells #[i64 d.kind, .string d.name, .slice d.fa d.fn d.fc, .slice d.ma d.mn d.mc, i64 d.at_] 34) = w4 at *
        generalize wr.heap.size = A at *
        have hkj : w4.cell? ⟨K, j, none⟩ = some (.bool kv) := by rw [← HKV.out]; exact (HKS.out.upd0 hu).get hjk
        cases kv with
        | true =>
          have HU4 := Lib.hid hu
          clear hu hA HFC
          go_wp2_with (fail)
          go_roundg (qs.length - (j + 1))
          case measure => omega
          case rel => exact ⟨j + 1, by go_num, by omega, rfl, Lib.hid ⟨HNEXT.out (fun h => by cases h), HN.out.2.trans' HU4.out⟩⟩
        | false =>
          obtain ⟨a0, a1, a2, a3, a4, -⟩ := cells5 hA
          have HCL := Lib.hid (HFC.out w4 hu)
          have HU4 := Lib.hid hu
          clear hu hA HFC
          cases fv with
          | true =>
            have HMORE2 := Lib.hid (HMORE.out rfl rfl)
            clear HMORE HNEXT
            go_upto_region 7 with (first | (go_at_call 26; refine HCL.out.mono ?_; rintro e w5 ⟨rfl, hu5⟩))
            have HK5 := Lib.hid ((HKS.out.upd0 HU4.out).upd0 hu5)
            have hkj : w5.cell? ⟨K, j, none⟩ = some (.bool false) := by rw [← HKV.out]; exact HK5.out.get hjk
            have hfz := frzOf HK5.out j
            have HU5 := Lib.hid ((HU.out.trans' HU4.out).trans' hu5)
            clear hu5 HCL
            go_wp2_with (fail)
            go_roundg (qs.length - (c + 1))
            case measure => have := HMORE2.out.bound; omega
            case rel =>
              refine ⟨c + 1, _, rfl, Lib.hid ⟨HMORE2.out, ?_, HU5.out.setCell (.inr (by rw [HKE.out]; exact Nat.le_refl _)) _⟩⟩
              have := heap_setCell HK5.out j (.bool true)
              unfold BoAt
              rw [this, List.setIfInBounds_toArray, List.map_set]
          | false =>
            go_wp2_with (first | (go_at_call 26; refine HCL.out.mono ?_; rintro e w5 ⟨rfl, hu5⟩))
            go_roundg (qs.length - (j + 1))
            case measure => omega
            case rel => exact ⟨j + 1, by go_num, by omega, rfl, Lib.hid ⟨HNEXT.out (fun _ => by first | rfl | trivial), (HN.out.2.trans' HU4.out).trans' hu5⟩⟩
      · go_wp2_with (fail)
        refine hR.out _ _ ⟨K, rfl, ?_, HU2.out.trans' HU.out⟩
        have hfin := HR.out.1.done (fun i h1 h2 h3 => HN.out.1 i h1 h2 (by omega) h3)
        rw [← hfin]
        exact HKS.out
end Go.Proofs.Ytagnclphmhjoiaa
