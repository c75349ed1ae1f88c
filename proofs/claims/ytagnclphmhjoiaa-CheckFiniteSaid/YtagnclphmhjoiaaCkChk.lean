/-
  The contract of check.Check (chapter 12). Condition: declarations that are not too great.
-/
import Derived.Test.YtagnclphmhjoiaaCkEnd
import Derived.Test.YtagnclphmhjoiaaCkCut
namespace Go.Proofs.Ytagnclphmhjoiaa
open Go Go.RowKit Go.Maps

set_option maxRecDepth 100000 in
set_option maxHeartbeats 4000000 in
theorem check_c {w : World} {ao : Option Addr} {cap : Nat} {qs : List Dq} (h : QArg w ao qs) (hfit : Fit qs) :
    Calls Try.prog 24 #[.slice ao qs.length cap] w fun e w' => ∃ at_ : Int, e = .returned (.agg #[i64 (checkE qs), i64 at_]) ∧ Upd [] w w' := by
  have hlen : qs.length ≤ 100 := by have := hfit.1; omega
  have hq : ∀ q ∈ qs, q.fs.length ≤ 300 ∧ q.ms.length ≤ 300 := fun q hq => by have := hfit.2 q hq; omega
  have hin : ∀ q ∈ qs, (∀ f ∈ q.fs, inI f.1.tag) ∧ ∀ m ∈ q.ms, inI m.tag := fun q hq => ⟨(h.deep q hq).ftags, (h.deep q hq).mtags⟩
  have HQB := Lib.hid (And.intro hq hin)
  have HOF := Lib.hid (fun w' (hu : Upd [] w w') => of_arg (cap := cap) (h.upd0 hu) hlen)
  have HFN := Lib.hid (fun w' (hu : Upd [] w w') => ckFinite_c (cap := cap) (h.upd0 hu) hlen)
  have H := Lib.hid h
  have HLEN := Lib.hid hlen
  clear h hlen hq hin hfit
  refine post fun R hR => ?_
  go_enter Try.func24, Try.ntmps24
  go_upto_region 1 with (fail)
  have hR0 := heap_alloc_new w (.cells #[i64 0, i64 0] 50)
  have hu1 := (Upd.refl [] w).alloc (.cells #[i64 0, i64 0] 50)
  generalize w.alloc (.cells #[i64 0, i64 0] 50) = w1 at *
  obtain ⟨Q, hQ⟩ : ∃ Q, Q = w.heap.size := ⟨_, rfl⟩
  rw [← hQ] at hR0 ⊢
  have HR0 := Lib.hid hR0
  have HU1 := Lib.hid hu1
  have HQ := Lib.hid hQ
  clear hR0 hu1 hQ
  go_upto_region 2 with (first | (go_at_call 8; refine (HOF.out _ HU1.out).mono ?_; rintro e w2 ⟨T, M, v, n, D, rfl, hT, hu2⟩))
  have hC := heap_alloc_new w2 (.cells #[.slice ao qs.length cap, .pointer (some ⟨T, 0, none⟩)] 64)
  have hu3 := hu2.alloc (.cells #[.slice ao qs.length cap, .pointer (some ⟨T, 0, none⟩)] 64)
  have hT3 := hT.upd ((Upd.refl [] w2).alloc (.cells #[.slice ao qs.length cap, .pointer (some ⟨T, 0, none⟩)] 64))
  generalize w2.alloc (.cells #[.slice ao qs.length cap, .pointer (some ⟨T, 0, none⟩)] 64) = w3 at *
  generalize w2.heap.size = C at *
  have HC := Lib.hid (show CkAt w3 C ao cap T M v n D qs from ⟨hC, hT3, H.out.upd0 (HU1.out.trans' hu3), HLEN.out⟩)
  have HR3 := Lib.hid (hu3.keep0 HR0.out)
  have HU3 := Lib.hid (HU1.out.trans' hu3)
  clear hC hu3 hT3 hT hu2 HOF HR0 HU1
  go_wp2_with (fail)
  go_loopw [16] (fun i wr => ∃ k : Nat, i = i64 k ∧ k ≤ qs.length ∧ Hid ((∀ j, j < k → dErr qs j = 0) ∧ Upd [] w3 wr)) (fun i _ => qs.length - (intOf i).toNat)
  case atStart => exact ⟨0, rfl, Nat.zero_le _, Lib.hid ⟨fun j h => by omega, Upd.refl _ _⟩⟩
  case round =>
    obtain ⟨k, rfl, hk, HN⟩ := hrel
    have hkb : k ≤ 100 := by have := HLEN.out; omega
    have HU := Lib.hid (HU3.out.trans' HN.out.2)
    by_cases hlt : k < qs.length
    · obtain ⟨b, off, rfl, hb, hr⟩ : ∃ b off, ao = some ⟨b, off, none⟩ ∧ b < w3.heap.size ∧ DRows w3 b off (qs.map Dq.d) := by
        rcases HC.out.arg.rows with e | e
        · have : qs.length = 0 := by simpa using congrArg List.length e
          omega
        · exact e
      have hlt2 : k < (qs.map Dq.d).length := by simpa using hlt
      obtain ⟨r0, r1, r2, r3, r4⟩ := drow hr HN.out.2 hb (by simp) hlt2
      have hqd : (qs.map Dq.d)[k] = qs[k].d := by simp
      rw [hqd] at r0 r1 r2 r3 r4
      have HDE := Lib.hid (show dErr qs k = declE (qs.map Dq.d) k qs[k] from by unfold dErr; rw [List.getElem?_eq_getElem hlt])
      have hfc := fun w' (hu : Upd [] wr w') => ckdecl_c (HC.out.upd0 (HN.out.2.trans' hu)) HQB.out.1 hlt HQB.out.2
      rw [← HDE.out] at hfc
      have HFC := Lib.hid hfc
      obtain ⟨E, hE⟩ : ∃ E, E = dErr qs k := ⟨_, rfl⟩
      rw [← hE] at HFC
      have HE := Lib.hid hE
      clear hfc hr hb hqd hlt2 HDE hE
      generalize qs[k].d = d at *
      have hA := heap_alloc_new wr (.cells #[i64 d.kind, .string d.name, .slice d.fa d.fn d.fc, .slice d.ma d.mn d.mc, i64 d.at_] 34)
      have hu := (Upd.refl [] wr).alloc (.cells #[i64 d.kind, .string d.name, .slice d.fa d.fn d.fc, .slice d.ma d.mn d.mc, i64 d.at_] 34)
      have HA := Lib.hid hA
      have HU4 := Lib.hid hu
      clear hA hu
      go_upto_region 5 with (fail)
      have hA := HA.out
      have hu := HU4.out
      clear HA HU4 r0 r1 r2 r3 r4
      generalize wr.alloc (.cells #[i64 d.kind, .string d.name, .slice d.fa d.fn d.fc, .slice d.ma d.mn d.mc, i64 d.at_] 34) = w4 at *
      generalize wr.heap.size = A at *
      have HCL := Lib.hid (HFC.out w4 hu)
      have HA := Lib.hid hA
      have HU4 := Lib.hid hu
      clear HFC hA hu
      go_upto_region 6 with (first | (go_at_call 28; refine HCL.out.mono ?_; rintro e w5 ⟨rfl, hu5⟩))
      have hA5 := hu5.keep0 HA.out
      have HU5 := Lib.hid (HN.out.2.trans' (HU4.out.trans' hu5))
      clear HCL HA HU4 hu5
      by_cases hz : E = 0
      · have hq : (E != 0) = false := by simpa using hz
        have HZ := Lib.hid hz
        clear hz hA5
        go_wp2_with (fail)
        go_roundw
        case rel =>
          refine ⟨k + 1, by go_num, by omega, Lib.hid ⟨fun j hj => ?_, HU5.out⟩⟩
          by_cases e : j = k
          · subst e; rw [← HE.out]; exact HZ.out
          · exact HN.out.1 j (by omega)
        case measure => simp [intOf]; omega
      · have hq : (E != 0) = true := by simpa using hz
        have HV := Lib.hid (show checkE qs = E from by
          have e := firstE_hit (err := dErr qs) (n := qs.length) hlt HN.out.1 (by rw [← HE.out]; exact hz)
          unfold checkE
          rw [e, ← HE.out, if_pos hz])
        clear hz
        obtain ⟨-, -, -, -, a4, -⟩ := cells5 hA5
        obtain ⟨q0, q1, q2, q3⟩ := cells2 (HU5.out.keep0 HR3.out)
        go_wp2_with (fail)
        have hq9 := heap_setCell (heap_setCell (HU5.out.keep0 HR3.out) 0 (i64 E)) 1 (i64 d.at_)
        obtain ⟨d0, d1, -⟩ := cells2 (v0 := i64 E) (v1 := i64 d.at_) hq9
        refine bodyPost_ret (v := .agg #[i64 E, i64 d.at_]) (by simp [results, Try.results24, go_sem, d0, d1]) rfl ?_
        exact hR.out _ _ ⟨d.at_, by rw [HV.out], ((HU3.out.trans' HU5.out).setCell (p := ⟨Q, 0, none⟩) (.inr (by rw [HQ.out]; exact Nat.le_refl _)) (i64 E)).setCell (p := ⟨Q, 1, none⟩) (.inr (by rw [HQ.out]; exact Nat.le_refl _)) (i64 d.at_)⟩
    · have HOK := Lib.hid (show firstE (dErr qs) qs.length = 0 from firstE_all fun j hj => HN.out.1 j (by omega))
      have HF := Lib.hid (HFN.out wr HU.out)
      clear HFN
      go_upto_region 10 with (first | (go_at_call 22; refine HF.out.mono ?_; rintro e w6 ⟨K, rfl, hK, hu6⟩))
      have HK6 := Lib.hid hK
      have HU6 := Lib.hid (HN.out.2.trans' hu6)
      clear HF hK hu6 HU
      obtain ⟨fe, hfe⟩ : ∃ fe, fe = finE qs := ⟨_, rfl⟩
      have HFL := Lib.hid (show fe.length = qs.length from by rw [hfe]; exact finE_len qs)
      rw [← hfe] at HK6
      have HFE := Lib.hid hfe
      clear hfe
      go_loopw [34] (fun i wx => ∃ m : Nat, i = i64 m ∧ m ≤ qs.length ∧ wx = w6 ∧ Hid (∀ j (h : j < fe.length), j < m → fe[j] = true)) (fun i _ => qs.length - (intOf i).toNat)
      case atStart => exact ⟨0, rfl, Nat.zero_le _, rfl, Lib.hid (fun j _ h => by omega)⟩
      case round =>
        obtain ⟨m, rfl, hm, rfl, HM⟩ := hrel
        have hmb : m ≤ 100 := by have := HLEN.out; omega
        by_cases hlt2 : m < qs.length
        · have hmf : m < fe.length := by rw [HFL.out]; exact hlt2
          have hg := HK6.out.get hmf
          cases hb : fe[m] with
          | true =>
            rw [hb] at hg
            have HB := Lib.hid hb
            clear hb
            go_wp2_with (fail)
            go_roundw
            case rel =>
              refine ⟨m + 1, by go_num, by omega, by first | rfl | trivial, Lib.hid fun j hj hjm => ?_⟩
              by_cases e : j = m
              · subst e; exact HB.out
              · exact HM.out j hj (by omega)
            case measure => simp [intOf]; omega
          | false =>
            rw [hb] at hg
            obtain ⟨b, off, rfl, hb2, hr⟩ : ∃ b off, ao = some ⟨b, off, none⟩ ∧ b < w3.heap.size ∧ DRows w3 b off (qs.map Dq.d) := by
              rcases HC.out.arg.rows with e | e
              · have : qs.length = 0 := by simpa using congrArg List.length e
                omega
              · exact e
            have hlt3 : m < (qs.map Dq.d).length := by simpa using hlt2
            obtain ⟨-, -, -, -, r4⟩ := drow hr HU6.out hb2 (by simp) hlt3
            have HV := Lib.hid (show checkE qs = 10 from by
              unfold checkE
              rw [if_neg (by rw [HOK.out]; simp), if_neg]
              intro e
              rw [← HFE.out, List.all_eq_true] at e
              have := e _ (List.getElem_mem hmf)
              rw [hb] at this
              cases this)
            obtain ⟨q0, q1, q2, q3⟩ := cells2 (HU6.out.keep0 HR3.out)
            clear hb hr
            generalize (qs.map Dq.d)[m].at_ = at4 at *
            go_wp2_with (fail)
            have hq9 := heap_setCell (heap_setCell (HU6.out.keep0 HR3.out) 0 (i64 10)) 1 (i64 at4)
            obtain ⟨d0, d1, -⟩ := cells2 (v0 := i64 10) (v1 := i64 at4) hq9
            refine bodyPost_ret (v := .agg #[i64 10, i64 at4]) (by simp [results, Try.results24, go_sem, d0, d1]) rfl ?_
            exact hR.out _ _ ⟨at4, by rw [HV.out], ((HU3.out.trans' HU6.out).setCell (p := ⟨Q, 0, none⟩) (.inr (by rw [HQ.out]; exact Nat.le_refl _)) (i64 10)).setCell (p := ⟨Q, 1, none⟩) (.inr (by rw [HQ.out]; exact Nat.le_refl _)) (i64 at4)⟩
        · have HV := Lib.hid (show checkE qs = 0 from by
            unfold checkE
            rw [if_neg (by rw [HOK.out]; simp), if_pos]
            rw [← HFE.out, List.all_eq_true]
            intro x hx
            obtain ⟨j, hj, rfl⟩ := List.getElem_of_mem hx
            exact HM.out j hj (by have := HFL.out; omega))
          obtain ⟨q0, q1, q2, q3⟩ := cells2 (HU6.out.keep0 HR3.out)
          go_wp2_with (fail)
          have hq9 := heap_setCell (heap_setCell (HU6.out.keep0 HR3.out) 0 (i64 0)) 1 (i64 0)
          obtain ⟨d0, d1, -⟩ := cells2 (v0 := i64 0) (v1 := i64 0) hq9
          refine bodyPost_ret (v := .agg #[i64 0, i64 0]) (by simp [results, Try.results24, go_sem, d0, d1]) rfl ?_
          exact hR.out _ _ ⟨0, by rw [HV.out], ((HU3.out.trans' HU6.out).setCell (p := ⟨Q, 0, none⟩) (.inr (by rw [HQ.out]; exact Nat.le_refl _)) (i64 0)).setCell (p := ⟨Q, 1, none⟩) (.inr (by rw [HQ.out]; exact Nat.le_refl _)) (i64 0)⟩
end Go.Proofs.Ytagnclphmhjoiaa
