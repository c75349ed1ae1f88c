/-
  The contracts of the document's fine, one and Finite (chapter 12). Condition: lengths within the machine's bounds.
-/
import Derived.Test.YtagnclphmhjoiaaCkAwk
namespace Go.Proofs.Ytagnclphmhjoiaa
open Go Go.RowKit Go.Maps

section
variable {w : World} {ao : Option Addr} {cap K kcap : Nat} {qs : List Dq} {ks : List Bool}

set_option maxRecDepth 100000 in
set_option maxHeartbeats 1000000 in
theorem rfine_c (h : QArg w ao qs) (hlen : qs.length ≤ 100) (hK : BoAt w K ks) (hks : ks.length = qs.length) (c : Tc) :
    Calls Try.prog 30 #[.slice ao qs.length cap, tv c, .slice (some ⟨K, 0, none⟩) qs.length kcap] w fun e w' => e = .returned (.bool (fine1 (qs.map Dq.d) ks c.kind c.name)) ∧ Upd [] w w' := by
  obtain ⟨k, nm, oa, on, oc⟩ := c
  simp only
  obtain ⟨ds, hds⟩ : ∃ ds, ds = qs.map Dq.d := ⟨_, rfl⟩
  have hdl : ds.length = ks.length := by rw [hds, List.length_map, hks]
  have hfc := fun w' (hu : Upd [] w w') => rfindA_c (cap := cap) (h.rows.upd hu) nm (by simp; omega)
  rw [List.length_map, ← hds] at hfc
  rw [← hds]
  have HFC := Lib.hid hfc
  have hA := heap_alloc_new w (.cells #[i64 k, .string nm, .slice oa on oc] 58)
  have hu := (Upd.refl [] w).alloc (.cells #[i64 k, .string nm, .slice oa on oc] 58)
  have HA := Lib.hid hA
  have HU := Lib.hid hu
  have HK := Lib.hid hK
  have HKS := Lib.hid hks
  clear hA hu hfc h hK hds hks
  refine post fun R hR => ?_
  go_enter Try.func30, Try.ntmps30
  go_upto_region 1 with (fail)
  have hA := HA.out
  have hu := HU.out
  clear HA HU
  generalize w.alloc (.cells #[i64 k, .string nm, .slice oa on oc] 58) = w1 at *
  generalize w.heap.size = A at *
  obtain ⟨a0, a1, a2, -⟩ := cells3 hA
  have HU := Lib.hid hu
  have HCL := Lib.hid (HFC.out w1 hu)
  clear hA hu HFC
  by_cases h6 : k = 6
  · have hq6 : (k != 6) = false := by simpa using h6
    by_cases hf : fnd ds nm < ds.length
    · have hfi : fndR ds nm = (fnd ds nm : Nat) := by unfold fndR; rw [if_pos hf]
      rw [hfi] at HCL
      have hj : fnd ds nm < ks.length := by omega
      have hjl : fnd ds nm < qs.length := by rw [← HKS.out]; exact hj
      have hv : fine1 ds ks k nm = ks[fnd ds nm] := by unfold fine1; rw [if_pos h6, List.getElem?_eq_getElem hj]; rfl
      have hg := (HK.out.upd0 HU.out).get hj
      have HV := Lib.hid hv
      clear hfi hv h6 hf
      generalize ks[fnd ds nm] = kb at *
      generalize fnd ds nm = j at *
      go_wp2_with (first | (go_at_call 10; refine HCL.out.mono ?_; rintro e w2 ⟨rfl, rfl⟩))
      exact hR.out _ _ ⟨by rw [HV.out]; rfl, HU.out⟩
    · have hfi : fndR ds nm = -1 := by unfold fndR; rw [if_neg hf]
      have hv : fine1 ds ks k nm = false := by unfold fine1; rw [if_pos h6, List.getElem?_eq_none (by omega)]; rfl
      rw [hfi] at HCL
      have HV := Lib.hid hv
      clear hfi hv h6 hf
      go_wp2_with (first | (go_at_call 10; refine HCL.out.mono ?_; rintro e w2 ⟨rfl, rfl⟩))
      exact hR.out _ _ ⟨by rw [HV.out]; rfl, HU.out⟩
  · have hq6 : (k != 6) = true := by simpa using h6
    have hv : fine1 ds ks k nm = true := by unfold fine1; rw [if_neg h6]
    have HV := Lib.hid hv
    clear hv h6 HCL
    go_wp2_with (fail)
    exact hR.out _ _ ⟨by rw [HV.out]; rfl, HU.out⟩

/-- how many of the first fields are finite -/
def cntF (ds : List Dc) (ks : List Bool) (l : List (Fd × Ty)) (k : Nat) : Nat := (l.take k).countP (fun f => fineT ds ks f.2)
theorem cntF_succ {ds : List Dc} {ks : List Bool} {l : List (Fd × Ty)} {k : Nat} (h : k < l.length) {b : Bool} (hb : fineT ds ks l[k].2 = b) : cntF ds ks l (k + 1) = cntF ds ks l k + (if b = true then 1 else 0) := by
  unfold cntF
  rw [List.take_succ_eq_append_getElem h, List.countP_append, List.countP_singleton, hb]
theorem cntF_le (ds : List Dc) (ks : List Bool) (l : List (Fd × Ty)) (k : Nat) : cntF ds ks l k ≤ k := by
  unfold cntF
  exact Nat.le_trans List.countP_le_length (by rw [List.length_take]; omega)
theorem cntF_all {ds : List Dc} {ks : List Bool} {l : List (Fd × Ty)} : (cntF ds ks l l.length = l.length) ↔ l.all (fun f => fineT ds ks f.2) = true := by
  unfold cntF
  rw [List.take_length, List.countP_eq_length, List.all_eq_true]
theorem cntF_any {ds : List Dc} {ks : List Bool} {l : List (Fd × Ty)} : 0 < cntF ds ks l l.length ↔ l.any (fun f => fineT ds ks f.2) = true := by
  unfold cntF
  rw [List.take_length, List.countP_pos_iff, List.any_eq_true]

set_option maxRecDepth 100000 in
set_option maxHeartbeats 2000000 in
theorem rone_c (h : QArg w ao qs) (hlen : qs.length ≤ 100) (hK : BoAt w K ks) (hks : ks.length = qs.length) {q : Dq} (hq : DqR w q) :
    Calls Try.prog 27 #[.slice ao qs.length cap, dv q.d, .slice (some ⟨K, 0, none⟩) qs.length kcap] w fun e w' => e = .returned (.bool (finD (qs.map Dq.d) ks q)) ∧ Upd [] w w' := by
  simp only [dv]
  obtain ⟨ds, hds⟩ : ∃ ds, ds = qs.map Dq.d := ⟨_, rfl⟩
  have hcl : ∀ w', Upd [] w w' → ∀ f ∈ q.fs, Calls Try.prog 30 #[.slice ao qs.length cap, .agg #[i64 f.1.kind, .string f.1.tn, .slice f.1.oa f.1.on f.1.oc], .slice (some ⟨K, 0, none⟩) qs.length kcap] w' fun e w'' => e = .returned (.bool (fineT ds ks f.2)) ∧ Upd [] w' w'' := fun w' hu f hf => by
    obtain ⟨h1, h2, h3, -⟩ := (hq.types f hf).2.head
    have := rfine_c (cap := cap) (kcap := kcap) (h.upd0 hu) hlen (hK.upd0 hu) hks f.1.tc
    rw [hds]
    unfold fineT
    rw [h1, h2]
    exact this
  have hA := heap_alloc_new w (.cells #[i64 q.d.kind, .string q.d.name, .slice q.d.fa q.d.fn q.d.fc, .slice q.d.ma q.d.mn q.d.mc, i64 q.d.at_] 34)
  have hu := (Upd.refl [] w).alloc (.cells #[i64 q.d.kind, .string q.d.name, .slice q.d.fa q.d.fn q.d.fc, .slice q.d.ma q.d.mn q.d.mc, i64 q.d.at_] 34)
  rw [← hds]
  have HDS := Lib.hid hds
  have HCL := Lib.hid hcl
  have HQ := Lib.hid hq
  have HA := Lib.hid hA
  have HU := Lib.hid hu
  have HFN := Lib.hid (show q.d.fn = q.fs.length from by have := hq.fields.1; rw [List.length_map] at this; exact this.symm)
  have hfnx : q.d.fn ≤ maxLen := hq.fields.2.1
  unfold maxLen at hfnx
  clear hcl hq h hK hks hds hA hu hlen
  generalize hgfa : q.d.fa = fa at *
  generalize q.d.ma = ma at *
  generalize q.d.fc = fc at *
  generalize q.d.mc = mc at *
  generalize hgfn : q.d.fn = fn at *
  generalize hgmn : q.d.mn = mn at *
  have HFA := Lib.hid hgfa
  clear hgfa hgfn hgmn
  refine post fun R hR => ?_
  go_enter Try.func27, Try.ntmps27
  go_upto_region 3 with (fail)
  have hA := HA.out
  have hu := HU.out
  clear HA HU
  generalize w.alloc (.cells #[i64 q.d.kind, .string q.d.name, .slice fa fn fc, .slice ma mn mc, i64 q.d.at_] 34) = w1 at *
  generalize w.heap.size = A at *
  have HA := Lib.hid hA
  have HU := Lib.hid hu
  clear hA hu
  go_loopw [7, 8] (fun n i wr => ∃ k : Nat, i = i64 k ∧ k ≤ fn ∧ n = i64 (cntF ds ks q.fs k) ∧ Upd [] w1 wr) (fun _ i _ => fn - (intOf i).toNat)
  case atStart => exact ⟨0, rfl, Nat.zero_le _, by unfold cntF; simp, Upd.refl _ _⟩
  case round =>
    obtain ⟨k, rfl, hk, rfl, hur⟩ := hrel
    obtain ⟨a0, a1, a2, a3, -⟩ := cells5 (hur.keep0 HA.out)
    have hck := cntF_le ds ks q.fs k
    obtain ⟨c, hc⟩ : ∃ c, c = cntF ds ks q.fs k := ⟨_, rfl⟩
    rw [← hc] at hck ⊢
    have HC := Lib.hid hc
    clear hc
    by_cases hlt : k < fn
    · have hlf : k < q.fs.length := by have := HFN.out; omega
      obtain ⟨b2, off2, rfl, hb2, hr2⟩ : ∃ b2 off2, fa = some ⟨b2, off2, none⟩ ∧ b2 < w.heap.size ∧ RowsN w b2 off2 5 Fd.cells (q.fs.map (·.1)) := by
        rcases HQ.out.fields.2.2 with e | e
        · have : q.fs.length = 0 := by simpa using congrArg List.length e
          omega
        · rw [HFA.out] at e; exact e
      have hmm : k < (q.fs.map (·.1)).length := by simpa using hlf
      obtain ⟨d0, d1, d2, d3, d4⟩ := frow hr2 (HU.out.trans' hur) hb2 hmm
      have hfe : (q.fs.map (·.1))[k] = q.fs[k].1 := by simp
      rw [hfe] at d0 d1 d2 d3 d4
      have HCL1 := Lib.hid (HCL.out wr (HU.out.trans' hur) _ (List.getElem_mem hlf))
      have HNX := Lib.hid (fun b (h : fineT ds ks q.fs[k].2 = b) => cntF_succ hlf h)
      have HUR := Lib.hid hur
      clear hfe hmm hr2 hur hb2
      generalize q.fs[k].1 = f at *
      generalize hbv : fineT ds ks q.fs[k].2 = bv at *
      have HB1 := Lib.hid hbv
      clear hbv
      have HNX1 := Lib.hid (HNX.out _ rfl)
      clear HNX
      cases bv with
      | true =>
        go_wp2_with (first | (go_at_call 30; refine HCL1.out.mono ?_; rintro e w2 ⟨rfl, hu2⟩))
        go_roundw
        case rel => exact ⟨k + 1, by go_num, by omega, by rw [HNX1.out, ← HC.out]; go_num, HUR.out.trans' hu2⟩
        case measure => simp [intOf]; omega
      | false =>
        go_wp2_with (first | (go_at_call 30; refine HCL1.out.mono ?_; rintro e w2 ⟨rfl, hu2⟩))
        go_roundw
        case rel => exact ⟨k + 1, by go_num, by omega, by rw [HNX1.out, ← HC.out]; simp, HUR.out.trans' hu2⟩
        case measure => simp [intOf]; omega
    · have hke : k = q.fs.length := by have := HFN.out; omega
      have hc := HC.out
      rw [hke] at hc
      have hall : (c = fn) ↔ q.fs.all (fun f => fineT ds ks f.2) = true := by
        rw [hc, HFN.out]; exact cntF_all
      have hany : 0 < c ↔ q.fs.any (fun f => fineT ds ks f.2) = true := by
        rw [hc]; exact cntF_any
      have HALL := Lib.hid hall
      have HANY := Lib.hid hany
      have HUE := Lib.hid (HU.out.trans' hur)
      clear hc hke hall hany hur HCL
      by_cases h3 : q.d.kind = 3
      · have e3 : (q.d.kind == 3) = true := by rw [h3]; rfl
        have HV := Lib.hid (show finD (qs.map Dq.d) ks q = true from by unfold finD; rw [if_pos (.inl h3)])
        clear h3
        go_wp2_with (fail)
        exact hR.out _ _ ⟨by rw [HDS.out, HV.out]; rfl, HUE.out⟩
      · have e3 : (q.d.kind == 3) = false := by simpa using h3
        by_cases h4 : q.d.kind = 4
        · have e4 : (q.d.kind == 4) = true := by rw [h4]; rfl
          have HV := Lib.hid (show finD (qs.map Dq.d) ks q = true from by unfold finD; rw [if_pos (.inr h4)])
          clear h3 h4
          go_wp2_with (fail)
          exact hR.out _ _ ⟨by rw [HDS.out, HV.out]; rfl, HUE.out⟩
        · have e4 : (q.d.kind == 4) = false := by simpa using h4
          have h34 : ¬ (q.d.kind = 3 ∨ q.d.kind = 4) := by omega
          by_cases h1 : q.d.kind = 1
          · have e1 : (q.d.kind == 1) = true := by rw [h1]; rfl
            have e2 : (q.d.kind == 2) = false := by rw [h1]; rfl
            have HV := Lib.hid (show finD (qs.map Dq.d) ks q = q.fs.all (fun f => fineT ds ks f.2) from by unfold finD; rw [if_neg h34, if_pos h1, ← HDS.out])
            clear h1 h34 h3 h4
            by_cases hcf : c = fn
            · have ecf : ((c : Int) == (fn : Int)) = true := by rw [hcf]; exact beq_self_eq_true _
              have HV2 := Lib.hid (HALL.out.1 hcf)
              clear hcf HALL HANY
              go_wp2_with (fail)
              exact hR.out _ _ ⟨by rw [HDS.out, HV.out, HV2.out]; rfl, HUE.out⟩
            · have ecf : ((c : Int) == (fn : Int)) = false := beq_false_of_ne (fun e => hcf (by omega))
              have HV2 := Lib.hid (show q.fs.all (fun f => fineT ds ks f.2) = false from by cases hx : q.fs.all (fun f => fineT ds ks f.2) with | true => exact (hcf (HALL.out.2 hx)).elim | false => rfl)
              clear hcf HALL HANY
              go_wp2_with (fail)
              exact hR.out _ _ ⟨by rw [HDS.out, HV.out, HV2.out]; rfl, HUE.out⟩
          · have e1 : (q.d.kind == 1) = false := by simpa using h1
            by_cases h2 : q.d.kind = 2
            · have e2 : (q.d.kind == 2) = true := by rw [h2]; rfl
              have HV := Lib.hid (show finD (qs.map Dq.d) ks q = q.fs.any (fun f => fineT ds ks f.2) from by unfold finD; rw [if_neg h34, if_neg h1, if_pos h2, ← HDS.out])
              clear h1 h2 h34 h3 h4
              by_cases hcf : 0 < c
              · have HV2 := Lib.hid (HANY.out.1 hcf)
                clear HALL HANY
                go_wp2_with (fail)
                exact hR.out _ _ ⟨by rw [HDS.out, HV.out, HV2.out]; rfl, HUE.out⟩
              · have HV2 := Lib.hid (show q.fs.any (fun f => fineT ds ks f.2) = false from by cases hx : q.fs.any (fun f => fineT ds ks f.2) with | true => exact (hcf (HANY.out.2 hx)).elim | false => rfl)
                have hc0 : c = 0 := by omega
                clear HALL HANY hcf
                subst hc0
                go_wp2_with (fail)
                exact hR.out _ _ ⟨by rw [HDS.out, HV.out, HV2.out]; rfl, HUE.out⟩
            · have e2 : (q.d.kind == 2) = false := by simpa using h2
              have HV := Lib.hid (show finD (qs.map Dq.d) ks q = false from by unfold finD; rw [if_neg h34, if_neg h1, if_neg h2])
              clear h1 h2 h34 h3 h4 HALL HANY
              go_wp2_with (fail)
              exact hR.out _ _ ⟨by rw [HDS.out, HV.out]; rfl, HUE.out⟩
end
end Go.Proofs.Ytagnclphmhjoiaa
