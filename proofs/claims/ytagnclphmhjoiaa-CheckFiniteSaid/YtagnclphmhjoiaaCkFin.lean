/-
  The contracts of the closure in finite, and of finite (chapter 12). Condition: lengths within the machine's bounds.
-/
import Derived.Test.YtagnclphmhjoiaaCkDec2
namespace Go.Proofs.Ytagnclphmhjoiaa
open Go Go.RowKit Go.Maps

/-- a row of truths -/
def BoAt (w : World) (K : Nat) (ks : List Bool) : Prop := w.heap[K]? = some (.cells (ks.map Value.bool).toArray 4 (0, 0))
theorem BoAt.upd0 {w w' : World} {K : Nat} {ks : List Bool} (h : BoAt w K ks) (hu : Upd [] w w') : BoAt w' K ks := hu.keep0 h
theorem BoAt.get {w : World} {K : Nat} {ks : List Bool} (h : BoAt w K ks) {j : Nat} (hj : j < ks.length) : w.cell? ⟨K, j, none⟩ = some (.bool ks[j]) := by
  rw [cellOf h j, List.getElem?_toArray, List.getElem?_map, List.getElem?_eq_getElem hj]; rfl

def fine1 (ds : List Dc) (ks : List Bool) (k : Int) (nm : ByteArray) : Bool := if k = 6 then (ks[fnd ds nm]?).getD false else true
def fineT (ds : List Dc) (ks : List Bool) (t : Ty) : Bool := fine1 ds ks t.kind t.name
/-- is a declaration finite, as far as is known? -/
def finD (ds : List Dc) (ks : List Bool) (q : Dq) : Bool :=
  if q.d.kind = 3 ∨ q.d.kind = 4 then true else if q.d.kind = 1 then q.fs.all (fun f => fineT ds ks f.2) else if q.d.kind = 2 then q.fs.any (fun f => fineT ds ks f.2) else false

section
variable {w : World} {C : Nat} {ao : Option Addr} {cap T M : Nat} {v : Value} {n : Nat} {D : DataW Unit} {qs : List Dq}

set_option maxRecDepth 100000 in
set_option maxHeartbeats 1000000 in
theorem fin1_c (hc : CkAt w C ao cap T M v n D qs) {P B K kcap : Nat} {ks : List Bool} (hP : w.heap[P]? = some (.cells #[.pointer (some ⟨C, 0, none⟩)] 62 (0, 0))) (hB : w.heap[B]? = some (.cells #[.slice (some ⟨K, 0, none⟩) ks.length kcap] 46 (0, 0)))
    (hK : BoAt w K ks) (hks : ks.length = qs.length) (c : Tc) (hn : c.name.size ≤ maxLen) :
    Calls Try.prog 29 #[tv c, .pointer (some ⟨P, 0, none⟩), .pointer (some ⟨B, 0, none⟩)] w fun e w' => e = .returned (.bool (fine1 (qs.map Dq.d) ks c.kind c.name)) ∧ Upd [] w w' := by
  obtain ⟨k, nm, oa, on, oc⟩ := c
  simp only at hn ⊢
  obtain ⟨ds, hds⟩ : ∃ ds, ds = qs.map Dq.d := ⟨_, rfl⟩
  have hdl : ds.length = ks.length := by rw [hds, List.length_map, hks]
  have hkl : ks.length ≤ 100 := by have := hc.len; omega
  have hfc : ∀ w', Upd [] w w' → Calls Try.prog 9 #[.pointer (some ⟨T, 0, none⟩), .string nm] w' fun e w'' => e = .returned (.tuple #[i64 (fndI ds nm), .bool (fndB ds nm)]) ∧ w' = w'' := fun w' hu => by rw [hds]; exact find_c (hc.tab.upd hu) nm hn
  rw [← hds]
  have hA := heap_alloc_new w (.cells #[i64 k, .string nm, .slice oa on oc] 58)
  have hu := (Upd.refl [] w).alloc (.cells #[i64 k, .string nm, .slice oa on oc] 58)
  have HFC := Lib.hid hfc
  have HA := Lib.hid hA
  have HU := Lib.hid hu
  have HC := Lib.hid hc.hC
  have HP := Lib.hid hP
  have HB := Lib.hid hB
  have HK := Lib.hid hK
  clear hA hu hfc hc hP hB hK hds hks
  refine post fun R hR => ?_
  go_enter Try.func29, Try.ntmps29
  go_upto_region 1 with (fail)
  have hA := HA.out
  have hu := HU.out
  clear HA HU
  generalize w.alloc (.cells #[i64 k, .string nm, .slice oa on oc] 58) = w1 at *
  generalize w.heap.size = A at *
  obtain ⟨a0, a1, a2, -⟩ := cells3 hA
  obtain ⟨p0, -⟩ := cells1 (hu.keep0 HP.out)
  obtain ⟨z0, z1, -⟩ := cells2 (hu.keep0 HC.out)
  go_quiet ((go_at_call 9; refine Calls.quiet_of_same ((HFC.out _ (hu.drewN _)).mono fun _ _ h => ⟨h.1, h.2.symm⟩)))
  have hu2 := hu.drewN nq
  have hA2 := heap_drewN hA nq
  clear a0 a1 a2 p0 z0 z1 hA hu
  generalize w1.drewN nq = w2 at *
  obtain ⟨a0, -⟩ := cells3 hA2
  obtain ⟨b0, -⟩ := cells1 (hu2.keep0 HB.out)
  have HU2 := Lib.hid hu2
  by_cases h6 : k = 6
  · have hq6 : (k != 6) = false := by simpa using h6
    by_cases hf : fnd ds nm < ds.length
    · have hfb : fndB ds nm = true := by unfold fndB; simpa using hf
      have hfi : fndI ds nm = (fnd ds nm : Nat) := by unfold fndI; rw [if_pos hf]
      rw [hfb, hfi]
      have hj : fnd ds nm < ks.length := by omega
      have hv : fine1 ds ks k nm = ks[fnd ds nm] := by unfold fine1; rw [if_pos h6, List.getElem?_eq_getElem hj]; rfl
      have hg := (HK.out.upd0 hu2).get hj
      have HV := Lib.hid hv
      clear hfb hfi hv hA2 hu2 h6 hf HFC
      generalize ks[fnd ds nm] = kb at *
      generalize fnd ds nm = j at *
      go_wp2_with (fail)
      exact hR.out _ _ ⟨by rw [HV.out]; rfl, HU2.out⟩
    · have hfb : fndB ds nm = false := by unfold fndB; simpa using hf
      have hv : fine1 ds ks k nm = false := by unfold fine1; rw [if_pos h6, List.getElem?_eq_none (by omega)]; rfl
      rw [hfb]
      have HV := Lib.hid hv
      clear hfb hv hA2 hu2 h6 hf HFC
      generalize fndI ds nm = j at *
      go_wp2_with (fail)
      exact hR.out _ _ ⟨by rw [HV.out]; rfl, HU2.out⟩
  · have hq6 : (k != 6) = true := by simpa using h6
    have hv : fine1 ds ks k nm = true := by unfold fine1; rw [if_neg h6]
    have HV := Lib.hid hv
    clear hv hA2 hu2 h6 HFC
    generalize fndI ds nm = j at *
    go_wp2_with (fail)
    exact hR.out _ _ ⟨by rw [HV.out]; rfl, HU2.out⟩

set_option maxRecDepth 100000 in
set_option maxHeartbeats 2000000 in
theorem finite_c (hc : CkAt w C ao cap T M v n D qs) {K kcap : Nat} {ks : List Bool} (hK : BoAt w K ks) (hks : ks.length = qs.length) {q : Dq} (hq : DqR w q) :
    Calls Try.prog 26 #[.pointer (some ⟨C, 0, none⟩), dv q.d, .slice (some ⟨K, 0, none⟩) ks.length kcap] w fun e w' => e = .returned (.bool (finD (qs.map Dq.d) ks q)) ∧ Upd [] w w' := by
  have hmf : ∀ (fn : Fn) (first cap : Array Value) (w : World), (Instr.makeFunc fn first cap).run Try.prog w = .ok (.func fn first cap) w := fun _ _ _ _ => rfl
  simp only [dv]
  obtain ⟨P, hPe⟩ : ∃ P, P = w.heap.size := ⟨_, rfl⟩
  have hP := heap_alloc_old (heap_alloc_old (heap_alloc_new w (.cells #[.pointer (some ⟨C, 0, none⟩)] 62)) (.cells #[i64 q.d.kind, .string q.d.name, .slice q.d.fa q.d.fn q.d.fc, .slice q.d.ma q.d.mn q.d.mc, i64 q.d.at_] 34)) (.cells #[.slice (some ⟨K, 0, none⟩) ks.length kcap] 46)
  have hA := heap_alloc_old (heap_new2 w (.cells #[.pointer (some ⟨C, 0, none⟩)] 62) (.cells #[i64 q.d.kind, .string q.d.name, .slice q.d.fa q.d.fn q.d.fc, .slice q.d.ma q.d.mn q.d.mc, i64 q.d.at_] 34)) (.cells #[.slice (some ⟨K, 0, none⟩) ks.length kcap] 46)
  have hB : ((((w.alloc (.cells #[.pointer (some ⟨C, 0, none⟩)] 62)).alloc (.cells #[i64 q.d.kind, .string q.d.name, .slice q.d.fa q.d.fn q.d.fc, .slice q.d.ma q.d.mn q.d.mc, i64 q.d.at_] 34)).alloc (.cells #[.slice (some ⟨K, 0, none⟩) ks.length kcap] 46)).heap)[w.heap.size + 1 + 1]? = _ := heap_new3 w (.cells #[.pointer (some ⟨C, 0, none⟩)] 62) (.cells #[i64 q.d.kind, .string q.d.name, .slice q.d.fa q.d.fn q.d.fc, .slice q.d.ma q.d.mn q.d.mc, i64 q.d.at_] 34) (.cells #[.slice (some ⟨K, 0, none⟩) ks.length kcap] 46)
  have hu := (((Upd.refl [] w).alloc (.cells #[.pointer (some ⟨C, 0, none⟩)] 62)).alloc (.cells #[i64 q.d.kind, .string q.d.name, .slice q.d.fa q.d.fn q.d.fc, .slice q.d.ma q.d.mn q.d.mc, i64 q.d.at_] 34)).alloc (.cells #[.slice (some ⟨K, 0, none⟩) ks.length kcap] 46)
  rw [← hPe] at hP hA hB
  have HP := Lib.hid hP
  have HA := Lib.hid hA
  have HB := Lib.hid hB
  have HU := Lib.hid hu
  have HC := Lib.hid hc
  have HK := Lib.hid hK
  have HPE := Lib.hid hPe
  have HQ := Lib.hid hq
  have HKS := Lib.hid hks
  have HFN := Lib.hid (show q.d.fn = q.fs.length from by have := hq.fields.1; rw [List.length_map] at this; exact this.symm)
  have hfnx : q.d.fn ≤ 9223372036854775807 := by have := hq.fields.2.1; unfold maxLen at this; omega
  clear hP hA hB hu hc hK hPe hq hks
  generalize hgfa : q.d.fa = fa at *
  generalize q.d.ma = ma at *
  generalize q.d.fc = fc at *
  generalize q.d.mc = mc at *
  generalize hgfn : q.d.fn = fn at *
  generalize hgmn : q.d.mn = mn at *
  have HFA := Lib.hid hgfa
  clear hgfa hgfn hgmn
  refine post fun R hR => ?_
  go_enter Try.func26, Try.ntmps26
  go_upto_region 2 with (fail)
  have hP := HP.out
  have hA := HA.out
  have hB := HB.out
  have hu := HU.out
  clear HP HA HB HU hmf
  rw [← HPE.out]
  generalize (((w.alloc (.cells #[.pointer (some ⟨C, 0, none⟩)] 62)).alloc (.cells #[i64 q.d.kind, .string q.d.name, .slice fa fn fc, .slice ma mn mc, i64 q.d.at_] 34)).alloc (.cells #[.slice (some ⟨K, 0, none⟩) ks.length kcap] 46)) = w1 at *
  obtain ⟨ds, hds⟩ : ∃ ds, ds = qs.map Dq.d := ⟨_, rfl⟩
  have hcl : ∀ w', Upd [] w1 w' → ∀ f ∈ q.fs, Calls Try.prog 29 #[.agg #[i64 f.1.kind, .string f.1.tn, .slice f.1.oa f.1.on f.1.oc], .pointer (some ⟨P, 0, none⟩), .pointer (some ⟨P + 1 + 1, 0, none⟩)] w' fun e w'' => e = .returned (.bool (fineT ds ks f.2)) ∧ Upd [] w' w'' := fun w' h f hf => by
    obtain ⟨h1, h2, h3, -⟩ := (HQ.out.types f hf).2.head
    have := fin1_c (HC.out.upd0 (hu.trans' h)) (h.keep0 hP) (h.keep0 hB) (HK.out.upd0 (hu.trans' h)) HKS.out f.1.tc h3
    rw [hds]
    unfold fineT
    rw [h1, h2]
    exact this
  have HCL := Lib.hid hcl
  have HDS := Lib.hid hds
  have HU := Lib.hid hu
  clear hcl hP hB hds
  obtain ⟨a0, a1, a2, -⟩ := cells5 hA
  have HA := Lib.hid hA
  clear hA hu
  by_cases h34 : q.d.kind = 3 ∨ q.d.kind = 4
  · have HV := Lib.hid (show finD (qs.map Dq.d) ks q = true from by unfold finD; rw [if_pos h34])
    rcases h34 with h | h
    · have e3 : (q.d.kind == 3) = true := by rw [h]; rfl
      clear h
      go_wp2_with (fail)
      exact hR.out _ _ ⟨by rw [HV.out]; rfl, HU.out⟩
    · have e3 : (q.d.kind == 3) = false := by rw [h]; rfl
      have e4 : (q.d.kind == 4) = true := by rw [h]; rfl
      clear h
      go_wp2_with (fail)
      exact hR.out _ _ ⟨by rw [HV.out]; rfl, HU.out⟩
  · have e3 : (q.d.kind == 3) = false := by simp; omega
    have e4 : (q.d.kind == 4) = false := by simp; omega
    by_cases h1 : q.d.kind = 1
    · have e1 : (q.d.kind == 1) = true := by rw [h1]; rfl
      have e2 : (q.d.kind == 2) = false := by rw [h1]; rfl
      have HV := Lib.hid (show finD (qs.map Dq.d) ks q = q.fs.all (fun f => fineT ds ks f.2) from by unfold finD; rw [if_neg h34, if_pos h1, ← HDS.out])
      clear h1 h34
      go_upto_region 9 with (fail)
      go_loopw [22] (fun i wr => ∃ k : Nat, i = i64 k ∧ k ≤ fn ∧ (∀ j, j < k → ∀ h : j < q.fs.length, fineT ds ks q.fs[j].2 = true) ∧ Upd [] w1 wr) (fun i _ => fn - (intOf i).toNat)
      case atStart => exact ⟨0, rfl, Nat.zero_le _, fun j hj => by omega, Upd.refl _ _⟩
      case round =>
        clear a0 a1 a2
        obtain ⟨k, rfl, hk, hno, hur⟩ := hrel
        have HNO := Lib.hid hno
        clear hno
        by_cases hlt : k < fn
        · have hlf : k < q.fs.length := by have := HFN.out; omega
          obtain ⟨b2, off2, rfl, hb2, hr2⟩ : ∃ b2 off2, fa = some ⟨b2, off2, none⟩ ∧ b2 < w.heap.size ∧ RowsN w b2 off2 5 Fd.cells (q.fs.map (·.1)) := by
            rcases HQ.out.fields.2.2 with e | e
            · have : q.fs.length = 0 := by simpa using congrArg List.length e
              omega
            · rw [HFA.out] at e; exact e
          have hmm : k < (q.fs.map (·.1)).length := by simpa using hlf
          obtain ⟨d0, d1, d2, d3, d4⟩ := frow hr2 (HU.out.trans' hur) hb2 hmm
          have hfe : (q.fs.map (·.1))[k] = q.fs[k].1 := by simp
          rw [hfe] at d0 d1 d2 d3 d4
          have hmem : q.fs[k] ∈ q.fs := List.getElem_mem hlf
          have hcl := fun (w' : World) (hu : Upd [] wr w') => HCL.out w' (hur.trans' hu) _ hmem
          have HCL1 := Lib.hid hcl
          have HMEM := Lib.hid hmem
          have HUR := Lib.hid hur
          have hA := hur.keep0 HA.out
          clear hfe hmm hr2 hcl hmem hur
          have HB0 := Lib.hid (show fineT ds ks q.fs[k].2 = _ from rfl)
          generalize hf : q.fs[k].1 = f at *
          have HF := Lib.hid hf
          clear hf
          generalize hbv : fineT ds ks q.fs[k].2 = bv at *
          have HB1 := Lib.hid hbv
          clear hbv HB0
          have HA1 := Lib.hid hA
          clear hA
          go_upto_region 11 with (fail)
          have hX := heap_alloc_new wr (.cells #[i64 f.tag, .string f.name, i64 f.kind, .string f.tn, .slice f.oa f.on f.oc] 60)
          have hux := (Upd.refl [] wr).alloc (.cells #[i64 f.tag, .string f.name, i64 f.kind, .string f.tn, .slice f.oa f.on f.oc] 60)
          have hA4 := heap_alloc_old HA1.out (.cells #[i64 f.tag, .string f.name, i64 f.kind, .string f.tn, .slice f.oa f.on f.oc] 60)
          generalize wr.alloc (.cells #[i64 f.tag, .string f.name, i64 f.kind, .string f.tn, .slice f.oa f.on f.oc] 60) = w4 at *
          generalize wr.heap.size = X at *
          have hcl := HCL1.out _ hux.drew
          have HCL2 := Lib.hid hcl
          have HUX := Lib.hid (HUR.out.trans' hux)
          have HX4 := Lib.hid hX
          have HA4 := Lib.hid hA4
          obtain ⟨x0, x1, x2, x3, x4, -⟩ := cells5 hX
          obtain ⟨a0, -⟩ := cells5 hA4
          clear hcl hX hux hA4 d0 d1 d2 d3 d4 HCL1 HUR HA1
          go_region_held3 (fun w' => w'.cell? ⟨X, 2, none⟩ = some (i64 f.kind) ∧ w'.cell? ⟨X, 3, none⟩ = some (.string f.tn) ∧ w'.cell? ⟨X, 4, none⟩ = some (.slice f.oa f.on f.oc) ∧ w'.cell? ⟨P + 1, 0, none⟩ = some (i64 q.d.kind))
            ((first | exact ⟨x2, x3, x4, a0⟩ | exact ⟨cellOf (hu5.keep0 (heap_drew HX4.out)) 2, cellOf (hu5.keep0 (heap_drew HX4.out)) 3, cellOf (hu5.keep0 (heap_drew HX4.out)) 4, cellOf (hu5.keep0 (heap_drew HA4.out)) 0⟩))
            ((first
              | (go_at_call 29; (with_reducible refine Calls.mono (HCL2.out) ?_); rintro e w5 ⟨rfl, hu5⟩)))
          rename_i hHeld
          have HA5 := Lib.hid (hu5.keep0 (heap_drew HA4.out))
          have HU5 := Lib.hid (HUX.out.drew.trans' hu5)
          clear hHeld hu5 x0 x1 x2 x3 x4 a0 HCL2 HX4 HA4 HUX
          obtain ⟨a0, -⟩ := cells5 HA5.out
          by_cases hbv : bv = true
          · subst hbv
            go_wp2_with (fail)
            go_roundw
            case rel =>
              refine ⟨k + 1, by go_num, by omega, fun j hj h => ?_, HU5.out⟩
              by_cases e : j = k
              · subst e; exact HB1.out
              · exact HNO.out j (by omega) h
            case measure => simp [intOf]; omega
          · have hbv2 : bv = false := by cases bv <;> simp_all
            clear hbv
            subst hbv2
            go_wp2_with (fail)
            exact hR.out _ _ ⟨by rw [HV.out, List.all_eq_false.2 ⟨_, HMEM.out, by rw [HB1.out]; simp⟩]; rfl, HU.out.trans' HU5.out⟩
        · obtain ⟨a0, -⟩ := cells5 (hur.keep0 HA.out)
          have HUR := Lib.hid hur
          clear hur
          go_wp2_with (fail)
          exact hR.out _ _ ⟨by rw [HV.out, List.all_eq_true.2 (fun x hx => by obtain ⟨j, hj, rfl⟩ := List.getElem_of_mem hx; exact HNO.out j (by have := HFN.out; omega) hj)]; rfl, HU.out.trans' HUR.out⟩
    · have e1 : (q.d.kind == 1) = false := by simpa using h1
      by_cases h2 : q.d.kind = 2
      · have e2 : (q.d.kind == 2) = true := by rw [h2]; rfl
        have HV := Lib.hid (show finD (qs.map Dq.d) ks q = q.fs.any (fun f => fineT ds ks f.2) from by unfold finD; rw [if_neg h34, if_neg h1, if_pos h2, ← HDS.out])
        clear h1 h2 h34
        go_upto_region 9 with (fail)
        go_loopw [22] (fun i wr => ∃ k : Nat, i = i64 k ∧ k ≤ fn ∧ (∀ j, j < k → ∀ h : j < q.fs.length, fineT ds ks q.fs[j].2 = false) ∧ Upd [] w1 wr) (fun i _ => fn - (intOf i).toNat)
        case atStart => exact ⟨0, rfl, Nat.zero_le _, fun j hj => by omega, Upd.refl _ _⟩
        case round =>
          clear a0 a1 a2
          obtain ⟨k, rfl, hk, hno, hur⟩ := hrel
          have HNO := Lib.hid hno
          clear hno
          by_cases hlt : k < fn
          · have hlf : k < q.fs.length := by have := HFN.out; omega
            obtain ⟨b2, off2, rfl, hb2, hr2⟩ : ∃ b2 off2, fa = some ⟨b2, off2, none⟩ ∧ b2 < w.heap.size ∧ RowsN w b2 off2 5 Fd.cells (q.fs.map (·.1)) := by
              rcases HQ.out.fields.2.2 with e | e
              · have : q.fs.length = 0 := by simpa using congrArg List.length e
                omega
              · rw [HFA.out] at e; exact e
            have hmm : k < (q.fs.map (·.1)).length := by simpa using hlf
            obtain ⟨d0, d1, d2, d3, d4⟩ := frow hr2 (HU.out.trans' hur) hb2 hmm
            have hfe : (q.fs.map (·.1))[k] = q.fs[k].1 := by simp
            rw [hfe] at d0 d1 d2 d3 d4
            have hmem : q.fs[k] ∈ q.fs := List.getElem_mem hlf
            have hcl := fun (w' : World) (hu : Upd [] wr w') => HCL.out w' (hur.trans' hu) _ hmem
            have HCL1 := Lib.hid hcl
            have HMEM := Lib.hid hmem
            have HUR := Lib.hid hur
            have hA := hur.keep0 HA.out
            clear hfe hmm hr2 hcl hmem hur
            have HB0 := Lib.hid (show fineT ds ks q.fs[k].2 = _ from rfl)
            generalize hf : q.fs[k].1 = f at *
            have HF := Lib.hid hf
            clear hf
            generalize hbv : fineT ds ks q.fs[k].2 = bv at *
            have HB1 := Lib.hid hbv
            clear hbv HB0
            have HA1 := Lib.hid hA
            clear hA
            go_upto_region 11 with (fail)
            have hX := heap_alloc_new wr (.cells #[i64 f.tag, .string f.name, i64 f.kind, .string f.tn, .slice f.oa f.on f.oc] 60)
            have hux := (Upd.refl [] wr).alloc (.cells #[i64 f.tag, .string f.name, i64 f.kind, .string f.tn, .slice f.oa f.on f.oc] 60)
            have hA4 := heap_alloc_old HA1.out (.cells #[i64 f.tag, .string f.name, i64 f.kind, .string f.tn, .slice f.oa f.on f.oc] 60)
            generalize wr.alloc (.cells #[i64 f.tag, .string f.name, i64 f.kind, .string f.tn, .slice f.oa f.on f.oc] 60) = w4 at *
            generalize wr.heap.size = X at *
            have hcl := HCL1.out _ hux.drew
            have HCL2 := Lib.hid hcl
            have HUX := Lib.hid (HUR.out.trans' hux)
            have HX4 := Lib.hid hX
            have HA4 := Lib.hid hA4
            obtain ⟨x0, x1, x2, x3, x4, -⟩ := cells5 hX
            obtain ⟨a0, -⟩ := cells5 hA4
            clear hcl hX hux hA4 d0 d1 d2 d3 d4 HCL1 HUR HA1
            go_region_held3 (fun w' => w'.cell? ⟨X, 2, none⟩ = some (i64 f.kind) ∧ w'.cell? ⟨X, 3, none⟩ = some (.string f.tn) ∧ w'.cell? ⟨X, 4, none⟩ = some (.slice f.oa f.on f.oc) ∧ w'.cell? ⟨P + 1, 0, none⟩ = some (i64 q.d.kind))
              ((first | exact ⟨x2, x3, x4, a0⟩ | exact ⟨cellOf (hu5.keep0 (heap_drew HX4.out)) 2, cellOf (hu5.keep0 (heap_drew HX4.out)) 3, cellOf (hu5.keep0 (heap_drew HX4.out)) 4, cellOf (hu5.keep0 (heap_drew HA4.out)) 0⟩))
              ((first
                | (go_at_call 29; (with_reducible refine Calls.mono (HCL2.out) ?_); rintro e w5 ⟨rfl, hu5⟩)))
            rename_i hHeld
            have HA5 := Lib.hid (hu5.keep0 (heap_drew HA4.out))
            have HU5 := Lib.hid (HUX.out.drew.trans' hu5)
            clear hHeld hu5 x0 x1 x2 x3 x4 a0 HCL2 HX4 HA4 HUX
            obtain ⟨a0, -⟩ := cells5 HA5.out
            by_cases hbv : bv = false
            · subst hbv
              go_wp2_with (fail)
              go_roundw
              case rel =>
                refine ⟨k + 1, by go_num, by omega, fun j hj h => ?_, HU5.out⟩
                by_cases e : j = k
                · subst e; exact HB1.out
                · exact HNO.out j (by omega) h
              case measure => simp [intOf]; omega
            · have hbv2 : bv = true := by cases bv <;> simp_all
              clear hbv
              subst hbv2
              go_wp2_with (fail)
              exact hR.out _ _ ⟨by rw [HV.out, List.any_eq_true.2 ⟨_, HMEM.out, HB1.out⟩]; rfl, HU.out.trans' HU5.out⟩
          · obtain ⟨a0, -⟩ := cells5 (hur.keep0 HA.out)
            have HUR := Lib.hid hur
            clear hur
            go_wp2_with (fail)
            exact hR.out _ _ ⟨by rw [HV.out, List.any_eq_false.2 (fun x hx => by obtain ⟨j, hj, rfl⟩ := List.getElem_of_mem hx; rw [HNO.out j (by have := HFN.out; omega) hj]; simp)]; rfl, HU.out.trans' HUR.out⟩
      · have e2 : (q.d.kind == 2) = false := by simpa using h2
        have HV := Lib.hid (show finD (qs.map Dq.d) ks q = false from by unfold finD; rw [if_neg h34, if_neg h1, if_neg h2])
        clear h1 h2 h34
        go_wp2_with (fail)
        exact hR.out _ _ ⟨by rw [HV.out]; rfl, HU.out⟩
end
end Go.Proofs.Ytagnclphmhjoiaa
