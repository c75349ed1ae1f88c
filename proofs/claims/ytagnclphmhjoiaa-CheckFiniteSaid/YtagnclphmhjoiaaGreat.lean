/-
  The contracts of chapter 10's small and Great, on declarations as trees. Condition: lengths within the machine's bounds.
-/
import Derived.Test.YtagnclphmhjoiaaTyp
import Derived.Deep.DeepCutAuto
import Derived.Deep.CutBlock
namespace Go.Proofs.Ytagnclphmhjoiaa
open Go Go.RowKit

theorem trow {w wr : World} {b off : Nat} {l : List Tc} (hr : RowsN w b off 3 Tc.cells l) (hu : Upd [] w wr) (hb : b < w.heap.size) {k : Nat} (hk : k < l.length) :
    wr.cell? ⟨b, off + k * 3, none⟩ = some (i64 l[k].kind) ∧ wr.cell? ⟨b, off + k * 3 + 1, none⟩ = some (.string l[k].name) ∧ wr.cell? ⟨b, off + k * 3 + 2, none⟩ = some (.slice l[k].oa l[k].on l[k].oc) := by
  have h0 := hr k l[k] (List.getElem?_eq_getElem hk)
  have hc : ∀ j, wr.cell? ⟨b, j, none⟩ = w.cell? ⟨b, j, none⟩ := fun j => World.cell?_of_block (hu.block b hb (by simp))
  exact ⟨(hc _).trans (h0 0 (by omega)), (hc _).trans (h0 1 (by omega)), (hc _).trans (h0 2 (by omega))⟩
/-- the type's value -/
abbrev tv (c : Tc) : Value := .agg #[i64 c.kind, .string c.name, .slice c.oa c.on c.oc]

set_option maxRecDepth 100000 in
set_option maxHeartbeats 2000000 in
theorem small_c {w : World} {c : Tc} {t : Ty} (h : TyRep w c t) : ∀ (w1 : World) (deep : Int), Upd [] w w1 → 0 ≤ deep ∧ deep ≤ 30 → Calls Try.prog 25 #[tv c, i64 deep] w1 fun e w' => ∃ b, e = .returned (.bool b) ∧ Upd [] w1 w' := by
  induction h with
  | mk c cs l hn hcs hl hrec ih =>
    intro w1 deep hu1 hd
    obtain ⟨kd, nm, oa, on, oc⟩ := c
    simp only at hcs hn
    obtain ⟨rfl, hmx, hrow⟩ := hcs
    unfold maxLen at hmx
    have HROW := Lib.hid hrow
    have HU1 := Lib.hid hu1
    have HIH := Lib.hid ih
    clear hrow hrec hu1 ih
    obtain ⟨hd0, hd1⟩ := hd
    have hA := heap_alloc_new w1 (.cells #[i64 kd, .string nm, .slice oa cs.length oc] 58)
    have hu := (Upd.refl [] w1).alloc (.cells #[i64 kd, .string nm, .slice oa cs.length oc] 58)
    have HA := Lib.hid hA
    have HU := Lib.hid hu
    clear hA hu
    refine post fun R hR => ?_
    go_enter Try.func25, Try.ntmps25
    go_upto_region 1 with (fail)
    have hA := HA.out
    have hu := HU.out
    clear HA HU
    generalize w1.alloc (.cells #[i64 kd, .string nm, .slice oa cs.length oc] 58) = w2 at *
    obtain ⟨A, hAe⟩ : ∃ A, A = w1.heap.size := ⟨_, rfl⟩
    rw [← hAe] at hA ⊢
    clear hAe
    obtain ⟨a0, a1, a2, -⟩ := cells3 hA
    by_cases hdp : 20 < deep
    · go_wp2_with (fail)
      exact hR.out _ _ ⟨_, rfl, hu⟩
    · by_cases hln : 3 < cs.length
      · have hln' : (3 : Int) < cs.length := by omega
        go_wp2_with (fail)
        exact hR.out _ _ ⟨_, rfl, hu⟩
      · have hln' : ¬ (3 : Int) < cs.length := by omega
        have HA := Lib.hid hA
        have HU2 := Lib.hid hu
        clear a0 a1 hA hu
        go_wp2_with (fail)
        go_loopw [5] (fun i wr => ∃ k : Nat, i = i64 k ∧ k ≤ cs.length ∧ Upd [] w2 wr) (fun i _ => cs.length - (intOf i).toNat)
        case atStart => exact ⟨0, rfl, Nat.zero_le _, Upd.refl _ _⟩
        case round =>
          obtain ⟨k, rfl, hk, hur⟩ := hrel
          obtain ⟨-, -, b2, -⟩ := cells3 (hur.keep0 HA.out)
          by_cases hlt : k < cs.length
          · obtain ⟨b, off, rfl, hb, hr⟩ : ∃ b off, oa = some ⟨b, off, none⟩ ∧ b < w.heap.size ∧ RowsN w b off 3 Tc.cells cs := by
              rcases HROW.out with e | e
              · rw [e] at hlt; simp at hlt
              · exact e
            have huw := (HU1.out.trans' HU2.out).trans' hur
            obtain ⟨c0, c1, c2⟩ := trow hr huw hb hlt
            have hk3 : k ≤ 2 := by omega
            have hrc := HIH.out k hlt (by rw [hl]; exact hlt) wr (deep + 1 + 2 * k) huw (by omega)
            unfold tv at hrc
            have HRC := Lib.hid hrc
            have HUR := Lib.hid hur
            clear hrc huw hr hur
            generalize cs[k] = x at *
            go_wp2_with (fail)
            refine HRC.out.mono ?_
            rintro e w3 ⟨bb, rfl, hu3⟩
            have HU3 := Lib.hid (HUR.out.trans' hu3)
            clear hu3 HRC
            cases bb with
            | true =>
              go_wp2_with (fail)
              go_roundw
              case rel => exact ⟨k + 1, by go_num, by omega, HU3.out⟩
              case measure => simp [intOf]; omega
            | false =>
              go_wp2_with (fail)
              exact hR.out _ _ ⟨_, rfl, HU2.out.trans' HU3.out⟩
          · go_wp2_with (fail)
            exact hR.out _ _ ⟨_, rfl, HU2.out.trans' hur⟩

/-- declarations that are not too great -/
def Fit (qs : List Dq) : Prop := qs.length ≤ 21 ∧ ∀ q ∈ qs, q.fs.length ≤ 30 ∧ q.ms.length ≤ 30
theorem tv_rfl (f : Fd) : tv f.tc = .agg #[i64 f.kind, .string f.tn, .slice f.oa f.on f.oc] := rfl

set_option maxRecDepth 100000 in
set_option maxHeartbeats 4000000 in
theorem great_c {ao : Option Addr} {cap : Nat} {qs : List Dq} {w : World} (h : QArg w ao qs) (_hlen : qs.length ≤ maxLen) :
    Calls Try.prog 20 #[.slice ao qs.length cap] w fun e w' => ∃ b, e = .returned (.bool b) ∧ (b = false → Fit qs) ∧ Upd [] w w' := by
  unfold maxLen at _hlen
  have H := Lib.hid h
  clear h
  refine post fun R hR => ?_
  go_enter Try.func20, Try.ntmps20
  go_wp2_with (fail)
  go_loopw [3] (fun i wr => ∃ k : Nat, i = i64 k ∧ k ≤ qs.length ∧ k ≤ 21 ∧ (∀ j (hj : j < qs.length), j < k → qs[j].fs.length ≤ 30 ∧ qs[j].ms.length ≤ 30) ∧ Upd [] w wr) (fun i _ => qs.length - (intOf i).toNat)
  case atStart => exact ⟨0, rfl, Nat.zero_le _, by omega, fun j _ hj => by omega, Upd.refl _ _⟩
  case round =>
    obtain ⟨k, rfl, hk, hk21, hno, hu⟩ := hrel
    have HNO := Lib.hid hno
    clear hno
    by_cases hlt : k < qs.length
    · obtain ⟨b, off, rfl, hb, hr⟩ : ∃ b off, ao = some ⟨b, off, none⟩ ∧ b < w.heap.size ∧ DRows w b off (qs.map Dq.d) := by
        rcases H.out.rows with e | e
        · have : qs.length = 0 := by simpa using congrArg List.length e
          omega
        · exact e
      have hlt2 : k < (qs.map Dq.d).length := by simpa using hlt
      obtain ⟨c0, c1, c2, c3, c4⟩ := drow hr hu hb (by simp) hlt2
      have hq : (qs.map Dq.d)[k] = qs[k].d := by simp
      rw [hq] at c2 c3
      have hR2 := H.out.deep qs[k] (List.getElem_mem hlt)
      have HQ := Lib.hid hR2
      obtain ⟨hf1, hf2, hf3⟩ := hR2.fields
      obtain ⟨hm1, hm2, hm3⟩ := hR2.methods
      rw [List.length_map] at hf1
      rw [← hf1] at c2
      rw [← hm1] at c3
      have hlf : ∃ L, L = qs[k].fs.length := ⟨_, rfl⟩
      have hlm : ∃ L, L = qs[k].ms.length := ⟨_, rfl⟩
      obtain ⟨F, hF⟩ := hlf
      obtain ⟨M, hM⟩ := hlm
      rw [← hF] at c2
      rw [← hM] at c3
      have HF3 := Lib.hid hf3
      have HFE := Lib.hid hF
      have HME := Lib.hid hM
      have hFx : F ≤ 9223372036854775807 := by rw [hF, hf1]; unfold maxLen at hf2; omega
      have hMx : M ≤ 9223372036854775807 := by rw [hM, hm1]; unfold maxLen at hm2; omega
      have HU := Lib.hid hu
      clear hR2 hf1 hf2 hf3 hm1 hm2 hm3 hF hM c0 c1 c4 hr hq hlt2 hu
      generalize hfa : qs[k].d.fa = fa at *
      generalize qs[k].d.fc = fc at *
      generalize qs[k].d.ma = ma at *
      generalize qs[k].d.mc = mc at *
      have HFA := Lib.hid hfa
      clear hfa
      by_cases hk20 : 20 < k
      · have hk20' : (20 : Int) < k := by omega
        go_wp2_with (fail)
        exact hR.out _ _ ⟨_, rfl, (fun e => by cases e), HU.out⟩
      · have hk20' : decide ((20 : Int) < k) = false := by rw [decide_eq_false_iff_not]; omega
        by_cases hF30 : 30 < F
        · have hF' : (30 : Int) < F := by omega
          go_wp2_with (fail)
          exact hR.out _ _ ⟨_, rfl, (fun e => by cases e), HU.out⟩
        · have hF' : decide ((30 : Int) < F) = false := by rw [decide_eq_false_iff_not]; omega
          by_cases hM30 : 30 < M
          · have hM' : (30 : Int) < M := by omega
            go_wp2_with (fail)
            exact hR.out _ _ ⟨_, rfl, (fun e => by cases e), HU.out⟩
          · have hM' : decide ((30 : Int) < M) = false := by rw [decide_eq_false_iff_not]; omega
            have hkeep : ∀ w', Upd [] wr w' → w'.cell? ⟨b, off + k * 5 + 2, none⟩ = some (.slice fa F fc) := fun w' hw => by
              have hbw : b < wr.heap.size := Nat.lt_of_lt_of_le hb HU.out.size
              exact (hw.below.cell (p := ⟨b, off + k * 5 + 2, none⟩) hbw).trans c2
            have HKEEP := Lib.hid hkeep
            clear hkeep
            go_wp2_with (fail)
            clear c2 c3
            go_loopw [4] (fun i wq => ∃ m : Nat, i = i64 m ∧ m ≤ F ∧ Upd [] wr wq) (fun i _ => F - (intOf i).toNat)
            case atStart => exact ⟨0, rfl, Nat.zero_le _, Upd.refl _ _⟩
            case round =>
              obtain ⟨m, rfl, hm, huq⟩ := hrel
              have c2 := HKEEP.out _ huq
              by_cases hmF : m < F
              · have hmf : m < qs[k].fs.length := by have := HFE.out; omega
                obtain ⟨b2, off2, rfl, hb2, hr2⟩ : ∃ b2 off2, fa = some ⟨b2, off2, none⟩ ∧ b2 < w.heap.size ∧ RowsN w b2 off2 5 Fd.cells (qs[k].fs.map (·.1)) := by
                  rcases HF3.out with e | e
                  · have : qs[k].fs.length = 0 := by simpa using congrArg List.length e
                    omega
                  · exact e
                have hmm : m < (qs[k].fs.map (·.1)).length := by simpa using hmf
                obtain ⟨d0, d1, d2, d3, d4⟩ := frow hr2 (HU.out.trans' huq) hb2 hmm
                have hfe : (qs[k].fs.map (·.1))[m] = qs[k].fs[m].1 := by simp
                rw [hfe] at d2 d3 d4
                have hsm := small_c (HQ.out.types qs[k].fs[m] (List.getElem_mem hmf)).2 wr 0 (HU.out.trans' huq) (by omega)
                rw [tv_rfl] at hsm
                have HSM := Lib.hid hsm
                have HUQ := Lib.hid huq
                clear hr2 hsm d0 d1 hfe hmm huq
                generalize qs[k].fs[m].1 = f at *
                go_wp2_with (fail)
                refine HSM.out.mono ?_
                rintro e w3 ⟨bb, rfl, hu3⟩
                have HU3 := Lib.hid (HUQ.out.trans' hu3)
                clear hu3 HSM
                cases bb with
                | true =>
                  go_wp2_with (fail)
                  go_roundw
                  case rel => exact ⟨m + 1, by go_num, by omega, HU3.out⟩
                  case measure => simp [intOf]; omega
                | false =>
                  go_wp2_with (fail)
                  exact hR.out _ _ ⟨_, rfl, (fun e => by cases e), HU.out.trans' HU3.out⟩
              · go_wp2_with (fail)
                go_roundw
                case rel =>
                  refine ⟨k + 1, by go_num, by omega, by omega, fun j hj hjk => ?_, HU.out.trans' huq⟩
                  by_cases e : j = k
                  · subst e; rw [← HFE.out, ← HME.out]; omega
                  · exact HNO.out j hj (by omega)
                case measure => simp [intOf]; omega
    · go_wp2_with (fail)
      refine hR.out _ _ ⟨_, rfl, fun _ => ⟨by omega, fun q hq => ?_⟩, hu⟩
      obtain ⟨i, hi, rfl⟩ := List.getElem_of_mem hq
      exact HNO.out i hi (by omega)
end Go.Proofs.Ytagnclphmhjoiaa
