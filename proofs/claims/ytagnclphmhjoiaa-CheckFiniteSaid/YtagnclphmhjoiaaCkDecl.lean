/-
  The contracts of field and method (chapter 12), and what is wrong with a declaration, in plain words. Condition: lengths within the machine's bounds.
-/
import Derived.Test.YtagnclphmhjoiaaCkRow
namespace Go.Proofs.Ytagnclphmhjoiaa
open Go Go.RowKit

/-- the first of some numbers that is not 0 -/
def firstE (err : Nat → Int) : Nat → Int
  | 0 => 0
  | n + 1 => if firstE err n ≠ 0 then firstE err n else err n
theorem firstE_all {err : Nat → Int} : ∀ {n : Nat}, (∀ j, j < n → err j = 0) → firstE err n = 0
  | 0, _ => rfl
  | n + 1, h => by
    rw [firstE, firstE_all (fun j hj => h j (by omega)), if_neg (by simp)]
    exact h n (by omega)
theorem firstE_hit {err : Nat → Int} : ∀ {n k : Nat}, k < n → (∀ j, j < k → err j = 0) → err k ≠ 0 → firstE err n = err k
  | 0, k, h, _, _ => by omega
  | n + 1, k, h, h1, h2 => by
    rw [firstE]
    by_cases e : k = n
    · subst e
      rw [firstE_all h1, if_neg (by simp)]
    · rw [firstE_hit (by omega) h1 h2, if_pos h2]
theorem firstE_zero {err : Nat → Int} : ∀ {n : Nat}, firstE err n = 0 → ∀ j, j < n → err j = 0
  | 0, _, j, hj => by omega
  | n + 1, h, j, hj => by
    rw [firstE] at h
    by_cases e : firstE err n = 0
    · rw [if_neg (by simpa using e)] at h
      by_cases ej : j = n
      · subst ej; exact h
      · exact firstE_zero e j (by omega)
    · rw [if_pos e] at h
      exact (e h).elim
theorem firstE_some {err : Nat → Int} : ∀ {n : Nat}, firstE err n ≠ 0 → ∃ j, j < n ∧ firstE err n = err j
  | 0, h => (h rfl).elim
  | n + 1, h => by
    rw [firstE] at h ⊢
    by_cases e : firstE err n = 0
    · rw [if_neg (by simpa using e)]
      exact ⟨n, by omega, rfl⟩
    · rw [if_pos e]
      obtain ⟨j, hj, he⟩ := firstE_some e
      exact ⟨j, by omega, he⟩

def fieldE (ds : List Dc) (kind : Int) (f : Fd × Ty) : Int := if kind = 3 then 0 else if typE ds f.2 false ≠ 0 then typE ds f.2 false else if kind = 2 ∧ f.1.kind = 9 then 8 else 0
def nameE (ds : List Dc) (s : ByteArray) : Int := if fnd ds s < ds.length then (if kindOf ds s = 1 then 0 else 8) else 6
def methodE (ds : List Dc) (m : Mt) : Int := if nameE ds m.inn ≠ 0 then nameE ds m.inn else nameE ds m.out
abbrev dv (d : Dc) : Value := .agg #[i64 d.kind, .string d.name, .slice d.fa d.fn d.fc, .slice d.ma d.mn d.mc, i64 d.at_]
abbrev fdv (f : Fd) : Value := .agg #[i64 f.tag, .string f.name, i64 f.kind, .string f.tn, .slice f.oa f.on f.oc]
abbrev mtv (m : Mt) : Value := .agg #[i64 m.tag, .string m.name, .string m.inn, .string m.out, .bool m.ow]

section
variable {w : World} {C : Nat} {ao : Option Addr} {cap T M : Nat} {v : Value} {n : Nat} {D : DataW Unit} {qs : List Dq}

set_option maxRecDepth 100000 in
set_option maxHeartbeats 2000000 in
theorem ckfield_c (hc : CkAt w C ao cap T M v n D qs) (d : Dc) {f : Fd} {t : Ty} (h : TyRep w f.tc t) :
    Calls Try.prog 32 #[.pointer (some ⟨C, 0, none⟩), dv d, fdv f] w fun e w' => e = .returned (i64 (fieldE (qs.map Dq.d) d.kind (f, t))) ∧ Upd [] w w' := by
  have hty := fun (w' : World) (hu : Upd [] w w') => typ_c hc h w' false hu
  rw [tv_rfl] at hty
  have hA1 := heap_alloc_old (heap_alloc_new w (.cells #[i64 d.kind, .string d.name, .slice d.fa d.fn d.fc, .slice d.ma d.mn d.mc, i64 d.at_] 34)) (.cells #[i64 f.tag, .string f.name, i64 f.kind, .string f.tn, .slice f.oa f.on f.oc] 60)
  have hA2 := heap_new2 w (.cells #[i64 d.kind, .string d.name, .slice d.fa d.fn d.fc, .slice d.ma d.mn d.mc, i64 d.at_] 34) (.cells #[i64 f.tag, .string f.name, i64 f.kind, .string f.tn, .slice f.oa f.on f.oc] 60)
  have hu := ((Upd.refl [] w).alloc (.cells #[i64 d.kind, .string d.name, .slice d.fa d.fn d.fc, .slice d.ma d.mn d.mc, i64 d.at_] 34)).alloc (.cells #[i64 f.tag, .string f.name, i64 f.kind, .string f.tn, .slice f.oa f.on f.oc] 60)
  have HTY := Lib.hid hty
  have HA := Lib.hid (And.intro hA1 hA2)
  have HU := Lib.hid hu
  obtain ⟨E, hE⟩ : ∃ E, E = typE (qs.map Dq.d) t false := ⟨_, rfl⟩
  rw [← hE] at HTY
  have hfe : fieldE (qs.map Dq.d) d.kind (f, t) = if d.kind = 3 then 0 else if E ≠ 0 then E else if d.kind = 2 ∧ f.kind = 9 then 8 else 0 := by unfold fieldE; rw [hE]
  rw [hfe]
  clear hty hA1 hA2 hu hc h hE hfe
  refine post fun R hR => ?_
  go_enter Try.func32, Try.ntmps32
  go_upto_region 1 with (fail)
  have hA := HA.out
  have hu := HU.out
  clear HA HU
  generalize (w.alloc (.cells #[i64 d.kind, .string d.name, .slice d.fa d.fn d.fc, .slice d.ma d.mn d.mc, i64 d.at_] 34)).alloc (.cells #[i64 f.tag, .string f.name, i64 f.kind, .string f.tn, .slice f.oa f.on f.oc] 60) = w1 at *
  generalize w.heap.size = A at *
  obtain ⟨a0, -⟩ := cells5 hA.1
  obtain ⟨-, -, b2, b3, b4, -⟩ := cells5 hA.2
  have HA := Lib.hid hA
  have HU := Lib.hid hu
  clear hA hu
  by_cases h3 : d.kind = 3
  · rw [if_pos h3] at hR
    have hq : (d.kind == 3) = true := by simpa using h3
    go_wp2_with (fail)
    exact hR.out _ _ ⟨rfl, HU.out⟩
  · rw [if_neg h3] at hR
    have hq : (d.kind == 3) = false := by simpa using h3
    go_wp2_with (fail)
    refine (HTY.out _ HU.out).mono ?_
    rintro e w2 ⟨rfl, hu2⟩
    have HU2 := Lib.hid (HU.out.trans' hu2)
    obtain ⟨c0, -⟩ := cells5 (hu2.keep0 HA.out.1)
    obtain ⟨-, -, d2, -⟩ := cells5 (hu2.keep0 HA.out.2)
    clear a0 b2 b3 b4 hu2
    by_cases hE : E = 0
    · have hqE : (E != 0) = false := by simpa using hE
      rw [if_neg (by simpa using hE)] at hR
      by_cases h2 : d.kind = 2
      · have hq2 : (d.kind == 2) = true := by simpa using h2
        by_cases h9 : f.kind = 9
        · have hq9 : (f.kind == 9) = true := by simpa using h9
          rw [if_pos ⟨h2, h9⟩] at hR
          clear hE
          go_wp2_with (fail)
          exact hR.out _ _ ⟨rfl, HU2.out⟩
        · have hq9 : (f.kind == 9) = false := by simpa using h9
          rw [if_neg (fun q => h9 q.2)] at hR
          clear hE
          go_wp2_with (fail)
          exact hR.out _ _ ⟨rfl, HU2.out⟩
      · have hq2 : (d.kind == 2) = false := by simpa using h2
        rw [if_neg (fun q => h2 q.1)] at hR
        clear hE
        go_wp2_with (fail)
        exact hR.out _ _ ⟨rfl, HU2.out⟩
    · have hqE : (E != 0) = true := by simpa using hE
      rw [if_pos hE] at hR
      clear hE
      go_wp2_with (fail)
      exact hR.out _ _ ⟨by try rfl, HU2.out⟩

set_option maxRecDepth 100000 in
set_option maxHeartbeats 2000000 in
theorem ckmethod_c (hc : CkAt w C ao cap T M v n D qs) (m : Mt) (hi : m.inn.size ≤ maxLen) (ho : m.out.size ≤ maxLen) :
    Calls Try.prog 33 #[.pointer (some ⟨C, 0, none⟩), mtv m] w fun e w' => e = .returned (i64 (methodE (qs.map Dq.d) m)) ∧ Upd [] w w' := by
  obtain ⟨ds, hds⟩ : ∃ ds, ds = qs.map Dq.d := ⟨_, rfl⟩
  have hlq := hc.len
  have hkc : ∀ s : ByteArray, s.size ≤ maxLen → ∀ w', Upd [] w w' → Calls Try.prog 11 #[.pointer (some ⟨T, 0, none⟩), .string s] w' fun e w'' => e = .returned (i64 (kindOf ds s)) ∧ w' = w'' := fun s hs w' hu => by rw [hds]; exact kind_c (hc.tab.upd hu) s hs (by simp; omega)
  have hfc : ∀ s : ByteArray, s.size ≤ maxLen → ∀ w', Upd [] w w' → Calls Try.prog 9 #[.pointer (some ⟨T, 0, none⟩), .string s] w' fun e w'' => e = .returned (.tuple #[i64 (fndI ds s), .bool (fndB ds s)]) ∧ w' = w'' := fun s hs w' hu => by rw [hds]; exact find_c (hc.tab.upd hu) s hs
  have hck := fun (w' : World) (hu : Upd [] w w') => cells2 (hu.keep0 hc.hC)
  have HCK := Lib.hid hck
  have HK := Lib.hid hkc
  have HF := Lib.hid hfc
  have HI := Lib.hid hi
  have HO := Lib.hid ho
  have hme : methodE (qs.map Dq.d) m = (if nameE ds m.inn ≠ 0 then nameE ds m.inn else nameE ds m.out) := by rw [hds]; rfl
  rw [hme]
  have hA := heap_alloc_new w (.cells #[i64 m.tag, .string m.name, .string m.inn, .string m.out, .bool m.ow] 42)
  have hu := (Upd.refl [] w).alloc (.cells #[i64 m.tag, .string m.name, .string m.inn, .string m.out, .bool m.ow] 42)
  have HA := Lib.hid hA
  have HU := Lib.hid hu
  clear hck hkc hfc hi ho hA hu hme hc hds
  refine post fun R hR => ?_
  go_enter Try.func33, Try.ntmps33
  go_upto_region 1 with (fail)
  have hA := HA.out
  have hu := HU.out
  clear HA HU
  generalize w.alloc (.cells #[i64 m.tag, .string m.name, .string m.inn, .string m.out, .bool m.ow] 42) = w1 at *
  generalize w.heap.size = A at *
  obtain ⟨-, -, a2, a3, -⟩ := cells5 hA
  have HU := Lib.hid hu
  clear hA hu
  go_upto_region 2 with (fail)
  have hX := heap_alloc_new w1 (.cells #[.string m.inn, .string m.out] 9)
  have hux := HU.out.alloc (.cells #[.string m.inn, .string m.out] 9)
  clear a2 a3 HU
  generalize w1.alloc (.cells #[.string m.inn, .string m.out] 9) = w2 at *
  generalize w1.heap.size = X at *
  have HX := Lib.hid hX
  have HU := Lib.hid hux
  clear hX hux
  go_loopw [15] (fun i wr => ∃ k : Nat, i = i64 k ∧ k ≤ 2 ∧ (1 ≤ k → nameE ds m.inn = 0) ∧ (2 ≤ k → nameE ds m.out = 0) ∧ Upd [] w2 wr) (fun i _ => 2 - (intOf i).toNat)
  case atStart => exact ⟨0, rfl, by omega, fun h => by omega, fun h => by omega, Upd.refl _ _⟩
  case round =>
    obtain ⟨k, rfl, hk, hk1, hk2, hu⟩ := hrel
    have HK1 := Lib.hid hk1
    have HK2 := Lib.hid hk2
    clear hk1 hk2
    have hk3 : k = 0 ∨ k = 1 ∨ k = 2 := by omega
    obtain ⟨x0, x1, -⟩ := cells2 (hu.keep0 HX.out)
    obtain ⟨z0, z1, -⟩ := HCK.out _ (HU.out.trans' hu)
    have HUW := Lib.hid (HU.out.trans' hu)
    rcases hk3 with rfl | rfl | rfl
    · have hfx := HF.out m.inn HI.out _ HUW.out
      have hkx := HK.out m.inn HI.out _ HUW.out
      by_cases hfd : fnd ds m.inn < ds.length
      · have hfb : fndB ds m.inn = true := by unfold fndB; simpa using hfd
        rw [hfb] at hfx
        have HFX := Lib.hid hfx
        have HKX := Lib.hid hkx
        by_cases hk1 : kindOf ds m.inn = 1
        · have hq : (kindOf ds m.inn != 1) = false := by simpa using hk1
          have HNE := Lib.hid (show nameE ds m.inn = 0 from by unfold nameE; rw [if_pos hfd, if_pos hk1])
          clear hfx hkx hfd hfb hk1
          generalize kindOf ds m.inn = kk at *
          generalize fndI ds m.inn = fi at *
          go_wp2_with (fail)
          refine HFX.out.mono ?_
          rintro e w3 ⟨rfl, rfl⟩
          go_wp2_with (fail)
          refine HKX.out.mono ?_
          rintro e w3 ⟨rfl, rfl⟩
          go_wp2_with (fail)
          go_roundw
          case rel => exact ⟨1, by go_num, by omega, fun _ => HNE.out, fun h => by omega, hu⟩
          case measure => simp [intOf]
        · have hq : (kindOf ds m.inn != 1) = true := by simpa using hk1
          have HNE := Lib.hid (show nameE ds m.inn = 8 from by unfold nameE; rw [if_pos hfd, if_neg hk1])
          clear hfx hkx hfd hfb hk1
          generalize kindOf ds m.inn = kk at *
          generalize fndI ds m.inn = fi at *
          go_wp2_with (fail)
          refine HFX.out.mono ?_
          rintro e w3 ⟨rfl, rfl⟩
          go_wp2_with (fail)
          refine HKX.out.mono ?_
          rintro e w3 ⟨rfl, rfl⟩
          go_wp2_with (fail)
          exact hR.out _ _ ⟨by rw [HNE.out]; rfl, HUW.out⟩
      · have hfb : fndB ds m.inn = false := by unfold fndB; simpa using hfd
        rw [hfb] at hfx
        have HFX := Lib.hid hfx
        have HNE := Lib.hid (show nameE ds m.inn = 6 from by unfold nameE; rw [if_neg hfd])
        clear hfx hkx hfd hfb
        generalize fndI ds m.inn = fi at *
        go_wp2_with (fail)
        refine HFX.out.mono ?_
        rintro e w3 ⟨rfl, rfl⟩
        go_wp2_with (fail)
        exact hR.out _ _ ⟨by rw [HNE.out]; rfl, HUW.out⟩
    · have hfx := HF.out m.out HO.out _ HUW.out
      have hkx := HK.out m.out HO.out _ HUW.out
      by_cases hfd : fnd ds m.out < ds.length
      · have hfb : fndB ds m.out = true := by unfold fndB; simpa using hfd
        rw [hfb] at hfx
        have HFX := Lib.hid hfx
        have HKX := Lib.hid hkx
        by_cases hk1 : kindOf ds m.out = 1
        · have hq : (kindOf ds m.out != 1) = false := by simpa using hk1
          have HNE := Lib.hid (show nameE ds m.out = 0 from by unfold nameE; rw [if_pos hfd, if_pos hk1])
          clear hfx hkx hfd hfb hk1
          generalize kindOf ds m.out = kk at *
          generalize fndI ds m.out = fi at *
          go_wp2_with (fail)
          refine HFX.out.mono ?_
          rintro e w3 ⟨rfl, rfl⟩
          go_wp2_with (fail)
          refine HKX.out.mono ?_
          rintro e w3 ⟨rfl, rfl⟩
          go_wp2_with (fail)
          go_roundw
          case rel => exact ⟨2, by go_num, by omega, fun _ => HK1.out (by omega), fun _ => HNE.out, hu⟩
          case measure => simp [intOf]
        · have hq : (kindOf ds m.out != 1) = true := by simpa using hk1
          have HNE := Lib.hid (show nameE ds m.out = 8 from by unfold nameE; rw [if_pos hfd, if_neg hk1])
          clear hfx hkx hfd hfb hk1
          generalize kindOf ds m.out = kk at *
          generalize fndI ds m.out = fi at *
          go_wp2_with (fail)
          refine HFX.out.mono ?_
          rintro e w3 ⟨rfl, rfl⟩
          go_wp2_with (fail)
          refine HKX.out.mono ?_
          rintro e w3 ⟨rfl, rfl⟩
          go_wp2_with (fail)
          exact hR.out _ _ ⟨by rw [HK1.out (by omega), HNE.out]; rfl, HUW.out⟩
      · have hfb : fndB ds m.out = false := by unfold fndB; simpa using hfd
        rw [hfb] at hfx
        have HFX := Lib.hid hfx
        have HNE := Lib.hid (show nameE ds m.out = 6 from by unfold nameE; rw [if_neg hfd])
        clear hfx hkx hfd hfb
        generalize fndI ds m.out = fi at *
        go_wp2_with (fail)
        refine HFX.out.mono ?_
        rintro e w3 ⟨rfl, rfl⟩
        go_wp2_with (fail)
        exact hR.out _ _ ⟨by rw [HK1.out (by omega), HNE.out]; rfl, HUW.out⟩
    · go_wp2_with (fail)
      exact hR.out _ _ ⟨by rw [HK1.out (by omega), HK2.out (by omega)]; rfl, HUW.out⟩
end
end Go.Proofs.Ytagnclphmhjoiaa
