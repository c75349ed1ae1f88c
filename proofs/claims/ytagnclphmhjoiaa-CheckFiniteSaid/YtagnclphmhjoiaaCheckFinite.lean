/-
  CheckFinite: which declarations are finite. For every list of declarations. Condition: the form's own reach.
-/
import Derived.Test.YtagnclphmhjoiaaCkRfin
namespace Go.Proofs.Ytagnclphmhjoiaa
open Go Go.RowKit Go.ChangeShapes Go.WideShapes Go.ChangeAt

set_option maxRecDepth 100000 in
set_option maxHeartbeats 4000000 in
theorem cfinite_c {ao : Option Addr} {cap : Nat} {qs : List Dq} {w : World} (h : QArg w ao qs) (hc : qs.length ≤ cap) (hcap : cap ≤ maxLen) : Trues 6 #[.slice ao qs.length cap] w := by
  unfold Trues
  have HG := Lib.hid (great_c (cap := cap) h (by omega))
  have HW := Lib.hid (fun w' => n12awake_c w')
  have HC1 := Lib.hid (fun (hfit : Fit qs) w' (hu : Upd [] w w') => ckFinite_c (cap := cap) (h.upd0 hu) (by have := hfit.1; omega))
  have HC2 := Lib.hid (fun (hfit : Fit qs) w' (hu : Upd [] w w') => rFinite_c (cap := cap) (h.upd0 hu) (by have := hfit.1; omega))
  have HFT := Lib.hid (fun (hf : Fit qs) => (show qs.length ≤ 100 from by have := hf.1; omega))
  have HFL := Lib.hid (finE_len qs)
  clear h hc
  refine post fun R hR => ?_
  go_enter Try.func6, Try.ntmps6
  go_upto_region 2 with (first | (go_at_call 20; refine HG.out.mono ?_; rintro e w2 ⟨bb, rfl, hno, hu2⟩; clear HG; cases bb))
  · have hfit := hno trivial
    have hn := HFT.out hfit
    have hc1 := HC1.out hfit w2 hu2
    have hc2 := HC2.out hfit
    clear hno HC1 HC2 HFT hfit
    generalize finE qs = fe at *
    generalize qs.length = n at *
    have HF1 := Lib.hid hc1
    have HF2 := Lib.hid hc2
    have HU2 := Lib.hid hu2
    clear hc1 hc2 hu2
    go_upto_region 6 with (first
      | (go_at_call 22; refine HF1.out.mono ?_; rintro e w3 ⟨K1, rfl, hK1, hu3⟩; clear HF1; have HU3 := Lib.hid (HU2.out.trans' hu3))
      | (go_at_call 23; refine (HF2.out _ HU3.out).mono ?_; rintro e w4 ⟨K2, rfl, hK2, hu4⟩; clear HF2))
    have HU4 := Lib.hid (HU3.out.trans' hu4)
    have HA := Lib.hid (hK1.upd0 hu4)
    have HB := Lib.hid hK2
    clear hK1 hK2 hu3 hu4 HU3 HU2
    go_wp2_with (fail)
    go_loopw [5] (fun i wr => ∃ k : Nat, i = i64 k ∧ k ≤ n ∧ Hid (Upd [] w4 wr)) (fun i _ => n - (intOf i).toNat)
    case atStart => exact ⟨0, rfl, Nat.zero_le _, Lib.hid (Upd.refl _ _)⟩
    case round =>
      obtain ⟨k, rfl, hk, HR⟩ := hrel
      by_cases hlt : k < n
      · have hkf : k < fe.length := by rw [HFL.out]; exact hlt
        have h1 := (HA.out.upd0 HR.out).get hkf
        have h2 := (HB.out.upd0 HR.out).get hkf
        generalize fe[k] = v at *
        have hvv : (v != v) = false := by cases v <;> rfl
        go_upto_region 9 with (fail)
        go_quiet (fail)
        go_wp2_with (fail)
        go_roundw
        case measure => simp [intOf]; omega
        case rel => exact ⟨k + 1, by go_num, by omega, Lib.hid (HR.out.drewN _)⟩
      · go_wp2_with (first | (go_at_call 21; refine (HW.out _).mono ?_; rintro e w9 ⟨rfl, hu9⟩))
        exact hR.out _ _ ⟨rfl, (HU4.out.trans' HR.out).trans' hu9⟩
  · clear HC1 HC2 HFT hno
    go_wp2_with (first | (go_at_call 21; refine (HW.out _).mono ?_; rintro e w9 ⟨rfl, hu9⟩))
    exact hR.out _ _ ⟨rfl, hu2.trans' hu9⟩

set_option maxRecDepth 100000 in
theorem checkFinite_walk {H : Type} {enc : TypeId × Value → H} {W : World} {base : Nat} {args : Array Value} {ds gs : List (DataW H)} {before : List MemPlace}
    (hval : ∀ (j : Nat) t v, Try.f6.params[j]? = some t → args[j]? = some v → Value.okWide Try.prog W .any base t v)
    (hW : DataW.Whole enc Try.prog Try.f6.params.toList [] false W args.toList ds gs before)
    (hsz : (DataW.weightsEach Try.prog (Try.f6.params.toList ++ []) (ds ++ gs)).all (· ≤ reachBytes) = true) : Trues 6 args W := by
  obtain ⟨p, q, hA, hV, rfl, -, -⟩ := hW
  obtain ⟨rfl, rfl⟩ := trodVars_none hV
  rw [Try.params6] at hA hval hsz
  obtain ⟨v0, d0, rfl, rfl, h0⟩ := trodAll_one hA
  obtain ⟨ao, cap, l, rfl, hlc, hcap, hg, hl⟩ := open_listN dq_parse Try.underlying22 flat_decl cells_decl (by decide) (hval 0 22 v0 rfl rfl) h0
  obtain ⟨qs, rfl, hq⟩ := qarg_of hg hl
  rw [List.length_map] at hlc ⊢
  exact cfinite_c hq hlc hcap

set_option maxRecDepth 100000 in
theorem checkFinite_lifted (os : Os) (started : os.Started) (H : Type) (enc : TypeId × Value → H) :
    ReturnsInHanded {} Try.checked os 6 .any (Rows.checkFiniteSpec.pre6 enc Try.prog Try.f6 Rows.checkFiniteRow.domain false) (Rows.checkFiniteSpec.post enc Try.prog Try.f6 false true false false) := by
  refine returnsInHanded_of_change_sized (C := Try.checked) own started (by kernel_rfl) Try.func6
    (ChangeSpec.witness6 (enc := enc) (C := Try.checked) false ⟨#[], #[.slice none 0 0], []⟩ 8 (by kernel_rfl) (by kernel_rfl) (by kernel_rfl) (by kernel_rfl)) ?_
  intro W base args ds gs before hval hW hcnd hsz _
  refine Calls.mono (checkFinite_walk hval hW hsz) fun e W' ⟨he, hu⟩ => ?_
  exact ⟨_, he, law_post rfl rfl (by kernel_rfl) hW (fun ds h => by match ds, h with | [_], _ => rfl) hu⟩

set_option maxRecDepth 100000 in
theorem checkFinite_over : Rows.checkFiniteRow.holds Try.pinned (OpenSpec.ofChange Rows.checkFiniteSpec) :=
  OpenClaim.holds_of_wide 6 Try.f6 rfl rfl rfl rfl rfl rfl rfl ⟨rfl, rfl, rfl, rfl, rfl⟩ rfl rfl rfl rfl rfl (by kernel_rfl) Try.func6 (by kernel_rfl)
    (of_decide_eq_true (by kernel_rfl)) (by unfold Func.isWrapper; first | (rw [if_pos (by decide +kernel)]; kernel_rfl) | (rw [if_neg (by decide +kernel)]; exact ⟨rfl, rfl⟩))
    (fun os started H enc _ => checkFinite_lifted os started H enc)

theorem checkFinite_proved : Rows.CheckFiniteSaid := checkFinite_over
end Go.Proofs.Ytagnclphmhjoiaa
