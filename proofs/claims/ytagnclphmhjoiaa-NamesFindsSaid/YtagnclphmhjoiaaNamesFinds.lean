/-
  NamesFinds: which declaration any name is, and of which kind; of no table none. For every list of declarations and name. Condition: the form's own reach.
-/
import Derived.Test.YtagnclphmhjoiaaNamLaw
namespace Go.Proofs.Ytagnclphmhjoiaa
open Go Go.RowKit Go.ChangeShapes Go.WideShapes Go.ChangeAt
open Go.ChangeMaps (open_string shut_string)

set_option maxHeartbeats 1000000 in
theorem nfinds_c {ao : Option Addr} {cap : Nat} {l : List Dc} {w : World} (h : DArg w ao l) (s : ByteArray) (hs : s.size ≤ maxLen) (hlen : l.length ≤ 2000000000000) (hgood : ∀ x ∈ l, x.name.size ≤ maxLen) :
    Trues 3 #[.slice ao l.length cap, .string s] w := by
  unfold Trues
  have hk := fun (w' : World) (hu : Upd [] w w') => rkind_c (cap := cap) (h.upd hu) s hlen
  have hf := fun (w' : World) (hu : Upd [] w w') => rfindA_c (cap := cap) (h.upd hu) s hlen
  have HF := Lib.hid hf
  have HK := Lib.hid hk
  have HG := Lib.hid hgood
  clear hk hf hgood
  by_cases hlt : fnd l s < l.length
  · have e1 : fndI l s = (fnd l s : Int) := by unfold fndI; rw [if_pos hlt]
    have e2 : fndB l s = true := by unfold fndB; simpa using hlt
    have e3 : fndR l s = (fnd l s : Int) := by unfold fndR; rw [if_pos hlt]
    have E1 := Lib.hid e1
    have E2 := Lib.hid e2
    have E3 := Lib.hid e3
    clear e1 e2 e3
    refine post fun R hR => ?_
    go_enter Try.func3, Try.ntmps3
    go_wp2_with fail
    refine Calls.mono (ofA_c h hlen HG.out) ?_
    rintro e w2 ⟨T, M, v, n, D, rfl, hT, hu⟩
    go_wp2_with fail
    refine Calls.mono (find_c hT s hs) ?_
    rintro e w3 ⟨rfl, rfl⟩
    rw [E1.out, E2.out]
    go_wp2_with fail
    refine Calls.mono (HF.out _ hu) ?_
    rintro e w3 ⟨rfl, rfl⟩
    rw [E3.out]
    generalize fnd l s = F at *
    go_wp2_with fail
    refine Calls.mono (findNil_c s _) ?_
    rintro e w3 ⟨rfl, rfl⟩
    go_wp2_with fail
    refine Calls.mono (kind_c hT s hs hlen) ?_
    rintro e w3 ⟨rfl, rfl⟩
    go_wp2_with fail
    refine Calls.mono (HK.out _ hu) ?_
    rintro e w3 ⟨rfl, rfl⟩
    generalize kindOf l s = K at *
    go_wp2_with fail
    refine Calls.mono (kindNil_c s _) ?_
    rintro e w3 ⟨rfl, rfl⟩
    go_wp2_with fail
    refine Calls.mono (n11awake_c _) ?_
    rintro e w3 ⟨rfl, hu3⟩
    go_wp2_with fail
    exact hR.out _ _ ⟨rfl, hu.trans' hu3⟩
  · have e1 : fndI l s = 0 := by unfold fndI; rw [if_neg hlt]
    have e2 : fndB l s = false := by unfold fndB; simpa using hlt
    have e3 : fndR l s = -1 := by unfold fndR; rw [if_neg hlt]
    have E1 := Lib.hid e1
    have E2 := Lib.hid e2
    have E3 := Lib.hid e3
    clear e1 e2 e3 hlt
    refine post fun R hR => ?_
    go_enter Try.func3, Try.ntmps3
    go_wp2_with fail
    refine Calls.mono (ofA_c h hlen HG.out) ?_
    rintro e w2 ⟨T, M, v, n, D, rfl, hT, hu⟩
    go_wp2_with fail
    refine Calls.mono (find_c hT s hs) ?_
    rintro e w3 ⟨rfl, rfl⟩
    rw [E1.out, E2.out]
    go_wp2_with fail
    refine Calls.mono (HF.out _ hu) ?_
    rintro e w3 ⟨rfl, rfl⟩
    rw [E3.out]
    go_wp2_with fail
    refine Calls.mono (findNil_c s _) ?_
    rintro e w3 ⟨rfl, rfl⟩
    go_wp2_with fail
    refine Calls.mono (kind_c hT s hs hlen) ?_
    rintro e w3 ⟨rfl, rfl⟩
    go_wp2_with fail
    refine Calls.mono (HK.out _ hu) ?_
    rintro e w3 ⟨rfl, rfl⟩
    generalize kindOf l s = K at *
    go_wp2_with fail
    refine Calls.mono (kindNil_c s _) ?_
    rintro e w3 ⟨rfl, rfl⟩
    go_wp2_with fail
    refine Calls.mono (n11awake_c _) ?_
    rintro e w3 ⟨rfl, hu3⟩
    go_wp2_with fail
    exact hR.out _ _ ⟨rfl, hu.trans' hu3⟩

theorem bytes_decl : Try.prog.bytesOf 34 = 80 := by kernel_rfl
set_option maxRecDepth 100000 in
theorem namesFinds_walk {H : Type} {enc : TypeId × Value → H} {W : World} {base : Nat} {args : Array Value} {ds gs : List (DataW H)} {before : List MemPlace}
    (hval : ∀ (j : Nat) t v, Try.f3.params[j]? = some t → args[j]? = some v → Value.okWide Try.prog W .any base t v)
    (hW : DataW.Whole enc Try.prog Try.f3.params.toList [] false W args.toList ds gs before)
    (hsz : (DataW.weightsEach Try.prog (Try.f3.params.toList ++ []) (ds ++ gs)).all (· ≤ reachBytes) = true) : Trues 3 args W := by
  obtain ⟨p, q, hA, hV, rfl, -, -⟩ := hW
  obtain ⟨rfl, rfl⟩ := trodVars_none hV
  rw [Try.params3] at hA hval hsz
  obtain ⟨v0, v1, d0, d1, p0, p1, rfl, rfl, rfl, h0, h1⟩ := trodAll_two hA
  obtain ⟨s, rfl, rfl, rfl, hs⟩ := open_string Try.underlying9 (hval 1 9 v1 rfl rfl) h1
  obtain ⟨ao, cap, l, rfl, hlc, hcap, hg, hl⟩ := open_listN Dc.parse Try.underlying22 flat_decl cells_decl (by decide) (hval 0 22 v0 rfl rfl) h0
  have hlen : l.length ≤ 2000000000000 := by
    have := cap_reach hsz (j := 0) (t := 22) rfl rfl Try.underlying22 h0
    rw [bytes_decl] at this
    unfold reachBytes at this
    omega
  exact nfinds_c (darg_of hl) s hs hlen hg

set_option maxRecDepth 100000 in
theorem namesFinds_lifted (os : Os) (started : os.Started) (H : Type) (enc : TypeId × Value → H) :
    ReturnsInHanded {} Try.checked os 3 .any (Rows.namesFindsSpec.pre6 enc Try.prog Try.f3 Rows.namesFindsRow.domain false) (Rows.namesFindsSpec.post enc Try.prog Try.f3 false true false false) := by
  refine returnsInHanded_of_change_sized (C := Try.checked) own started (by kernel_rfl) Try.func3
    (ChangeSpec.witness6 (enc := enc) (C := Try.checked) false ⟨#[], #[.slice none 0 0, .string .empty], []⟩ 8 (by kernel_rfl) (by kernel_rfl) (by kernel_rfl) (by kernel_rfl)) ?_
  intro W base args ds gs before hval hW hcnd hsz _
  refine Calls.mono (namesFinds_walk hval hW hsz) fun e W' ⟨he, hu⟩ => ?_
  exact ⟨_, he, law_post rfl rfl (by kernel_rfl) hW (fun ds h => by match ds, h with | [_, _], _ => rfl) hu⟩

set_option maxRecDepth 100000 in
theorem namesFinds_over : Rows.namesFindsRow.holds Try.pinned (OpenSpec.ofChange Rows.namesFindsSpec) :=
  OpenClaim.holds_of_wide 3 Try.f3 rfl rfl rfl rfl rfl rfl rfl ⟨rfl, rfl, rfl, rfl, rfl⟩ rfl rfl rfl rfl rfl (by kernel_rfl) Try.func3 (by kernel_rfl)
    (of_decide_eq_true (by kernel_rfl)) (by unfold Func.isWrapper; first | (rw [if_pos (by decide +kernel)]; kernel_rfl) | (rw [if_neg (by decide +kernel)]; exact ⟨rfl, rfl⟩))
    (fun os started H enc _ => namesFinds_lifted os started H enc)

theorem namesFinds_proved : Rows.NamesFindsSaid := namesFinds_over
end Go.Proofs.Ytagnclphmhjoiaa
