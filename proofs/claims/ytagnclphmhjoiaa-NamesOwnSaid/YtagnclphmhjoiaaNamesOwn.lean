/-
  NamesOwn: if no name stands twice, each leads to its own place, and else there is one that does not. For every list of declarations. Condition: the form's own reach.
-/
import Derived.Test.YtagnclphmhjoiaaNamLaw
import Derived.Test.YtagnclphmhjoiaaTwice
namespace Go.Proofs.Ytagnclphmhjoiaa
open Go Go.RowKit Go.ChangeShapes Go.WideShapes Go.ChangeAt

/-- does each of the first k names lead to its own place? -/
def ownB (l : List Dc) (k : Nat) : Bool := decide (∀ j, j < k → fnd l (nameAt l j) = j)
theorem ownB_zero (l : List Dc) : ownB l 0 = true := by unfold ownB; simp
theorem ownB_yes {l : List Dc} {k : Nat} (h : ownB l k = true) (h2 : fnd l (nameAt l k) = k) : ownB l (k + 1) = true := by
  unfold ownB at *
  simp only [decide_eq_true_eq] at *
  intro j hj
  by_cases e : j = k
  · subst e; exact h2
  · exact h j (by omega)
theorem ownB_no {l : List Dc} {k : Nat} (h2 : fnd l (nameAt l k) ≠ k) : ownB l (k + 1) = false := by
  unfold ownB
  simp only [decide_eq_false_iff_not]
  intro h; exact h2 (h k (by omega))
theorem ownB_stays {l : List Dc} {k : Nat} (h : ownB l k = false) : ownB l (k + 1) = false := by
  unfold ownB at *
  simp only [decide_eq_false_iff_not] at *
  intro h2; exact h fun j hj => h2 j (by omega)
theorem own_twice (l : List Dc) : decide (twice l < 0) = ownB l l.length := by
  by_cases h : ownB l l.length = true
  · have h' := h
    unfold ownB at h'
    simp only [decide_eq_true_eq] at h'
    rw [twice_miss h', h]; rfl
  · have h' : ownB l l.length = false := by simpa using h
    rw [h']
    have h2 : ¬ twice l = -1 := by
      intro e
      apply h
      unfold ownB
      simp only [decide_eq_true_eq]
      unfold twice at e
      split at e
      · omega
      · rename_i hn
        intro j hj
        rcases Nat.lt_or_ge j (twiceN l) with g | g
        · have := List.not_of_lt_findIdx (p := fun i => decide (fnd l (nameAt l i) ≠ i)) (xs := List.range l.length) g
          simpa using this
        · omega
    simp only [decide_eq_false_iff_not]
    unfold twice at *
    split at h2
    · rename_i hx; rw [if_pos hx]; omega
    · exact (h2 rfl).elim

set_option maxRecDepth 100000 in
set_option maxHeartbeats 2000000 in
theorem nown_c {ao : Option Addr} {cap : Nat} {l : List Dc} {w : World} (h : DArg w ao l) (hlen : l.length ≤ 2000000000000) (hgood : ∀ x ∈ l, x.name.size ≤ maxLen) :
    Trues 4 #[.slice ao l.length cap] w := by
  unfold Trues
  have hof := ofA_c (cap := cap) h hlen hgood
  have htw := fun (w' : World) (hu : Upd [] w w') => twice_c (cap := cap) (h.upd hu) hlen hgood
  have hot := own_twice l
  have HOT := Lib.hid hot
  have HTW := Lib.hid htw
  have HOF := Lib.hid hof
  have hz := ownB_zero l
  have HZ := Lib.hid hz
  clear hof htw hot hz
  rcases h with rfl | ⟨b, off, rfl, hb, hr⟩
  · clear hgood
    refine post fun R hR => ?_
    go_enter Try.func4, Try.ntmps4
    go_wp2_with fail
    refine Calls.mono HOF.out ?_
    rintro e w2 ⟨T, M, v, n, D, rfl, hT, hu⟩
    go_wp2_with fail
    refine wp_loop_once ?_
    go_wp2_with fail
    refine Calls.mono (HTW.out _ hu) ?_
    rintro e w3 ⟨rfl, hu3⟩
    rw [show twice [] = -1 from rfl]
    go_wp2_with fail
    refine Calls.mono (n11awake_c _) ?_
    rintro e w4 ⟨rfl, hu4⟩
    go_wp2_with fail
    exact hR.out _ _ ⟨rfl, (hu.trans' hu3).trans' hu4⟩
  · have HRows := Lib.hid hr
    have HGood := Lib.hid hgood
    clear hr hgood
    refine post fun R hR => ?_
    go_enter Try.func4, Try.ntmps4
    go_wp2_with fail
    refine Calls.mono HOF.out ?_
    rintro e w2 ⟨T, M, v, n, D, rfl, hT, hu⟩
    go_wp2_with fail
    go_loopw [4, 5] (fun o i wr => ∃ k : Nat, i = i64 k ∧ k ≤ l.length ∧ o = .bool (ownB l k) ∧ Upd [] w2 wr) (fun _ i _ => l.length - (intOf i).toNat)
    case atStart => exact ⟨0, rfl, Nat.zero_le _, by rw [HZ.out], Upd.refl _ _⟩
    case round =>
      obtain ⟨k, rfl, hk, rfl, hur⟩ := hrel
      by_cases hlt : k < l.length
      · obtain ⟨c0, c1, c2, c3, c4⟩ := drow HRows.out (hu.trans' hur) hb (by simp) hlt
        have hnm := HGood.out l[k] (List.getElem_mem hlt)
        have hna := nameAt_eq hlt
        have hfo := fnd_own hlt
        rw [← hna] at c1 hnm
        have hfi : fndI l (nameAt l k) = (fnd l (nameAt l k) : Int) := by unfold fndI; rw [if_pos (by omega)]
        have hfb : fndB l (nameAt l k) = true := by unfold fndB; simp; omega
        have hfind := find_c (hT.upd hur) (nameAt l k) hnm
        rw [hfi, hfb] at hfind
        have HFIND := Lib.hid hfind
        clear hna hnm hfi hfb hfind c0 c2 c3 c4
        have hy := fun h => ownB_yes (l := l) (k := k) h
        have hn := fun h => ownB_no (l := l) (k := k) h
        have HY := Lib.hid hy
        have HN := Lib.hid hn
        clear hy hn
        generalize nameAt l k = nk at *
        generalize fnd l nk = F at *
        by_cases ho : ownB l k = true
        · rw [ho]
          by_cases hown : F = k
          · have hq := HY.out ho hown
            have HQ := Lib.hid hq
            subst hown
            clear hq ho HY HN
            go_wp2_with fail
            refine Calls.mono HFIND.out ?_
            rintro e w3 ⟨rfl, rfl⟩
            go_wp2_with fail
            go_roundw
            case rel => exact ⟨F + 1, by go_num, by omega, by rw [HQ.out], hur⟩
            case measure => simp [intOf]; omega
          · have hq := HN.out hown
            have HQ := Lib.hid hq
            have hne : ((F : Int) == (k : Int)) = false := by simpa using fun e => hown (by omega)
            clear hq ho HY HN
            go_wp2_with fail
            refine Calls.mono HFIND.out ?_
            rintro e w3 ⟨rfl, rfl⟩
            go_wp2_with fail
            go_roundw
            case rel => exact ⟨k + 1, by go_num, by omega, by rw [HQ.out], hur⟩
            case measure => simp [intOf]; omega
        · have ho' : ownB l k = false := by simpa using ho
          have hq := ownB_stays ho'
          have HQ := Lib.hid hq
          rw [ho']
          clear hq ho ho' HY HN
          go_wp2_with fail
          refine Calls.mono HFIND.out ?_
          rintro e w3 ⟨rfl, rfl⟩
          go_wp2_with fail
          go_roundw
          case rel => exact ⟨k + 1, by go_num, by omega, by rw [HQ.out], hur⟩
          case measure => simp [intOf]; omega
      · have hkl : k = l.length := by omega
        rw [hkl]
        have HOT' := HOT.out
        generalize ownB l l.length = O at *
        go_wp2_with fail
        refine Calls.mono (HTW.out _ (hu.trans' hur)) ?_
        rintro e w3 ⟨rfl, hu3⟩
        generalize twice l = X at *
        rw [← HOT']
        go_wp2_with fail
        all_goals
          refine Calls.mono (n11awake_c _) ?_
          rintro e w4 ⟨rfl, hu4⟩
          go_wp2_with fail
          exact hR.out _ _ ⟨rfl, ((hu.trans' hur).trans' hu3).trans' hu4⟩

theorem bytes_decl : Try.prog.bytesOf 34 = 80 := by kernel_rfl
set_option maxRecDepth 100000 in
theorem namesOwn_walk {H : Type} {enc : TypeId × Value → H} {W : World} {base : Nat} {args : Array Value} {ds gs : List (DataW H)} {before : List MemPlace}
    (hval : ∀ (j : Nat) t v, Try.f4.params[j]? = some t → args[j]? = some v → Value.okWide Try.prog W .any base t v)
    (hW : DataW.Whole enc Try.prog Try.f4.params.toList [] false W args.toList ds gs before)
    (hsz : (DataW.weightsEach Try.prog (Try.f4.params.toList ++ []) (ds ++ gs)).all (· ≤ reachBytes) = true) : Trues 4 args W := by
  obtain ⟨p, q, hA, hV, rfl, -, -⟩ := hW
  obtain ⟨rfl, rfl⟩ := trodVars_none hV
  rw [Try.params4] at hA hval hsz
  obtain ⟨v0, d0, rfl, rfl, h0⟩ := trodAll_one hA
  obtain ⟨ao, cap, l, rfl, hlc, hcap, hg, hl⟩ := open_listN Dc.parse Try.underlying22 flat_decl cells_decl (by decide) (hval 0 22 v0 rfl rfl) h0
  have hlen : l.length ≤ 2000000000000 := by
    have := cap_reach hsz (j := 0) (t := 22) rfl rfl Try.underlying22 h0
    rw [bytes_decl] at this
    unfold reachBytes at this
    omega
  exact nown_c (darg_of hl) hlen hg

set_option maxRecDepth 100000 in
theorem namesOwn_lifted (os : Os) (started : os.Started) (H : Type) (enc : TypeId × Value → H) :
    ReturnsInHanded {} Try.checked os 4 .any (Rows.namesOwnSpec.pre6 enc Try.prog Try.f4 Rows.namesOwnRow.domain false) (Rows.namesOwnSpec.post enc Try.prog Try.f4 false true false false) := by
  refine returnsInHanded_of_change_sized (C := Try.checked) own started (by kernel_rfl) Try.func4
    (ChangeSpec.witness6 (enc := enc) (C := Try.checked) false ⟨#[], #[.slice none 0 0], []⟩ 8 (by kernel_rfl) (by kernel_rfl) (by kernel_rfl) (by kernel_rfl)) ?_
  intro W base args ds gs before hval hW hcnd hsz _
  refine Calls.mono (namesOwn_walk hval hW hsz) fun e W' ⟨he, hu⟩ => ?_
  exact ⟨_, he, law_post rfl rfl (by kernel_rfl) hW (fun ds h => by match ds, h with | [_], _ => rfl) hu⟩

set_option maxRecDepth 100000 in
theorem namesOwn_over : Rows.namesOwnRow.holds Try.pinned (OpenSpec.ofChange Rows.namesOwnSpec) :=
  OpenClaim.holds_of_wide 4 Try.f4 rfl rfl rfl rfl rfl rfl rfl ⟨rfl, rfl, rfl, rfl, rfl⟩ rfl rfl rfl rfl rfl (by kernel_rfl) Try.func4 (by kernel_rfl)
    (of_decide_eq_true (by kernel_rfl)) (by unfold Func.isWrapper; first | (rw [if_pos (by decide +kernel)]; kernel_rfl) | (rw [if_neg (by decide +kernel)]; exact ⟨rfl, rfl⟩))
    (fun os started H enc _ => namesOwn_lifted os started H enc)

theorem namesOwn_proved : Rows.NamesOwnSaid := namesOwn_over
end Go.Proofs.Ytagnclphmhjoiaa
