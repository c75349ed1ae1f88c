/-
  CheckLess: without its last declaration a schema that may be has no fault but a name that is missing, or a map's key that was an enum's. For every list of declarations. Condition: the form's own reach.
-/
import Derived.Test.YtagnclphmhjoiaaCkAwk
namespace Go.Proofs.Ytagnclphmhjoiaa
open Go Go.RowKit Go.ChangeShapes Go.WideShapes Go.ChangeAt

theorem at_sliceD (x : Value) (lo hi mx : Option Value) (w : World) : (Instr.sliceAt 22 x lo hi mx).run Try.prog w = (Instr.slice 22 x lo hi mx).run Try.prog w := by
  simp [Instr.sliceAt, run_underlying Try.underlying22]
theorem info_declD : (Try.prog.info? 34).map (fun i => (i.zero, i.size, i.bytes)) = some (some (.agg #[i64 0, .string ⟨#[]⟩, .slice none 0 0, .slice none 0 0, i64 0]), 5, 80) := by kernel_rfl
theorem run_init {ao : Option Addr} {n cap : Nat} (hn : n + 1 ≤ cap) (w : World) : (Instr.sliceAt 22 (.slice ao (n + 1) cap) none (some (i64 n)) none).run Try.prog w = .ok (.slice ao n cap) w := by
  have ht := Try.underlying22
  obtain ⟨i0, hi, -, -, -⟩ := info_parts info_declD
  have h1 : n ≤ cap := by omega
  rw [at_sliceD]
  simp [Instr.slice, run_underlying ht, Instr.sliceBounds, Instr.sliceBound, asIntOf, sizeOf, typeInfo, hi, go_sem, h1]
theorem QArg.init {w : World} {ao : Option Addr} {qs : List Dq} {z : Dq} (h : QArg w ao (qs ++ [z])) : QArg w ao qs := by
  refine ⟨?_, fun q hq => h.deep q (by simp [hq])⟩
  rcases h.rows with e | ⟨b, off, e, hb, hr⟩
  · simp at e
  · refine .inr ⟨b, off, e, hb, fun i s hs => hr i s ?_⟩
    have hi : i < (qs.map Dq.d).length := by
      rcases Nat.lt_or_ge i (qs.map Dq.d).length with g | g
      · exact g
      · rw [List.getElem?_eq_none g] at hs; cases hs
    rw [List.map_append, List.getElem?_append_left hi]
    exact hs

set_option maxRecDepth 100000 in
set_option maxHeartbeats 4000000 in
theorem cless_c {ao : Option Addr} {cap : Nat} {qs : List Dq} {w : World} (h : QArg w ao qs) (hc : qs.length ≤ cap) (hcap : cap ≤ maxLen) : Trues 7 #[.slice ao qs.length cap] w := by
  have hfe := fault_err
  unfold Trues
  have HG := Lib.hid (great_c (cap := cap) h (by omega))
  have HW := Lib.hid (fun w' => n12awake_c w')
  rcases List.eq_nil_or_concat qs with rfl | ⟨ps, z, rfl⟩
  · clear h hc
    refine post fun R hR => ?_
    go_enter Try.func7, Try.ntmps7
    go_upto_region 2 with (first | (go_at_call 20; refine HG.out.mono ?_; rintro e w2 ⟨bb, rfl, hno, hu2⟩; clear HG; cases bb))
    all_goals
      go_wp2_with (first | (go_at_call 21; refine (HW.out _).mono ?_; rintro e w9 ⟨rfl, hu9⟩))
      exact hR.out _ _ ⟨rfl, hu2.trans' hu9⟩
  · simp only [List.concat_eq_append] at *
    obtain ⟨n, hn⟩ : ∃ n, n = ps.length := ⟨_, rfl⟩
    have hln : (ps ++ [z]).length = n + 1 := by rw [List.length_append, hn]; rfl
    have HC1 := Lib.hid (fun (hfit : Fit (ps ++ [z])) w' (hu : Upd [] w w') => check_c (cap := cap) (h.upd0 hu) hfit)
    have HC2 := Lib.hid (fun (hfit : Fit (ps ++ [z])) w' (hu : Upd [] w w') => check_c (cap := cap) (h.init.upd0 hu) ⟨by have := hfit.1; rw [hln] at this; omega, fun q hq => hfit.2 q (by simp [hq])⟩)
    rw [hln] at HG HC1 ⊢
    rw [← hn] at HC2
    have hcn : n + 1 ≤ cap := by omega
    have hri := fun wx => run_init (ao := ao) hcn wx
    have H := Lib.hid h
    have HN := Lib.hid hn
    have HFT := Lib.hid (fun (hf : Fit (ps ++ [z])) => (show n ≤ 20 from by have := hf.1; rw [hln] at this; omega))
    have HMC := Lib.hid (fun hz => check_cut (qs := ps) (z := z) hz)
    clear h hc hn hln
    refine post fun R hR => ?_
    go_enter Try.func7, Try.ntmps7
    go_upto_region 2 with (first | (go_at_call 20; refine HG.out.mono ?_; rintro e w2 ⟨bb, rfl, hno, hu2⟩; clear HG; cases bb))
    · have hfit := hno trivial
      have hn20 := HFT.out hfit
      have hc2 := HC2.out hfit
      have hc1 := HC1.out hfit w2 hu2
      have hz0 : ((n : Int) + 1 == 0) = false := by simp; omega
      have HM := HMC
      clear hno HC1 HC2 HFT hfit HMC
      generalize checkE (ps ++ [z]) = E1 at *
      have HC2 := Lib.hid hc2
      clear hc2
      refine hc1.mono ?_
      rintro e w3 ⟨at1, rfl, hu3⟩
      have HU3 := Lib.hid (hu2.trans' hu3)
      clear hc1 hu2 hu3
      by_cases hE : E1 = 0
      · subst hE
        have hM := HM.out rfl
        have HCC := Lib.hid (HC2.out w3 HU3.out)
        obtain ⟨b, off, rfl, hb, hr⟩ : ∃ b off, ao = some ⟨b, off, none⟩ ∧ b < w.heap.size ∧ DRows w b off ((ps ++ [z]).map Dq.d) := by
          rcases H.out.rows with e | e
          · simp at e
          · exact e
        have hlz : n < ((ps ++ [z]).map Dq.d).length := by rw [HN.out]; simp
        have hrow := fun w' (hu : Upd [] w w') => (drow hr hu hb (by simp) hlz).1
        have hzd : ((ps ++ [z]).map Dq.d)[n] = z.d := by
          have hh := HN.out
          subst hh
          simp
        rw [hzd] at hrow
        have HROW := Lib.hid hrow
        clear hrow hzd hlz hr hb H HM HC2 HN
        generalize checkE ps = E2 at *
        generalize z.d.kind = zk at *
        rcases hM with rfl | rfl | ⟨rfl, rfl⟩
        all_goals
          go_upto_region 3 with (fail)
          go_upto_region 4 with (first | (go_at_call 24; refine HCC.out.mono ?_; rintro e w4 ⟨at2, rfl, hu4⟩; clear HCC))
          have hu5 := HU3.out.trans' hu4
          have h0 := HROW.out _ hu5
          go_wp2_with (first | (go_at_call 21; refine (HW.out _).mono ?_; rintro e w9 ⟨rfl, hu9⟩))
          exact hR.out _ _ ⟨rfl, hu5.trans' hu9⟩
      · have hq : (E1 != 0) = true := by simpa using hE
        clear hE HC2 HM
        go_wp2_with (first | (go_at_call 21; refine (HW.out _).mono ?_; rintro e w9 ⟨rfl, hu9⟩))
        exact hR.out _ _ ⟨rfl, HU3.out.trans' hu9⟩
    · clear HC1 HC2 HMC HFT hno
      go_wp2_with (first | (go_at_call 21; refine (HW.out _).mono ?_; rintro e w9 ⟨rfl, hu9⟩))
      exact hR.out _ _ ⟨rfl, hu2.trans' hu9⟩

theorem bytes_decl12 : Try.prog.bytesOf 34 = 80 := by kernel_rfl
set_option maxRecDepth 100000 in
theorem checkLess_walk {H : Type} {enc : TypeId × Value → H} {W : World} {base : Nat} {args : Array Value} {ds gs : List (DataW H)} {before : List MemPlace}
    (hval : ∀ (j : Nat) t v, Try.f7.params[j]? = some t → args[j]? = some v → Value.okWide Try.prog W .any base t v)
    (hW : DataW.Whole enc Try.prog Try.f7.params.toList [] false W args.toList ds gs before)
    (hsz : (DataW.weightsEach Try.prog (Try.f7.params.toList ++ []) (ds ++ gs)).all (· ≤ reachBytes) = true) : Trues 7 args W := by
  obtain ⟨p, q, hA, hV, rfl, -, -⟩ := hW
  obtain ⟨rfl, rfl⟩ := trodVars_none hV
  rw [Try.params7] at hA hval hsz
  obtain ⟨v0, d0, rfl, rfl, h0⟩ := trodAll_one hA
  obtain ⟨ao, cap, l, rfl, hlc, hcap, hg, hl⟩ := open_listN dq_parse Try.underlying22 flat_decl cells_decl (by decide) (hval 0 22 v0 rfl rfl) h0
  obtain ⟨qs, rfl, hq⟩ := qarg_of hg hl
  rw [List.length_map] at hlc ⊢
  exact cless_c hq hlc hcap

set_option maxRecDepth 100000 in
theorem checkLess_lifted (os : Os) (started : os.Started) (H : Type) (enc : TypeId × Value → H) :
    ReturnsInHanded {} Try.checked os 7 .any (Rows.checkLessSpec.pre6 enc Try.prog Try.f7 Rows.checkLessRow.domain false) (Rows.checkLessSpec.post enc Try.prog Try.f7 false true false false) := by
  refine returnsInHanded_of_change_sized (C := Try.checked) own started (by kernel_rfl) Try.func7
    (ChangeSpec.witness6 (enc := enc) (C := Try.checked) false ⟨#[], #[.slice none 0 0], []⟩ 8 (by kernel_rfl) (by kernel_rfl) (by kernel_rfl) (by kernel_rfl)) ?_
  intro W base args ds gs before hval hW hcnd hsz _
  refine Calls.mono (checkLess_walk hval hW hsz) fun e W' ⟨he, hu⟩ => ?_
  exact ⟨_, he, law_post rfl rfl (by kernel_rfl) hW (fun ds h => by match ds, h with | [_], _ => rfl) hu⟩

set_option maxRecDepth 100000 in
theorem checkLess_over : Rows.checkLessRow.holds Try.pinned (OpenSpec.ofChange Rows.checkLessSpec) :=
  OpenClaim.holds_of_wide 7 Try.f7 rfl rfl rfl rfl rfl rfl rfl ⟨rfl, rfl, rfl, rfl, rfl⟩ rfl rfl rfl rfl rfl (by kernel_rfl) Try.func7 (by kernel_rfl)
    (of_decide_eq_true (by kernel_rfl)) (by unfold Func.isWrapper; first | (rw [if_pos (by decide +kernel)]; kernel_rfl) | (rw [if_neg (by decide +kernel)]; exact ⟨rfl, rfl⟩))
    (fun os started H enc _ => checkLess_lifted os started H enc)

theorem checkLess_proved : Rows.CheckLessSaid := checkLess_over
end Go.Proofs.Ytagnclphmhjoiaa
