/-
  FeedTells: which frames any pieces tell, one behind the other, what waits then, and what broke the feed. For every list. No condition.
-/
import Derived.Test.YtagadbgbicebaaaFeedOut
import Derived.Test.YtagadbgbicebaaaFeedAll
namespace Go.Proofs.Ytagadbgbicebaaa
open Go Go.RowKit Go.ChangeShapes Go.WideShapes Go.ChangeAt

/-- the feed F behind A, and the row a -/
structure FT (w : World) (F : Nat) (wr : World) (A : List UInt8) (a : Value) : Prop where
  f : FeedAt wr F A
  oa : OutAt wr w.heap.size a A
  upd : Upd [] w wr
  ds : w.heap.size ≤ F
theorem FT.keep0 {w wr w' : World} {F : Nat} {A : List UInt8} {a : Value} (h : FT w F wr A a) (hu : Upd [] wr w') : FT w F w' A a :=
  ⟨h.f.keep hu (by simp), h.oa.keep hu (by simp), h.upd.trans' hu, h.ds⟩

/-- behind a push: what is to be appended -/
structure FTa (w : World) (F : Nat) (wr : World) (A t : List UInt8) (ys : List Fm) (a : Value) (ao : Option Addr) (cap : Nat) : Prop where
  f : FeedAt wr F (A ++ t)
  oa : OutAt wr w.heap.size a A
  src : Src wr ao ys.length cap (fmCells ys)
  out : (allFr (A ++ t)).out = (allFr A).out ++ ys
  upd : Upd [] w wr
  ds : w.heap.size ≤ F

theorem pushT_c {w wr : World} {F : Nat} {A : List UInt8} {a : Value} (h : FT w F wr A a) (t : ByteArray) (hlen : A.length + t.size ≤ 1000000) :
    Calls Try.prog 26 #[.pointer (some ⟨F, 0, none⟩), .string t] wr fun e w' => ∃ ao cap ys, e = .returned (.slice ao ys.length cap) ∧ FTa w F w' A t.data.toList ys a ao cap := by
  refine Calls.mono (pushAll_c h.f t hlen) ?_
  rintro e w' ⟨ao, cap, ys, rfl, h1, h2, h3, h4⟩
  have hds := h.ds
  have hne := h.oa.ne h.f
  exact ⟨ao, cap, ys, rfl, h3, h.oa.keep h2 (by intro x hx hm; simp at hm; subst hm; exact hne hx), h1.src, h4, h.upd.trans h2 (by intro g hg; simp at hg; exact .inr (by omega)), h.ds⟩

theorem ft_done {w wr w5 : World} {F : Nat} {A t : List UInt8} {ys : List Fm} {a : Value} {ao ao' : Option Addr} {cap cap' : Nat} (h : FTa w F wr A t ys a ao cap)
    (hs : Sub w5 w.heap.size 23 3 (.slice ao' ((allFr A).out.length + ys.length) cap') ((allFr A).out.length + ys.length) (fmCells (allFr A).out ++ fmCells ys)) (hu : Upd (blkL a) wr w5) :
    FT w F w5 (A ++ t) (.slice ao' ((allFr A).out.length + ys.length) cap') := by
  have hl : (allFr (A ++ t)).out.length = (allFr A).out.length + ys.length := by rw [h.out, List.length_append]
  refine ⟨h.f.keep hu (h.oa.ne h.f), ⟨ao', cap', by rw [hl], ?_⟩, ?_, h.ds⟩
  · rw [hl, h.out, fmCells_append]; exact hs
  · obtain ⟨_, _, rfl, hsa⟩ := h.oa
    exact h.upd.trans hu (fun g hg => .inr (hsa.lt g hg).1)

set_option maxRecDepth 100000 in
set_option maxHeartbeats 4000000 in
theorem ftells_c (ao : Option Addr) (b off cap : Nat) (l : List ByteArray) (w : World) (hao : l = [] ∨ ao = some ⟨b, off, none⟩) (hrows : TxtAt w b off l) (hb : l = [] ∨ b < w.heap.size) (hg : ∀ s ∈ l, s.size ≤ reachBytes) (hlen : l.length ≤ maxLen) :
    Trues 6 #[.slice ao l.length cap] w := by
  unfold Trues
  have hm := much_c (w := w) (cap := cap) hao hrows hg hlen
  by_cases hmB : muchB l = true
  · rw [hmB] at hm
    have HM := Lib.hid hm
    clear hm hmB hrows hg hao
    refine post fun R hR => ?_
    go_enter Try.func6, Try.ntmps6
    go_wp2_with (fail)
    refine HM.out.mono ?_
    rintro e w2 ⟨rfl, rfl⟩
    go_wp2_with (fail)
    refine (feedAwake_c _).mono ?_
    rintro e w5 ⟨rfl, hu5⟩
    go_wp2_with (fail)
    exact hR.out _ _ ⟨rfl, hu5⟩
  · have hmB' : muchB l = false := by simpa using hmB
    rw [hmB'] at hm
    have hn : l.length ≤ 200 ∧ tot l ≤ 20000 := by
      unfold muchB at hmB'
      simp at hmB'
      omega
    obtain ⟨hn1, hn2⟩ := hn
    have HM := Lib.hid hm
    have HRows := Lib.hid hrows
    have HAO := Lib.hid hao
    clear hm hmB hmB' hrows hg hlen hao
    refine post fun R hR => ?_
    go_enter Try.func6, Try.ntmps6
    go_wp2_with (fail)
    refine HM.out.mono ?_
    rintro e w2 ⟨rfl, rfl⟩
    go_wp2_with (fail)
    refine Calls.mono (fnew_c _) ?_
    rintro e w1 ⟨rfl, hu1, hh1⟩
    go_wp2_with (fail)
    have h0 : FT w w.heap.size w1 [] (.slice none 0 0) := ⟨hh1, ⟨none, 0, rfl, sub_nil _ _ _ _⟩, hu1, Nat.le_refl _⟩
    have HBW := Lib.hid hb
    clear hb hu1 hh1
    generalize w.heap.size = F at h0 ⊢
    have hcat : ∀ k, k ≤ l.length → (cat (l.take k)).length ≤ 20000 := fun k _ => by rw [cat_len]; have := tot_take l k; omega
    have HCAT := Lib.hid hcat
    clear hcat hn2
    obtain ⟨i0, hi, hz0, hz1, hz2⟩ := info_parts info_frame
    go_loopw [4, 5, 6] (fun all a i wr => ∃ k : Nat, i = i64 k ∧ k ≤ l.length ∧ all = .string (bs (cat (l.take k))) ∧ FT w F wr (cat (l.take k)) a) (fun _ _ i _ => l.length - (intOf i).toNat)
    case atStart => exact ⟨0, rfl, Nat.zero_le _, rfl, h0⟩
    case round =>
      clear h0
      obtain ⟨k, rfl, hk, rfl, hfp⟩ := hrel
      by_cases hlt : k < l.length
      · have hl0 : l ≠ [] := by rintro rfl; simp at hlt
        obtain rfl := HAO.out.resolve_left hl0
        have hbw := HBW.out.resolve_left hl0
        have HBW2 := Lib.hid hbw
        clear hl0 hbw
        have c1 := txt_cell HRows.out hfp.upd HBW2.out hlt
        have hsn := cat_snoc l k hlt
        have hc1 := HCAT.out (k + 1) (by omega)
        rw [hsn, List.length_append] at hc1
        have HSN := Lib.hid hsn
        clear hsn
        generalize cat (l.take k) = A at *
        have hs1 : (l[k].data.toList).length = l[k].size := rfl
        rw [hs1] at hc1
        clear hs1
        generalize l[k] = s at *
        have hp := pushT_c hfp s (by omega)
        have HP := Lib.hid hp
        have hst : bs A ++ s = bs (A ++ s.data.toList) := by rw [← bs_append]
        have HST := Lib.hid hst
        obtain ⟨aoa, capa, rfl, hsa⟩ := hfp.oa
        clear hp hst hfp hsa
        go_wp2_with (fail)
        refine HP.out.mono ?_
        rintro e w4 ⟨ao4, cap4, ys, rfl, hfa⟩
        obtain ⟨_, _, hv4, hsa⟩ := hfa.oa
        have hw4 := hfa.upd.size
        have ho5 := rest_le (A ++ s.data.toList)
        rw [hfa.out, List.length_append, List.length_append, show s.data.toList.length = s.size from rfl] at ho5
        have hmx : (allFr A).out.length + ys.length ≤ maxLen := by unfold maxLen; omega
        have hmb : ((allFr A).out.length + ys.length) * 32 ≤ 140737488355328 := by omega
        have HFA := Lib.hid hfa
        have HSA := Lib.hid hsa
        have HMX := Lib.hid hmx
        have HMB := Lib.hid hmb
        clear hfa hsa hmx hmb hv4 HP ho5
        generalize hn : (allFr A).out.length = n at *
        go_wp2_with (at_builtin; refine wpList_append_sub _ rfl _ _ 42 rfl w.heap.size 23 i0 _ 3 32 Try.underlying42 hi hz0 hz1 hz2 rfl (by decide) (.slice aoa n capa) n _ rfl HSA.out _ ys.length cap4 (fmCells ys) rfl HFA.out.src (fmCells_len ys) (fm_one ys) HMX.out HMB.out hw4 ?_; intro ao' cap' w5 hs5 hu5 hb5; have HS5 := Lib.hid hs5; have HU5 := Lib.hid hu5; clear hs5 hu5 hb5)
        have hfp5 := ft_done (by rw [hn] at *; exact HFA.out) (by rw [hn]; exact HS5.out) HU5.out
        rw [hn] at hfp5
        have hst := HST.out
        rw [hst]
        have hl5 : (A ++ s.data.toList).length ≤ 20000 := by rw [List.length_append]; exact hc1
        clear HFA HSA HMX HMB HS5 HU5 hn hw4 hst HST
        generalize hla : Value.slice ao' (n + ys.length) cap' = a5 at *
        clear hla
        have hlo : (allFr (A ++ s.data.toList)).out.length ≤ 100000 := by have := rest_le (A ++ s.data.toList); omega
        have hra := rall_c (w := w5) (A := A ++ s.data.toList) (by omega)
        have HRA := Lib.hid hra
        have HFP := Lib.hid hfp5
        have HLO := Lib.hid hlo
        clear hra hfp5 hl5 hlo
        generalize A ++ s.data.toList = A2 at *
        refine HRA.out.mono ?_
        rintro e w6 ⟨ao6, cap6, rfl, hs6, hu6⟩
        have hfp6 := HFP.out.keep0 hu6
        obtain ⟨_, _, hv6, hsa6⟩ := hfp6.oa
        have hsame := rsameF_c hsa6 hs6 HLO.out
        have HSM := Lib.hid hsame
        have HF6 := Lib.hid hfp6
        clear hsame hfp6 hsa6 hs6 hv6 hu6 HRA
        go_wp2_with (fail)
        refine HSM.out.mono ?_
        rintro e w7 ⟨rfl, hu7⟩
        have hfp7 := HF6.out.keep0 hu7
        have hw := fwaits_c hfp7.f
        have hbk := fbroken_c hfp7.f
        have HW := Lib.hid hw
        have HBK := Lib.hid hbk
        have HF7 := Lib.hid hfp7
        clear hw hbk hfp7 HF6 HSM hu7 HFP HLO
        have hsz7 := size_bs (allFr A2).rest
        have HSZ7 := Lib.hid hsz7
        clear hsz7
        generalize hr1 : (allFr A2).rest = r2 at *
        generalize hr2 : (allFr A2).e = e2 at *
        clear hr1 hr2
        go_wp2_with (fail)
        refine HW.out.mono ?_
        rintro e w8 ⟨rfl, rfl⟩
        go_wp2_with (fail)
        refine HBK.out.mono ?_
        rintro e w8 ⟨rfl, rfl⟩
        go_wp2_with (fail)
        go_roundw
        case rel => exact ⟨k + 1, by go_num, by omega, by rw [HSN.out], by rw [HSN.out]; exact HF7.out⟩
        case measure => simp [intOf]; omega
      · have hu := hfp.upd
        obtain ⟨aoa, capa, rfl, -⟩ := hfp.oa
        clear hfp
        go_wp2_with (fail)
        refine (feedAwake_c _).mono ?_
        rintro e w5 ⟨rfl, hu5⟩
        go_wp2_with (fail)
        exact hR.out _ _ ⟨rfl, hu.trans' hu5⟩

set_option maxRecDepth 100000 in
theorem feedTells_walk {H : Type} {enc : TypeId × Value → H} {W : World} {base : Nat} {args : Array Value} {ds gs : List (DataW H)} {before : List MemPlace}
    (hval : ∀ (j : Nat) t v, Try.f6.params[j]? = some t → args[j]? = some v → Value.okWide Try.prog W .any base t v)
    (hW : DataW.Whole enc Try.prog Try.f6.params.toList [] false W args.toList ds gs before)
    (hsz : (DataW.weightsEach Try.prog (Try.f6.params.toList ++ []) (ds ++ gs)).all (· ≤ reachBytes) = true) : Trues 6 args W := by
  obtain ⟨p, q, hA, hV, rfl, -, -⟩ := hW
  obtain ⟨rfl, rfl⟩ := trodVars_none hV
  rw [Try.params6] at hA hval hsz
  obtain ⟨v0, d0, rfl, rfl, h0⟩ := trodAll_one hA
  obtain ⟨ao, cap, l, rfl, hg, hl, hc⟩ := open_texts hsz (j := 0) rfl rfl Try.underlying38 Try.underlying9 (by kernel_rfl) (hval 0 38 v0 rfl rfl) h0
  rcases hc with rfl | ⟨b, off, rfl, hr⟩
  · exact ftells_c ao 0 0 cap [] W (.inl rfl) (by intro i s hi; simp at hi) (.inl rfl) hg hl
  · refine ftells_c _ b off cap l W (.inr rfl) hr ?_ hg hl
    cases l with
    | nil => exact .inl rfl
    | cons x r => exact .inr (World.block_lt_of_cell? W _ (hr 0 x rfl))

set_option maxRecDepth 100000 in
theorem feedTells_lifted (os : Os) (started : os.Started) (H : Type) (enc : TypeId × Value → H) :
    ReturnsInHanded {} Try.checked os 6 .any (Rows.feedTellsSpec.pre6 enc Try.prog Try.f6 Rows.feedTellsRow.domain false) (Rows.feedTellsSpec.post enc Try.prog Try.f6 false true false false) := by
  refine returnsInHanded_of_change_sized (C := Try.checked) own started (by kernel_rfl) Try.func6
    (ChangeSpec.witness6 (enc := enc) (C := Try.checked) false ⟨#[], #[.slice none 0 0], []⟩ 8 (by kernel_rfl) (by kernel_rfl) (by kernel_rfl) (by kernel_rfl)) ?_
  intro W base args ds gs before hval hW hcnd hsz _
  refine Calls.mono (feedTells_walk hval hW hsz) fun e W' ⟨he, hu⟩ => ?_
  exact ⟨_, he, law_post rfl rfl (by kernel_rfl) hW (fun ds h => by match ds, h with | [_], _ => rfl) hu⟩

set_option maxRecDepth 100000 in
theorem feedTells_over : Rows.feedTellsRow.holds Try.pinned (OpenSpec.ofChange Rows.feedTellsSpec) :=
  OpenClaim.holds_of_wide 6 Try.f6 rfl rfl rfl rfl rfl rfl rfl ⟨rfl, rfl, rfl, rfl, rfl⟩ rfl rfl rfl rfl rfl (by kernel_rfl) Try.func6 (by kernel_rfl)
    (of_decide_eq_true (by kernel_rfl)) (by unfold Func.isWrapper; first | (rw [if_pos (by decide +kernel)]; kernel_rfl) | (rw [if_neg (by decide +kernel)]; exact ⟨rfl, rfl⟩))
    (fun os started H enc _ => feedTells_lifted os started H enc)

theorem feedTells_proved : Rows.FeedTellsSaid := feedTells_over
end Go.Proofs.Ytagadbgbicebaaa
