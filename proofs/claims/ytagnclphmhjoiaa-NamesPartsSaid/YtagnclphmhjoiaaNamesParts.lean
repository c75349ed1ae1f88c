/-
  NamesParts: which field has any tag, which method any names are, and which name stands twice first. For every list of declarations. Condition: the form's own reach.
-/
import Derived.Test.YtagnclphmhjoiaaPartsM
import Derived.Deep.RegionHeld3
namespace Go.Proofs.Ytagnclphmhjoiaa
open Go Go.RowKit Go.ChangeShapes Go.WideShapes Go.ChangeAt

theorem flat_ask : flatN Try.prog 5 38 = some [.int .i64, .string, .string] := by kernel_rfl
theorem fix_two (fs : List Fd) (t : Int) : (fixB fs t = true ∧ fixI fs t = fixR fs t ∧ 0 ≤ fixR fs t) ∨ (fixB fs t = false ∧ fixI fs t = 0 ∧ fixR fs t = -1) := by
  unfold fixB fixI fixR
  by_cases h : fix fs t < fs.length
  · rw [if_pos h, if_pos h, decide_eq_true h]; exact .inl ⟨rfl, rfl, by omega⟩
  · rw [if_neg h, if_neg h, decide_eq_false h]; exact .inr ⟨rfl, rfl, rfl⟩

set_option maxRecDepth 100000 in
set_option maxHeartbeats 4000000 in
theorem nparts_c {ao : Option Addr} {cap : Nat} {l : List Dc} {w : World} (h : DArg w ao l) (hlen : l.length ≤ 2000000000000) (hg : ∀ x ∈ l, DcG w x) (t : Int) (s m : ByteArray) (hs : s.size ≤ maxLen) :
    Trues 5 #[.slice ao l.length cap, .agg #[i64 t, .string s, .string m]] w := by
  unfold Trues
  have hgood : ∀ x ∈ l, x.name.size ≤ maxLen := fun x hx => (hg x hx).1
  obtain ⟨ms, hms⟩ : ∃ ms : List Mt, ∀ w', Upd [] w w' → ∀ hx : fnd l s < l.length, Inn w' Mt.cells 5 l[fnd l s].ma l[fnd l s].mn ms := by
    by_cases hx : fnd l s < l.length
    · obtain ⟨-, -, ms, h1, -⟩ := hg _ (List.getElem_mem hx)
      exact ⟨ms, fun w' hu _ => h1.upd0 hu⟩
    · exact ⟨[], fun w' hu q => (hx q).elim⟩
  have hm1 := fun (w' : World) (hu : Upd [] w w') => method_c (cap := cap) (h.upd hu) hlen hgood s m hs ms (hms w' hu)
  have hm2 := fun (w' : World) (hu : Upd [] w w') => rmethod_c (cap := cap) (h.upd hu) hlen s m ms (hms w' hu)
  have ht1 := fun (w' : World) (hu : Upd [] w w') => twice_c (cap := cap) (h.upd hu) hlen hgood
  have ht2 := fun (w' : World) (hu : Upd [] w w') => rtwice_c (cap := cap) (h.upd hu) hlen
  generalize metR l ms s m = M at *
  generalize metB l ms s m = MB at *
  generalize twice l = TW at *
  have HM1 := Lib.hid hm1
  have HM2 := Lib.hid hm2
  have HT1 := Lib.hid ht1
  have HT2 := Lib.hid ht2
  have HG := Lib.hid hg
  have HD := Lib.hid h
  have hA := heap_alloc_new w (.cells #[i64 t, .string s, .string m] 38)
  have hu := (Upd.refl [] w).alloc (.cells #[i64 t, .string s, .string m] 38)
  clear hm1 hm2 ht1 ht2 hms hgood hg h
  by_cases hbig : 300 < l.length
  · clear hA
    have HU := Lib.hid hu
    clear hu
    refine post fun R hR => ?_
    go_enter Try.func5, Try.ntmps5
    go_wp2_with (fail)
    refine Calls.mono (n11awake_c _) ?_
    rintro e w2 ⟨rfl, hu2⟩
    go_wp2_with (fail)
    exact hR.out _ _ ⟨rfl, HU.out.trans' hu2⟩
  · obtain ⟨A, hAe⟩ : ∃ A, A = w.heap.size := ⟨_, rfl⟩
    rw [← hAe] at hA
    have HU := Lib.hid hu
    have HA := Lib.hid hA
    clear hu hA
    refine post fun R hR => ?_
    go_enter Try.func5, Try.ntmps5
    go_upto_region 1 with (fail)
    rw [← hAe]
    clear hAe
    have hu := HU.out
    have hA := HA.out
    clear HU HA
    generalize w.alloc (.cells #[i64 t, .string s, .string m] 38) = w1 at *
    have HA := Lib.hid hA
    have HU := Lib.hid hu
    clear hA hu
    go_wp2_with (fail)
    go_loopw [5] (fun i wr => ∃ k : Nat, i = i64 k ∧ k ≤ l.length ∧ Upd [] w1 wr) (fun i _ => l.length - (intOf i).toNat)
    case atStart => exact ⟨0, rfl, Nat.zero_le _, Upd.refl _ _⟩
    case round =>
      obtain ⟨k, rfl, hk, hur⟩ := hrel
      have hA := hur.keep0 HA.out
      obtain ⟨a0, a1, a2, -⟩ := cells3 hA
      by_cases hlt : k < l.length
      · obtain ⟨b, off, rfl, hb, hr⟩ : ∃ b off, ao = some ⟨b, off, none⟩ ∧ b < w.heap.size ∧ DRows w b off l := by
          rcases HD.out with e | e
          · rw [e] at hlt; simp at hlt
          · exact e
        obtain ⟨-, ⟨fs, hfs, -⟩, -⟩ := HG.out _ (List.getElem_mem hlt)
        have hux := HU.out.trans' hur
        have hdr : ∀ w', Upd [] wr w' → w'.cell? ⟨A, 0, none⟩ = some (i64 t) ∧ w'.cell? ⟨b, off + k * 5, none⟩ = some (i64 l[k].kind) ∧ w'.cell? ⟨b, off + k * 5 + 1, none⟩ = some (.string l[k].name) ∧ w'.cell? ⟨b, off + k * 5 + 2, none⟩ = some (.slice l[k].fa l[k].fn l[k].fc) ∧
            w'.cell? ⟨b, off + k * 5 + 3, none⟩ = some (.slice l[k].ma l[k].mn l[k].mc) ∧ w'.cell? ⟨b, off + k * 5 + 4, none⟩ = some (i64 l[k].at_) := fun w' hu => by
          obtain ⟨c0, c1, c2, c3, c4⟩ := drow hr (hux.trans' hu) hb (by simp) hlt
          exact ⟨(cells3 (hu.keep0 hA)).1, c0, c1, c2, c3, c4⟩
        have hf1 : ∀ w', Upd [] wr w' → Calls Try.prog 15 #[.agg #[i64 l[k].kind, .string l[k].name, .slice l[k].fa l[k].fn l[k].fc, .slice l[k].ma l[k].mn l[k].mc, i64 l[k].at_], i64 t] w' fun e w'' => e = .returned (.tuple #[i64 (fixI fs t), .bool (fixB fs t)]) ∧ Upd [] wr w'' := fun w' hu =>
          (field_c l[k] (hfs.upd0 (hux.trans' hu)) t).mono fun _ _ ⟨h1, h2⟩ => ⟨h1, hu.trans' h2⟩
        have hf2 : ∀ w', Upd [] wr w' → Calls Try.prog 16 #[.agg #[i64 l[k].kind, .string l[k].name, .slice l[k].fa l[k].fn l[k].fc, .slice l[k].ma l[k].mn l[k].mc, i64 l[k].at_], i64 t] w' fun e w'' => e = .returned (i64 (fixR fs t)) ∧ Upd [] wr w'' := fun w' hu =>
          (rfield_c l[k] (hfs.upd0 (hux.trans' hu)) t).mono fun _ _ ⟨h1, h2⟩ => ⟨h1, hu.trans' h2⟩
        have hx2 := fix_two fs t
        generalize fixI fs t = xi at *
        generalize fixB fs t = xb at *
        generalize fixR fs t = xr at *
        generalize l[k] = d at *
        obtain ⟨kd, nm, fa, fn, fc, ma, mn, mc, at_⟩ := d
        simp only at hdr hf1 hf2
        have HDR := Lib.hid hdr
        have HF1 := Lib.hid hf1
        have HF2 := Lib.hid hf2
        have HR := Lib.hid hur
        clear hdr hf1 hf2 hfs hr hux hA a0 a1 a2 hur
        obtain ⟨c0, c1, c2, c3, c4, c5⟩ := HDR.out _ (Upd.refl _ _)
        go_wp2_with (fail)
        go_region_held3 (fun w' => w'.cell? ⟨A, 0, none⟩ = some (i64 t) ∧ w'.cell? ⟨b, off + k * 5, none⟩ = some (i64 kd) ∧ w'.cell? ⟨b, off + k * 5 + 1, none⟩ = some (.string nm) ∧ w'.cell? ⟨b, off + k * 5 + 2, none⟩ = some (.slice fa fn fc) ∧
            w'.cell? ⟨b, off + k * 5 + 3, none⟩ = some (.slice ma mn mc) ∧ w'.cell? ⟨b, off + k * 5 + 4, none⟩ = some (i64 at_))
          ((first | exact ⟨c0, c1, c2, c3, c4, c5⟩ | exact HDR.out _ u1))
          ((first
            | (go_at_call 15; (with_reducible refine Calls.mono (HF1.out _ (by first | exact Upd.refl _ _ | exact (Upd.refl _ _).drew)) ?_); rintro e w2 ⟨rfl, u1⟩)))
        rename_i hHeld
        clear hHeld c0 c1 c2 c3 c4 c5
        obtain ⟨c0, c1, c2, c3, c4, c5⟩ := HDR.out _ u1
        go_wp2_with (fail)
        go_region_held3 (fun w' => w'.cell? ⟨A, 0, none⟩ = some (i64 t) ∧ w'.cell? ⟨b, off + k * 5, none⟩ = some (i64 kd) ∧ w'.cell? ⟨b, off + k * 5 + 1, none⟩ = some (.string nm) ∧ w'.cell? ⟨b, off + k * 5 + 2, none⟩ = some (.slice fa fn fc) ∧
            w'.cell? ⟨b, off + k * 5 + 3, none⟩ = some (.slice ma mn mc) ∧ w'.cell? ⟨b, off + k * 5 + 4, none⟩ = some (i64 at_))
          ((first | exact ⟨c0, c1, c2, c3, c4, c5⟩ | exact HDR.out _ u2))
          ((first
            | (go_at_call 16; (with_reducible refine Calls.mono (HF2.out _ (by first | exact u1 | exact u1.drew)) ?_); rintro e w3 ⟨rfl, u2⟩)))
        rename_i hHeld
        clear hHeld c0 c1 c2 c3 c4 c5
        rcases hx2 with ⟨rfl, rfl, hx0⟩ | ⟨rfl, rfl, rfl⟩
        · go_wp2_with (fail)
          go_roundw
          case rel => exact ⟨k + 1, by go_num, by omega, HR.out.trans' u2⟩
          case measure => simp [intOf]; omega
        · go_wp2_with (fail)
          go_roundw
          case rel => exact ⟨k + 1, by go_num, by omega, HR.out.trans' u2⟩
          case measure => simp [intOf]; omega
      · have hux := HU.out.trans' hur
        have HR := Lib.hid hur
        clear hur
        go_wp2_with (fail)
        refine Calls.mono (HM1.out _ hux) ?_
        rintro e w2 ⟨rfl, hu2⟩
        have hA2 := hu2.keep0 hA
        have hx2 := hux.trans' hu2
        have hs2 := lt_of_heap hA2
        clear hA a0 a1 a2 hu2 hux
        obtain ⟨a0, a1, a2, -⟩ := cells3 hA2
        obtain ⟨mt, mn, mi, mo, mw⟩ := M
        go_upto_region 11 with (fail)
        have hB3 := heap_alloc_new w2 (.cells #[i64 mt, .string mn, .string mi, .string mo, .bool mw] 42)
        have hA3 := heap_alloc_old hA2 (.cells #[i64 mt, .string mn, .string mi, .string mo, .bool mw] 42)
        have hx3 := hx2.alloc (.cells #[i64 mt, .string mn, .string mi, .string mo, .bool mw] 42)
        generalize w2.alloc (.cells #[i64 mt, .string mn, .string mi, .string mo, .bool mw] 42) = w3 at *
        generalize w2.heap.size = X at *
        clear a0 a1 a2 hA2 hx2
        obtain ⟨a0, a1, a2, -⟩ := cells3 hA3
        have hm2 := HM2.out _ hx3
        have HMM := Lib.hid hm2
        clear hm2
        go_wp2_with (fail)
        refine HMM.out.mono ?_
        rintro e w4 ⟨rfl, hu4⟩
        have hB4 := hu4.keep0 hB3
        have hx4 := hx3.trans' hu4
        have hsX := lt_of_heap hB4
        clear hB3 hA3 hu4 hx3 a0 a1 a2
        go_upto_region 12 with (fail)
        have hC5 := heap_alloc_new w4 (.cells #[i64 mt, .string mn, .string mi, .string mo, .bool mw] 42)
        have hB5 := heap_alloc_old hB4 (.cells #[i64 mt, .string mn, .string mi, .string mo, .bool mw] 42)
        have hx5 := hx4.alloc (.cells #[i64 mt, .string mn, .string mi, .string mo, .bool mw] 42)
        generalize w4.alloc (.cells #[i64 mt, .string mn, .string mi, .string mo, .bool mw] 42) = w5 at *
        generalize w4.heap.size = X2 at *
        clear hB4 hx4
        obtain ⟨x0, x1, x2, x3, x4, -⟩ := cells5 hB5
        obtain ⟨y0, y1, y2, y3, y4, -⟩ := cells5 hC5
        have HX5 := Lib.hid hx5
        clear hB5 hC5 hx5
        have e1 := str_eq (rfl : mn = mn)
        have e2 := str_eq (rfl : mi = mi)
        have e3 := str_eq (rfl : mo = mo)
        go_wp2_with (fail)
        refine Calls.mono (HT1.out _ HX5.out) ?_
        rintro e w6 ⟨rfl, hu6⟩
        have hx6 := HX5.out.trans' hu6
        go_wp2_with (fail)
        refine Calls.mono (HT2.out _ hx6) ?_
        rintro e w7 ⟨rfl, rfl⟩
        go_wp2_with (fail)
        refine Calls.mono (n11awake_c _) ?_
        rintro e w8 ⟨rfl, hu8⟩
        go_wp2_with (fail)
        exact hR.out _ _ ⟨rfl, hx6.trans' hu8⟩

theorem bytes_decl : Try.prog.bytesOf 34 = 80 := by kernel_rfl
set_option maxRecDepth 100000 in
theorem namesParts_walk {H : Type} {enc : TypeId × Value → H} {W : World} {base : Nat} {args : Array Value} {ds gs : List (DataW H)} {before : List MemPlace}
    (hval : ∀ (j : Nat) t v, Try.f5.params[j]? = some t → args[j]? = some v → Value.okWide Try.prog W .any base t v)
    (hW : DataW.Whole enc Try.prog Try.f5.params.toList [] false W args.toList ds gs before)
    (hsz : (DataW.weightsEach Try.prog (Try.f5.params.toList ++ []) (ds ++ gs)).all (· ≤ reachBytes) = true) : Trues 5 args W := by
  obtain ⟨p, q, hA, hV, rfl, -, -⟩ := hW
  obtain ⟨rfl, rfl⟩ := trodVars_none hV
  rw [Try.params5] at hA hval hsz
  obtain ⟨v0, v1, d0, d1, p0, p1, rfl, rfl, rfl, h0, h1⟩ := trodAll_two hA
  obtain ⟨vs, rfl, hvs⟩ := open_structN Try.underlying38 flat_ask (hval 1 38 v1 rfl rfl) h1
  obtain ⟨t, r, rfl, ht, hvs⟩ := hvs.i64
  obtain ⟨s, r, rfl, hs, hvs⟩ := hvs.str
  obtain ⟨m, r, rfl, hm, hvs⟩ := hvs.str
  obtain rfl := hvs.none
  obtain ⟨ao, cap, l, rfl, hlc, hcap, hg, hl⟩ := open_listN Dc.parse2 Try.underlying22 flat_decl cells_decl (by decide) (hval 0 22 v0 rfl rfl) h0
  have hlen : l.length ≤ 2000000000000 := by
    have := cap_reach hsz (j := 0) (t := 22) rfl rfl Try.underlying22 h0
    rw [bytes_decl] at this
    unfold reachBytes at this
    omega
  exact nparts_c (darg_of hl) hlen hg t s m hs

set_option maxRecDepth 100000 in
theorem namesParts_lifted (os : Os) (started : os.Started) (H : Type) (enc : TypeId × Value → H) :
    ReturnsInHanded {} Try.checked os 5 .any (Rows.namesPartsSpec.pre6 enc Try.prog Try.f5 Rows.namesPartsRow.domain false) (Rows.namesPartsSpec.post enc Try.prog Try.f5 false true false false) := by
  refine returnsInHanded_of_change_sized (C := Try.checked) own started (by kernel_rfl) Try.func5
    (ChangeSpec.witness6 (enc := enc) (C := Try.checked) false ⟨#[], #[.slice none 0 0, .agg #[i64 0, .string .empty, .string .empty]], []⟩ 8 (by kernel_rfl) (by kernel_rfl) (by kernel_rfl) (by kernel_rfl)) ?_
  intro W base args ds gs before hval hW hcnd hsz _
  refine Calls.mono (namesParts_walk hval hW hsz) fun e W' ⟨he, hu⟩ => ?_
  exact ⟨_, he, law_post rfl rfl (by kernel_rfl) hW (fun ds h => by match ds, h with | [_, _], _ => rfl) hu⟩

set_option maxRecDepth 100000 in
theorem namesParts_over : Rows.namesPartsRow.holds Try.pinned (OpenSpec.ofChange Rows.namesPartsSpec) :=
  OpenClaim.holds_of_wide 5 Try.f5 rfl rfl rfl rfl rfl rfl rfl ⟨rfl, rfl, rfl, rfl, rfl⟩ rfl rfl rfl rfl rfl (by kernel_rfl) Try.func5 (by kernel_rfl)
    (of_decide_eq_true (by kernel_rfl)) (by unfold Func.isWrapper; first | (rw [if_pos (by decide +kernel)]; kernel_rfl) | (rw [if_neg (by decide +kernel)]; exact ⟨rfl, rfl⟩))
    (fun os started H enc _ => namesParts_lifted os started H enc)

theorem namesParts_proved : Rows.NamesPartsSaid := namesParts_over
end Go.Proofs.Ytagnclphmhjoiaa
