/-
  The contracts of flows' reading functions: row, Set, Rest, Waits, Cost, Active, Items. Condition: they are flows that their own functions made, by some hundred steps at most.
-/
import Derived.Test.YtabhdigannalgaaFlw
import Derived.Deep.RegionHeld3
namespace Go.Proofs.Ytabhdigannalgaa
open Go Go.RowKit Go.Maps

theorem fcost0_c (n : Int) (w : World) : Calls Try.prog 72 #[i64 n] w fun e w' => e = .returned (i64 (costN n)) ∧ w = w' := by
  have h : ∀ x : Int, x = costN n → i64 x = i64 (costN n) := fun x e => by rw [e]
  refine post fun R hR => ?_
  go_enter Try.func72, Try.ntmps72
  go_wp2
  all_goals exact hR.out _ _ ⟨ret_i (by unfold costN; omega), rfl⟩
theorem icost_c (x : It) (w : World) (_hb : x.b.size ≤ maxLen) : Calls Try.prog 62 #[iv x] w fun e w' => e = .returned (i64 x.cost) ∧ Upd [] w w' := by
  have hc := fun w' => fcost0_c x.b.size w'
  have HC := Lib.hid hc
  have hu := (Upd.refl [] w).alloc (.cells #[i64 x.c, i64 x.k, i64 x.f, .string x.b, i64 x.a] 74)
  have HU := Lib.hid hu
  clear hc hu
  refine post fun R hR => ?_
  go_enter Try.func62, Try.ntmps62
  go_wp2_with (fail)
  refine (HC.out _).mono ?_
  rintro e w2 ⟨rfl, rfl⟩
  go_wp2_with (fail)
  exact hR.out _ _ ⟨rfl, HU.out⟩
theorem It.cost_bd (x : It) : 16 ≤ x.cost ∧ x.cost ≤ 1040 := costN_bd _

/-- an owner's row -/
def rowV (tv : Nat → Value) (n : Int) : Value := if 0 ≤ n ∧ n ≤ 8 then tv n.toNat else .slice none 0 0
def rowI (its : Nat → List It) (n : Int) : List It := if 0 ≤ n ∧ n ≤ 8 then its n.toNat else []
section
variable {w : World} {Z Zr : Nat → Prop} {b K : Nat} {r : Rg} {its : Nat → List It} {tv : Nat → Value}
theorem FwX.rowS (h : FwX w Z Zr b K r its tv) (n : Int) : Sub w 0 74 5 (rowV tv n) (rowI its n).length (ics (rowI its n)) ∧ (rowI its n).length ≤ K := by
  unfold rowV rowI
  by_cases hn : 0 ≤ n ∧ n ≤ 8
  · rw [if_pos hn, if_pos hn]
    exact ⟨h.row _ (by omega), h.len _ (by omega)⟩
  · rw [if_neg hn, if_neg hn]
    exact ⟨sub_nil _ _ _ _, Nat.zero_le _⟩

theorem frow_c (h : FwX w Z Zr b K r its tv) (n : Int) : Calls Try.prog 60 #[.pointer (some ⟨b, 0, none⟩), i64 n] w fun e w' => e = .returned (rowV tv n) ∧ w = w' := by
  by_cases h1 : n < 0
  · have e : rowV tv n = .slice none 0 0 := by unfold rowV; rw [if_neg (by omega)]
    have HE := Lib.hid e
    clear e h
    refine post fun R hR => ?_
    go_enter Try.func60, Try.ntmps60
    go_wp2_with (fail)
    exact hR.out _ _ ⟨by first | (rw [HE.out]; rfl) | rw [HE.out], rfl⟩
  · by_cases h2 : 8 < n
    · have e : rowV tv n = .slice none 0 0 := by unfold rowV; rw [if_neg (by omega)]
      have HE := Lib.hid e
      clear e h
      refine post fun R hR => ?_
      go_enter Try.func60, Try.ntmps60
      go_wp2_with (fail)
      exact hR.out _ _ ⟨by first | (rw [HE.out]; rfl) | rw [HE.out], rfl⟩
    · obtain ⟨k, rfl⟩ : ∃ k : Nat, n = k := ⟨n.toNat, by omega⟩
      have hk : k < 9 := by omega
      have hk9 : (k : Int) < 9 := by omega
      have e : rowV tv k = tv k := by unfold rowV; rw [if_pos (by omega)]; rfl
      have HE := Lib.hid e
      obtain ⟨c0, -⟩ := h.ring.cells k
      rw [tvl_get tv hk] at c0
      obtain ⟨ao, cap, hv, -⟩ := (h.row k hk).form
      rw [hv] at c0
      have HV := Lib.hid hv
      clear e h hv
      generalize (its k).length = L at *
      refine post fun R hR => ?_
      go_enter Try.func60, Try.ntmps60
      go_wp2_with (fail)
      exact hR.out _ _ ⟨by first | (rw [HE.out, HV.out]; rfl) | rw [HE.out, HV.out], rfl⟩

theorem fwaits_c (h : FwAt w Z b K r its) (n : Int) : Calls Try.prog 46 #[.pointer (some ⟨b, 0, none⟩), i64 n] w fun e w' => e = .returned (i64 (rowI its n).length) ∧ w = w' := by
  obtain ⟨hlk, Zr, tv, h⟩ := h
  obtain ⟨hs, -⟩ := h.rowS n
  have hr := frow_c h n
  obtain ⟨ao, cap, hv, -⟩ := hs.form
  rw [hv] at hr
  have HR := Lib.hid hr
  clear h hr hs hv
  generalize (rowI its n).length = L at *
  refine post fun R hR => ?_
  go_enter Try.func46, Try.ntmps46
  go_wp2_with (fail)
  refine HR.out.mono ?_
  rintro e w2 ⟨rfl, rfl⟩
  go_wp2_with (fail)
  exact hR.out _ _ ⟨rfl, rfl⟩

theorem factive_c (h : FwAt w Z b K r its) : Calls Try.prog 48 #[.pointer (some ⟨b, 0, none⟩)] w fun e w' => ∃ v, e = .returned v ∧ Sub w' w.heap.size 3 1 v r.row.length (r.row.map i64) ∧ Upd [] w w' := by
  obtain ⟨hlk, Zr, tv, h⟩ := h
  have ha := ring_active_c h.ring
  have HA := Lib.hid ha
  clear ha h
  refine post fun R hR => ?_
  go_enter Try.func48, Try.ntmps48
  go_wp2_with (fail)
  refine HA.out.mono ?_
  rintro e w2 ⟨v, rfl, hs, hu⟩
  obtain ⟨ao, cap, rfl, -⟩ := hs.form
  have HS := Lib.hid hs
  have HU := Lib.hid hu
  clear hs hu
  go_wp2_with (fail)
  exact hR.out _ _ ⟨_, rfl, HS.out, HU.out⟩

theorem set_link {its : Nat → List It} {r : Rg} (h : Linked r its) (n q : Int) : Linked (r.set n q) its := by
  unfold Rg.set
  split
  · exact h
  · intro j hj
    obtain ⟨h1, h2⟩ := h j hj
    by_cases e : (j : Int) = n
    · subst e
      rw [show (Rg.mk (r.put j (some (Fl.reset q (r.fl j)))) r.row).fl j = some (Fl.reset q (r.fl j)) from Rg.put_same _ _ _]
      refine ⟨fun q => (by cases q), fun f hf => ?_⟩
      injection hf with hf; subst hf
      cases hr : r.fl j with
      | none => show ([] : List Int) = _; rw [h1 hr]; rfl
      | some g => exact h2 g hr
    · rw [show (Rg.mk (r.put n (some (Fl.reset q (r.fl n)))) r.row).fl j = r.fl j from Rg.put_other _ _ e]
      exact ⟨h1, h2⟩
theorem settle_link {its : Nat → List It} {r : Rg} (h : Linked r its) (n : Nat) {l : List It} {f : Fl} (hf : f.cs = l.map It.cost) : Linked (r.settle n f) (updN its n l) := by
  intro j hj
  by_cases e : j = n
  · subst e
    rw [updN_same]
    obtain ⟨g, hg, -, hc, -⟩ := settle_fl_same r j f
    rw [hg]
    refine ⟨fun q => (by cases q), fun g' q => ?_⟩
    injection q with q; subst q
    rw [hc, hf]
  · rw [updN_other _ _ e, settle_fl_other r f (by omega)]
    exact h j hj
theorem rest_link {its : Nat → List It} {r : Rg} (h : Linked r its) (hok : r.ok) (n : Int) (x : Bool) : Linked (r.rest n x) its := by
  unfold Rg.rest
  cases hf : r.fl n with
  | none => exact h
  | some f =>
    have hn := hok.rng n f hf
    obtain ⟨m, rfl⟩ : ∃ m : Nat, n = m := ⟨n.toNat, by omega⟩
    have := settle_link h m (l := its m) (f := { f with rs := x }) ((h m (by omega)).2 f hf)
    rw [updN_self] at this
    exact this

theorem fset_c (h : FwAt w Z b K r its) (hK : K ≤ 900) (n q : Int) : Calls Try.prog 30 #[.pointer (some ⟨b, 0, none⟩), i64 n, i64 q] w fun e w' => e = .returned (i64 (setE n q)) ∧ UpdP Z w w' ∧ FwAt w' (grow Z w) b (K + 1) (r.set n q) its := by
  obtain ⟨hlk, Zr, tv, h⟩ := h
  have hs := ring_set_c h.ring hK n q
  have HS := Lib.hid hs
  have H := Lib.hid h
  have HL := Lib.hid (set_link hlk n q)
  clear hs h hlk
  refine post fun R hR => ?_
  go_enter Try.func30, Try.ntmps30
  go_wp2_with (fail)
  refine HS.out.mono ?_
  rintro e w2 ⟨rfl, hp, hA⟩
  have HX := Lib.hid (H.out.ringed hp hA (Nat.le_succ K))
  have HP := Lib.hid (hp.mono fun x hx => .inl (H.out.zr x hx))
  clear hp hA
  go_wp2_with (fail)
  exact hR.out _ _ ⟨rfl, HP.out, HL.out, _, _, HX.out⟩
theorem frest_c (h : FwAt w Z b K r its) (hK : K ≤ 900) {n : Int} (hn : inI n) (x : Bool) : Calls Try.prog 33 #[.pointer (some ⟨b, 0, none⟩), i64 n, .bool x] w fun e w' => e = .returned (i64 (r.restE n)) ∧ UpdP Z w w' ∧ FwAt w' (grow Z w) b (K + 1) (r.rest n x) its := by
  obtain ⟨hlk, Zr, tv, h⟩ := h
  have hs := ring_rest_c h.ring hK hn x
  have HS := Lib.hid hs
  have H := Lib.hid h
  have HL := Lib.hid (rest_link hlk h.ring.ok n x)
  clear hs h hlk
  refine post fun R hR => ?_
  go_enter Try.func33, Try.ntmps33
  go_wp2_with (fail)
  refine HS.out.mono ?_
  rintro e w2 ⟨rfl, hp, hA⟩
  have HX := Lib.hid (H.out.ringed hp hA (Nat.le_succ K))
  have HP := Lib.hid (hp.mono fun x hx => .inl (H.out.zr x hx))
  clear hp hA
  go_wp2_with (fail)
  exact hR.out _ _ ⟨rfl, HP.out, HL.out, _, _, HX.out⟩

theorem info_item : (Try.prog.info? 74).map (fun i => (i.zero, i.size, i.bytes)) = some (some (.agg #[i64 0, i64 0, i64 0, .string ⟨#[]⟩, i64 0]), 5, 48) := by kernel_rfl
set_option maxRecDepth 100000 in
set_option maxHeartbeats 400000 in
theorem iclone_c {v : Value} {l : List It} (h : Sub w 0 74 5 v l.length (ics l)) (hlen : l.length ≤ 1000) :
    Calls Try.prog 61 #[v] w fun e w' => ∃ v', e = .returned v' ∧ Sub w' w.heap.size 74 5 v' l.length (ics l) ∧ Upd [] w w' := by
  obtain ⟨i0, hi, hz0, hz1, hz2⟩ := info_parts info_item
  rcases h.2 with ⟨rfl, hn⟩ | ⟨g, off, cap, cs, rfl, h2, h3, h4, h5, h6, h7⟩
  · obtain rfl : l = [] := List.eq_nil_of_length_eq_zero hn
    clear h
    have hq := Lib.run_eql_slice_nil (P := Try.prog) w _ _ none 0 0 0 0 Try.underlying60
    refine post fun R hR => ?_
    go_enter Try.func61, Try.ntmps61
    go_wp2_with fail
    exact hR.out _ _ ⟨_, rfl, sub_nil _ _ _ _, Upd.refl _ _⟩
  · have hsrc := Sub.src (h.upd0 ((Upd.refl [] w).alloc (.cells #[] 74)))
    have HL1 := Lib.hid (ics_one l)
    have HLN := Lib.hid (ics_len l)
    have HSRC := Lib.hid hsrc
    have hnew : Sub (w.alloc (.cells #[] 74)) w.heap.size 74 5 (.slice (some ⟨w.heap.size, 0, none⟩) 0 0) 0 [] :=
      ⟨rfl, .inr ⟨w.heap.size, 0, 0, #[], rfl, Nat.le_refl _, heap_alloc_new _ _, Nat.le_refl _, by unfold maxLen; omega, by simp, fun j hj => by omega⟩⟩
    have HNEW := Lib.hid hnew
    have hq := Lib.run_eql_slice_nil (P := Try.prog) w _ _ (some ⟨g, off, none⟩) l.length cap 0 0 Try.underlying60
    clear h hsrc h2 h3 h4 h5 h6 h7 hnew
    refine post fun R hR => ?_
    go_enter Try.func61, Try.ntmps61
    go_wp2_with (at_builtin; refine wpList_append_sub _ rfl _ _ 60 rfl w.heap.size 74 i0 _ 5 48 Try.underlying60 hi hz0 hz1 hz2 rfl (by decide) (.slice (some ⟨w.heap.size, 0, none⟩) 0 0) 0 [] rfl HNEW.out _ l.length cap (ics l) rfl HSRC.out HLN.out HL1.out (by unfold maxLen; omega) (by omega) (by simp) ?_; intro ao' cap2 w2 hs2 hu2 hb2; rw [Nat.zero_add, List.nil_append] at hs2; have hu3 : Upd [] w w2 := ((Upd.refl [] w).alloc _).trans hu2 (by intro x hx; have hx2 : x = w.heap.size := (by simpa [blkL] using hx); exact .inr (Nat.le_of_eq hx2.symm)); have HS2 := Lib.hid hs2; have HU3 := Lib.hid hu3; clear hs2 hu2 hb2 hu3)
    refine hR.out _ _ ⟨_, ?_, HS2.out, HU3.out⟩
    first | rfl | (rw [Nat.zero_add]; rfl) | simp

theorem fitems_c (h : FwAt w Z b K r its) (hK : K ≤ 900) (n : Int) : Calls Try.prog 49 #[.pointer (some ⟨b, 0, none⟩), i64 n] w fun e w' => ∃ v, e = .returned v ∧ Sub w' w.heap.size 74 5 v (rowI its n).length (ics (rowI its n)) ∧ Upd [] w w' := by
  obtain ⟨hlk, Zr, tv, h⟩ := h
  obtain ⟨hs, hl⟩ := h.rowS n
  have hr := frow_c h n
  have hc := iclone_c hs (by omega)
  obtain ⟨ao, cap, hv, -⟩ := hs.form
  rw [hv] at hr hc
  have HR := Lib.hid hr
  have HC := Lib.hid hc
  clear h hr hs hv hc
  generalize (rowI its n).length = L at *
  generalize ics (rowI its n) = xs at *
  refine post fun R hR => ?_
  go_enter Try.func49, Try.ntmps49
  go_wp2_with (fail)
  refine HR.out.mono ?_
  rintro e w2 ⟨rfl, rfl⟩
  go_wp2_with (fail)
  refine HC.out.mono ?_
  rintro e w2 ⟨v, rfl, hs, hu⟩
  obtain ⟨ao2, cap2, rfl, -⟩ := hs.form
  have HS := Lib.hid hs
  have HU := Lib.hid hu
  clear hs hu
  go_wp2_with (fail)
  exact hR.out _ _ ⟨_, rfl, HS.out, HU.out⟩

def sumC : List It → Int
  | [] => 0
  | x :: l => x.cost + sumC l
theorem sumC_snoc : ∀ (l : List It) (x : It), sumC (l ++ [x]) = sumC l + x.cost
  | [], x => by simp [sumC]
  | y :: l, x => by simp only [List.cons_append, sumC, sumC_snoc l x]; omega
theorem sumC_bd : ∀ (l : List It), 0 ≤ sumC l ∧ sumC l ≤ l.length * 1040
  | [] => by simp [sumC]
  | x :: l => by
    have h1 := x.cost_bd
    have h2 := sumC_bd l
    simp only [sumC, List.length_cons]
    omega

set_option maxRecDepth 100000 in
set_option maxHeartbeats 1000000 in
theorem fcost_c (h : FwAt w Z b K r its) (hK : K ≤ 900) (hg : ∀ j, j < 9 → ∀ x ∈ its j, x.b.size ≤ maxLen) (n : Int) : Calls Try.prog 47 #[.pointer (some ⟨b, 0, none⟩), i64 n] w fun e w' => e = .returned (i64 (sumC (rowI its n))) ∧ Upd [] w w' := by
  obtain ⟨hlk, Zr, tv, h⟩ := h
  obtain ⟨hs, hl⟩ := h.rowS n
  have hr := frow_c h n
  have hgi : ∀ x ∈ rowI its n, x.b.size ≤ maxLen := by
    unfold rowI
    split
    · exact hg _ (by omega)
    · intro x hx; cases hx
  generalize rowI its n = L at *
  obtain ⟨ao, cap, hv, hcap, hrow⟩ := hs.form
  rw [hv] at hr hs
  have HR := Lib.hid hr
  have HS := Lib.hid hs
  have HG := Lib.hid hgi
  clear h hr hs hv hg hgi
  by_cases h0 : L.length = 0
  · obtain rfl : L = [] := List.eq_nil_of_length_eq_zero h0
    clear hrow
    refine post fun R hR => ?_
    go_enter Try.func47, Try.ntmps47
    go_wp2_with (fail)
    refine HR.out.mono ?_
    rintro e w2 ⟨rfl, rfl⟩
    go_wp2_with (fail)
    refine wp_loop_once ?_
    go_wp2_with (fail)
    exact hR.out _ _ ⟨rfl, Upd.refl _ _⟩
  · obtain ⟨g, off, rfl, -, hgl, -⟩ := hrow (by omega)
    refine post fun R hR => ?_
    go_enter Try.func47, Try.ntmps47
    go_wp2_with (fail)
    refine HR.out.mono ?_
    rintro e w2 ⟨rfl, rfl⟩
    go_wp2_with (fail)
    go_loopw [5, 12] (fun s i wr => ∃ k : Nat, i = i64 k ∧ k ≤ L.length ∧ s = i64 (sumC (L.take k)) ∧ Upd [] w wr) (fun _ i _ => L.length - (intOf i).toNat)
    case atStart => exact ⟨0, rfl, Nat.zero_le _, rfl, Upd.refl _ _⟩
    case round =>
      obtain ⟨k, rfl, hk, rfl, hu⟩ := hrel
      obtain ⟨b1, b2⟩ := sumC_bd (L.take k)
      have hl2 : (L.take k).length ≤ k := List.length_take_le _ _
      by_cases hlt : k < L.length
      · obtain ⟨c0, c1, c2, c3, c4⟩ := its_get (HS.out.upd0 hu) hlt rfl
        have hsn : sumC (L.take (k + 1)) = sumC (L.take k) + L[k].cost := by rw [List.take_succ_eq_append_getElem hlt, sumC_snoc]
        have hgk := HG.out _ (List.getElem_mem hlt)
        have hcb := L[k].cost_bd
        obtain ⟨q1, q2⟩ := hcb
        have hic := fun w' => icost_c L[k] w' hgk
        have HSN := Lib.hid hsn
        have HIC := Lib.hid hic
        have HU := Lib.hid hu
        have hgw : g < wr.heap.size := Nat.lt_of_lt_of_le hgl hu.size
        clear hsn hgk hic hu
        generalize sumC (L.take k) = s at *
        generalize L[k] = x at *
        generalize hxc : x.cost = xc at *
        clear hxc
        go_wp2_with (fail)
        refine (HIC.out _).mono ?_
        rintro e w3 ⟨rfl, hu3⟩
        have HU3 := Lib.hid ((HU.out.alloc _).trans' hu3)
        clear hu3
        go_wp2_with (fail)
        go_roundw
        case rel => exact ⟨k + 1, by go_num, by omega, by rw [HSN.out], HU3.out⟩
        case measure => simp [intOf]; omega
      · have e : k = L.length := by omega
        have he : sumC (L.take k) = sumC L := by rw [e, List.take_length]
        have HE := Lib.hid he
        clear he
        go_wp2_with (fail)
        exact hR.out _ _ ⟨by rw [← HE.out]; rfl, hu⟩
end
end Go.Proofs.Ytabhdigannalgaa
