/-
  The contract of flows' Drop. Condition: they are flows that their own functions made, by some hundred steps at most.
-/
import Derived.Test.YtabhdigannalgaaFlwNext
namespace Go.Proofs.Ytabhdigannalgaa
open Go Go.RowKit Go.Maps

/-- clear(s) of elements of any size: its cells are written -/
theorem run_clear_any {P : Program} (w : World) (t e ty : TypeId) (z : Value) (size : Nat) (ht : P.underlying t = some (.slice e)) (hv : ∀ w, (zeroValue e).run P w = .ok z w) (hz : z.cells.size = size) (h1 : ∀ u ∈ z.cells.toList, u.oneCell' = true) (hs : 0 < size) (b o n c : Nat) (hn : 0 < n)
    (hc : ∀ j, j < n * size → (w.cell? ⟨b, o + j, none⟩).isSome = true) (hf : ∀ j, j < n * size → w.frozen? ⟨b, o + j, none⟩ = false) :
    (Builtin.zeroCells z.cells n).toList.length = n * size ∧ (Builtin.clear_ #[t] ty #[.slice (some ⟨b, o, none⟩) n c]).run P w = .ok (.tuple #[]) (w.setCells b o (Builtin.zeroCells z.cells n).toList) := by
  have hlen : (Builtin.zeroCells z.cells n).toList.length = n * size := by simp [Builtin.zeroCells, hz]
  have hone : ∀ u ∈ (Builtin.zeroCells z.cells n).toList, u.oneCell' = true := by
    intro u hu
    simp only [Builtin.zeroCells, Array.toList_map, List.mem_map] at hu
    obtain ⟨i, _, rfl⟩ := hu
    have hlt : i % z.cells.size < z.cells.size := Nat.mod_lt _ (by omega)
    rw [getElem!_pos z.cells _ hlt]
    exact h1 _ (by simp)
  have hst := run_storeCells_cells (P := P) b o (Builtin.zeroCells z.cells n).toList 0 w (by rw [hlen]; simpa using hc) (by rw [hlen]; simpa using hf) hone
  simp only [Nat.add_zero] at hst
  obtain ⟨m, rfl⟩ : ∃ m, n = m + 1 := ⟨n - 1, by omega⟩
  exact ⟨hlen, by simp [Builtin.clear_, run_underlying ht, hv, hst]⟩
theorem run_clear_none {P : Program} (w : World) (t e ty : TypeId) (ht : P.underlying t = some (.slice e)) (ao : Option Addr) (c : Nat) :
    (Builtin.clear_ #[t] ty #[.slice ao 0 c]).run P w = .ok (.tuple #[]) w := by
  cases ao <;> simp [Builtin.clear_, run_underlying ht]

def dropI (its : Nat → List It) (n : Int) : Nat → List It := if 0 ≤ n ∧ n ≤ 8 then updN its n.toNat [] else its
theorem drop_link {its : Nat → List It} {r : Rg} (h : Linked r its) (hok : r.ok) (n : Int) : Linked (r.drop n) (dropI its n) := by
  unfold Rg.drop dropI
  by_cases hn : 0 ≤ n ∧ n ≤ 8
  · rw [if_pos hn]
    obtain ⟨m, rfl⟩ : ∃ m : Nat, n = m := ⟨n.toNat, by omega⟩
    rw [Int.toNat_natCast]
    by_cases hf : r.fl m = none
    · rw [if_pos hf]
      intro j hj
      by_cases e : j = m
      · subst e; rw [updN_same]; exact ⟨fun _ => rfl, fun f q => by rw [hf] at q; cases q⟩
      · rw [updN_other _ _ e]; exact h j hj
    · rw [if_neg hf]
      intro j hj
      by_cases e : j = m
      · subst e; rw [updN_same]
        rw [show (Rg.mk (r.put j none) (offR j r.row)).fl j = none from Rg.put_same _ _ _]
        exact ⟨fun _ => rfl, fun f q => by cases q⟩
      · rw [updN_other _ _ e]
        rw [show (Rg.mk (r.put m none) (offR m r.row)).fl j = r.fl j from Rg.put_other _ _ (by omega)]
        exact h j hj
  · rw [if_neg hn]
    have hf : r.fl n = none := by
      cases hq : r.fl n with
      | none => rfl
      | some f => exact (hn (hok.rng n f hq)).elim
    rw [if_pos hf]; exact h
theorem drop_out {r : Rg} (hok : r.ok) {n : Int} (hn : ¬ (0 ≤ n ∧ n ≤ 8)) : r.drop n = r := by
  unfold Rg.drop
  rw [if_pos]
  cases hq : r.fl n with
  | none => rfl
  | some f => exact (hn (hok.rng n f hq)).elim
theorem zero_item (w : World) : (zeroValue 74).run Try.prog w = .ok (.agg #[i64 0, i64 0, i64 0, .string ⟨#[]⟩, i64 0]) w := by kernel_rfl

section
variable {w : World} {Z : Nat → Prop} {b K : Nat} {r : Rg} {its : Nat → List It}

set_option maxRecDepth 100000 in
set_option maxHeartbeats 4000000 in
theorem fdrop_c (h : FwAt w Z b K r its) (hK : K ≤ 900) {n : Int} (hn : inI n) :
    Calls Try.prog 32 #[.pointer (some ⟨b, 0, none⟩), i64 n] w fun e w' => ∃ v, e = .returned v ∧ Sub w' w.heap.size 74 5 v (rowI its n).length (ics (rowI its n)) ∧ UpdP Z w w' ∧ FwAt w' (grow Z w) b (K + 1) (r.drop n) (dropI its n) := by
  have hok := h.ok
  obtain ⟨hlk, Zr, tv, hX⟩ := h
  have hlk2 := drop_link hlk hok n
  have hr := frow_c hX n
  obtain ⟨hs, hl⟩ := hX.rowS n
  by_cases hin : 0 ≤ n ∧ n ≤ 8
  · obtain ⟨m, rfl⟩ : ∃ m : Nat, n = m := ⟨n.toNat, by omega⟩
    have hm : m < 9 := by omega
    have hm9 : (m : Int) < 9 := by omega
    have hI : dropI its m = updN its m [] := by unfold dropI; rw [if_pos hin]; rfl
    have hrv : rowV tv m = tv m := by unfold rowV; rw [if_pos hin]; rfl
    have hri : rowI its m = its m := by unfold rowI; rw [if_pos hin]; rfl
    rw [hri] at hs hl
    rw [hrv] at hr hs
    have hX1 := hX.cut
    obtain ⟨ao, cap, hv, hcap, hrw⟩ := hs.form
    have hcl := iclone_c hs (by omega)
    rw [hv] at hr hcl
    have HR := Lib.hid hr
    have HCL := Lib.hid hcl
    have HX1 := Lib.hid hX1
    have HV := Lib.hid hv
    have HI := Lib.hid hI
    have HRI := Lib.hid hri
    have HLK2 := Lib.hid hlk2
    have HZR := Lib.hid hX.zr
    have hcz : ∀ y, cutZ Z w y → Z y := fun y q => q.1
    clear hr hcl hX1 hI hri hrv hlk hlk2 hs hX hok
    generalize hLe : (its m).length = L at *
    have HLE := Lib.hid hLe
    clear hLe
    refine post fun R hR => ?_
    go_enter Try.func32, Try.ntmps32
    go_wp2_with (fail)
    refine HR.out.mono ?_
    rintro e w1 ⟨rfl, rfl⟩
    go_wp2_with (fail)
    refine HCL.out.mono ?_
    rintro e w2 ⟨v, rfl, hs2, hu2⟩
    obtain ⟨aov, capv, rfl, -⟩ := hs2.form
    have HS2 := Lib.hid hs2
    have HX2 := Lib.hid (HX1.out.upd hu2 (by simp))
    have HU2 := Lib.hid hu2
    have hdc := ring_drop_c HX2.out.ring hK hn
    have HDC := Lib.hid hdc
    clear hs2 hu2 hdc HX1
    go_wp2_with (fail)
    refine HDC.out.mono ?_
    rintro e w3 ⟨rfl, hp, hrg⟩
    have HX3 := Lib.hid (HX2.out.ringed hp hrg (Nat.le_succ K))
    have HP3 := Lib.hid ((UpdP.of0 HU2.out).trans hp (fun y q => .inl (HZR.out y q.1)) : UpdP Z w w3)
    have HS3 : Hid (Sub w3 w.heap.size 74 5 (.slice aov L capv) L (ics (its m))) := Lib.hid (by
      obtain ⟨S, hu, hS⟩ := hp
      refine HS2.out.upd hu fun x hx hxm => ?_
      have h1 := (HS2.out.lt x hx)
      rcases hS x hxm with q | q
      · have := q.2; omega
      · omega)
    have hsz23 := hp.size
    clear hp hrg HDC HS2 HX2
    have hrow3 := HX3.out.row m hm
    rw [HV.out, HLE.out] at hrow3
    have hbz : b < w3.heap.size := HX3.out.ring.lt
    obtain ⟨hb0, hbf⟩ := HX3.out.ring.cells m
    rw [tvl_get tv hm, HV.out] at hb0
    have hbt : b ∉ blkL (tv m) := fun q => (HX3.out.zi m hm b q).2 HX3.out.ring.zb
    rw [HV.out] at hbt
    by_cases hL0 : L = 0
    · subst hL0
      have hcr := fun (wx : World) (ty : TypeId) => run_clear_none (P := Try.prog) wx 60 74 ty Try.underlying60 ao cap
      have hfin := HX3.out.rowed hm (Upd.refl [] w3) (fun y hy => by cases hy) (v := .slice none 0 0) (l := []) (K' := K + 1) (sub_nil _ _ _ _) (fun y hy => by simp [blkL] at hy) (Nat.le_refl _) (Nat.zero_le _)
      have HFIN := Lib.hid hfin
      clear hfin
      go_wp2_with (fail)
      have hs4 := HS3.out.upd (Upd.refl [] w3) (fun x _ hm => by cases hm)
      have hs5 := hs4.upd ((Upd.refl [b] w3).setCell (p := ⟨b, 2 + m, none⟩) (by simp) (.slice none 0 0)) (fun x hx hm => by
        have := List.mem_singleton.1 hm; subst this
        obtain ⟨cb, hcb⟩ := HX3.out.ring.ty
        obtain ⟨cx, hcx⟩ := HS3.out.ty x hx
        exact cells_ne hcb hcx (by decide) rfl)
      refine hR.out _ _ ⟨_, rfl, ?_, HP3.out.trans HFIN.out.2 (fun y q => q.elim (fun q => .inl (hcz y q)) (fun q => .inr (Nat.le_trans HU2.out.size q))), ?_⟩
      · rw [HRI.out, HLE.out]; exact hs5
      · rw [HI.out] 
        have hlk := HLK2.out
        rw [HI.out] at hlk
        exact ⟨hlk, _, _, HFIN.out.1.mono (fun y q => q.elim (fun q => q.elim (fun q => .inl (hcz y q)) (fun q => .inr (Nat.le_trans HU2.out.size q))) (fun q => .inr (by have := HU2.out.size; omega))) (Nat.le_refl _)⟩
    · obtain ⟨g, off, rfl, -, hgl, hcell⟩ := hrw (by omega)
      have hcel2 : ∀ j, j < L * 5 → (w3.cell? ⟨g, off + j, none⟩).isSome = true := fun j hj => by
        obtain ⟨ao', cap', he', -, hh⟩ := hrow3.form
        obtain ⟨g', off', e', -, -, hc'⟩ := hh (by omega)
        injection he' with e1 _ _
        rw [e'] at e1
        injection e1 with e1
        injection e1 with e2 e3
        subst e2; subst e3
        have hlj : j < (ics (its m)).length := by rw [ics_len, HLE.out]; exact hj
        rw [hc' j _ (List.getElem?_eq_getElem hlj)]; rfl
      have hfr : ∀ j, j < L * 5 → w3.frozen? ⟨g, off + j, none⟩ = false := fun j hj => by
        obtain ⟨cs, hc⟩ := hrow3.ty g (by simp [blkL])
        exact frzOf hc _
      obtain ⟨cs3, hcs3, hcz3⟩ : ∃ cs3, w3.heap[g]? = some (.cells cs3 74 (0, 0)) ∧ off + L * 5 ≤ cs3.size := by
        rcases hrow3.2 with ⟨h, _⟩ | ⟨g', off', cap', cs, he, h2, h3, h4, h5, h6, h7⟩
        · cases h
        · injection he with e1 e2 e3
          injection e1 with e1
          injection e1 with e4 e5
          subst e4; subst e5; subst e3
          exact ⟨cs, h3, by omega⟩
      have hcr := fun (ty : TypeId) => run_clear_any (P := Try.prog) w3 60 74 ty _ 5 Try.underlying60 zero_item rfl (by decide) (by decide) g off L cap (by omega) hcel2 hfr
      generalize (Builtin.zeroCells (Value.agg #[i64 0, i64 0, i64 0, .string ⟨#[]⟩, i64 0]).cells L).toList = zs at *
      have hzl := (hcr 0).1
      have hcr2 := fun ty => (hcr ty).2
      have hsub3 : off + zs.length ≤ cs3.size := by rw [hzl]; exact hcz3
      obtain ⟨cs', k1, k2, -, -, hu4⟩ := heap_setCells w3 g off zs hcs3 hsub3
      generalize w3.setCells g off zs = w4 at *
      have hgb : b ≠ g := fun e => hbt (by simp [blkL, e])
      have hb4 : w4.cell? ⟨b, 2 + m, none⟩ = some (.slice (some ⟨g, off, none⟩) L cap) := (World.cell?_of_block (a := ⟨b, 2 + m, none⟩) (hu4.block b hbz (by simp; exact hgb))).trans hb0
      have hbf4 : w4.frozen? ⟨b, 2 + m, none⟩ = false := by
        obtain ⟨cb, hcb⟩ := HX3.out.ring.ty
        exact frzOf (hu4.keep hcb (by simp; exact hgb)) _
      have HU4 := Lib.hid hu4
      clear hcr hcel2 hfr hcs3 k1 k2 hu4 hzl hsub3 hcz3
      have hfin := HX3.out.rowed hm HU4.out (fun y hy => .inl (by have := List.mem_singleton.1 hy; rw [HV.out]; simp [blkL, this])) (v := .slice none 0 0) (l := []) (K' := K + 1) (sub_nil _ _ _ _) (fun y hy => by simp [blkL] at hy) (Nat.le_refl _) (Nat.zero_le _)
      have HFIN := Lib.hid hfin
      clear hfin
      go_wp2_with (fail)
      have hs4 := HS3.out.upd HU4.out (fun x hx hm => by have := List.mem_singleton.1 hm; have := (HS3.out.lt x hx).1; omega)
      have hs5 := hs4.upd ((Upd.refl [b] w4).setCell (p := ⟨b, 2 + m, none⟩) (by simp) (.slice none 0 0)) (fun x hx hm => by
        have := List.mem_singleton.1 hm; subst this
        obtain ⟨cb, hcb⟩ := HX3.out.ring.ty
        obtain ⟨cx, hcx⟩ := HS3.out.ty x hx
        exact cells_ne hcb hcx (by decide) rfl)
      refine hR.out _ _ ⟨_, rfl, ?_, HP3.out.trans HFIN.out.2 (fun y q => q.elim (fun q => .inl (hcz y q)) (fun q => .inr (Nat.le_trans HU2.out.size q))), ?_⟩
      · rw [HRI.out, HLE.out]; exact hs5
      · rw [HI.out] 
        have hlk := HLK2.out
        rw [HI.out] at hlk
        exact ⟨hlk, _, _, HFIN.out.1.mono (fun y q => q.elim (fun q => q.elim (fun q => .inl (hcz y q)) (fun q => .inr (Nat.le_trans HU2.out.size q))) (fun q => .inr (by have := HU2.out.size; omega))) (Nat.le_refl _)⟩
  · have hI : dropI its n = its := by unfold dropI; rw [if_neg hin]
    have hrv : rowV tv n = .slice none 0 0 := by unfold rowV; rw [if_neg hin]
    have hri : rowI its n = [] := by unfold rowI; rw [if_neg hin]
    have hdr := drop_out hok hin
    rw [hrv] at hr
    rw [hI] at hlk2
    have HR := Lib.hid hr
    have HF : Hid (FwAt w (grow Z w) b (K + 1) (r.drop n) its) := Lib.hid ⟨hlk2, Zr, tv, by rw [hdr]; exact hX.mono (grow_sub Z w) (Nat.le_succ K)⟩
    have HI := Lib.hid hI
    have HRI := Lib.hid hri
    clear hr hX hI hrv hri hdr hlk hlk2 hs hl hok
    by_cases h1 : n < 0
    · clear hin
      refine post fun R hR => ?_
      go_enter Try.func32, Try.ntmps32
      go_wp2_with (fail)
      refine HR.out.mono ?_
      rintro e w1 ⟨rfl, rfl⟩
      go_wp2_with (fail)
      exact hR.out _ _ ⟨_, rfl, by rw [HRI.out]; exact sub_nil _ _ _ _, UpdP.refl _ _, by rw [HI.out]; exact HF.out⟩
    · have h2 : 8 < n := by omega
      clear hin
      refine post fun R hR => ?_
      go_enter Try.func32, Try.ntmps32
      go_wp2_with (fail)
      refine HR.out.mono ?_
      rintro e w1 ⟨rfl, rfl⟩
      go_wp2_with (fail)
      exact hR.out _ _ ⟨_, rfl, by rw [HRI.out]; exact sub_nil _ _ _ _, UpdP.refl _ _, by rw [HI.out]; exact HF.out⟩
end
end Go.Proofs.Ytabhdigannalgaa
