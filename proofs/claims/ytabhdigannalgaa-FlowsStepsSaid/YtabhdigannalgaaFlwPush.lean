/-
  The contract of flows' Push. Condition: they are flows that their own functions made, by some hundred steps at most.
-/
import Derived.Test.YtabhdigannalgaaFlwRead
import Derived.Deep.RegionLaw
namespace Go.Proofs.Ytabhdigannalgaa
open Go Go.RowKit Go.Maps

def pushI (r : Rg) (its : Nat → List It) (n : Int) (x : It) : Nat → List It := if r.fl n = none then its else updN its n.toNat (its n.toNat ++ [x])
theorem push_link {its : Nat → List It} {r : Rg} (h : Linked r its) (hok : r.ok) (n : Int) (x : It) : Linked (r.push n x.cost) (pushI r its n x) := by
  have hc := x.cost_bd
  unfold Rg.push pushI
  rw [if_neg (by omega)]
  cases hf : r.fl n with
  | none => simp only [if_true]; exact h
  | some f =>
    have hn := hok.rng n f hf
    obtain ⟨m, rfl⟩ : ∃ m : Nat, n = m := ⟨n.toNat, by omega⟩
    simp only [if_neg (show ¬ some f = none from fun e => by cases e), Int.toNat_natCast]
    exact settle_link h m (by rw [(h m (by omega)).2 f hf, List.map_append]; rfl)
section
variable {w : World} {Z : Nat → Prop} {b K : Nat} {r : Rg} {its : Nat → List It}

set_option maxRecDepth 100000 in
set_option maxHeartbeats 4000000 in
theorem fpush_c (h : FwAt w Z b K r its) (hK : K ≤ 900) {n : Int} (hn : inI n) (x : It) (hb : x.b.size ≤ maxLen) :
    Calls Try.prog 34 #[.pointer (some ⟨b, 0, none⟩), i64 n, iv x] w fun e w' => e = .returned (i64 (r.pushE n x.cost)) ∧ UpdP Z w w' ∧ FwAt w' (grow Z w) b (K + 1) (r.push n x.cost) (pushI r its n x) := by
  have hok := h.ok
  obtain ⟨hlk, Zr, tv, hX⟩ := h
  have hlk2 := push_link hlk hok n x
  obtain ⟨i0, hi, hz0, hz1, hz2⟩ := info_parts info_item
  have hA := heap_alloc_new w (.cells #[i64 x.c, i64 x.k, i64 x.f, .string x.b, i64 x.a] 74)
  have hu := (Upd.refl [] w).alloc (.cells #[i64 x.c, i64 x.k, i64 x.f, .string x.b, i64 x.a] 74)
  have hX1 := (hX.cut).upd (w' := w.alloc (.cells #[i64 x.c, i64 x.k, i64 x.f, .string x.b, i64 x.a] 74)) hu (by simp)
  have hic := fun w' => icost_c x w' hb
  obtain ⟨A, hAe⟩ : ∃ A, A = w.heap.size := ⟨_, rfl⟩
  rw [← hAe] at hA
  have hAZ : ¬ cutZ Zr w A := fun q => by have := q.2; omega
  have hcu : ∀ y, grow (cutZ Z w) (w.alloc (.cells #[i64 x.c, i64 x.k, i64 x.f, .string x.b, i64 x.a] 74)) y → grow Z w y := fun y q => q.imp (fun q => q.1) (fun q => Nat.le_trans hu.size q)
  have HCU := Lib.hid hcu
  have HX1 := Lib.hid hX1
  have HA := Lib.hid hA
  have HU := Lib.hid hu
  have HLK := Lib.hid hlk2
  have HZR := Lib.hid hX.zr
  have HLEN := Lib.hid hX.len
  have hcb := x.cost_bd
  have hpe : r.pushE n x.cost = if r.fl n = none then 12 else 0 := by unfold Rg.pushE; rw [if_neg (by omega)]
  have HAW := Lib.hid (Nat.le_of_eq hAe.symm)
  clear hX hlk hlk2 hA hu hX1 hcu
  generalize hxc : x.cost = xc at *
  generalize hE : r.pushE n xc = E at *
  have HE := Lib.hid hpe
  have HE2 := Lib.hid hE
  clear hpe hE
  refine post fun R hR => ?_
  go_enter Try.func34, Try.ntmps34
  go_upto_region 3 with (fail)
  rw [← hAe]
  have hA := HA.out
  have hX1 := HX1.out
  have hu := HU.out
  have HCU2 := HCU
  clear hAe HA HX1 HU HCU hxc
  generalize w.alloc (.cells #[i64 x.c, i64 x.k, i64 x.f, .string x.b, i64 x.a] 74) = w1 at *
  obtain ⟨a0, a1, a2, a3, a4, -⟩ := cells5 hA
  have hco : ∀ w', Upd [] w1 w' → Calls Try.prog 62 #[.agg #[i64 x.c, i64 x.k, i64 x.f, .string x.b, i64 x.a]] w' fun e w'' => e = .returned (i64 xc) ∧ w''.cell? ⟨A, 0, none⟩ = some (i64 x.c) ∧ w''.cell? ⟨A, 1, none⟩ = some (i64 x.k) ∧ w''.cell? ⟨A, 2, none⟩ = some (i64 x.f) ∧ w''.cell? ⟨A, 3, none⟩ = some (.string x.b) ∧ w''.cell? ⟨A, 4, none⟩ = some (i64 x.a) ∧ Upd [] w1 w'' := fun w' hu => by
    refine (hic w').mono ?_
    rintro e w'' ⟨rfl, h2⟩
    obtain ⟨k0, k1, k2, k3, k4, -⟩ := cells5 ((hu.trans' h2).keep0 hA)
    exact ⟨rfl, k0, k1, k2, k3, k4, hu.trans' h2⟩
  have hpu : ∀ w', Upd [] w1 w' → Calls Try.prog 12 #[.pointer (some ⟨b, 0, none⟩), i64 n, i64 xc] w' fun e w'' => e = .returned (i64 E) ∧ w''.cell? ⟨A, 0, none⟩ = some (i64 x.c) ∧ w''.cell? ⟨A, 1, none⟩ = some (i64 x.k) ∧ w''.cell? ⟨A, 2, none⟩ = some (i64 x.f) ∧ w''.cell? ⟨A, 3, none⟩ = some (.string x.b) ∧ w''.cell? ⟨A, 4, none⟩ = some (i64 x.a) ∧
      w''.heap[A]? = some (.cells #[i64 x.c, i64 x.k, i64 x.f, .string x.b, i64 x.a] 74 (0, 0)) ∧ UpdP (cutZ Zr w) w1 w'' ∧ FwX w'' (grow (cutZ Z w) w1) (grow (cutZ Zr w) w1) b (K + 1) (r.push n xc) its tv := fun w' hu => by
    refine (ring_push_c (hX1.ring.upd0 hu) hK hn xc).mono ?_
    rintro e w'' ⟨rfl, hp, hr⟩
    have hp2 : UpdP (cutZ Zr w) w1 w'' := (UpdP.of0 hu).trans hp (fun y q => .inl q)
    have hA2 := hp2.keep hA hAZ
    obtain ⟨k0, k1, k2, k3, k4, -⟩ := cells5 hA2
    exact ⟨by rw [HE2.out], k0, k1, k2, k3, k4, hA2, hp2, hX1.ringed hp2 (hr.more (fun y q => q.imp id (Nat.le_trans hu.size)) (Nat.le_refl _)) (Nat.le_succ K)⟩
  have HCO := Lib.hid hco
  have HPU := Lib.hid hpu
  have HUU := Lib.hid hu
  have HXX := Lib.hid hX1
  clear hco hpu hA hX1 hu hic
  go_region_held3 (fun w' => w'.cell? ⟨A, 0, none⟩ = some (i64 x.c) ∧ w'.cell? ⟨A, 1, none⟩ = some (i64 x.k) ∧ w'.cell? ⟨A, 2, none⟩ = some (i64 x.f) ∧ w'.cell? ⟨A, 3, none⟩ = some (.string x.b) ∧ w'.cell? ⟨A, 4, none⟩ = some (i64 x.a))
    ((first | exact ⟨a0, a1, a2, a3, a4⟩ | exact ⟨j0, j1, j2, j3, j4⟩ | exact ⟨k0, k1, k2, k3, k4⟩))
    ((first
      | (go_at_call 62; (with_reducible refine Calls.mono (HCO.out _ (by first | exact Upd.refl _ _ | exact (Upd.refl _ _).drew)) ?_); rintro e w2 ⟨rfl, j0, j1, j2, j3, j4, jU⟩)
      | (go_at_call 12; (with_reducible refine Calls.mono (HPU.out _ jU) ?_); rintro e w3 ⟨rfl, k0, k1, k2, k3, k4, kA, kp, kX⟩)))
  rename_i hHeld
  have HA3 := Lib.hid kA
  have HP3 := Lib.hid kp
  have HX3 := Lib.hid kX
  clear hHeld a0 a1 a2 a3 a4 j0 j1 j2 j3 j4 jU k0 k1 k2 k3 k4 kA kp kX HCO HPU HXX
  by_cases hf : r.fl n = none
  · have he := HE.out
    rw [if_pos hf] at he
    have hI : pushI r its n x = its := by unfold pushI; rw [if_pos hf]
    have HI := Lib.hid hI
    have hne : (E != 0) = true := by rw [he]; rfl
    clear he hI hf
    go_wp2_with (fail)
    refine hR.out _ _ ⟨rfl, (UpdP.of0 HUU.out).trans HP3.out (fun y q => .inl (HZR.out y q.1)), ?_⟩
    have hlk := HLK.out
    rw [HI.out] at hlk ⊢
    exact ⟨hlk, _, _, HX3.out.mono HCU2.out (Nat.le_refl _)⟩
  · have he := HE.out
    rw [if_neg hf] at he
    obtain ⟨f, hff⟩ : ∃ f, r.fl n = some f := by
      cases h : r.fl n with
      | none => exact (hf h).elim
      | some f => exact ⟨f, rfl⟩
    have hnr := hok.rng n f hff
    obtain ⟨m, rfl⟩ : ∃ m : Nat, n = m := ⟨n.toNat, by omega⟩
    have hm : m < 9 := by omega
    have hm9 : (m : Int) < 9 := by omega
    have hI : pushI r its m x = updN its m (its m ++ [x]) := by unfold pushI; rw [if_neg hf]; rfl
    have HI := Lib.hid hI
    have hne : (E != 0) = false := by rw [he]; rfl
    have hE0 : i64 E = i64 0 := by rw [he]
    have HE0 := Lib.hid hE0
    have hrow := HX3.out.row m hm
    have hlr := HX3.out.len m hm
    obtain ⟨ao, cap, hv, hcap, -⟩ := hrow.form
    obtain ⟨c0, -⟩ := HX3.out.ring.cells m
    rw [tvl_get tv hm] at c0
    obtain ⟨cs, hcs⟩ := HX3.out.ring.ty
    have hcm : cs[2 + m]? = some (tv m) := by rw [← cellOf hcs]; exact c0
    have hbt : b ∉ blkL (tv m) := fun q => (HX3.out.zi m hm b q).2 HX3.out.ring.zb
    rw [hv] at hrow hcm c0 hbt
    have hxs : ics (its m) ++ [i64 x.c, i64 x.k, i64 x.f, .string x.b, i64 x.a] = ics (its m ++ [x]) := by rw [ics_append]; rfl
    have hmx : (its m).length + 1 ≤ maxLen := by unfold maxLen; omega
    have hmb : ((its m).length + 1) * 48 ≤ 140737488355328 := by omega
    have HROW := Lib.hid hrow
    have HV := Lib.hid hv
    have HCS := Lib.hid hcs
    have HCM := Lib.hid hcm
    have HBT := Lib.hid hbt
    have HXS := Lib.hid hxs
    have HMX := Lib.hid hmx
    have HMB := Lib.hid hmb
    obtain ⟨a0, a1, a2, a3, a4, -⟩ := cells5 HA3.out
    have sA := lt_of_heap HA3.out
    have sb := lt_of_heap hcs
    have HLL := Lib.hid hlr
    clear he hI hf hff hnr hrow hv hcs hcm hbt hxs hmx hmb hlr
    generalize hL : (its m).length = L at *
    have HL := Lib.hid hL
    clear hL
    go_wp2_with (fail)
    go_region_law ((refine step_plain rfl (wp_append_sub _ _ 60 rfl 0 74 i0 _ 5 48 Try.underlying60 hi hz0 hz1 hz2 rfl (by decide) (.slice ao L cap) L _ rfl (HROW.out.upd0 (by repeat' (first | exact Upd.refl _ _ | apply Upd.drew | apply Upd.alloc))) _ 1 1 [i64 x.c, i64 x.k, i64 x.f, .string x.b, i64 x.a] rfl (src_block (by first | exact heap_alloc_new _ _ | exact heap_drew (heap_alloc_new _ _)) 1 1) rfl (by intro u hu; simp at hu; rcases hu with rfl | rfl | rfl | rfl | rfl <;> rfl) HMX.out HMB.out (Nat.zero_le _) ?_); intro ao' cap' w5 hs5 hu5 hb5; rw [HXS.out] at hs5; have hux : Upd (blkL (.slice ao L cap)) w3 w5 := hu5.trans2 (by repeat' (first | exact Upd.refl _ _ | apply Upd.drew | apply Upd.alloc)); have hc5 := hux.keep HCS.out HBT.out; have q1 := (cellOf hc5 (2 + m)).trans HCM.out; have q2 := frzOf hc5 (2 + m); have HS5 := Lib.hid hs5; have HUX := Lib.hid hux; have HB5 := Lib.hid (hb5.imp id (fun ⟨g, h1, h2⟩ => ⟨g, h1, Nat.le_trans (by simp) h2⟩) : blkL (.slice ao' (L + 1) cap') = blkL (.slice ao L cap) ∨ ∃ g, blkL (.slice ao' (L + 1) cap') = [g] ∧ w3.heap.size ≤ g); clear hs5 hu5 hb5 hux hc5))
    all_goals
      go_wp2_with (fail)
      have hll : (its m ++ [x]).length = L + 1 := by rw [List.length_append, HL.out]; rfl
      have hfin := HX3.out.rowed hm HUX.out (fun y hy => .inl (by rw [HV.out]; exact hy)) (v := .slice ao' (L + 1) cap') (l := its m ++ [x]) (K' := K + 1) (by rw [hll]; exact HS5.out)
        (fun y hy => by
          rw [HV.out]
          rcases HB5.out with e | ⟨g, e, hg⟩
          · exact .inl (e ▸ hy)
          · rw [e] at hy; have := List.mem_singleton.1 hy; exact .inr (by omega)) (Nat.le_refl _) (by have := HLEN.out m hm; rw [hll]; have := HL.out; omega)
      have hw3 : w.heap.size ≤ w3.heap.size := Nat.le_trans HUU.out.size HP3.out.size
      refine hR.out _ _ ⟨by rw [HE0.out]; rfl, ((UpdP.of0 HUU.out).trans HP3.out (fun y q => .inl (HZR.out y q.1))).trans hfin.2 (fun y q => HCU2.out y q), ?_⟩
      have hlk := HLK.out
      rw [HI.out] at hlk ⊢
      exact ⟨hlk, _, _, hfin.1.mono (fun y q => q.elim (HCU2.out y) (fun q => .inr (Nat.le_trans hw3 q))) (Nat.le_refl _)⟩
end
end Go.Proofs.Ytabhdigannalgaa
