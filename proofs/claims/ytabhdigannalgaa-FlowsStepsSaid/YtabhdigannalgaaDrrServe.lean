/-
  The contract of the ring's serve. Condition: the ring is one that its own functions made.
-/
import Derived.Test.YtabhdigannalgaaDrrPush
namespace Go.Proofs.Ytabhdigannalgaa
open Go Go.RowKit Go.Maps

/-- a slice without its first element -/
theorem Sub.tail1 {w : World} {base : Nat} {e : TypeId} {g off n cap : Nat} {x : Value} {xs : List Value} (h : Sub w base e 1 (.slice (some ⟨g, off, none⟩) (n + 1) cap) (n + 1) (x :: xs)) :
    Sub w base e 1 (.slice (some ⟨g, off + 1, none⟩) n (cap - 1)) n xs := by
  obtain ⟨hl, h⟩ := h
  rcases h with ⟨h, _⟩ | ⟨g', off', cap', cs, he, h2, h3, h4, h5, h6, h7⟩
  · cases h
  · injection he with e1 e2 e3
    injection e1 with e1
    injection e1 with e4 e5
    subst e4; subst e5; subst e3
    refine ⟨by simpa using hl, .inr ⟨g, off + 1, cap - 1, cs, rfl, h2, h3, by omega, by omega, by omega, fun j hj => ?_⟩⟩
    have := h7 (j + 1) (by omega)
    rw [show off + 1 + j = off + (j + 1) by omega, this]
    rfl
theorem Sub.none1 {w : World} {base : Nat} {e : TypeId} {g off n cap : Nat} {xs : List Value} (h : Sub w base e 1 (.slice (some ⟨g, off, none⟩) n cap) n xs) :
    Sub w base e 1 (.slice (some ⟨g, off, none⟩) 0 0) 0 [] := by
  obtain ⟨hl, h⟩ := h
  rcases h with ⟨h, _⟩ | ⟨g', off', cap', cs, he, h2, h3, h4, h5, h6, h7⟩
  · cases h
  · injection he with e1 e2 e3
    injection e1 with e1
    injection e1 with e4 e5
    subst e4; subst e5; subst e3
    exact ⟨rfl, .inr ⟨g, off, 0, cs, rfl, h2, h3, Nat.le_refl _, by omega, by omega, fun j hj => by omega⟩⟩

set_option maxRecDepth 100000 in
set_option maxHeartbeats 1000000 in
/-- a flow that has more costs stays -/
theorem dserveMore_c {w : World} {b F : Nat} {n q d c : Int} {cv : Value} {an : Bool} {k base2 : Nat} {xs : List Value} (hFl : FlAt w F n q d cv false an) (ho : Sub w base2 3 1 cv (k + 2) (i64 c :: xs)) (hk : k ≤ 1000) (hd : 1 ≤ c ∧ c ≤ d ∧ d ≤ 4194304) :
    Calls Try.prog 53 #[.pointer (some ⟨b, 0, none⟩), .pointer (some ⟨F, 0, none⟩)] w fun e w' => ∃ ao cap, e = .returned (i64 c) ∧ FlAt w' F n q (d - c) (.slice ao (k + 1) cap) false an ∧
      Sub w' base2 3 1 (.slice ao (k + 1) cap) (k + 1) xs ∧ Upd [F] w w' ∧ (∀ g ∈ blkL (.slice ao (k + 1) cap), g ∈ blkL cv) := by
  have hFv : F ∉ blkL cv := fun hm => by
    obtain ⟨cs, hc⟩ := ho.ty _ hm
    have hx := hFl.symm.trans hc; injection hx with hx; injection hx with _ hx; cases hx
  obtain ⟨p0, p1, p2, p3, p4, p5, y0, y1, y2, y3, y4, y5⟩ := cells6 hFl
  obtain ⟨ao, cap, rfl, hcap, hrow⟩ := ho.form
  obtain ⟨g, off, rfl, -, -, hcs⟩ := hrow (by omega)
  have hgF : F ≠ g := by simpa [blkL] using hFv
  have c0 := hcs 0 _ rfl
  rw [Nat.add_zero] at c0
  have hc1 : ¬ cap = 1 := by omega
  have ht := Sub.tail1 (n := k + 1) ho
  have hu : Upd [F] w ((w.setCell ⟨F, 3, none⟩ (.slice (some ⟨g, off + 1, none⟩) (k + 1) (cap - 1))).setCell ⟨F, 2, none⟩ (i64 (d - c))) := ((Upd.refl _ _).setCell (by simp) _).setCell (by simp) _
  have hf : FlAt ((w.setCell ⟨F, 3, none⟩ (.slice (some ⟨g, off + 1, none⟩) (k + 1) (cap - 1))).setCell ⟨F, 2, none⟩ (i64 (d - c))) F n q (d - c) (.slice (some ⟨g, off + 1, none⟩) (k + 1) (cap - 1)) false an := hset6_2 (hset6_3 hFl)
  have ha := dact_c hf
  rw [decide_eq_true (by omega : 0 < k + 1)] at ha
  have hs2 := ht.upd hu (by intro x hx hm; simp [blkL] at hx hm; subst hm; exact hgF hx)
  have HA := Lib.hid ha
  have HF := Lib.hid hf
  have HU := Lib.hid hu
  have HS := Lib.hid hs2
  obtain ⟨hd1, hd2, hd3⟩ := hd
  clear hFl ho hrow hcs ht hu hf ha hs2 hFv
  refine post fun R hR => ?_
  go_enter Try.func53, Try.ntmps53
  go_wp2_with (fail)
  refine HA.out.mono ?_
  rintro e w2 ⟨rfl, rfl⟩
  go_wp2_with (fail)
  exact hR.out _ _ ⟨_, _, rfl, HF.out, HS.out, HU.out, fun x hx => by simpa [blkL] using hx⟩

set_option maxRecDepth 100000 in
set_option maxHeartbeats 1000000 in
/-- a flow whose last cost it was leaves -/
theorem dserveLast_c {ty : TypeId} {tl : List Value} (hty : RTy ty) {w : World} {b F base : Nat} {mv rv : Value} {l : List Nat} (hb : w.heap[b]? = some (.cells (mv :: rv :: tl).toArray ty (0, 0))) (hs : Sub w base 96 1 rv l.length (evs l)) (hlen : l.length ≤ 100) (hL : ∀ y ∈ l, Lv w y)
    {n q d c : Int} {cv : Value} {an : Bool} {base2 : Nat} (hFl : FlAt w F n q d cv false an) (ho : Sub w base2 3 1 cv 1 [i64 c]) (hd : 1 ≤ c ∧ c ≤ d ∧ d ≤ 4194304) :
    Calls Try.prog 53 #[.pointer (some ⟨b, 0, none⟩), .pointer (some ⟨F, 0, none⟩)] w fun e w' => ∃ ao cap rv', e = .returned (i64 c) ∧ FlAt w' F n q 0 (.slice ao 0 cap) false an ∧
      Sub w' base2 3 1 (.slice ao 0 cap) 0 [] ∧ w'.heap[b]? = some (.cells (mv :: rv' :: tl).toArray ty (0, 0)) ∧ Sub w' base 96 1 rv' (rmv F l).length (evs (rmv F l)) ∧ Upd (b :: F :: blkL rv) w w' ∧ (∀ g ∈ blkL rv', g ∈ blkL rv) ∧ (∀ g ∈ blkL (.slice ao 0 cap), g ∈ blkL cv) := by
  have hFv : F ∉ blkL cv := fun hm => by
    obtain ⟨cs, hc⟩ := ho.ty _ hm
    have hx := hFl.symm.trans hc; injection hx with hx; injection hx with _ hx; cases hx
  have hFr : F ∉ blkL rv := fun hm => by
    obtain ⟨cs, hc⟩ := hs.ty _ hm
    have hx := hFl.symm.trans hc; injection hx with hx; injection hx with _ hx; cases hx
  have hbF : b ≠ F := cells_ne hb hFl hty.f
  obtain ⟨p0, p1, p2, p3, p4, p5, y0, y1, y2, y3, y4, y5⟩ := cells6 hFl
  obtain ⟨ao, cap, rfl, hcap, hrow⟩ := ho.form
  obtain ⟨g, off, rfl, -, -, hcs⟩ := hrow (by omega)
  have hgF : F ≠ g := by simpa [blkL] using hFv
  have hgb : g ≠ b := by
    rintro rfl
    obtain ⟨cs, hc⟩ := ho.ty g (by simp [blkL])
    exact cells_ne hb hc hty.i rfl
  have hgr : g ∉ blkL rv := fun hm => by
    obtain ⟨cs, hc⟩ := ho.ty g (by simp [blkL])
    obtain ⟨cs2, hc2⟩ := hs.ty _ hm
    have hx := hc2.symm.trans hc; injection hx with hx; injection hx with _ hx; cases hx
  have c0 := hcs 0 _ rfl
  rw [Nat.add_zero] at c0
  obtain ⟨hd1, hd2, hd3⟩ := hd
  by_cases hc1 : cap = 1
  · subst hc1
    have ht := Sub.none1 ho
    have hu : Upd [F] w ((w.setCell ⟨F, 3, none⟩ (.slice (some ⟨g, off, none⟩) 0 0)).setCell ⟨F, 2, none⟩ (i64 (d - c))) := ((Upd.refl _ _).setCell (by simp) _).setCell (by simp) _
    have hf : FlAt ((w.setCell ⟨F, 3, none⟩ (.slice (some ⟨g, off, none⟩) 0 0)).setCell ⟨F, 2, none⟩ (i64 (d - c))) F n q (d - c) (.slice (some ⟨g, off, none⟩) 0 0) false an := hset6_2 (hset6_3 hFl)
    have ha := dact_c hf
    have hs2 := ht.upd hu (by intro x hx hm; simp [blkL] at hx hm; subst hm; exact hgF hx)
    have hb2 := hu.keep hb (by simpa using hbF)
    have hr2 := hs.upd hu (by intro x hx hm; simp at hm; subst hm; exact hFr hx)
    have hL2 : ∀ y ∈ l, Lv ((w.setCell ⟨F, 3, none⟩ (.slice (some ⟨g, off, none⟩) 0 0)).setCell ⟨F, 2, none⟩ (i64 (d - c))) y := fun y hy => by
      by_cases e : y = F
      · subst e; exact lv_of hf
      · obtain ⟨cs, h⟩ := hL y hy
        exact ⟨cs, hu.keep h (by simpa using e)⟩
    have hlv := dleave_c hty hb2 hr2 hlen hL2 hf
    have HA := Lib.hid ha
    have HU := Lib.hid hu
    have HS := Lib.hid hs2
    have HLV := Lib.hid hlv
    clear hb hs hL hFl ho hrow hcs ht hu hf ha hs2 hFv hb2 hr2 hL2 hlv
    refine post fun R hR => ?_
    go_enter Try.func53, Try.ntmps53
    go_wp2_with (fail)
    refine HA.out.mono ?_
    rintro e w2 ⟨rfl, rfl⟩
    go_wp2_with (fail)
    refine HLV.out.mono ?_
    rintro e w3 ⟨rv', rfl, h1, h2, h3, h4, h5⟩
    go_wp2_with (fail)
    refine hR.out _ _ ⟨_, _, rv', rfl, h3, HS.out.upd h4 ?_, h1, h2, (HU.out.mono (by simp)).trans' h4, h5, fun x hx => by simpa [blkL] using hx⟩
    intro x hx hm
    simp only [blkL, List.mem_cons, List.not_mem_nil, or_false] at hx
    subst hx
    rcases List.mem_cons.1 hm with h | h
    · exact hgb h
    · rcases List.mem_cons.1 h with h | h
      · exact hgF h.symm
      · exact hgr h
  · skip
    have ht := Sub.tail1 (n := 0) ho
    have hu : Upd [F] w ((w.setCell ⟨F, 3, none⟩ (.slice (some ⟨g, off + 1, none⟩) 0 (cap - 1))).setCell ⟨F, 2, none⟩ (i64 (d - c))) := ((Upd.refl _ _).setCell (by simp) _).setCell (by simp) _
    have hf : FlAt ((w.setCell ⟨F, 3, none⟩ (.slice (some ⟨g, off + 1, none⟩) 0 (cap - 1))).setCell ⟨F, 2, none⟩ (i64 (d - c))) F n q (d - c) (.slice (some ⟨g, off + 1, none⟩) 0 (cap - 1)) false an := hset6_2 (hset6_3 hFl)
    have ha := dact_c hf
    have hs2 := ht.upd hu (by intro x hx hm; simp [blkL] at hx hm; subst hm; exact hgF hx)
    have hb2 := hu.keep hb (by simpa using hbF)
    have hr2 := hs.upd hu (by intro x hx hm; simp at hm; subst hm; exact hFr hx)
    have hL2 : ∀ y ∈ l, Lv ((w.setCell ⟨F, 3, none⟩ (.slice (some ⟨g, off + 1, none⟩) 0 (cap - 1))).setCell ⟨F, 2, none⟩ (i64 (d - c))) y := fun y hy => by
      by_cases e : y = F
      · subst e; exact lv_of hf
      · obtain ⟨cs, h⟩ := hL y hy
        exact ⟨cs, hu.keep h (by simpa using e)⟩
    have hlv := dleave_c hty hb2 hr2 hlen hL2 hf
    have HA := Lib.hid ha
    have HU := Lib.hid hu
    have HS := Lib.hid hs2
    have HLV := Lib.hid hlv
    clear hb hs hL hFl ho hrow hcs ht hu hf ha hs2 hFv hb2 hr2 hL2 hlv
    refine post fun R hR => ?_
    go_enter Try.func53, Try.ntmps53
    go_wp2_with (fail)
    refine HA.out.mono ?_
    rintro e w2 ⟨rfl, rfl⟩
    go_wp2_with (fail)
    refine HLV.out.mono ?_
    rintro e w3 ⟨rv', rfl, h1, h2, h3, h4, h5⟩
    go_wp2_with (fail)
    refine hR.out _ _ ⟨_, _, rv', rfl, h3, HS.out.upd h4 ?_, h1, h2, (HU.out.mono (by simp)).trans' h4, h5, fun x hx => by simpa [blkL] using hx⟩
    intro x hx hm
    simp only [blkL, List.mem_cons, List.not_mem_nil, or_false] at hx
    subst hx
    rcases List.mem_cons.1 hm with h | h
    · exact hgb h
    · rcases List.mem_cons.1 h with h | h
      · exact hgF h.symm
      · exact hgr h
end Go.Proofs.Ytabhdigannalgaa
