/-
  The contracts of the ring's settle and Push, for flows that do not rest. Condition: the ring is one that its own functions made.
-/
import Derived.Test.YtabhdigannalgaaDrrLeave
namespace Go.Proofs.Ytabhdigannalgaa
open Go Go.RowKit Go.Maps

theorem info_int : (Try.prog.info? 3).map (fun i => (i.zero, i.size, i.bytes)) = some (some (.int .i64 0), 1, 8) := by kernel_rfl

theorem dsettleHas_c {ty : TypeId} {tl : List Value} (hty : RTy ty) {w : World} {b base F : Nat} {mv rv : Value} {l : List Nat} (hb : w.heap[b]? = some (.cells (mv :: rv :: tl).toArray ty (0, 0))) (hs : Sub w base 96 1 rv l.length (evs l)) (hlen : l.length ≤ 100) (hL : ∀ y ∈ l, Lv w y) (hF : F ∈ l)
    {n q d : Int} {ao : Option Addr} {k cap : Nat} {an : Bool} (hFl : FlAt w F n q d (.slice ao k cap) false an) (hk : 0 < k) :
    Calls Try.prog 52 #[.pointer (some ⟨b, 0, none⟩), .pointer (some ⟨F, 0, none⟩)] w fun e w' => e = .returned (.tuple #[]) ∧ w = w' := by
  have ha := dact_c hFl
  rw [decide_eq_true hk] at ha
  have HA := Lib.hid ha
  have HJ := Lib.hid (djoinHas_c hty hb hs hlen hL hF)
  clear ha hb hs hL hF hFl
  refine post fun R hR => ?_
  go_enter Try.func52, Try.ntmps52
  go_wp2_with (fail)
  refine HA.out.mono ?_
  rintro e w2 ⟨rfl, rfl⟩
  go_wp2_with (fail)
  refine HJ.out.mono ?_
  rintro e w2 ⟨rfl, rfl⟩
  go_wp2_with (fail)
  go_returns
  refine hR.out _ _ ?_
  exact ⟨rfl, rfl⟩

theorem dsettle_c {ty : TypeId} {tl : List Value} (hty : RTy ty) {w : World} {b base F : Nat} {mv rv : Value} {l : List Nat} (hb : w.heap[b]? = some (.cells (mv :: rv :: tl).toArray ty (0, 0))) (hs : Sub w base 96 1 rv l.length (evs l)) (hlen : l.length ≤ 100) (hL : ∀ y ∈ l, Lv w y) (hF : F ∉ l)
    {n q d : Int} {ao : Option Addr} {k cap : Nat} {an : Bool} (hFl : FlAt w F n q d (.slice ao k cap) false an) (hk : 0 < k) (hbase : base ≤ w.heap.size) :
    Calls Try.prog 52 #[.pointer (some ⟨b, 0, none⟩), .pointer (some ⟨F, 0, none⟩)] w fun e w' => ∃ rv', e = .returned (.tuple #[]) ∧ w'.heap[b]? = some (.cells (mv :: rv' :: tl).toArray ty (0, 0)) ∧
      Sub w' base 96 1 rv' (l.length + 1) (evs (l ++ [F])) ∧ FlAt w' F n q 0 (.slice ao k cap) false true ∧ Upd (b :: F :: blkL rv) w w' ∧ (∀ g ∈ blkL rv', g ∈ blkL rv ∨ w.heap.size ≤ g) := by
  have ha := dact_c hFl
  rw [decide_eq_true hk] at ha
  have HA := Lib.hid ha
  have HJ := Lib.hid (djoin_c hty hb hs hlen hL hF hFl hbase)
  clear ha hb hs hL hF hFl
  refine post fun R hR => ?_
  go_enter Try.func52, Try.ntmps52
  go_wp2_with (fail)
  refine HA.out.mono ?_
  rintro e w2 ⟨rfl, rfl⟩
  go_wp2_with (fail)
  refine HJ.out.mono ?_
  rintro e w2 ⟨rv', rfl, h1, h2, h3, h4, h5⟩
  go_wp2_with (fail)
  go_returns
  refine hR.out _ _ ?_
  exact ⟨rv', rfl, h1, h2, h3, h4, h5⟩

set_option maxRecDepth 100000 in
set_option maxHeartbeats 1000000 in
/-- a cost behind a flow's others, the flow not resting: what is behind the append, ahead of settle -/
theorem dpushPre_c {ty : TypeId} {tl : List Value} (hty : RTy ty) {w : World} {b M N : Nat} {rv : Value} {f : Int → Option Nat} (hb : w.heap[b]? = some (.cells (.map (some M) :: rv :: tl).toArray ty (0, 0))) (hm : FlMap w M N f) {n c : Int} {F : Nat} (hn : 0 ≤ n ∧ n ≤ 8) (hc : 1 ≤ c ∧ c ≤ 1040) (hf : f n = some F)
    {q d : Int} {cv : Value} {rs an : Bool} {k base2 : Nat} {xs : List Value} (hFl : FlAt w F n q d cv rs an) (ho : Sub w base2 3 1 cv k xs) (hk : k ≤ 1000) (hb2 : base2 ≤ w.heap.size) {R : Ending → World → Prop}
    (hset : ∀ w' ao' cap', FlAt w' F n q d (.slice ao' (k + 1) cap') rs an → Sub w' base2 3 1 (.slice ao' (k + 1) cap') (k + 1) (xs ++ [i64 c]) → Upd (F :: blkL cv) w w' → (∀ g ∈ blkL (.slice ao' (k + 1) cap'), g ∈ blkL cv ∨ w.heap.size ≤ g) →
      Calls Try.prog 52 #[.pointer (some ⟨b, 0, none⟩), .pointer (some ⟨F, 0, none⟩)] w' fun e w'' => e = .returned (.tuple #[]) ∧ R (.returned (i64 0)) w'') :
    Calls Try.prog 12 #[.pointer (some ⟨b, 0, none⟩), i64 n, i64 c] w R := by
  obtain ⟨i0, hi, hz0, hz1, hz2⟩ := info_parts info_int
  have hfd := dfind_c hty hb hm (n := n) (iwf (by omega))
  rw [hf] at hfd
  have hFv : F ∉ blkL cv := fun hm => by
    obtain ⟨cs, hc⟩ := ho.ty _ hm
    have hx := hFl.symm.trans hc; injection hx with hx; injection hx with _ hx; cases hx
  obtain ⟨p0, p1, p2, p3, p4, p5, y0, y1, y2, y3, y4, y5⟩ := cells6 hFl
  obtain ⟨ao, cap, rfl, hcap, -⟩ := ho.form
  have hmx : k + 1 ≤ maxLen := by unfold maxLen; omega
  have HFD := Lib.hid hfd
  have HFL := Lib.hid hFl
  have HO := Lib.hid ho
  have HSET := Lib.hid hset
  have HMX := Lib.hid hmx
  have HFV := Lib.hid hFv
  obtain ⟨hc1, hc2⟩ := hc
  clear hb hm hf hfd hFl ho hset hmx hFv
  refine post fun R hR => ?_
  go_enter Try.func12, Try.ntmps12
  go_wp2_with (fail)
  refine HFD.out.mono ?_
  rintro e w2 ⟨rfl, rfl⟩
  rw [show ptrO (some F) = .pointer (some ⟨F, 0, none⟩) from rfl]
  go_wp2_with (at_builtin; refine wpList_append_sub _ rfl _ _ 36 rfl base2 3 i0 _ 1 8 Try.underlying36 hi hz0 hz1 hz2 rfl (by decide) (.slice ao k cap) k _ rfl (HO.out.upd0 ((Upd.refl _ _).alloc _)) _ 1 1 [i64 c] rfl (src_block (heap_alloc_new _ _) 1 1) rfl (by intro u hu; simp at hu; subst hu; rfl) HMX.out (by omega) (by simp; omega) ?_; intro ao' cap' w5 hs5 hu5 hb5; have hf5 := hu5.keep (heap_alloc_old HFL.out _) HFV.out; obtain ⟨z0, z1, z2, z3, z4, z5, x0, x1, x2, x3, x4, x5⟩ := cells6 hf5; have HS5 := Lib.hid hs5; have HU5 := Lib.hid hu5; have HB5 := Lib.hid hb5; have HF5 := Lib.hid hf5; clear hs5 hu5 hb5 hf5)
  have hFv5 : F ∉ blkL (.slice ao' (k + 1) cap') := fun hm => by
    obtain ⟨cs, hc⟩ := HS5.out.ty _ hm
    have hx := HF5.out.symm.trans hc; injection hx with hx; injection hx with _ hx; cases hx
  have hx6 : Upd [F] w5 (w5.setCell ⟨F, 3, none⟩ (.slice ao' (k + 1) cap')) := (Upd.refl [F] w5).setCell (by simp) _
  have hs6 := HS5.out.upd hx6 (by intro g hg hm; simp at hm; subst hm; exact hFv5 hg)
  have hu6 : Upd (F :: blkL (.slice ao k cap)) w (w5.setCell ⟨F, 3, none⟩ (.slice ao' (k + 1) cap')) := (((Upd.refl _ _).alloc _).trans' (HU5.out.mono (by intro x hx; simp [hx]))).setCell (by simp) _
  have hb6 : ∀ g ∈ blkL (.slice ao' (k + 1) cap'), g ∈ blkL (.slice ao k cap) ∨ w.heap.size ≤ g := by
    intro g hg
    rcases HB5.out with h | ⟨g', h1, h2⟩
    · rw [h] at hg; exact .inl hg
    · rw [h1] at hg; simp at hg h2; exact .inr (by omega)
  refine (HSET.out _ ao' cap' (hset6_3 HF5.out) hs6 hu6 hb6).mono ?_
  rintro e w7 ⟨rfl, hR7⟩
  go_wp2_with (fail)
  exact hR.out _ _ hR7

/-- a flow that has no costs, or rests, leaves -/
theorem dsettleOff_c {ty : TypeId} {tl : List Value} (hty : RTy ty) {w : World} {b base F : Nat} {mv rv : Value} {l : List Nat} (hb : w.heap[b]? = some (.cells (mv :: rv :: tl).toArray ty (0, 0))) (hs : Sub w base 96 1 rv l.length (evs l)) (hlen : l.length ≤ 100) (hL : ∀ y ∈ l, Lv w y)
    {n q d : Int} {ao : Option Addr} {k cap : Nat} {rs an : Bool} (hFl : FlAt w F n q d (.slice ao k cap) rs an) (hk : (decide (0 < k) && !rs) = false) :
    Calls Try.prog 52 #[.pointer (some ⟨b, 0, none⟩), .pointer (some ⟨F, 0, none⟩)] w fun e w' => ∃ rv', e = .returned (.tuple #[]) ∧ w'.heap[b]? = some (.cells (mv :: rv' :: tl).toArray ty (0, 0)) ∧
      Sub w' base 96 1 rv' (rmv F l).length (evs (rmv F l)) ∧ FlAt w' F n q 0 (.slice ao k cap) rs an ∧ Upd (b :: F :: blkL rv) w w' ∧ (∀ g ∈ blkL rv', g ∈ blkL rv) := by
  have ha := dact_c hFl
  rw [hk] at ha
  have HA := Lib.hid ha
  have HJ := Lib.hid (dleave_c hty hb hs hlen hL hFl)
  clear ha hb hs hL hFl hk
  refine post fun R hR => ?_
  go_enter Try.func52, Try.ntmps52
  go_wp2_with (fail)
  refine HA.out.mono ?_
  rintro e w2 ⟨rfl, rfl⟩
  go_wp2_with (fail)
  refine HJ.out.mono ?_
  rintro e w2 ⟨rv', rfl, h1, h2, h3, h4, h5⟩
  go_wp2_with (fail)
  go_returns
  refine hR.out _ _ ?_
  exact ⟨rv', rfl, h1, h2, h3, h4, h5⟩
end Go.Proofs.Ytabhdigannalgaa
