/-
  The contracts of the ring's row: find, active, join. Condition: the ring is one that its own functions made.
-/
import Derived.Test.YtabhdigannalgaaDrrSet
namespace Go.Proofs.Ytabhdigannalgaa
open Go Go.RowKit Go.Maps

theorem dfind_c {ty : TypeId} {tl : List Value} (_hty : RTy ty) {w : World} {b M N : Nat} {rv : Value} {f : Int → Option Nat} (hb : w.heap[b]? = some (.cells (.map (some M) :: rv :: tl).toArray ty (0, 0))) (hm : FlMap w M N f) {n : Int} (hk : (Lit.int .i64 n).wf = true) :
    Calls Try.prog 51 #[.pointer (some ⟨b, 0, none⟩), i64 n] w fun e w' => e = .returned (ptrO (f n)) ∧ w = w' := by
  obtain ⟨c0, -, f0, -⟩ := rcells hb
  have hlook := hm.look hk
  clear hb hm
  refine post fun R hR => ?_
  go_enter Try.func51, Try.ntmps51
  go_wp2_with fail
  exact hR.out _ _ ⟨rfl, rfl⟩
theorem dfind0_c {ty : TypeId} {tl : List Value} (_hty : RTy ty) {w : World} {b : Nat} {rv : Value} (hb : w.heap[b]? = some (.cells (.map none :: rv :: tl).toArray ty (0, 0))) {n : Int} (hk : (Lit.int .i64 n).wf = true) :
    Calls Try.prog 51 #[.pointer (some ⟨b, 0, none⟩), i64 n] w fun e w' => e = .returned (.pointer none) ∧ w = w' := by
  obtain ⟨c0, -, f0, -⟩ := rcells hb
  have hlook := look_none w hk
  clear hb
  refine post fun R hR => ?_
  go_enter Try.func51, Try.ntmps51
  go_wp2_with fail
  exact hR.out _ _ ⟨rfl, rfl⟩

theorem dact_c {w : World} {F : Nat} {n q d : Int} {ao : Option Addr} {k cap : Nat} {rs an : Bool} (h : FlAt w F n q d (.slice ao k cap) rs an) :
    Calls Try.prog 67 #[.pointer (some ⟨F, 0, none⟩)] w fun e w' => e = .returned (.bool (decide (0 < k) && !rs)) ∧ w = w' := by
  obtain ⟨c0, c1, c2, c3, c4, c5, -⟩ := cells6 h
  clear h
  by_cases hk : 0 < k
  · refine post fun R hR => ?_
    go_enter Try.func67, Try.ntmps67
    go_wp2_with fail
    exact hR.out _ _ ⟨by (rw [decide_eq_true hk]; try rfl), rfl⟩
  · obtain rfl : k = 0 := by omega
    refine post fun R hR => ?_
    go_enter Try.func67, Try.ntmps67
    go_wp2_with fail
    exact hR.out _ _ ⟨rfl, rfl⟩

theorem lv_of {w : World} {F : Nat} {n q d : Int} {cv : Value} {rs an : Bool} (h : FlAt w F n q d cv rs an) : Lv w F := ⟨_, h⟩

theorem djoinHas_c {ty : TypeId} {tl : List Value} (_hty : RTy ty) {w : World} {b base F : Nat} {mv rv : Value} {l : List Nat} (hb : w.heap[b]? = some (.cells (mv :: rv :: tl).toArray ty (0, 0))) (hs : Sub w base 96 1 rv l.length (evs l)) (hlen : l.length ≤ 100) (hL : ∀ y ∈ l, Lv w y) (hF : F ∈ l) :
    Calls Try.prog 68 #[.pointer (some ⟨b, 0, none⟩), .pointer (some ⟨F, 0, none⟩)] w fun e w' => e = .returned (.tuple #[]) ∧ w = w' := by
  obtain ⟨-, c1, -, f1⟩ := rcells hb
  have hh := shas_c hs (by omega) (hL F hF) hL
  rw [show hasB F l = true from by unfold hasB; simpa using hF] at hh
  obtain ⟨ao, cap, rfl, -, -⟩ := hs.form
  have HH := Lib.hid hh
  clear hb hh hs hL hF
  refine post fun R hR => ?_
  go_enter Try.func68, Try.ntmps68
  go_wp2_with (fail)
  refine HH.out.mono ?_
  rintro e w2 ⟨rfl, rfl⟩
  go_wp2_with (fail)
  go_returns
  refine hR.out _ _ ?_
  exact ⟨rfl, rfl⟩

set_option maxRecDepth 100000 in
set_option maxHeartbeats 1000000 in
theorem djoin_c {ty : TypeId} {tl : List Value} (hty : RTy ty) {w : World} {b base F : Nat} {mv rv : Value} {l : List Nat} (hb : w.heap[b]? = some (.cells (mv :: rv :: tl).toArray ty (0, 0))) (hs : Sub w base 96 1 rv l.length (evs l)) (hlen : l.length ≤ 100) (hL : ∀ y ∈ l, Lv w y) (hF : F ∉ l)
    {n q d : Int} {cv : Value} {rs an : Bool} (hFl : FlAt w F n q d cv rs an) (hbase : base ≤ w.heap.size) :
    Calls Try.prog 68 #[.pointer (some ⟨b, 0, none⟩), .pointer (some ⟨F, 0, none⟩)] w fun e w' => ∃ rv', e = .returned (.tuple #[]) ∧ w'.heap[b]? = some (.cells (mv :: rv' :: tl).toArray ty (0, 0)) ∧
      Sub w' base 96 1 rv' (l.length + 1) (evs (l ++ [F])) ∧ FlAt w' F n q 0 cv rs true ∧ Upd (b :: F :: blkL rv) w w' ∧ (∀ g ∈ blkL rv', g ∈ blkL rv ∨ w.heap.size ≤ g) := by
  obtain ⟨i0, hi, hz0, hz1, hz2⟩ := info_parts info_el
  obtain ⟨-, c1, -, f1⟩ := rcells hb
  obtain ⟨p0, p1, p2, p3, p4, p5, y0, y1, y2, y3, y4, y5⟩ := cells6 hFl
  have hh := shas_c hs (by omega) (lv_of hFl) hL
  rw [show hasB F l = false from by unfold hasB; simpa using hF] at hh
  have hbF : b ≠ F := cells_ne hb hFl hty.f
  have hbv : b ∉ blkL rv := fun hm => by
    obtain ⟨cs, hc⟩ := hs.ty _ hm
    exact cells_ne hb hc hty.p rfl
  have hFv : F ∉ blkL rv := fun hm => by
    obtain ⟨cs, hc⟩ := hs.ty _ hm
    have hx := hFl.symm.trans hc; injection hx with hx; injection hx with _ hx; cases hx
  obtain ⟨ao, cap, rfl, hcap, -⟩ := hs.form
  have hlb := lt_of_heap hb
  have hlF := lt_of_heap hFl
  have hu1 : Upd [F] w ((w.setCell ⟨F, 2, none⟩ (i64 0)).setCell ⟨F, 5, none⟩ (.bool true)) := ((Upd.refl _ _).setCell (by simp) _).setCell (by simp) _
  have hf1 : FlAt ((w.setCell ⟨F, 2, none⟩ (i64 0)).setCell ⟨F, 5, none⟩ (.bool true)) F n q 0 cv rs true := hset6_5 (hset6_2 hFl)
  have hb1 := hu1.keep hb (by simpa using hbF)
  have hs1 := hs.upd hu1 (by intro g hg hm; simp at hm; subst hm; exact hFv hg)
  have hz1s : ((w.setCell ⟨F, 2, none⟩ (i64 0)).setCell ⟨F, 5, none⟩ (.bool true)).heap.size = w.heap.size := by simp
  have hmx : l.length + 1 ≤ maxLen := by unfold maxLen; omega
  have HH := Lib.hid hh
  have HU1 := Lib.hid hu1
  have HF1 := Lib.hid hf1
  have HB1 := Lib.hid hb1
  have HS1 := Lib.hid hs1
  have HZ1 := Lib.hid hz1s
  have HMX := Lib.hid hmx
  have HAP := Lib.hid (evs_append l [F])
  have HBV := Lib.hid hbv
  have HFV := Lib.hid hFv
  clear hb hh hs hL hF hFl hu1 hf1 hb1 hs1 hz1s hmx hbv hFv
  refine post fun R hR => ?_
  go_enter Try.func68, Try.ntmps68
  go_wp2_with (fail)
  refine HH.out.mono ?_
  rintro e w2 ⟨rfl, rfl⟩
  go_wp2_with (at_builtin; refine wpList_append_sub _ rfl _ _ 26 rfl base 96 i0 _ 1 8 Try.underlying26 hi hz0 hz1 hz2 rfl (by decide) (.slice ao l.length cap) l.length _ rfl (HS1.out.upd0 ((Upd.refl _ _).alloc _)) _ 1 1 [.pointer (some ⟨F, 0, none⟩)] rfl (src_block (by first | exact heap_alloc_new _ _ | (have := heap_alloc_new ((w.setCell ⟨F, 2, none⟩ (i64 0)).setCell ⟨F, 5, none⟩ (.bool true)) (.cells #[.pointer (some ⟨F, 0, none⟩)] 96); rw [HZ1.out] at this; exact this)) 1 1) rfl (by intro u hu; simp at hu; subst hu; rfl) HMX.out (by omega) (by simp; omega) ?_; intro ao' cap' w5 hs5 hu5 hb5; have hh5 := hu5.keep (heap_alloc_old HB1.out _) HBV.out; have hf5 := hu5.keep (heap_alloc_old HF1.out _) HFV.out; obtain ⟨-, q0, -, q1⟩ := rcells hh5; have HS5 := Lib.hid hs5; have HU5 := Lib.hid hu5; have HB5 := Lib.hid hb5; have HH5 := Lib.hid hh5; have HF5 := Lib.hid hf5; clear hs5 hu5 hb5 hh5 hf5)
  have hbv5 : b ∉ blkL (.slice ao' (l.length + 1) cap') := fun hm => by
    obtain ⟨cs, hc⟩ := HS5.out.ty _ hm
    exact cells_ne HH5.out hc hty.p rfl
  go_returns
  refine hR.out _ _ ?_
  refine ⟨_, rfl, rset_1 HH5.out, ?_, heap_setCell_ne HF5.out (fun e => hbF e.symm) _ _, ?_, ?_⟩
  · rw [HAP.out]
    exact HS5.out.upd ((Upd.refl [b] w5).setCell (by simp) _) (by intro g hg hm; simp at hm; subst hm; exact hbv5 hg)
  · exact (((HU1.out.mono (by simp)).alloc _).trans' (HU5.out.mono (by intro x hx; simp [hx]))).setCell (by simp) _
  · intro g hg
    rcases HB5.out with h | ⟨g', h1, h2⟩
    · rw [h] at hg; exact .inl hg
    · rw [h1] at hg; simp at hg h2; exact .inr (by omega)
end Go.Proofs.Ytabhdigannalgaa
