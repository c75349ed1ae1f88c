/-
  The contracts of the ring's leave, settle and Push. Condition: the ring is one that its own functions made.
-/
import Derived.Test.YtabhdigannalgaaDrrRow
namespace Go.Proofs.Ytabhdigannalgaa
open Go Go.RowKit Go.Maps

set_option maxRecDepth 100000 in
set_option maxHeartbeats 1000000 in
theorem dleave_c {ty : TypeId} {tl : List Value} (hty : RTy ty) {w : World} {b base F : Nat} {mv rv : Value} {l : List Nat} (hb : w.heap[b]? = some (.cells (mv :: rv :: tl).toArray ty (0, 0))) (hs : Sub w base 96 1 rv l.length (evs l)) (hlen : l.length ≤ 100) (hL : ∀ y ∈ l, Lv w y)
    {n q d : Int} {cv : Value} {rs an : Bool} (hFl : FlAt w F n q d cv rs an) :
    Calls Try.prog 57 #[.pointer (some ⟨b, 0, none⟩), .pointer (some ⟨F, 0, none⟩)] w fun e w' => ∃ rv', e = .returned (.tuple #[]) ∧ w'.heap[b]? = some (.cells (mv :: rv' :: tl).toArray ty (0, 0)) ∧
      Sub w' base 96 1 rv' (rmv F l).length (evs (rmv F l)) ∧ FlAt w' F n q 0 cv rs an ∧ Upd (b :: F :: blkL rv) w w' ∧ (∀ g ∈ blkL rv', g ∈ blkL rv) := by
  have hbF : b ≠ F := cells_ne hb hFl hty.f
  have hbv : b ∉ blkL rv := fun hm => by
    obtain ⟨cs, hc⟩ := hs.ty _ hm
    exact cells_ne hb hc hty.p rfl
  have hFv : F ∉ blkL rv := fun hm => by
    obtain ⟨cs, hc⟩ := hs.ty _ hm
    have hx := hFl.symm.trans hc; injection hx with hx; injection hx with _ hx; cases hx
  obtain ⟨-, c1, -, f1⟩ := rcells hb
  obtain ⟨p0, p1, p2, p3, p4, p5, y0, y1, y2, y3, y4, y5⟩ := cells6 hFl
  have hlb := lt_of_heap hb
  have hlF := lt_of_heap hFl
  obtain ⟨W1, hW1⟩ : ∃ W1, W1 = (w.setCell ⟨F, 2, none⟩ (i64 0)).alloc (.cells #[.pointer (some ⟨F, 0, none⟩)] 96) := ⟨_, rfl⟩
  have hu1 : Upd [F] w W1 := by rw [hW1]; exact ((Upd.refl _ _).setCell (by simp) _).alloc _
  have hb1 := hu1.keep hb (by simpa using hbF)
  have hf1 : FlAt W1 F n q 0 cv rs an := by rw [hW1]; exact heap_alloc_old (hset6_2 hFl) _
  have hs1 := hs.upd hu1 (by intro g hg hm; simp at hm; subst hm; exact hFv hg)
  have hc1 : W1.heap[w.heap.size]? = some (.cells #[ev F] 96 (0, 0)) := by rw [hW1]; simpa using heap_alloc_new (w.setCell ⟨F, 2, none⟩ (i64 0)) (.cells #[.pointer (some ⟨F, 0, none⟩)] 96)
  have hcv : w.heap.size ∉ blkL rv := fun hm => by have := (hs.lt _ hm).2; omega
  have hL1 : ∀ y ∈ l, Lv W1 y := fun y hy => by
    by_cases e : y = F
    · subst e; exact lv_of hf1
    · obtain ⟨cs, h⟩ := hL y hy
      exact ⟨cs, hu1.keep h (by simpa using e)⟩
  have hd := sdel_c hs1 (by omega) hc1 hcv (lv_of hf1) hL1
  obtain ⟨ao, cap, rfl, hcap, -⟩ := hs.form
  have HD := Lib.hid hd
  have HU1 := Lib.hid hu1
  have HF1 := Lib.hid hf1
  have HB1 := Lib.hid hb1
  have HBV := Lib.hid hbv
  have HFV := Lib.hid hFv
  obtain ⟨-, k1, -, g1⟩ := rcells hb1
  clear hb hs hL hFl hu1 hf1 hb1 hs1 hc1 hcv hL1 hd hbv hFv
  subst hW1
  refine post fun R hR => ?_
  go_enter Try.func57, Try.ntmps57
  go_wp2_with (fail)
  refine HD.out.mono ?_
  rintro e w2 ⟨v2, rfl, hs2, hu2, hb2⟩
  obtain ⟨ao2, cap2, rfl, -, -⟩ := hs2.form
  have hh2 := hu2.keep HB1.out HBV.out
  have hf2 := hu2.keep HF1.out HFV.out
  obtain ⟨-, q1, -, z1⟩ := rcells hh2
  have HS2 := Lib.hid hs2
  have HU2 := Lib.hid hu2
  have HB2 := Lib.hid hb2
  have HH2 := Lib.hid hh2
  have HF2 := Lib.hid hf2
  clear hs2 hu2 hb2 hh2 hf2
  go_wp2_with (fail)
  go_returns
  refine hR.out _ _ ?_
  refine ⟨_, rfl, rset_1 HH2.out, ?_, heap_setCell_ne HF2.out (fun e => hbF e.symm) _ _, ?_, HB2.out⟩
  · exact HS2.out.upd ((Upd.refl [b] w2).setCell (by simp) _) (by intro g hg hm; simp at hm; subst hm; exact HBV.out (HB2.out _ hg))
  · exact ((HU1.out.mono (by simp)).trans' (HU2.out.mono (by intro x hx; simp [hx]))).setCell (by simp) _
end Go.Proofs.Ytabhdigannalgaa
