/-
  Chapter 38's example. No condition.
-/
import Derived.Test.YtagadbgbicebaaaConn
import Derived.Test.YtagadbgbicebaaaConnOne
namespace Go.Proofs.Ytagadbgbicebaaa
open Go Go.RowKit

set_option maxRecDepth 100000 in
set_option maxHeartbeats 1000000 in
theorem connAwake_c (w : World) : Calls Try.prog 32 #[] w fun e w' => e = .returned (.bool true) ∧ Upd [] w w' := by
  refine post fun R hR => ?_
  go_enter Try.func32, Try.ntmps32
  go_wp2_with (fail)
  refine Calls.mono (cnew_c _) ?_
  rintro e w1 ⟨rfl, hu1, hh1⟩
  have ht1 : TbAt w1 w.heap.size (.slice none 0 0) w.heap.size [] := ⟨hh1, sub_nil _ _ _ _, by simp⟩
  have hs1 := hu1.size
  clear hh1
  go_wp2_with (fail)
  refine Calls.mono (copen_c ht1 hs1 (by simp)) ?_
  rintro e w2 ⟨v2, lb, rfl, ht2, hlb, hl2, hu2, hb2⟩
  have hu12 : Upd [] w w2 := hu1.trans hu2 (by intro x hx; simp [blkL] at hx; subst hx; exact .inr (Nat.le_refl _))
  have hk : ([] ++ [lb])[0]? = some lb := rfl
  have hnl : lb ∉ blkL v2 := fun hm => by
    obtain ⟨cs, hc⟩ := ht2.sub.ty _ hm
    rw [hl2] at hc; injection hc with hc; injection hc with _ hc; cases hc
  have hnb : w.heap.size ≠ lb := fun hm => by
    have := ht2.heap
    rw [hm, hl2] at this; injection this with this; injection this with _ this; cases this
  clear ht1 hu2 hu1
  go_wp2_with (fail)
  refine Calls.mono (cshut_c ht2 (k := 0) hk hl2 (by omega)) ?_
  rintro e w3 ⟨rfl, hl3, hu3⟩
  have ht3 := ht2.keep hu3 (by simp; exact hnb) (by intro g hg hm; simp at hm; subst hm; exact hnl hg)
  have hu13 : Upd [] w w3 := hu12.trans hu3 (by intro x hx; simp at hx; subst hx; exact .inr (by omega))
  have hs3 := hu13.size
  clear ht2 hl2 hu12 hu3
  go_wp2_with (fail)
  refine Calls.mono (csend_c ht3 (k := 0) hk hl3 (by omega) (sub_nil w3 w3.heap.size 9 1) (by omega) (Nat.le_refl _) ⟨#[97]⟩) ?_
  rintro e w4 ⟨ov, rfl, hl4, ho4, hu4, hb4⟩
  have hg4 : ∀ g ∈ blkL ov, w3.heap.size ≤ g := fun g hg => by
    rcases hb4 with h | ⟨g', h1, h2⟩
    · rw [h] at hg; simp [blkL] at hg
    · rw [h1] at hg; simp at hg; omega
  have ht4 := ht3.keep hu4 (by simp [blkL]; exact hnb) (by intro g hg hm; simp [blkL] at hm; subst hm; exact hnl hg)
  have hu14 : Upd [] w w4 := hu13.trans hu4 (by intro x hx; simp [blkL] at hx; subst hx; exact .inr (by omega))
  clear ht3 hl3 hu4 hu13
  go_wp2_with (fail)
  refine Calls.mono (cdeliver_c ht4 (k := 0) hk hl4 (by omega) ho4 (by omega)) ?_
  rintro e w5 ⟨ov5, rfl, hl5, ho5, hu5, hb5⟩
  have ht5 := ht4.keep hu5 (by simp; exact hnb) (by intro g hg hm; simp at hm; subst hm; exact hnl hg)
  have hu15 : Upd [] w w5 := hu14.trans hu5 (by intro x hx; simp at hx; subst hx; exact .inr (by omega))
  clear ht4 hl4 hu5 hu14
  go_wp2_with (fail)
  refine Calls.mono (cdeliverShut_c ht5 (k := 0) hk hl5 ho5) ?_
  rintro e w6 ⟨rfl, hl6, hu6⟩
  have ht6 := ht5.keep hu6 (by simp; exact hnb) (by intro g hg hm; simp at hm; subst hm; exact hnl hg)
  have hu16 : Upd [] w w6 := hu15.trans hu6 (by intro x hx; simp at hx; subst hx; exact .inr (by omega))
  clear ht5 hl5 hu6 hu15
  go_wp2_with (fail)
  refine Calls.mono (cdeliverGone_c ht6 (k := 0) hk hl6) ?_
  rintro e w7 ⟨rfl, hu7⟩
  go_wp2_with (fail)
  exact hR.out _ _ ⟨rfl, hu16.trans' hu7⟩

end Go.Proofs.Ytagadbgbicebaaa
