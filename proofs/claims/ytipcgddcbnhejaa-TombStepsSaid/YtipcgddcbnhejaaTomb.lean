/-
  The contracts of chapter 33's yard. Conditions: the yard is one that its own functions made.
-/
import Derived.Test.YtipcgddcbnhejaaSlU
namespace Go.Proofs.Ytipcgddcbnhejaa
open Go Go.RowKit

/-- a yard at the head of block b that keeps l -/
structure YdAt (w : World) (b : Nat) (v : Value) (base : Nat) (l : List Int) : Prop where
  heap : w.heap[b]? = some (.cells #[v] 58 (0, 0))
  sub : Sub w base 22 1 v l.length (evs l)
  len : l.length ≤ 8

theorem YdAt.ne {w : World} {b : Nat} {v : Value} {base : Nat} {l : List Int} (h : YdAt w b v base l) : b ∉ blkL v := fun hm => by
  obtain ⟨cs, hc⟩ := h.sub.ty _ hm
  rw [h.heap] at hc; injection hc with hc; injection hc with _ hc; cases hc
theorem YdAt.keep {S : List Nat} {w w' : World} {b : Nat} {v : Value} {base : Nat} {l : List Int} (h : YdAt w b v base l) (hu : Upd S w w') (hb : b ∉ S) (hs : ∀ g, g ∈ blkL v → g ∉ S) : YdAt w' b v base l :=
  ⟨hu.keep h.heap hb, h.sub.upd hu hs, h.len⟩
theorem YdAt.keep0 {w w' : World} {b : Nat} {v : Value} {base : Nat} {l : List Int} (h : YdAt w b v base l) (hu : Upd [] w w') : YdAt w' b v base l := h.keep hu (by simp) (by simp)

theorem ynew_c (w : World) : Calls Try.prog 19 #[] w fun e w' => e = .returned (.pointer (some ⟨w.heap.size, 0, none⟩)) ∧ Upd [] w w' ∧ YdAt w' w.heap.size (.slice none 0 0) w.heap.size [] := by
  refine post fun R hR => ?_
  go_enter Try.func19, Try.ntmps19
  go_wp2_with fail
  exact hR.out _ _ ⟨rfl, (Upd.refl _ _).alloc _, heap_alloc_new _ _, sub_nil _ _ _ _, by simp⟩

theorem yputNil_c (x : Int) (w : World) : Calls Try.prog 23 #[.pointer none, .int .u64 x] w fun e w' => e = .returned (.bool false) ∧ w = w' := by
  refine post fun R hR => ?_
  go_enter Try.func23, Try.ntmps23
  go_wp2_with fail
  exact hR.out _ _ ⟨rfl, rfl⟩
theorem ytakeNil_c (x : Int) (w : World) : Calls Try.prog 21 #[.pointer none, .int .u64 x] w fun e w' => e = .returned (.bool false) ∧ Upd [] w w' := by
  refine post fun R hR => ?_
  go_enter Try.func21, Try.ntmps21
  go_wp2_with fail
  exact hR.out _ _ ⟨rfl, (Upd.refl _ _).alloc _⟩
theorem yidsNil_c (w : World) : Calls Try.prog 25 #[.pointer none] w fun e w' => e = .returned (.slice none 0 0) ∧ w = w' := by
  refine post fun R hR => ?_
  go_enter Try.func25, Try.ntmps25
  go_wp2_with fail
  exact hR.out _ _ ⟨rfl, rfl⟩

theorem yids_c {w : World} {b : Nat} {v : Value} {base : Nat} {l : List Int} (h : YdAt w b v base l) :
    Calls Try.prog 25 #[.pointer (some ⟨b, 0, none⟩)] w fun e w' => ∃ v', e = .returned v' ∧ Sub w' w.heap.size 22 1 v' l.length (evs l) ∧ Upd [] w w' := by
  obtain ⟨c0, f0⟩ := cells1 h.heap
  have HC := Lib.hid (sclone_c h.sub (by have := h.len; omega))
  clear h
  refine post fun R hR => ?_
  go_enter Try.func25, Try.ntmps25
  go_wp2_with (fail)
  refine HC.out.mono ?_
  rintro e w2 ⟨v', rfl, hs, hu⟩
  go_wp2_with fail
  exact hR.out _ _ ⟨v', rfl, hs, hu⟩

/-- what a yard keeps behind a put -/
def yput (l : List Int) (x : Int) : List Int := if hasB x l = true then l else if l.length < 8 then l ++ [x] else (l ++ [x]).tail
theorem yput_len {l : List Int} (h : l.length ≤ 8) (x : Int) : (yput l x).length ≤ 8 := by
  unfold yput
  split
  · exact h
  · split
    · rw [List.length_append]; simp; omega
    · rw [List.length_tail, List.length_append]; simp; omega

set_option maxRecDepth 100000 in
set_option maxHeartbeats 1000000 in
theorem yput_c {w : World} {b : Nat} {v : Value} {base : Nat} {l : List Int} (h : YdAt w b v base l) (hbase : base ≤ w.heap.size) (x : Int) :
    Calls Try.prog 23 #[.pointer (some ⟨b, 0, none⟩), .int .u64 x] w fun e w' => ∃ v', e = .returned (.bool (!hasB x l)) ∧ YdAt w' b v' base (yput l x) ∧ Upd (b :: blkL v) w w' ∧ (∀ g ∈ blkL v', g ∈ blkL v ∨ w.heap.size ≤ g) := by
  obtain ⟨c0, f0⟩ := cells1 h.heap
  have hhas := shas_c h.sub (by have := h.len; omega) (x := x) trivial (fun _ _ => trivial)
  by_cases hB : hasB x l = true
  · have hy : yput l x = l := by unfold yput; rw [if_pos hB]
    rw [hy]
    rw [hB] at hhas ⊢
    have HC := Lib.hid hhas
    have HH := Lib.hid h
    clear hhas hB hy h
    refine post fun R hR => ?_
    go_enter Try.func23, Try.ntmps23
    go_wp2_with (fail)
    refine HC.out.mono ?_
    rintro e w2 ⟨rfl, rfl⟩
    go_wp2_with fail
    exact hR.out _ _ ⟨v, rfl, HH.out, Upd.refl _ _, fun g hg => .inl hg⟩
  · have hB' : hasB x l = false := by simpa using hB
    obtain ⟨i0, hi, hz0, hz1, hz2⟩ := info_parts info_el
    obtain ⟨ao, cap, rfl, hcap, -⟩ := h.sub.form
    have HNE := Lib.hid h.ne
    have HH := Lib.hid h.heap
    have HS := Lib.hid h.sub
    have hq := lt_of_heap h.heap
    have hl8 := h.len
    have HAP := Lib.hid (evs_append l [x])
    have hmx : ∀ n : Nat, n ≤ 8 → n + 1 ≤ maxLen := fun n hn => by unfold maxLen; omega
    have HMX := Lib.hid hmx
    rw [hB'] at hhas ⊢
    have HC := Lib.hid hhas
    clear hhas hmx
    by_cases h8 : l.length < 8
    · have hy : yput l x = l ++ [x] := by unfold yput; rw [if_neg hB, if_pos h8]
      rw [hy]
      clear hy h hB hB'
      refine post fun R hR => ?_
      go_enter Try.func23, Try.ntmps23
      go_wp2_with (fail)
      refine HC.out.mono ?_
      rintro e w2 ⟨rfl, rfl⟩
      go_wp2_with (at_builtin; refine wpList_append_sub _ rfl _ _ 43 rfl base 22 i0 _ 1 8 Try.underlying43 hi hz0 hz1 hz2 rfl (by decide) (.slice ao l.length cap) l.length (evs l) rfl (HS.out.upd0 ((Upd.refl _ _).alloc _)) _ 1 1 [.int .u64 x] rfl (src_block (heap_alloc_new _ _) 1 1) rfl (by intro u hu; simp at hu; subst hu; rfl) (HMX.out _ hl8) (by omega) (by simp; omega) ?_; intro ao' cap' w5 hs5 hu5 hb5; have hh5 := hu5.keep (heap_alloc_old HH.out _) HNE.out; obtain ⟨q0, q1⟩ := cells1 hh5; have HS5 := Lib.hid hs5; have HU5 := Lib.hid hu5; have HB5 := Lib.hid hb5; have HH5 := Lib.hid hh5; clear hs5 hu5 hb5 hh5)
      have hne5 : b ∉ blkL (.slice ao' (l.length + 1) cap') := fun hm => by
        obtain ⟨cs, hc⟩ := HS5.out.ty _ hm
        rw [HH5.out] at hc; injection hc with hc; injection hc with _ hc; cases hc
      refine hR.out _ _ ⟨.slice ao' (l.length + 1) cap', rfl, ⟨heap_setCell HH5.out _ _, ?_, by rw [List.length_append]; simp; omega⟩, ?_, ?_⟩
      · rw [List.length_append, HAP.out]
        exact HS5.out.upd ((Upd.refl [b] w5).setCell (by simp) _) (by intro g hg hm; simp at hm; subst hm; exact hne5 hg)
      · exact (((Upd.refl _ _).alloc _).trans' (HU5.out.mono (by intro x hx; simp [hx]))).setCell (by simp) _
      · intro g hg
        rcases HB5.out with h | ⟨g', h1, h2⟩
        · rw [h] at hg; exact .inl hg
        · rw [h1] at hg; simp at hg h2; exact .inr (by omega)
    · obtain ⟨l1, l2, rfl⟩ : ∃ a r, l = a :: r := by
        cases l with
        | nil => simp at h8
        | cons a r => exact ⟨a, r, rfl⟩
      have hy : yput (l1 :: l2) x = l2 ++ [x] := by unfold yput; rw [if_neg hB, if_neg h8]; rfl
      rw [hy]
      have hl7 : l2.length = 7 := by simp at h8 hl8; omega
      clear hy h hB hB' h8
      rw [List.length_cons] at *
      generalize hn : l2.length + 1 = n at *
      refine post fun R hR => ?_
      go_enter Try.func23, Try.ntmps23
      go_wp2_with (fail)
      refine HC.out.mono ?_
      rintro e w2 ⟨rfl, rfl⟩
      go_wp2_with (at_builtin; refine wpList_append_sub _ rfl _ _ 43 rfl base 22 i0 _ 1 8 Try.underlying43 hi hz0 hz1 hz2 rfl (by decide) (.slice ao n cap) n (evs (l1 :: l2)) rfl (HS.out.upd0 ((Upd.refl _ _).alloc _)) _ 1 1 [.int .u64 x] rfl (src_block (heap_alloc_new _ _) 1 1) rfl (by intro u hu; simp at hu; subst hu; rfl) (HMX.out _ hl8) (by omega) (by simp; omega) ?_; intro ao' cap' w5 hs5 hu5 hb5; have hh5 := hu5.keep (heap_alloc_old HH.out _) HNE.out; obtain ⟨q0, q1⟩ := cells1 hh5; have HS5 := Lib.hid hs5; have HU5 := Lib.hid hu5; have HB5 := Lib.hid hb5; have HH5 := Lib.hid hh5; clear hs5 hu5 hb5 hh5)
      have hne5 : b ∉ blkL (.slice ao' (n + 1) cap') := fun hm => by
        obtain ⟨cs, hc⟩ := HS5.out.ty _ hm
        rw [HH5.out] at hc; injection hc with hc; injection hc with _ hc; cases hc
      have hx6 : Upd [b] w5 (w5.setCell ⟨b, 0, none⟩ (.slice ao' (n + 1) cap')) := (Upd.refl [b] w5).setCell (by simp) _
      have hs6 := HS5.out.upd hx6 (by intro g hg hm; simp at hm; subst hm; exact hne5 hg)
      have hh6 := heap_setCell HH5.out 0 (.slice ao' (n + 1) cap')
      have hu6 : Upd (b :: blkL (.slice ao n cap)) w (w5.setCell ⟨b, 0, none⟩ (.slice ao' (n + 1) cap')) := (((Upd.refl _ _).alloc _).trans' (HU5.out.mono (by intro x hx; simp [hx]))).setCell (by simp) _
      clear hx6
      generalize w5.setCell ⟨b, 0, none⟩ (.slice ao' (n + 1) cap') = w6 at *
      have hl9 : (l2 ++ [x]).length + 1 = n + 1 := by rw [List.length_append]; simp; omega
      have he : evs (l1 :: l2) ++ [.int .u64 x] = evs (l1 :: (l2 ++ [x])) := by rw [← List.cons_append, HAP.out]; rfl
      rw [he, ← hl9] at hs6
      have HL9 := Lib.hid hl9
      have HU6 := Lib.hid hu6
      have HH6 := Lib.hid hh6
      have hd := sdel1_c hs6 (by omega) (by omega)
      have HD := Lib.hid hd
      clear hs6 hh6 hu6 hd he hl9 q0 q1 c0 f0
      refine Calls.mono (by have := HD.out; rw [HL9.out] at this; exact this) ?_
      rintro e w7 ⟨v7, rfl, hs7, hu7, hb7⟩
      obtain ⟨ao7, cap7, rfl, -, -⟩ := hs7.form
      clear HD HL9
      generalize hm : (l2 ++ [x]).length = m at *
      have HM := Lib.hid hm
      clear hm hl7
      have hh7 := hu7.keep HH6.out hne5
      obtain ⟨q0, q1⟩ := cells1 hh7
      have HS7 := Lib.hid hs7
      have HU7 := Lib.hid hu7
      have HB7 := Lib.hid hb7
      have HH7 := Lib.hid hh7
      clear hs7 hu7 hb7 hh7
      go_wp2_with fail
      have hne7 : b ∉ blkL (.slice ao7 m cap7) := fun hm => hne5 (HB7.out _ hm)
      have hbl : ∀ g ∈ blkL (.slice ao' (n + 1) cap'), g ∈ blkL (.slice ao n cap) ∨ w.heap.size ≤ g := fun g hg => by
        rcases HB5.out with h | ⟨g', h1, h2⟩
        · rw [h] at hg; exact .inl hg
        · rw [h1] at hg; simp at hg h2; exact .inr (by omega)
      refine hR.out _ _ ⟨_, rfl, ⟨heap_setCell HH7.out _ _, by rw [HM.out]; exact HS7.out.upd ((Upd.refl [b] w7).setCell (by simp) _) (by intro g hg hm; simp at hm; subst hm; exact hne7 hg), by have := HM.out; rw [List.length_append] at this; simp at this; rw [HM.out]; omega⟩, ?_, fun g hg => hbl g (HB7.out _ hg)⟩
      refine Upd.setCell ?_ (by simp) _
      exact HU6.out.trans HU7.out (by intro g hg; rcases hbl g hg with h | h; exact .inl (by simp [h]); exact .inr h)

/-- what a yard keeps behind a take -/
def ytake (l : List Int) (x : Int) : List Int := rmv x l
theorem ytake_len (l : List Int) (x : Int) : (ytake l x).length ≤ l.length := List.length_filter_le _ _
theorem ytake_lt (l : List Int) (x : Int) : decide ((ytake l x).length < l.length) = hasB x l := by
  unfold hasB ytake rmv
  rw [decide_eq_decide]
  constructor
  · intro h
    by_cases hm : x ∈ l
    · exact hm
    · rw [List.filter_eq_self.2 (by intro y hy; have : y ≠ x := (fun e => hm (e ▸ hy)); simp [this])] at h
      omega
  · intro h
    have h1 : (l.filter fun y => !decide (y = x)).length < l.length := by
      rcases Nat.lt_or_ge (l.filter fun y => !decide (y = x)).length l.length with q | q
      · exact q
      · have := List.length_filter_le (fun y => !decide (y = x)) l
        have := List.length_filter_eq_length_iff.1 (Nat.le_antisymm this q) x h
        simp at this
    omega

set_option maxRecDepth 100000 in
set_option maxHeartbeats 1000000 in
theorem ytake_c {w : World} {b : Nat} {v : Value} {base : Nat} {l : List Int} (h : YdAt w b v base l) (x : Int) :
    Calls Try.prog 21 #[.pointer (some ⟨b, 0, none⟩), .int .u64 x] w fun e w' => ∃ v', e = .returned (.bool (hasB x l)) ∧ YdAt w' b v' base (ytake l x) ∧ Upd (b :: blkL v) w w' ∧ (∀ g ∈ blkL v', g ∈ blkL v) := by
  obtain ⟨c0, f0⟩ := cells1 (heap_alloc_old h.heap (.cells #[.int .u64 x] 22))
  have hnew := heap_alloc_new w (.cells #[.int .u64 x] 22)
  have hu0 : Upd [] w (w.alloc (.cells #[.int .u64 x] 22)) := (Upd.refl _ _).alloc _
  have hnv : w.heap.size ∉ blkL v := fun hm => by have := (h.sub.lt _ hm).2; omega
  have hd := sdel_c (h.sub.upd0 hu0) (by have := h.len; omega) hnew hnv trivial (fun _ _ => trivial)
  have hlt := ytake_lt l x
  have hln := ytake_len l x
  have hl8 := h.len
  have hne := h.ne
  have hs0 := h.heap
  obtain ⟨ao, cap, rfl, hcap, -⟩ := h.sub.form
  have HH := Lib.hid (heap_alloc_old hs0 (.cells #[.int .u64 x] 22))
  have HU := Lib.hid hu0
  have HNE := Lib.hid hne
  have HLT := Lib.hid hlt
  have hdd : Calls Try.prog 27 #[.slice ao l.length cap, .func (.func 28) #[] #[.pointer (some ⟨w.heap.size, 0, none⟩)]] (w.alloc (.cells #[.int .u64 x] 22)) fun e w' => ∃ v', e = .returned v' ∧ Sub w' base 22 1 v' (ytake l x).length (evs (ytake l x)) ∧ Upd (blkL (.slice ao l.length cap)) (w.alloc (.cells #[.int .u64 x] 22)) w' ∧ (∀ g ∈ blkL v', g ∈ blkL (.slice ao l.length cap)) := hd
  have HDD := Lib.hid hdd
  clear hd hdd hu0 hne hlt hnew hnv hs0 h
  generalize ytake l x = l2 at *
  refine post fun R hR => ?_
  go_enter Try.func21, Try.ntmps21
  go_wp2_with (fail)
  refine HDD.out.mono ?_
  rintro e w2 ⟨v2, rfl, hs2, hu2, hb2⟩
  obtain ⟨ao2, cap2, rfl, hcap2, -⟩ := hs2.form
  have hh2 := hu2.keep HH.out HNE.out
  obtain ⟨q0, q1⟩ := cells1 hh2
  have HS2 := Lib.hid hs2
  have HU2 := Lib.hid hu2
  have HB2 := Lib.hid hb2
  have HH2 := Lib.hid hh2
  clear hs2 hu2 hb2 hh2
  go_wp2_with fail
  refine hR.out _ _ ⟨_, ?_, ⟨heap_setCell HH2.out _ _, HS2.out.upd ((Upd.refl [b] w2).setCell (by simp) _) (by intro g hg hm; simp at hm; subst hm; exact HNE.out (HB2.out _ hg)), by omega⟩, ?_, HB2.out⟩
  · rw [← HLT.out]; try rfl
  · refine Upd.setCell ?_ (by simp) _
    exact (HU.out.mono (by simp)).trans' (HU2.out.mono (by intro x hx; simp [hx]))
end Go.Proofs.Ytipcgddcbnhejaa
