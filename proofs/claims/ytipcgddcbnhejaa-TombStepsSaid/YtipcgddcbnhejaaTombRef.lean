/-
  The contracts of the document's yard (concourseref33). Conditions: the rows are the call's own, of eight ids at most.
-/
import Derived.Test.YtipcgddcbnhejaaTomb
import Derived.Test.YtipcgddcbnhejaaDedRef
namespace Go.Proofs.Ytipcgddcbnhejaa
open Go Go.RowKit

theorem wpList_append_run {P : Program} (w : World) {ops : Array Oper} {rest : List Oper} {o : Oper} {a : Act} {Q : Exit → Act → World → Prop}
    (hg : o.guard = none) (s x : Operand) (t : TypeId) (hop : o.op = Op.call { callee := Callee.builtin Builtin.append, args := #[s, x], argTypes := #[t, t] })
    {v vx v' : Value} {w' : World} (hs : a.eval s = v) (hx : a.eval x = vx) (hrun : (Builtin.append_ #[t, t] o.type #[v, vx]).run P w = .ok v' w') (h : wpList P ops Q rest (a.put o.dst v') w') :
    wpList P ops Q (o :: rest) a w :=
  wpList_plain hg fun _ hK' => wp_append_run s x t hop hs hx hrun (hK' _ _ h)

set_option maxRecDepth 100000 in
set_option maxHeartbeats 1000000 in
theorem rhas33_c {w : World} {base : Nat} {v : Value} {l : List Int} (h : Sub w base 22 1 v l.length (evs l)) (hlen : l.length ≤ 1000) (x : Int) :
    Calls Try.prog 20 #[v, .int .u64 x] w fun e w' => e = .returned (.bool (hasB x l)) ∧ w = w' := by
  obtain ⟨ao, cap, rfl, hcap, hrow⟩ := h.form
  by_cases h0 : 0 < l.length
  · obtain ⟨g, off, rfl, -, -, hcs⟩ := hrow h0
    have HCS := Lib.hid hcs
    clear hcs hrow h
    refine post fun R hR => ?_
    go_enter Try.func20, Try.ntmps20
    go_wp2_with fail
    go_loop [5] (fun i => ∃ k : Nat, i = i64 k ∧ k ≤ l.length ∧ (∀ j, j < k → ∀ h : j < l.length, ¬ l[j] = x)) (fun i => l.length - (intOf i).toNat)
    case atStart => exact ⟨0, rfl, Nat.zero_le _, fun j hj => by omega⟩
    case round =>
      obtain ⟨k, rfl, hk, hno⟩ := hrel
      have HNO := Lib.hid hno
      clear hno
      by_cases hlt : k < l.length
      · have c1 := HCS.out k _ (evs_get hlt)
        by_cases he : l[k] = x
        · have hf : hasB x l = true := by unfold hasB; rw [← he]; simp
          have HF := Lib.hid hf
          rw [he] at c1
          clear hf he
          go_wp2_with fail
          exact hR.out _ _ ⟨by (rw [HF.out]; try rfl), rfl⟩
        · have HE := Lib.hid he
          have hq := elem_ne he
          generalize hy : l[k] = y at c1 hq
          clear hy he
          go_wp2_with fail
          go_round
          case rel =>
            refine ⟨k + 1, by go_num, by omega, fun j hj h => ?_⟩
            by_cases e : j = k
            · subst e; exact HE.out
            · exact HNO.out j (by omega) h
          case measure => simp [intOf]; omega
      · have hf : hasB x l = false := by
          unfold hasB
          rw [decide_eq_false_iff_not]
          intro hm
          obtain ⟨i, hi, e⟩ := List.getElem_of_mem hm
          exact HNO.out i (by omega) hi e
        have HF := Lib.hid hf
        clear hf
        go_wp2_with fail
        exact hR.out _ _ ⟨by (rw [HF.out]; try rfl), rfl⟩
  · obtain rfl : l = [] := List.eq_nil_of_length_eq_zero (by omega)
    clear h hrow
    refine post fun R hR => ?_
    go_enter Try.func20, Try.ntmps20
    go_wp2_with fail
    refine wp_loop_once ?_
    go_wp2_with fail
    exact hR.out _ _ ⟨rfl, rfl⟩

set_option maxRecDepth 100000 in
set_option maxHeartbeats 1000000 in
theorem rput33_c {w : World} {base : Nat} {v : Value} {l : List Int} (h : Sub w base 22 1 v l.length (evs l)) (hb : base ≤ w.heap.size) (hl8 : l.length ≤ 8) (x : Int) :
    Calls Try.prog 24 #[v, .int .u64 x] w fun e w' => ∃ v', e = .returned v' ∧ Sub w' base 22 1 v' (yput l x).length (evs (yput l x)) ∧ Upd [] w w' ∧ (∀ g ∈ blkL v', g ∈ blkL v ∨ w.heap.size ≤ g) := by
  have hhas := rhas33_c h (by omega) x
  by_cases hB : hasB x l = true
  · have hy : yput l x = l := by unfold yput; rw [if_pos hB]
    rw [hy]
    rw [hB] at hhas
    obtain ⟨ao, cap, rfl, hcap, -⟩ := h.form
    have HC := Lib.hid hhas
    have HH := Lib.hid h
    clear hhas hB hy h
    refine post fun R hR => ?_
    go_enter Try.func24, Try.ntmps24
    go_wp2_with (fail)
    refine HC.out.mono ?_
    rintro e w2 ⟨rfl, rfl⟩
    go_wp2_with fail
    exact hR.out _ _ ⟨_, rfl, HH.out, Upd.refl _ _, fun g hg => .inl hg⟩
  · have hB' : hasB x l = false := by simpa using hB
    rw [hB'] at hhas
    obtain ⟨i0, hi, hz0, hz1, hz2⟩ := info_parts info_el
    obtain ⟨ao, cap, rfl, hcap, -⟩ := h.form
    have hmx : 0 + l.length ≤ maxLen := by unfold maxLen; omega
    have hmx1 : l.length + 1 ≤ maxLen := by unfold maxLen; omega
    have hnew : Sub (w.alloc (.cells #[] 22)) w.heap.size 22 1 (.slice (some ⟨w.heap.size, 0, none⟩) 0 0) 0 [] :=
      ⟨rfl, .inr ⟨w.heap.size, 0, 0, #[], rfl, Nat.le_refl _, heap_alloc_new _ _, Nat.le_refl _, by unfold maxLen; omega, by simp, fun j hj => by omega⟩⟩
    obtain ⟨ao1, cap1, w1, hrun1, hs1, hu1, hb1⟩ := run_append_sl (P := Try.prog) (w := w.alloc (.cells #[] 22)) w.heap.size 43 43 22 i0 _ 1 8 Try.underlying43 hi hz0 hz1 hz2 rfl (by decide) hnew (Sub.src (h.upd0 ((Upd.refl [] w).alloc _))) (by rw [evs_len, Nat.mul_one]) (evs_one l) hmx (by omega) (by simp)
    rw [List.nil_append] at hs1
    have hU1 : Upd [] w w1 := ((Upd.refl [] w).alloc _).trans hu1 (by intro g hg; simp [blkL] at hg; exact .inr (by omega))
    have hg1 : ∀ g ∈ blkL (.slice ao1 (0 + l.length) cap1), w.heap.size ≤ g := fun g hg => (hs1.lt g hg).1
    clear hu1 hb1 hnew
    obtain ⟨ao2, cap2, w2, hrun2, hs2, hu2, hb2⟩ := run_append_sl (P := Try.prog) (w := w1.alloc (.cells #[.int .u64 x] 22)) w.heap.size 43 43 22 i0 _ 1 8 Try.underlying43 hi hz0 hz1 hz2 rfl (by decide) (hs1.upd0 ((Upd.refl [] w1).alloc _)) (src_block (heap_alloc_new _ _) 1 1) rfl (by intro u hu; simp at hu; subst hu; rfl) (by rw [Nat.zero_add]; exact hmx1) (by omega) (by have := hU1.size; simp; omega)
    have hU2 : Upd [] w w2 := (hU1.alloc _).trans hu2 (fun g hg => .inr (hg1 g hg))
    have hap : evs l ++ [.int .u64 x] = evs (l ++ [x]) := (evs_append l [x]).symm
    rw [hap] at hs2
    simp only [Nat.zero_add] at hrun1 hrun2 hs2
    have hg2 : ∀ g ∈ blkL (.slice ao2 (l.length + 1) cap2), w.heap.size ≤ g := fun g hg => (hs2.lt g hg).1
    have hs3 : Sub w2 base 22 1 (.slice ao2 (l.length + 1) cap2) (l.length + 1) (evs (l ++ [x])) := hs2.mono hb
    obtain ⟨ao3, cap3, hv3, hcap3, hrow3⟩ := hs3.form
    obtain ⟨g3, off3, rfl, -, -, -⟩ := hrow3 (by omega)
    injection hv3 with e1 e2 e3
    subst e1; subst e3
    clear e2 hrow3 hs1 hs2 hu2 hb2 hg1 hU1 hmx hmx1 hap hi hz0 hz1 hz2
    have HC := Lib.hid hhas
    have HS := Lib.hid hs3
    have HU := Lib.hid hU2
    have hg3 : w.heap.size ≤ g3 := hg2 g3 (by simp [blkL])
    clear hg2
    have HR1 := Lib.hid hrun1
    have HR2 := Lib.hid hrun2
    clear hhas hs3 hU2 hrun1 hrun2
    by_cases h8 : l.length < 8
    · have hy : yput l x = l ++ [x] := by unfold yput; rw [if_neg hB, if_pos h8]
      have hyl : (yput l x).length = l.length + 1 := by rw [hy, List.length_append]; rfl
      rw [hyl, hy]
      clear hy hyl hB hB' h
      generalize l.length = n at *
      refine post fun R hR => ?_
      go_enter Try.func24, Try.ntmps24
      go_wp2_with (fail)
      refine HC.out.mono ?_
      rintro e w3 ⟨rfl, rfl⟩
      go_wp2_with (at_builtin; first | (refine wpList_append_run _ rfl _ _ 43 rfl rfl rfl HR1.out ?_) | (refine wpList_append_run _ rfl _ _ 43 rfl rfl rfl HR2.out ?_))
      exact hR.out _ _ ⟨_, rfl, HS.out, HU.out, fun g hg => .inr (by simp [blkL] at hg; omega)⟩
    · obtain ⟨l1, l2, rfl⟩ : ∃ a r, l = a :: r := by
        cases l with
        | nil => simp at h8
        | cons a r => exact ⟨a, r, rfl⟩
      have hy : yput (l1 :: l2) x = l2 ++ [x] := by unfold yput; rw [if_neg hB, if_neg h8]; rfl
      have hyl : (yput (l1 :: l2) x).length = (l1 :: l2).length := by rw [hy, List.length_append]; rfl
      rw [hyl, hy]
      have hn8 : (l1 :: l2).length = 8 := by omega
      have ht := HS.out.tail (lo := 1) (by omega)
      have hc2 : ¬ cap2 = 1 := by omega
      rw [hn8] at HC HR1 HR2 ht hcap hcap3 ⊢
      have HT := Lib.hid (show Sub w2 base 22 1 (.slice (some ⟨g3, off3 + 1, none⟩) 8 (cap2 - 1)) 8 (evs (l2 ++ [x])) from ht)
      clear ht HS hy hyl hB hB' h h8 hn8 hl8
      refine post fun R hR => ?_
      go_enter Try.func24, Try.ntmps24
      go_wp2_with (fail)
      refine HC.out.mono ?_
      rintro e w3 ⟨rfl, rfl⟩
      go_wp2_with (at_builtin; first | (refine wpList_append_run _ rfl _ _ 43 rfl rfl rfl HR1.out ?_) | (refine wpList_append_run _ rfl _ _ 43 rfl rfl rfl HR2.out ?_))
      exact hR.out _ _ ⟨_, rfl, HT.out, HU.out, fun g hg => .inr (by simp [blkL] at hg; omega)⟩

set_option maxRecDepth 100000 in
set_option maxHeartbeats 1000000 in
theorem rtake33_c {w : World} {base : Nat} {v : Value} {l : List Int} (h : Sub w base 22 1 v l.length (evs l)) (hlen : l.length ≤ 1000) (x : Int) :
    Calls Try.prog 22 #[v, .int .u64 x] w fun e w' => ∃ v', e = .returned v' ∧ Sub w' w.heap.size 22 1 v' (ytake l x).length (evs (ytake l x)) ∧ Upd [] w w' := by
  obtain ⟨i0, hi, hz0, hz1, hz2⟩ := info_parts info_el
  obtain ⟨ao, cap, rfl, hcap, hrow⟩ := h.form
  by_cases h0 : 0 < l.length
  · obtain ⟨g, off, rfl, -, -, -⟩ := hrow h0
    have HS := Lib.hid h
    clear hrow h
    refine post fun R hR => ?_
    go_enter Try.func22, Try.ntmps22
    go_wp2_with fail
    go_loopw [5, 6] (fun out i wr => ∃ k : Nat, i = i64 k ∧ k ≤ l.length ∧ Sub wr w.heap.size 22 1 out (rmv x (l.take k)).length (evs (rmv x (l.take k))) ∧ Upd [] w wr) (fun _ i _ => l.length - (intOf i).toNat)
    case atStart => exact ⟨0, rfl, Nat.zero_le _, sub_nil _ _ _ _, Upd.refl _ _⟩
    case round =>
      obtain ⟨k, rfl, hk, hs, hu⟩ := hrel
      obtain ⟨ao2, cap2, rfl, hcap2, -⟩ := hs.form
      by_cases hlt : k < l.length
      · have c1 := (HS.out.upd0 hu).cell (evs_get hlt)
        have hsn := rmv_snoc x l k hlt
        have hlr : (rmv x (l.take k)).length ≤ 1000 := Nat.le_trans (List.length_filter_le _ _) (by rw [List.length_take]; omega)
        have hmx : (rmv x (l.take k)).length + 1 ≤ maxLen := by unfold maxLen; omega
        have hws := hu.size
        have HO := Lib.hid hs
        have HU := Lib.hid hu
        have HMX := Lib.hid hmx
        clear hs hu hmx
        by_cases he : l[k] = x
        · rw [if_pos he, List.append_nil] at hsn
          rw [he] at c1
          have HSN := Lib.hid hsn
          clear hsn he
          generalize rmv x (l.take k) = r at *
          go_wp2_with (fail)
          go_roundw
          case rel => refine ⟨k + 1, by go_num, by omega, by rw [HSN.out]; exact HO.out, HU.out⟩
          case measure => simp [intOf]; omega
        · rw [if_neg he] at hsn
          have hq := elem_ne he
          have HSN := Lib.hid hsn
          clear hsn
          generalize l[k] = y at c1 hq HSN
          generalize rmv x (l.take k) = r at *
          clear he
          go_wp2_with (at_builtin; refine wpList_append_sub _ rfl _ _ 43 rfl w.heap.size 22 i0 _ 1 8 Try.underlying43 hi hz0 hz1 hz2 rfl (by decide) (.slice ao2 r.length cap2) r.length (evs r) rfl (HO.out.upd0 ((Upd.refl _ _).alloc _)) _ 1 1 [.int .u64 y] rfl (src_block (heap_alloc_new _ _) 1 1) rfl (by intro u hu; simp at hu; subst hu; rfl) HMX.out (by omega) (by simp; omega) ?_; intro ao' cap' w5 hs5 hu5 hb5; have HS5 := Lib.hid hs5; have HU5 := Lib.hid hu5; clear hs5 hu5 hb5)
          go_roundw
          case rel =>
            refine ⟨k + 1, by go_num, by omega, ?_, (HU.out.alloc _).trans HU5.out (fun g hg => .inr ((HO.out.lt g hg).1))⟩
            rw [HSN.out, List.length_append, evs_append]
            exact HS5.out
          case measure => simp [intOf]; omega
      · have hkl : l.take k = l := List.take_of_length_le (by omega)
        rw [hkl] at hs hcap2 ⊢
        have HO := Lib.hid hs
        have HU := Lib.hid hu
        clear hs hu hkl
        go_wp2_with fail
        exact hR.out _ _ ⟨_, rfl, HO.out, HU.out⟩
  · obtain rfl : l = [] := List.eq_nil_of_length_eq_zero (by omega)
    clear h hrow
    refine post fun R hR => ?_
    go_enter Try.func22, Try.ntmps22
    go_wp2_with fail
    refine wp_loop_once ?_
    go_wp2_with fail
    exact hR.out _ _ ⟨_, rfl, sub_nil _ _ _ _, Upd.refl _ _⟩
end Go.Proofs.Ytipcgddcbnhejaa
