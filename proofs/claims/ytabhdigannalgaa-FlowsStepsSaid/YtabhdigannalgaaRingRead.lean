/-
  The contracts of the ring's Cost and Active, on a ring in memory as one notion. Condition: the ring is one that its own functions made, by some hundred steps at most.
-/
import Derived.Test.YtabhdigannalgaaRingTurn
namespace Go.Proofs.Ytabhdigannalgaa
open Go Go.RowKit Go.Maps

theorem sumI_snoc : ∀ (l : List Int) (c : Int), sumI (l ++ [c]) = sumI l + c
  | [], c => by simp [sumI]
  | x :: l, c => by simp only [List.cons_append, sumI, sumI_snoc l c]; omega
theorem sumI_bd : ∀ (l : List Int), (∀ c ∈ l, 1 ≤ c ∧ c ≤ 1040) → 0 ≤ sumI l ∧ sumI l ≤ l.length * 1040
  | [], _ => by simp [sumI]
  | x :: l, h => by
    have h1 := h x (by simp)
    have h2 := sumI_bd l fun c hc => h c (by simp [hc])
    simp only [sumI, List.length_cons]
    omega

set_option maxRecDepth 100000 in
set_option maxHeartbeats 1000000 in
theorem ring_cost_c {w : World} {Z : Nat → Prop} {b : Nat} {ty : TypeId} {tl : List Value} {K : Nat} {r : Rg} (h : RingAt w Z b ty tl K r) (hK : K ≤ 900) {n : Int} (hn : inI n) :
    Calls Try.prog 27 #[.pointer (some ⟨b, 0, none⟩), i64 n] w fun e w' => e = .returned (i64 (r.cost n)) ∧ w = w' := by
  obtain ⟨hty, hok, hsm, M0, blk, mv, rv, cv, hMK, hX⟩ := h
  have hfd := ringx_find hty hX hn
  have hco : r.cost n = match r.fl n with | none => 0 | some f => sumI f.cs := rfl
  cases hf : r.fl n with
  | none =>
    rw [hf] at hfd
    simp only [hf] at hco
    rw [hco]
    have HF := Lib.hid hfd
    clear hfd hX hok hsm hf hco
    refine post fun R hR => ?_
    go_enter Try.func27, Try.ntmps27
    go_wp2_with (fail)
    refine HF.out.mono ?_
    rintro e w2 ⟨rfl, rfl⟩
    rw [show (Option.map (fun _ => blk n) (none : Option Fl)) = none from rfl, show ptrO none = .pointer none from rfl]
    go_wp2_with (fail)
    exact hR.out _ _ ⟨rfl, rfl⟩
  | some f =>
    rw [hf] at hfd
    simp only [hf] at hco
    rw [hco]
    obtain ⟨k1, k2, k3, k4⟩ := hX.fl n f hf
    obtain ⟨ao, cap, hcv, hcap, hrow⟩ := k2.form
    rw [hcv] at k1
    obtain ⟨p0, p1, p2, p3, p4, p5, -⟩ := cells6 k1
    have hfo := (hok.fok n f hf).cs
    have hfl : f.cs.length ≤ 900 := Nat.le_trans (hsm n f hf) hK
    generalize f.cs = cs at *
    have HF := Lib.hid hfd
    have HFO := Lib.hid hfo
    by_cases h0 : cs.length = 0
    · obtain rfl : cs = [] := List.eq_nil_of_length_eq_zero h0
      clear hfd hX hok hsm hf hco k1 k2 k4 hcv hrow hfo
      refine post fun R hR => ?_
      go_enter Try.func27, Try.ntmps27
      go_wp2_with (fail)
      refine HF.out.mono ?_
      rintro e w2 ⟨rfl, rfl⟩
      rw [show ptrO (Option.map (fun _ => blk n) (some f)) = .pointer (some ⟨blk n, 0, none⟩) from rfl]
      go_wp2_with (fail)
      refine wp_loop_once ?_
      go_wp2_with (fail)
      exact hR.out _ _ ⟨rfl, rfl⟩
    · obtain ⟨g, off, rfl, -, -, hcs⟩ := hrow (by omega)
      have hcell : ∀ k (hk : k < cs.length), w.cell? ⟨g, off + k, none⟩ = some (i64 cs[k]) := fun k hk => hcs k _ (by rw [List.getElem?_map, List.getElem?_eq_getElem hk]; rfl)
      have HC := Lib.hid hcell
      clear hfd hX hok hsm hf hco k1 k2 k4 hcv hrow hfo hcs hcell
      refine post fun R hR => ?_
      go_enter Try.func27, Try.ntmps27
      go_wp2_with (fail)
      refine HF.out.mono ?_
      rintro e w2 ⟨rfl, rfl⟩
      rw [show ptrO (Option.map (fun _ => blk n) (some f)) = .pointer (some ⟨blk n, 0, none⟩) from rfl]
      go_wp2_with (fail)
      go_loop [5, 19] (fun s i => ∃ k : Nat, i = i64 k ∧ k ≤ cs.length ∧ s = i64 (sumI (cs.take k))) (fun _ i => cs.length - (intOf i).toNat)
      case atStart => exact ⟨0, rfl, Nat.zero_le _, rfl⟩
      case round =>
        obtain ⟨k, rfl, hk, rfl⟩ := hrel
        have hb1 := sumI_bd (cs.take k) fun c hc => HFO.out c (List.mem_of_mem_take hc)
        obtain ⟨b1, b2⟩ := hb1
        have hl : (cs.take k).length ≤ k := List.length_take_le _ _
        by_cases hlt : k < cs.length
        · have hc := HC.out k hlt
          have hcb := HFO.out cs[k] (List.getElem_mem hlt)
          obtain ⟨g1, g2⟩ := hcb
          have hsn : sumI (cs.take (k + 1)) = sumI (cs.take k) + cs[k] := by rw [List.take_succ_eq_append_getElem hlt, sumI_snoc]
          have HSN := Lib.hid hsn
          clear hsn
          generalize cs[k] = c at *
          generalize sumI (cs.take k) = s at *
          go_wp2_with (fail)
          go_round
          case rel => exact ⟨k + 1, by go_num, by omega, by rw [HSN.out]⟩
          case measure => simp [intOf]; omega
        · have e : k = cs.length := by omega
          have he : sumI (cs.take k) = sumI cs := by rw [e, List.take_length]
          have HE := Lib.hid he
          clear he
          go_wp2_with (fail)
          exact hR.out _ _ ⟨by rw [← HE.out], rfl⟩

theorem info_int2 : (Try.prog.info? 3).map (fun i => (i.zero, i.size, i.bytes)) = some (some (.int .i64 0), 1, 8) := by kernel_rfl

set_option maxRecDepth 100000 in
set_option maxHeartbeats 1000000 in
theorem ring_active_c {w : World} {Z : Nat → Prop} {b : Nat} {ty : TypeId} {tl : List Value} {K : Nat} {r : Rg} (h : RingAt w Z b ty tl K r) :
    Calls Try.prog 16 #[.pointer (some ⟨b, 0, none⟩)] w fun e w' => ∃ v, e = .returned v ∧ Sub w' w.heap.size 3 1 v r.row.length (r.row.map i64) ∧ Upd [] w w' := by
  obtain ⟨hty, hok, hsm, M0, blk, mv, rv, cv, hMK, hX⟩ := h
  have hlen := hok.len
  have hb := hX.hb
  obtain ⟨ao, cap, hrv, hcap, hrow⟩ := hX.row.form
  rw [hrv] at hb
  obtain ⟨-, c1, -, f1⟩ := rcells hb
  by_cases h0 : r.row.length = 0
  · have hr : r.row = [] := List.eq_nil_of_length_eq_zero h0
    rw [hr] at c1 ⊢
    simp only [List.length_nil] at c1
    clear hX hok hsm hb hrow hrv
    refine post fun R hR => ?_
    go_enter Try.func16, Try.ntmps16
    go_wp2_with (fail)
    refine wp_loop_once ?_
    go_wp2_with (fail)
    exact hR.out _ _ ⟨_, rfl, sub_nil _ _ _ _, Upd.refl _ _⟩
  · obtain ⟨g, off, rfl, -, hgl, hcs⟩ := hrow (by omega)
    have hcell : ∀ k (hk : k < r.row.length), w.cell? ⟨g, off + k, none⟩ = some (.pointer (some ⟨blk r.row[k], 0, none⟩)) := fun k hk => hcs k _ (by
      unfold evs; rw [List.getElem?_map, List.getElem?_map, List.getElem?_eq_getElem hk]; rfl)
    have hnum : ∀ k (hk : k < r.row.length), blk r.row[k] < w.heap.size ∧ w.cell? ⟨blk r.row[k], 0, none⟩ = some (i64 r.row[k]) := fun k hk => by
      obtain ⟨f, hf, -⟩ := (hok.mem r.row[k]).1 (List.getElem_mem hk)
      have k1 := (hX.fl _ f hf).1
      exact ⟨lt_of_heap k1, (cells6 k1).1⟩
    obtain ⟨i0, hi, hz0, hz1, hz2⟩ := info_parts info_int2
    have HC := Lib.hid hcell
    have HN := Lib.hid hnum
    have hbl := lt_of_heap hb
    clear hX hok hsm hb hrow hrv hcs hcell hnum
    generalize r.row = row at *
    refine post fun R hR => ?_
    go_enter Try.func16, Try.ntmps16
    go_wp2_with (fail)
    go_loopw [3, 14] (fun v i wr => ∃ k : Nat, i = i64 k ∧ k ≤ row.length ∧ Sub wr w.heap.size 3 1 v k ((row.take k).map i64) ∧ Upd [] w wr) (fun _ i _ => row.length - (intOf i).toNat)
    case atStart => exact ⟨0, rfl, Nat.zero_le _, sub_nil _ _ _ _, Upd.refl _ _⟩
    case round =>
      obtain ⟨k, rfl, hk, hs, hu⟩ := hrel
      obtain ⟨ao2, cap2, rfl, -, -⟩ := hs.form
      by_cases hlt : k < row.length
      · have hc := (World.cell?_of_block (a := ⟨g, off + k, none⟩) (hu.block g hgl (by simp))).trans (HC.out k hlt)
        obtain ⟨hn1, hn2⟩ := HN.out k hlt
        have hn := (World.cell?_of_block (a := ⟨blk row[k], 0, none⟩) (hu.block _ hn1 (by simp))).trans hn2
        have hsn : (row.take (k + 1)).map i64 = (row.take k).map i64 ++ [i64 row[k]] := by rw [List.take_succ_eq_append_getElem hlt, List.map_append]; rfl
        have HSN := Lib.hid hsn
        have HS := Lib.hid hs
        have HU := Lib.hid hu
        have hvb : ∀ x ∈ blkL (.slice ao2 k cap2), w.heap.size ≤ x := fun x hx => (hs.lt x hx).1
        have HVB := Lib.hid hvb
        have hmx : k + 1 ≤ maxLen := by unfold maxLen; omega
        have hsz := hu.size
        clear hsn hs hu hvb hn1 hn2
        generalize row[k] = m at *
        generalize blk m = bm at *
        go_wp2_with (at_builtin; refine wpList_append_sub _ rfl _ _ 36 rfl w.heap.size 3 i0 _ 1 8 Try.underlying36 hi hz0 hz1 hz2 rfl (by decide) (.slice ao2 k cap2) k _ rfl (HS.out.upd0 ((Upd.refl _ _).alloc _)) _ 1 1 [i64 m] rfl (src_block (heap_alloc_new _ _) 1 1) rfl (by intro u hu; simp at hu; subst hu; rfl) hmx (by omega) (by simp; omega) ?_; intro ao' cap' w5 hs5 hu5 hb5; have hx5 : Upd [] w w5 := (HU.out.alloc _).trans hu5 (fun x hx => .inr (HVB.out x hx)); have HS5 := Lib.hid hs5; have HX5 := Lib.hid hx5; clear hs5 hu5 hb5 hx5)
        go_roundw
        case rel => exact ⟨k + 1, by go_num, by omega, by rw [HSN.out]; exact HS5.out, HX5.out⟩
        case measure => simp [intOf]; omega
      · have e : k = row.length := by omega
        have HS := Lib.hid hs
        clear hs
        go_wp2_with (fail)
        refine hR.out _ _ ⟨_, rfl, ?_, hu⟩
        have := HS.out
        rw [e, List.take_length] at this
        rw [← e]; rw [← e] at this
        exact this
end Go.Proofs.Ytabhdigannalgaa
