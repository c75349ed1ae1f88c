/-
  The contracts of the document's ring (concourseref25): There, New, without, Ints. Condition: rows of some hundred numbers at most.
-/
import Derived.Test.YtabhdigannalgaaRfRing
namespace Go.Proofs.Ytabhdigannalgaa
open Go Go.RowKit

def thereG (G : Nat → F6) (n : Int) : Bool := decide (0 ≤ n ∧ n ≤ 8) && (G n.toNat).th

set_option maxRecDepth 100000 in
theorem rthere_c {w : World} {fv : Value} {G : Nat → F6} {cv : Nat → Value} (h : FlsAt w fv G cv) (n : Int) (ra : Option Addr) (rn rc : Nat) :
    Calls Try.prog 55 #[.agg #[fv, .slice ra rn rc], i64 n] w fun e w' => e = .returned (.bool (thereG G n)) ∧ Upd [] w w' := by
  obtain ⟨g, off, cap, rfl, hg, hcap⟩ := h.form
  by_cases h1 : n < 0
  · have e : thereG G n = false := by unfold thereG; rw [decide_eq_false (by omega)]; rfl
    rw [e]
    clear h e
    refine post fun R hR => ?_
    go_enter Try.func55, Try.ntmps55
    go_wp2_with (fail)
    exact hR.out _ _ ⟨rfl, by (repeat' (first | (with_reducible exact Upd.refl _ _) | (with_reducible assumption) | (with_reducible apply Upd.drew) | (with_reducible apply Upd.drewN) | (with_reducible apply Upd.alloc) | (with_reducible refine Upd.setCell ?_ (by simp) _) | (with_reducible refine Upd.setCell ?_ (by simp; omega) _)))⟩
  · by_cases h2 : 8 < n
    · have e : thereG G n = false := by unfold thereG; rw [decide_eq_false (by omega)]; rfl
      rw [e]
      clear h e
      refine post fun R hR => ?_
      go_enter Try.func55, Try.ntmps55
      go_wp2_with (fail)
      exact hR.out _ _ ⟨rfl, by (repeat' (first | (with_reducible exact Upd.refl _ _) | (with_reducible assumption) | (with_reducible apply Upd.drew) | (with_reducible apply Upd.drewN) | (with_reducible apply Upd.alloc) | (with_reducible refine Upd.setCell ?_ (by simp) _) | (with_reducible refine Upd.setCell ?_ (by simp; omega) _)))⟩
    · obtain ⟨k, rfl⟩ : ∃ k : Nat, n = k := ⟨n.toNat, by omega⟩
      have hk : k < 9 := by omega
      have e : thereG G k = (G k).th := by unfold thereG; rw [decide_eq_true (by omega)]; rfl
      rw [e]
      obtain ⟨c0, -⟩ := h.get hk
      have hn8 : (k : Int) < 9 := by omega
      clear h e
      generalize (G k).th = th at *
      refine post fun R hR => ?_
      go_enter Try.func55, Try.ntmps55
      go_wp2_with (fail)
      exact hR.out _ _ ⟨rfl, by (repeat' (first | (with_reducible exact Upd.refl _ _) | (with_reducible assumption) | (with_reducible apply Upd.drew) | (with_reducible apply Upd.drewN) | (with_reducible apply Upd.alloc) | (with_reducible refine Upd.setCell ?_ (by simp) _) | (with_reducible refine Upd.setCell ?_ (by simp; omega) _)))⟩

theorem flsAt_new {w : World} {b : Nat} (h : w.heap[b]? = some (.cells (fcells (fun _ => F6.zero) (fun _ => .slice none 0 0)).toArray 103 (0, 0))) : FlsAt w (.slice (some ⟨b, 0, none⟩) 9 9) (fun _ => F6.zero) (fun _ => .slice none 0 0) :=
  ⟨⟨rfl, .inr ⟨b, 0, 9, _, rfl, Nat.zero_le _, h, Nat.le_refl _, by unfold maxLen; omega, Nat.le_refl 54, fun j hj => by rw [Nat.zero_add]; rw [List.getElem?_toArray]⟩⟩, fun j hj => sub_nil _ _ _ _⟩

set_option maxRecDepth 100000 in
theorem rnew_c (w : World) : Calls Try.prog 19 #[] w fun e w' => ∃ g, e = .returned (.agg #[.slice (some ⟨g, 0, none⟩) 9 9, .slice none 0 0]) ∧ FlsAt w' (.slice (some ⟨g, 0, none⟩) 9 9) (fun _ => F6.zero) (fun _ => .slice none 0 0) ∧ Upd [] w w' ∧ ∀ x ∈ blkL (.slice (some ⟨g, 0, none⟩) 9 9), w.heap.size ≤ x := by
  obtain ⟨i2, hi2, hx0, hx1, hx2⟩ := info_parts info_rfl
  have hmk : ∀ wx, (Instr.makeSlice 44 (i64 9) (i64 9)).run Try.prog wx = .ok (.slice (some ⟨wx.heap.size, 0, none⟩) 9 9) (wx.alloc (.cells (fcells (fun _ => F6.zero) (fun _ => .slice none 0 0)).toArray 103)) := by
    intro wx
    have := run_make (P := Try.prog) wx 44 103 i2 _ Try.underlying44 hi2 hx0 .i64 .i64 9 9 (by omega) (by omega) (by rw [hx2]; omega) (by omega)
    rw [this, hx1, show (madeCells (Value.agg #[.bool false, i64 0, i64 0, .slice none 0 0, .bool false, .bool false]).cells (Int.toNat 9 * 6)) = (fcells (fun _ => F6.zero) (fun _ => .slice none 0 0)).toArray from by kernel_rfl]; rfl
  refine post fun R hR => ?_
  go_enter Try.func19, Try.ntmps19
  go_wp2_with (fail)
  have hE2 := heap_new2 w (.cells #[.slice (some ⟨w.heap.size + 1, 0, none⟩) 9 9, .slice none 0 0] 46) (.cells (fcells (fun _ => F6.zero) (fun _ => .slice none 0 0)).toArray 103)
  refine bodyPost_ret (v := .agg #[.slice (some ⟨w.heap.size + 1, 0, none⟩) 9 9, .slice none 0 0]) (by simp [results, Try.results19, go_sem, *]) rfl ?_
  refine hR.out _ _ ?_
  exact ⟨_, rfl, flsAt_new hE2, by (repeat' (first | (with_reducible exact Upd.refl _ _) | (with_reducible assumption) | (with_reducible apply Upd.drew) | (with_reducible apply Upd.drewN) | (with_reducible apply Upd.alloc) | (with_reducible refine Upd.setCell ?_ (by simp) _) | (with_reducible refine Upd.setCell ?_ (by simp; omega) _))), fun x hx => by simp [blkL] at hx; omega⟩

/-- a row of numbers -/
def Ints (w : World) (v : Value) (l : List Int) : Prop := Sub w 0 3 1 v l.length (l.map i64)
theorem Ints.upd0 {w w' : World} {v : Value} {l : List Int} (h : Ints w v l) (hu : Upd [] w w') : Ints w' v l := Sub.upd0 h hu
theorem Ints.sl {w : World} {v : Value} {l : List Int} (h : Ints w v l) : ∃ ao cap, v = .slice ao l.length cap ∧ l.length ≤ cap ∧ (0 < l.length → ∃ g off, ao = some ⟨g, off, none⟩ ∧ g < w.heap.size ∧ ∀ k (hk : k < l.length), w.cell? ⟨g, off + k, none⟩ = some (i64 l[k])) := by
  obtain ⟨ao, cap, rfl, h1, h2⟩ := Sub.form h
  refine ⟨ao, cap, rfl, h1, fun hp => ?_⟩
  obtain ⟨g, off, e, -, h3, h4⟩ := h2 hp
  exact ⟨g, off, e, h3, fun k hk => h4 k _ (by rw [List.getElem?_map, List.getElem?_eq_getElem hk]; rfl)⟩
theorem ints_one (l : List Int) : ∀ u ∈ l.map i64, u.oneCell' = true := by
  intro u hu
  obtain ⟨x, _, rfl⟩ := List.mem_map.1 hu
  rfl
theorem offR_snoc (n : Int) (l : List Int) (k : Nat) (h : k < l.length) : offR n (l.take (k + 1)) = offR n (l.take k) ++ (if l[k] = n then [] else [l[k]]) := by
  unfold offR
  rw [List.take_succ_eq_append_getElem h, List.filter_append]
  congr 1
  by_cases e : l[k] = n <;> simp [e]

set_option maxRecDepth 100000 in
set_option maxHeartbeats 1000000 in
theorem rwithout_c {w : World} {v : Value} {l : List Int} (h : Ints w v l) (hlen : l.length ≤ 1000) (n : Int) :
    Calls Try.prog 69 #[v, i64 n] w fun e w' => ∃ v', e = .returned v' ∧ Ints w' v' (offR n l) ∧ Upd [] w w' ∧ ∀ x ∈ blkL v', w.heap.size ≤ x := by
  obtain ⟨i0, hi, hz0, hz1, hz2⟩ := info_parts info_int2
  obtain ⟨ao, cap, rfl, hcap, hrow⟩ := h.sl
  by_cases h0 : 0 < l.length
  · obtain ⟨g, off, rfl, hg, hc⟩ := hrow h0
    have HC := Lib.hid hc
    clear hrow h hc
    refine post fun R hR => ?_
    go_enter Try.func69, Try.ntmps69
    go_wp2_with fail
    go_loopw [5, 6] (fun out i wr => ∃ k : Nat, i = i64 k ∧ k ≤ l.length ∧ Sub wr w.heap.size 3 1 out (offR n (l.take k)).length ((offR n (l.take k)).map i64) ∧ Upd [] w wr) (fun _ i _ => l.length - (intOf i).toNat)
    case atStart => exact ⟨0, rfl, Nat.zero_le _, sub_nil _ _ _ _, Upd.refl _ _⟩
    case round =>
      obtain ⟨k, rfl, hk, hs, hu⟩ := hrel
      obtain ⟨ao2, cap2, rfl, hcap2, -⟩ := hs.form
      by_cases hlt : k < l.length
      · have c1 := (hu.below.cell (p := ⟨g, off + k, none⟩) hg).trans (HC.out k hlt)
        have hsn := offR_snoc n l k hlt
        have hlr : (offR n (l.take k)).length ≤ 1000 := Nat.le_trans (List.length_filter_le _ _) (by rw [List.length_take]; omega)
        have hmx : (offR n (l.take k)).length + 1 ≤ maxLen := by unfold maxLen; omega
        have hws := hu.size
        have HO := Lib.hid hs
        have HU := Lib.hid hu
        have HMX := Lib.hid hmx
        clear hs hu hmx
        by_cases he : l[k] = n
        · rw [if_pos he, List.append_nil] at hsn
          rw [he] at c1
          have HSN := Lib.hid hsn
          clear hsn he
          generalize offR n (l.take k) = r at *
          go_wp2_with (fail)
          go_roundw
          case rel => refine ⟨k + 1, by go_num, by omega, by rw [HSN.out]; exact HO.out, HU.out⟩
          case measure => simp [intOf]; omega
        · rw [if_neg he] at hsn
          have hq : (l[k] != n) = true := by simpa using he
          have HSN := Lib.hid hsn
          clear hsn
          generalize l[k] = y at c1 hq HSN
          generalize offR n (l.take k) = r at *
          clear he
          go_wp2_with (at_builtin; refine wpList_append_sub _ rfl _ _ 36 rfl w.heap.size 3 i0 _ 1 8 Try.underlying36 hi hz0 hz1 hz2 rfl (by decide) (.slice ao2 r.length cap2) r.length (r.map i64) rfl (HO.out.upd0 ((Upd.refl _ _).alloc _)) _ 1 1 [i64 y] rfl (src_block (heap_alloc_new _ _) 1 1) rfl (by intro u hu; simp at hu; subst hu; rfl) HMX.out (by omega) (by simp; omega) ?_; intro ao' cap' w5 hs5 hu5 hb5; have HS5 := Lib.hid hs5; have HU5 := Lib.hid hu5; clear hs5 hu5 hb5)
          go_roundw
          case rel =>
            refine ⟨k + 1, by go_num, by omega, ?_, (HU.out.alloc _).trans HU5.out (fun g hg => .inr ((HO.out.lt g hg).1))⟩
            rw [HSN.out, List.length_append, List.map_append]
            exact HS5.out
          case measure => simp [intOf]; omega
      · have hkl : l.take k = l := List.take_of_length_le (by omega)
        rw [hkl] at hs hcap2 ⊢
        have HO := Lib.hid hs
        have HU := Lib.hid hu
        clear hs hu hkl
        go_wp2_with fail
        exact hR.out _ _ ⟨_, rfl, HO.out.mono (Nat.zero_le _), HU.out, fun x hx => (HO.out.lt x hx).1⟩
  · obtain rfl : l = [] := List.eq_nil_of_length_eq_zero (by omega)
    clear h hrow
    refine post fun R hR => ?_
    go_enter Try.func69, Try.ntmps69
    go_wp2_with fail
    refine wp_loop_once ?_
    go_wp2_with fail
    exact hR.out _ _ ⟨_, rfl, sub_nil _ _ _ _, Upd.refl _ _, fun x hx => by simp [blkL] at hx⟩

set_option maxRecDepth 100000 in
set_option maxHeartbeats 1000000 in
/-- two rows of the same numbers -/
theorem rints_c {w : World} {u v : Value} {l : List Int} (h : Ints w u l) (h2 : Ints w v l) (hlen : l.length ≤ 1000) :
    Calls Try.prog 59 #[u, v] w fun e w' => e = .returned (.bool true) ∧ Upd [] w w' := by
  obtain ⟨ao, cap, rfl, hcap, hrow⟩ := h.sl
  obtain ⟨ao2, cap2, rfl, hcap2, hrow2⟩ := h2.sl
  by_cases h0 : 0 < l.length
  · obtain ⟨g, off, rfl, hg, hc⟩ := hrow h0
    obtain ⟨g2, off2, rfl, hg2, hc2⟩ := hrow2 h0
    have HC := Lib.hid hc
    have HC2 := Lib.hid hc2
    clear hrow hrow2 h h2 hc hc2
    refine post fun R hR => ?_
    go_enter Try.func59, Try.ntmps59
    go_wp2_with fail
    go_loopw [5] (fun i wr => ∃ k : Nat, i = i64 k ∧ k ≤ l.length ∧ Upd [] w wr) (fun i _ => l.length - (intOf i).toNat)
    case atStart => exact ⟨0, rfl, Nat.zero_le _, Upd.refl _ _⟩
    case round =>
      obtain ⟨k, rfl, hk, hu⟩ := hrel
      by_cases hlt : k < l.length
      · have c1 := (hu.below.cell (p := ⟨g, off + k, none⟩) hg).trans (HC.out k hlt)
        have c2 := (hu.below.cell (p := ⟨g2, off2 + k, none⟩) hg2).trans (HC2.out k hlt)
        generalize l[k] = y at c1 c2
        go_wp2_with (fail)
        go_quiet (fail)
        go_wp2_with (fail)
        go_roundw
        case rel => exact ⟨k + 1, by go_num, by omega, by (repeat' (first | (with_reducible exact Upd.refl _ _) | (with_reducible assumption) | (with_reducible apply Upd.drew) | (with_reducible apply Upd.drewN) | (with_reducible apply Upd.alloc) | (with_reducible refine Upd.setCell ?_ (by simp) _) | (with_reducible refine Upd.setCell ?_ (by simp; omega) _)))⟩
        case measure => simp [intOf]; omega
      · go_wp2_with (fail)
        exact hR.out _ _ ⟨rfl, hu⟩
  · obtain rfl : l = [] := List.eq_nil_of_length_eq_zero (by omega)
    clear h hrow h2 hrow2
    refine post fun R hR => ?_
    go_enter Try.func59, Try.ntmps59
    go_wp2_with fail
    refine wp_loop_once ?_
    go_wp2_with fail
    exact hR.out _ _ ⟨rfl, Upd.refl _ _⟩
end Go.Proofs.Ytabhdigannalgaa
