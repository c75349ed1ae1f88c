/-
  The contract of slices.DeleteFunc with the closure that asks for one element. Conditions: the slice is the call's own, no longer than a thousand; the closure's box is none of its blocks.
-/
import Derived.Test.YtabhdigannalgaaSlP
import Derived.Lib.SliceRun
namespace Go.Proofs.Ytabhdigannalgaa
open Go Go.RowKit

/-- all but x -/
def rmv (x : Nat) (l : List Nat) : List Nat := l.filter fun y => !decide (y = x)
theorem rmv_none {x : Nat} {l : List Nat} (h : ixP (fun y => decide (y = x)) l = -1) : rmv x l = l := by
  unfold rmv
  rw [List.filter_eq_self]
  intro y hy
  unfold ixP at h
  split at h
  · omega
  · rename_i h2
    rw [List.findIdx_lt_length] at h2
    by_cases e : y = x
    · exact (h2 ⟨y, hy, by simpa using e⟩).elim
    · simp [e]
theorem rmv_snoc (x : Nat) (l : List Nat) (k : Nat) (h : k < l.length) : rmv x (l.take (k + 1)) = rmv x (l.take k) ++ (if l[k] = x then [] else [l[k]]) := by
  unfold rmv
  rw [List.take_succ_eq_append_getElem h, List.filter_append]
  by_cases e : l[k] = x
  · simp [e]
  · simp [e]
theorem ix_hit {x : Nat} {l : List Nat} (h : ixP (fun y => decide (y = x)) l ≠ -1) : ∃ k : Nat, ixP (fun y => decide (y = x)) l = k ∧ ∃ hk : k < l.length, l[k] = x ∧ rmv x (l.take (k + 1)) = l.take k := by
  unfold ixP at *
  split at h
  · rename_i hk
    refine ⟨l.findIdx fun y => decide (y = x), by rw [if_pos hk], hk, ?_, ?_⟩
    · simpa using List.findIdx_getElem (w := hk)
    · have hx : l[l.findIdx fun y => decide (y = x)] = x := by simpa using List.findIdx_getElem (w := hk)
      rw [rmv_snoc x l _ hk, if_pos hx, List.append_nil]
      unfold rmv
      rw [List.filter_eq_self]
      intro y hy
      obtain ⟨i, hi, rfl⟩ := List.getElem_of_mem hy
      have hi2 : i < l.findIdx fun y => decide (y = x) := by rw [List.length_take] at hi; omega
      have := List.not_of_lt_findIdx hi2
      simpa using this
  · exact (h rfl).elim

theorem Sub.cell {w : World} {base : Nat} {e : TypeId} {size g off n cap : Nat} {xs : List Value} (h : Sub w base e size (.slice (some ⟨g, off, none⟩) n cap) n xs) {j : Nat} {u : Value} (hj : xs[j]? = some u) : w.cell? ⟨g, off + j, none⟩ = some u := by
  obtain ⟨ao, cap2, hv, -, hrow⟩ := h.form
  obtain ⟨hl, -⟩ := h
  have hlt : j < xs.length := by
    rcases Nat.lt_or_ge j xs.length with q | q
    · exact q
    · rw [List.getElem?_eq_none q] at hj; cases hj
  have hn : 0 < n := by
    rcases Nat.eq_zero_or_pos n with q | q
    · subst q; rw [hl] at hlt; simp at hlt
    · exact q
  obtain ⟨g2, off2, rfl, -, -, hcs⟩ := hrow hn
  injection hv with e1 e2 e3
  injection e1 with e1
  injection e1 with e4 e5
  subst e4; subst e5
  exact hcs j u hj
theorem Sub.frz {w : World} {base : Nat} {e : TypeId} {size g off n cap : Nat} {xs : List Value} (h : Sub w base e size (.slice (some ⟨g, off, none⟩) n cap) n xs) (j : Nat) : w.frozen? ⟨g, j, none⟩ = false := by
  obtain ⟨cs, hc⟩ := h.ty g (by simp [blkL])
  exact frzOf hc j
theorem zero_el (w : World) : (zeroValue 96).run Try.prog w = .ok (.pointer none) w := by
  obtain ⟨i0, hi, hz0, hz1, hz2⟩ := info_parts info_el
  simp [zeroValue, typeInfo, hi, hz0]

set_option maxRecDepth 100000 in
set_option maxHeartbeats 2000000 in
theorem sdel_c {w : World} {base : Nat} {v : Value} {l : List Nat} (h : Sub w base 96 1 v l.length (evs l)) (hlen : l.length ≤ 1000) {c : Nat} {x : Nat} (hc : w.heap[c]? = some (.cells #[ev x] 96 (0, 0))) (hcv : c ∉ blkL v) (hx : Lv w x) (hL : ∀ y ∈ l, Lv w y) :
    Calls Try.prog 70 #[v, .func (.func 71) #[] #[.pointer (some ⟨c, 0, none⟩)]] w fun e w' => ∃ v', e = .returned v' ∧ Sub w' base 96 1 v' (rmv x l).length (evs (rmv x l)) ∧ Upd (blkL v) w w' ∧ (∀ g ∈ blkL v', g ∈ blkL v) := by
  have hix := sixf_c h hlen hc hx hL
  by_cases hm : ixP (fun y => decide (y = x)) l = -1
  · rw [hm] at hix
    have HIX := Lib.hid hix
    have HR := Lib.hid (rmv_none hm)
    obtain ⟨ao, cap, rfl, hcap, -⟩ := h.form
    have HS := Lib.hid h
    clear hm hix h hc hx hL hcv
    refine post fun R hR => ?_
    go_enter Try.func70, Try.ntmps70
    go_wp2_with (fail)
    refine HIX.out.mono ?_
    rintro e w2 ⟨rfl, rfl⟩
    go_wp2_with fail
    exact hR.out _ _ ⟨_, rfl, by rw [HR.out]; exact HS.out, Upd.refl _ _, fun g hg => hg⟩
  · obtain ⟨k, hk, hkl, hkx, hrm⟩ := ix_hit hm
    rw [hk] at hix
    have HIX := Lib.hid hix
    clear hm hix hk
    obtain ⟨ao, cap, rfl, hcap, hrow⟩ := h.form
    obtain ⟨g, off, rfl, -, -, -⟩ := hrow (by omega)
    have hcg : c ≠ g := by simpa [blkL] using hcv
    have hgh : ∃ cs, w.heap[g]? = some (.cells cs 96 (0, 0)) := h.ty g (by simp [blkL])
    obtain ⟨n, hn⟩ : ∃ n, n = l.length := ⟨_, rfl⟩
    have HC := Lib.hid hc
    have HX := Lib.hid hx
    have HLV := Lib.hid hL
    have HG := Lib.hid hgh
    have hrel0 : ∃ ys : List Nat, Sub w base 96 1 (.slice (some ⟨g, off, none⟩) n cap) n (evs ys) ∧ ys.length = n ∧ ys.take k = rmv x (l.take (k + 1)) ∧ ys.drop (k + 1) = l.drop (k + 1) := ⟨l, by rw [hn]; exact h, hn.symm, hrm.symm, rfl⟩
    rw [← hn] at hlen hcap hkl
    have HN := Lib.hid hn
    rw [← hn]
    rw [← hn] at HIX
    clear h hrow hc hx hL hgh hrm hkx hcv hn
    have HREL := Lib.hid hrel0
    clear hrel0
    refine post fun R hR => ?_
    go_enter Try.func70, Try.ntmps70
    go_wp2_with (fail)
    refine HIX.out.mono ?_
    rintro e w2 ⟨rfl, rfl⟩
    go_wp2_with (fail)
    go_loopw [5, 6] (fun i j wr => ∃ (a b : Nat) (ys : List Nat), i = i64 a ∧ j = i64 b ∧ a < b ∧ b ≤ n ∧ Sub wr base 96 1 (.slice (some ⟨g, off, none⟩) n cap) n (evs ys) ∧ ys.length = n ∧ ys.take a = rmv x (l.take b) ∧ ys.drop b = l.drop b ∧ Upd [g] w wr) (fun _ j _ => n - (intOf j).toNat)
    case atStart =>
      obtain ⟨ys, h1, h2, h3, h4⟩ := HREL.out
      exact ⟨k, k + 1, ys, rfl, by go_num, by omega, by omega, h1, h2, h3, h4, Upd.refl _ _⟩
    case round =>
      obtain ⟨a, b, ys, rfl, rfl, hab, hb, hs, hy, ht, hd, hu⟩ := hrel
      by_cases hlt : b < n
      · have hlb : b < l.length := by have := HN.out; omega
        have hyb : b < ys.length := by omega
        obtain ⟨y, hyv⟩ : ∃ y, y = ys[b] := ⟨_, rfl⟩
        have hly : l[b] = y := by
          have h0 := congrArg (fun r => r[0]?) hd
          simp only [List.getElem?_drop, Nat.add_zero] at h0
          rw [List.getElem?_eq_getElem hyb, List.getElem?_eq_getElem hlb] at h0
          injection h0 with h0
          rw [hyv, h0]
        have c1 := hs.cell (evs_get hyb)
        rw [← hyv] at c1
        have ca := hs.cell (evs_get (show a < ys.length by omega))
        obtain ⟨ya, hya⟩ : ∃ ya, ya = ys[a]'(by omega) := ⟨_, rfl⟩
        rw [← hya] at ca
        clear hya
        have fa := hs.frz (off + a)
        obtain ⟨gs, hg⟩ := HG.out
        have hcl := sclo_c (hu.keep HC.out (by simpa using hcg)) (HX.out.keep hu hg) ((HLV.out y (by rw [← hly]; exact List.getElem_mem hlb)).keep hu hg)
        have hsn := rmv_snoc x l b hlb
        rw [hly, ← ht] at hsn
        have hd1 : ys.drop (b + 1) = l.drop (b + 1) := by have := congrArg (List.drop 1) hd; simpa [List.drop_drop] using this
        have HD := Lib.hid hd1
        have HS := Lib.hid hs
        have HU := Lib.hid hu
        have HY := Lib.hid hy
        clear hd1 hs hu hd ht hg hly hyv hyb hlb
        by_cases e : y = x
        · rw [if_pos e, List.append_nil] at hsn
          rw [decide_eq_true e] at hcl
          have HSN := Lib.hid hsn
          have HCL := Lib.hid hcl
          clear hsn hcl e hy
          go_wp2_with (fail)
          refine HCL.out.mono ?_
          rintro e w2 ⟨rfl, rfl⟩
          go_wp2_with (fail)
          go_roundw
          case rel => refine ⟨_, _, _, _, _, _, _, _, _, _, _, _, _, _, _, _, _, _, _, _, _, _, _, ?_, rfl⟩; exact ⟨a, b + 1, ys, by go_num, by go_num, by omega, by omega, HS.out, HY.out, HSN.out.symm, HD.out, HU.out⟩
          case measure => simp [intOf]; omega
        · rw [if_neg e] at hsn
          rw [decide_eq_false e] at hcl
          have HSN := Lib.hid hsn
          have HCL := Lib.hid hcl
          clear hsn hcl e hy
          go_wp2_with (fail)
          refine HCL.out.mono ?_
          rintro e w2 ⟨rfl, rfl⟩
          go_wp2_with (fail)
          go_roundw
          case rel =>
            have hyl := HY.out
            refine ⟨_, _, _, _, _, _, _, _, _, _, _, _, _, _, _, _, _, _, _, _, _, _, _, ?_, rfl⟩
            refine ⟨a + 1, b + 1, ys.set a y, by go_num, by go_num, by omega, by omega, ?_, by simpa using hyl, ?_, ?_, HU.out.setCell (by simp) _⟩
            · rw [evs_set]
              exact HS.out.set (by omega) _
            · rw [HSN.out, List.take_succ_eq_append_getElem (by simp; omega), List.getElem_set_self, List.take_set_of_le (Nat.le_refl _)]
            · rw [List.drop_set_of_lt (by omega)]; exact HD.out
          case measure => simp [intOf]; omega
      · obtain rfl : b = n := by omega
        have hcl : ∀ ty, (Builtin.clear_ #[26] ty #[.slice (some ⟨g, off + a, none⟩) (b - a) (cap - a)]).run Try.prog wr = .ok (.tuple #[]) (wr.setCells g (off + a) (List.replicate (b - a) (.pointer none))) :=
          fun ty => Lib.run_clear_slice wr _ _ ty _ Try.underlying26 zero_el rfl rfl g (off + a) _ _ (by omega) (fun j hj => by rw [show off + a + j = off + (a + j) by omega, hs.cell (evs_get (show a + j < ys.length by omega))]; rfl) (fun j hj => hs.frz _)
        have htl : l.take b = l := List.take_of_length_le (by have := HN.out; omega)
        rw [htl] at ht
        clear htl
        have hlen2 : (rmv x l).length = a := by rw [← ht, List.length_take]; omega
        have hp := (hs.pre (show a ≤ b by omega)).behind (o := off + a) (zs := List.replicate (b - a) (.pointer none)) (by omega) (by simp; omega)
        rw [Nat.mul_one, ← evs_take, ht] at hp
        have HP := Lib.hid hp
        have HU := Lib.hid hu
        have HL2 := Lib.hid hlen2
        have hca : ¬ cap - a = 0 := by omega
        clear hp hu hs ht hlen2 hd hy
        go_wp2_with (fail)
        refine hR.out _ _ ⟨_, rfl, ?_, ?_, ?_⟩
        · rw [HL2.out]; exact HP.out.1
        · exact HU.out.trans' HP.out.2
        · intro g hg; exact hg
end Go.Proofs.Ytabhdigannalgaa
