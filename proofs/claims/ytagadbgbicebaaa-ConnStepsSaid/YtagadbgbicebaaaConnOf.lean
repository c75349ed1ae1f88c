/-
  The contracts of Of, the table's own and the document's (chapter 38). Condition: sixteen connections at most.
-/
import Derived.Test.YtagadbgbicebaaaRcPush
namespace Go.Proofs.Ytagadbgbicebaaa
open Go Go.RowKit

def ofB (l : List Ln) (o : Int) (i : Nat) : Bool := match l[i]? with
  | some m => decide (m.ow = o) && decide (0 ≤ o) && !decide (m.st = 3)
  | none => false
def tofK (l : List Ln) (o : Int) (k : Nat) : List Int := ((List.range k).filter (ofB l o)).map fun (i : Nat) => (i : Int)
theorem tofK_snoc (l : List Ln) (o : Int) (k : Nat) : tofK l o (k + 1) = tofK l o k ++ (if ofB l o k = true then [(k : Int)] else []) := by
  unfold tofK
  rw [List.range_succ, List.filter_append, List.map_append]
  congr 1
  by_cases h : ofB l o k = true <;> simp [h]
theorem tofK_len (l : List Ln) (o : Int) (k : Nat) : (tofK l o k).length ≤ k := by
  unfold tofK
  rw [List.length_map]
  have := List.length_filter_le (ofB l o) (List.range k)
  rw [List.length_range] at this
  exact this
/-- an owner's connections that are not gone -/
def tof (l : List Ln) (o : Int) : List Int := tofK l o l.length
theorem info_int38 : (Try.prog.info? 3).map (fun i => (i.zero, i.size, i.bytes)) = some (some (.int .i64 0), 1, 8) := by kernel_rfl

theorem ofB_get {l : List Ln} {k : Nat} (hk : k < l.length) (o : Int) : ofB l o k = (decide (l[k].ow = o) && decide (0 ≤ o) && !decide (l[k].st = 3)) := by unfold ofB; rw [List.getElem?_eq_getElem hk]

set_option maxRecDepth 100000 in
set_option maxHeartbeats 2000000 in
theorem tbl_of_c {w : World} {Z : Nat → Prop} {b : Nat} {l : List Ln} (h : TblAt w Z b l) (o : Int) :
    Calls Try.prog 49 #[.pointer (some ⟨b, 0, none⟩), i64 o] w fun e w' => ∃ v, e = .returned v ∧ Sub w' 0 3 1 v (tof l o).length ((tof l o).map i64) ∧ Upd [] w w' := by
  obtain ⟨i0, hi, hz0, hz1, hz2⟩ := info_parts info_int38
  have hlen := h.len
  have hln := tbl_len_c h
  obtain ⟨h0, v, bs, ov, hX⟩ := h
  obtain ⟨ao, cap, rfl, hcap, hrow⟩ := hX.tb.sub.form
  have hb := hX.tb.heap
  have hc : ∀ k (hk : k < l.length), ∃ g off lb, ao = some ⟨g, off, none⟩ ∧ lb < w.heap.size ∧ g < w.heap.size ∧ w.cell? ⟨g, off + k, none⟩ = some (.pointer (some ⟨lb, 0, none⟩)) ∧ w.cell? ⟨lb, 2, none⟩ = some (i64 l[k].st) ∧ w.cell? ⟨lb, 3, none⟩ = some (i64 l[k].ow) := fun k hk => by
    have hkb : k < bs.length := by rw [hX.len]; exact hk
    obtain ⟨g, off, e, -, hg, hcs⟩ := hrow (by omega)
    obtain ⟨h1, -, -, -⟩ := hX.ln k bs[k] l[k] (List.getElem?_eq_getElem hkb) (List.getElem?_eq_getElem hk)
    obtain ⟨-, -, c2, c3, -⟩ := cells5 h1
    exact ⟨g, off, bs[k], e, lt_of_heap h1, hg, hcs k _ (ptrs_get (List.getElem?_eq_getElem hkb)), c2, c3⟩
  have hof : ∀ k (hk : k < l.length), tofK l o (k + 1) = tofK l o k ++ (if (decide (l[k].ow = o) && decide (0 ≤ o) && !decide (l[k].st = 3)) = true then [(k : Int)] else []) := fun k hk => by rw [tofK_snoc, ofB_get hk]
  have hbl := hX.len
  have HC := Lib.hid hc
  have HLN := Lib.hid hln
  have HB := Lib.hid hb
  have HOF := Lib.hid hof
  clear hc hln hX hrow hb hof h0
  rw [hbl] at hcap HB
  clear hbl
  refine post fun R hR => ?_
  go_enter Try.func49, Try.ntmps49
  go_wp2_with (fail)
  refine HLN.out.mono ?_
  rintro e w1 ⟨rfl, hu1⟩
  go_wp2_with (fail)
  go_loopw [5, 10] (fun out i wr => ∃ k : Nat, i = i64 k ∧ k ≤ l.length ∧ Sub wr w.heap.size 3 1 out (tofK l o k).length ((tofK l o k).map i64) ∧ Upd [] w wr) (fun _ i _ => l.length - (intOf i).toNat)
  case atStart => exact ⟨0, rfl, Nat.zero_le _, sub_nil _ _ _ _, hu1⟩
  case round =>
    clear hu1
    obtain ⟨k, rfl, hk, hs, hu⟩ := hrel
    obtain ⟨ao2, cap2, rfl, hcap2, -⟩ := hs.form
    by_cases hlt : k < l.length
    · obtain ⟨g, off, lb, rfl, hlb, hg, e0, e1, e2⟩ := HC.out k hlt
      have hsn := HOF.out k hlt
      have c0 := (hu.below.cell (p := ⟨g, off + k, none⟩) hg).trans e0
      have c1 := (hu.below.cell (p := ⟨lb, 2, none⟩) hlb).trans e1
      have c2 := (hu.below.cell (p := ⟨lb, 3, none⟩) hlb).trans e2
      obtain ⟨b0, -⟩ := cells1 (hu.keep0 HB.out)
      have hlr : (tofK l o k).length ≤ 16 := Nat.le_trans (tofK_len l o k) (by omega)
      have hmx : (tofK l o k).length + 1 ≤ maxLen := by unfold maxLen; omega
      have hws := hu.size
      have HO := Lib.hid hs
      have HU := Lib.hid hu
      have HMX := Lib.hid hmx
      clear hs hu hmx e0 e1 e2
      generalize l[k].st = st at *
      generalize l[k].ow = ow at *
      by_cases hin : ow = o ∧ 0 ≤ o ∧ ¬ st = 3
      · obtain ⟨q1, q2, q3⟩ := hin
        rw [if_pos (by simp [q1, q2, q3])] at hsn
        have HSN := Lib.hid hsn
        have hq1 : (ow == o) = true := by simp [q1]
        have hq3 : (st != 3) = true := by simpa using q3
        have Q1 := Lib.hid q1
        clear hsn q1 q3
        generalize tofK l o k = r at *
        go_wp2_with (at_builtin; refine wpList_append_sub _ rfl _ _ 68 rfl w.heap.size 3 i0 _ 1 8 Try.underlying68 hi hz0 hz1 hz2 rfl (by decide) (.slice ao2 r.length cap2) r.length (r.map i64) rfl (HO.out.upd0 ((Upd.refl _ _).alloc _)) _ 1 1 [i64 k] rfl (src_block (heap_alloc_new _ _) 1 1) rfl (by intro u hu; simp at hu; subst hu; rfl) HMX.out (by omega) (by simp; omega) ?_; intro ao' cap' w5 hs5 hu5 hb5; have HS5 := Lib.hid hs5; have HU5 := Lib.hid hu5; clear hs5 hu5 hb5)
        go_roundw
        case rel =>
          refine ⟨k + 1, by go_num, by omega, ?_, (HU.out.alloc _).trans HU5.out (fun g hg => .inr ((HO.out.lt g hg).1))⟩
          rw [HSN.out, List.length_append, List.map_append]
          exact HS5.out
        case measure => simp [intOf]; omega
      · rw [if_neg (by simp; intro q1 q2; exact Decidable.byContradiction fun q3 => hin ⟨q1, q2, q3⟩), List.append_nil] at hsn
        have HSN := Lib.hid hsn
        clear hsn
        generalize tofK l o k = r at *
        by_cases q1 : ow = o
        · have hq1 : (ow == o) = true := by simp [q1]
          by_cases q2 : 0 ≤ o
          · have q3 : st = 3 := Decidable.byContradiction fun q3 => hin ⟨q1, q2, q3⟩
            have hq3 : (st != 3) = false := by simp [q3]
            clear q1 q3 hin
            go_wp2_with (fail)
            go_roundw
            case rel => exact ⟨k + 1, by go_num, by omega, by rw [HSN.out]; exact HO.out, HU.out⟩
            case measure => simp [intOf]; omega
          · clear q1 hin
            go_wp2_with (fail)
            go_roundw
            case rel => exact ⟨k + 1, by go_num, by omega, by rw [HSN.out]; exact HO.out, HU.out⟩
            case measure => simp [intOf]; omega
        · have hq1 : (ow == o) = false := by simp [q1]
          clear q1 hin
          go_wp2_with (fail)
          go_roundw
          case rel => exact ⟨k + 1, by go_num, by omega, by rw [HSN.out]; exact HO.out, HU.out⟩
          case measure => simp [intOf]; omega
    · have hkl : k = l.length := by omega
      subst hkl
      have HO := Lib.hid hs
      have HU := Lib.hid hu
      clear hs hu
      go_wp2_with fail
      exact hR.out _ _ ⟨_, rfl, HO.out.mono (Nat.zero_le _), HU.out⟩

set_option maxRecDepth 100000 in
set_option maxHeartbeats 2000000 in
theorem cof38_c {w : World} {Y : Nat → Prop} {v : Value} {l : List Ln} (h : RcAt w Y v l) (hlen : l.length ≤ 16) (o : Int) :
    Calls Try.prog 65 #[v, i64 o] w fun e w' => ∃ v, e = .returned v ∧ Sub w' 0 3 1 v (tof l o).length ((tof l o).map i64) ∧ Upd [] w w' := by
  obtain ⟨i0, hi, hz0, hz1, hz2⟩ := info_parts info_int38
  obtain ⟨ps, hps, hX⟩ := h
  have hpl : ps.length = l.length := by rw [← hps, List.length_map]
  obtain ⟨ao, cap, rfl, hcap, hrow⟩ := hX.form
  have hc : ∀ k (hk : k < l.length), ∃ g off, ao = some ⟨g, off, none⟩ ∧ g < w.heap.size ∧ w.cell? ⟨g, off + k * 5, none⟩ = some (i64 (l[k].st + 1)) ∧ w.cell? ⟨g, off + k * 5 + 1, none⟩ = some (i64 l[k].ow) := fun k hk => by
    obtain ⟨g, off, rfl, hg⟩ := hrow (by omega)
    obtain ⟨c0, c1, -⟩ := hX.get (k := k) (by omega)
    have e : ps[k].1 = l[k] := by subst hps; simp
    rw [e] at c0 c1
    exact ⟨g, off, rfl, hg, c0, c1⟩
  have hof : ∀ k (hk : k < l.length), tofK l o (k + 1) = tofK l o k ++ (if (decide (l[k].ow = o) && decide (0 ≤ o) && !decide (l[k].st = 3)) = true then [(k : Int)] else []) := fun k hk => by rw [tofK_snoc, ofB_get hk]
  have HC := Lib.hid hc
  have HOF := Lib.hid hof
  rw [hpl]
  rw [hpl] at hcap
  clear hc hX hrow hof hpl hps
  by_cases hl0 : l.length = 0
  · obtain rfl : l = [] := List.eq_nil_of_length_eq_zero hl0
    refine post fun R hR => ?_
    go_enter Try.func65, Try.ntmps65
    go_wp2_with fail
    refine wp_loop_once ?_
    go_wp2_with fail
    exact hR.out _ _ ⟨_, rfl, sub_nil _ _ _ _, Upd.refl _ _⟩
  · refine post fun R hR => ?_
    go_enter Try.func65, Try.ntmps65
    go_wp2_with (fail)
    go_loopw [5, 6] (fun out i wr => ∃ k : Nat, i = i64 k ∧ k ≤ l.length ∧ Sub wr w.heap.size 3 1 out (tofK l o k).length ((tofK l o k).map i64) ∧ Upd [] w wr) (fun _ i _ => l.length - (intOf i).toNat)
    case atStart => exact ⟨0, rfl, Nat.zero_le _, sub_nil _ _ _ _, Upd.refl _ _⟩
    case round =>
      obtain ⟨k, rfl, hk, hs, hu⟩ := hrel
      obtain ⟨ao2, cap2, rfl, hcap2, -⟩ := hs.form
      by_cases hlt : k < l.length
      · obtain ⟨g, off, rfl, hg, e0, e1⟩ := HC.out k hlt
        have hsn := HOF.out k hlt
        have c0 := (hu.below.cell (p := ⟨g, off + k * 5, none⟩) hg).trans e0
        have c1 := (hu.below.cell (p := ⟨g, off + k * 5 + 1, none⟩) hg).trans e1
        have hlr : (tofK l o k).length ≤ 16 := Nat.le_trans (tofK_len l o k) (by omega)
        have hmx : (tofK l o k).length + 1 ≤ maxLen := by unfold maxLen; omega
        have hws := hu.size
        have HO := Lib.hid hs
        have HU := Lib.hid hu
        have HMX := Lib.hid hmx
        clear hs hu hmx e0 e1
        generalize l[k].st = st at *
        generalize l[k].ow = ow at *
        by_cases hin : ow = o ∧ 0 ≤ o ∧ ¬ st = 3
        · obtain ⟨q1, q2, q3⟩ := hin
          rw [if_pos (by simp [q1, q2, q3])] at hsn
          have HSN := Lib.hid hsn
          have hq1 : (ow == o) = true := by simp [q1]
          have hq3 : (st + 1 != 4) = true := by simp; omega
          clear hsn q1 q3
          generalize tofK l o k = r at *
          go_wp2_with (at_builtin; refine wpList_append_sub _ rfl _ _ 68 rfl w.heap.size 3 i0 _ 1 8 Try.underlying68 hi hz0 hz1 hz2 rfl (by decide) (.slice ao2 r.length cap2) r.length (r.map i64) rfl (HO.out.upd0 ((Upd.refl _ _).alloc _)) _ 1 1 [i64 k] rfl (src_block (heap_alloc_new _ _) 1 1) rfl (by intro u hu; simp at hu; subst hu; rfl) HMX.out (by omega) (by simp; omega) ?_; intro ao' cap' w5 hs5 hu5 hb5; have HS5 := Lib.hid hs5; have HU5 := Lib.hid hu5; clear hs5 hu5 hb5)
          go_roundw
          case rel =>
            refine ⟨k + 1, by go_num, by omega, ?_, (HU.out.alloc _).trans HU5.out (fun g hg => .inr ((HO.out.lt g hg).1))⟩
            rw [HSN.out, List.length_append, List.map_append]
            exact HS5.out
          case measure => simp [intOf]; omega
        · rw [if_neg (by simp; intro q1 q2; exact Decidable.byContradiction fun q3 => hin ⟨q1, q2, q3⟩), List.append_nil] at hsn
          have HSN := Lib.hid hsn
          clear hsn
          generalize tofK l o k = r at *
          by_cases q2 : 0 ≤ o
          · by_cases q1 : ow = o
            · have hq1 : (ow == o) = true := by simp [q1]
              have q3 : st = 3 := Decidable.byContradiction fun q3 => hin ⟨q1, q2, q3⟩
              have hq3 : (st + 1 != 4) = false := by simp [q3]
              clear q1 q3 hin
              go_wp2_with (fail)
              go_roundw
              case rel => exact ⟨k + 1, by go_num, by omega, by rw [HSN.out]; exact HO.out, HU.out⟩
              case measure => simp [intOf]; omega
            · have hq1 : (ow == o) = false := by simp [q1]
              clear q1 hin
              go_wp2_with (fail)
              go_roundw
              case rel => exact ⟨k + 1, by go_num, by omega, by rw [HSN.out]; exact HO.out, HU.out⟩
              case measure => simp [intOf]; omega
          · clear hin
            go_wp2_with (fail)
            go_roundw
            case rel => exact ⟨k + 1, by go_num, by omega, by rw [HSN.out]; exact HO.out, HU.out⟩
            case measure => simp [intOf]; omega
      · have hkl : k = l.length := by omega
        subst hkl
        have HO := Lib.hid hs
        have HU := Lib.hid hu
        clear hs hu
        go_wp2_with fail
        exact hR.out _ _ ⟨_, rfl, HO.out.mono (Nat.zero_le _), HU.out⟩
end Go.Proofs.Ytagadbgbicebaaa
