/-
  The contracts of the table's Push and Broken: bytes go into a connection's feed. Conditions: the table is one that its own functions made; the bytes are a million at most.
-/
import Derived.Test.YtagadbgbicebaaaConnMore
import Derived.Test.YtagadbgbicebaaaFeed
import Derived.Test.YtagadbgbicebaaaFeedMisc
namespace Go.Proofs.Ytagadbgbicebaaa
open Go Go.RowKit

def fedOf (r t : ByteArray) : Fed := allFr (r.data.toList ++ t.data.toList)
def restOf (r t : ByteArray) : ByteArray := bs (fedOf r t).rest

section
variable {w : World} {b : Nat} {v : Value} {base : Nat} {ls : List Nat}

theorem cpushOut_c (h : TbAt w b v base ls) {n : Int} (hn : n < 0 ∨ ls.length ≤ n) (t : ByteArray) :
    Calls Try.prog 42 #[.pointer (some ⟨b, 0, none⟩), i64 n, .string t] w fun x w' => x = .returned (.tuple #[.slice none 0 0, i64 12]) ∧ Upd [] w w' := by
  refine post fun R hR => ?_
  go_enter Try.func42, Try.ntmps42
  go_wp2_with (fail)
  refine Calls.mono (cfindOut_c h hn) ?_
  rintro e w1 ⟨rfl, hu1⟩
  go_wp2_with fail
  exact hR.out _ _ ⟨rfl, hu1⟩

theorem cpushShut_c (h : TbAt w b v base ls) {k lb : Nat} (hk : ls[k]? = some lb) {r : ByteArray} {e st ow : Int} {ov : Value} (hl : LnAt w lb r e st ow ov) (hst : 2 ≤ st) (t : ByteArray) :
    Calls Try.prog 42 #[.pointer (some ⟨b, 0, none⟩), i64 k, .string t] w fun x w' => x = .returned (.tuple #[.slice none 0 0, i64 17]) ∧ Upd [] w w' := by
  have HF := Lib.hid (cfind_c h hk)
  have HL := Lib.hid hl
  clear h hk hl
  refine post fun R hR => ?_
  go_enter Try.func42, Try.ntmps42
  go_wp2_with (fail)
  refine Calls.mono (HF.out) ?_
  rintro e w1 ⟨rfl, hu1⟩
  have ht := ctakes1_c (hu1.keep0 HL.out)
  rw [decide_eq_false (by omega : ¬ st < 2)] at ht
  have HT := Lib.hid ht
  clear ht
  go_wp2_with fail
  refine HT.out.mono ?_
  rintro x w2 ⟨rfl, hu2⟩
  go_wp2_with fail
  exact hR.out _ _ ⟨rfl, hu1.trans' hu2⟩

theorem cpushBad_c (h : TbAt w b v base ls) {k lb : Nat} (hk : ls[k]? = some lb) {r : ByteArray} {e st ow : Int} {ov : Value} (hl : LnAt w lb r e st ow ov) (hst : st < 2) (he : e ≠ 0) (t : ByteArray) :
    Calls Try.prog 42 #[.pointer (some ⟨b, 0, none⟩), i64 k, .string t] w fun x w' => x = .returned (.tuple #[.slice none 0 0, i64 0]) ∧ Upd [] w w' := by
  have HF := Lib.hid (cfind_c h hk)
  have HL := Lib.hid hl
  clear h hk hl
  refine post fun R hR => ?_
  go_enter Try.func42, Try.ntmps42
  go_wp2_with (fail)
  refine Calls.mono (HF.out) ?_
  rintro e w1 ⟨rfl, hu1⟩
  have ht := ctakes1_c (hu1.keep0 HL.out)
  rw [decide_eq_true hst] at ht
  have HT := Lib.hid ht
  clear ht
  go_wp2_with fail
  refine HT.out.mono ?_
  rintro x w2 ⟨rfl, hu2⟩
  have hp := pushBad_c (off := 0) ((hu1.trans' hu2).keep0 HL.out) (x := e) rfl he t
  have HP := Lib.hid hp
  clear hp
  go_wp2_with fail
  refine HP.out.mono ?_
  rintro x w3 ⟨rfl, rfl⟩
  go_wp2_with fail
  exact hR.out _ _ ⟨rfl, hu1.trans' hu2⟩

theorem cpush_c (h : TbAt w b v base ls) {k lb : Nat} (hk : ls[k]? = some lb) {r : ByteArray} {st ow : Int} {ov : Value} (hl : LnAt w lb r 0 st ow ov) (hst : st < 2) (t : ByteArray) (hlen : r.size + t.size ≤ 1000000) :
    Calls Try.prog 42 #[.pointer (some ⟨b, 0, none⟩), i64 k, .string t] w fun x w' => ∃ ao cap, x = .returned (.tuple #[.slice ao (fedOf r t).out.length cap, i64 0]) ∧
      Sub w' w.heap.size 23 3 (.slice ao (fedOf r t).out.length cap) (fedOf r t).out.length (fmCells (fedOf r t).out) ∧ LnAt w' lb (restOf r t) (fedOf r t).e st ow ov ∧ Upd [lb] w w' := by
  have HF := Lib.hid (cfind_c h hk)
  have HL := Lib.hid hl
  clear h hk hl
  refine post fun R hR => ?_
  go_enter Try.func42, Try.ntmps42
  go_wp2_with (fail)
  refine Calls.mono (HF.out) ?_
  rintro e w1 ⟨rfl, hu1⟩
  have ht := ctakes1_c (hu1.keep0 HL.out)
  rw [decide_eq_true hst] at ht
  have HT := Lib.hid ht
  clear ht
  go_wp2_with fail
  refine HT.out.mono ?_
  rintro x w2 ⟨rfl, hu2⟩
  have hp := push_c (off := 0) ((hu1.trans' hu2).keep0 HL.out) (s := r) rfl rfl t hlen
  have HP := Lib.hid hp
  have HU := Lib.hid (hu1.trans' hu2)
  clear hp hu1 hu2
  go_wp2_with fail
  refine HP.out.mono ?_
  rintro x w3 ⟨v3, rfl, ho, hu3, hh⟩
  have hs := (sub_of_own ho).mono HU.out.size
  obtain ⟨ao, cap, rfl, -, -⟩ := hs.form
  have HS := Lib.hid hs
  have HH := Lib.hid hh
  clear hs ho hh
  go_wp2_with fail
  exact hR.out _ _ ⟨ao, cap, rfl, HS.out, HH.out, (HU.out.mono (by simp)).trans' hu3⟩

theorem cbrokenOut_c (h : TbAt w b v base ls) {n : Int} (hn : n < 0 ∨ ls.length ≤ n) :
    Calls Try.prog 47 #[.pointer (some ⟨b, 0, none⟩), i64 n] w fun x w' => x = .returned (i64 0) ∧ Upd [] w w' := by
  refine post fun R hR => ?_
  go_enter Try.func47, Try.ntmps47
  go_wp2_with (fail)
  refine Calls.mono (cfindOut_c h hn) ?_
  rintro e w1 ⟨rfl, hu1⟩
  go_wp2_with fail
  exact hR.out _ _ ⟨rfl, hu1⟩
theorem cbroken_c (h : TbAt w b v base ls) {k lb : Nat} (hk : ls[k]? = some lb) {r : ByteArray} {e st ow : Int} {ov : Value} (hl : LnAt w lb r e st ow ov) :
    Calls Try.prog 47 #[.pointer (some ⟨b, 0, none⟩), i64 k] w fun x w' => x = .returned (i64 e) ∧ Upd [] w w' := by
  have HF := Lib.hid (cfind_c h hk)
  have HL := Lib.hid hl
  clear h hk hl
  refine post fun R hR => ?_
  go_enter Try.func47, Try.ntmps47
  go_wp2_with (fail)
  refine Calls.mono (HF.out) ?_
  rintro e w1 ⟨rfl, hu1⟩
  have hp := broken_c (off := 0) (hu1.keep0 HL.out) (x := e) rfl
  have HP := Lib.hid hp
  clear hp
  go_wp2_with fail
  refine HP.out.mono ?_
  rintro x w3 ⟨rfl, rfl⟩
  go_wp2_with fail
  exact hR.out _ _ ⟨rfl, hu1⟩
end

/-- what a push is, in the plain -/
def tpuE (l : List Ln) (n : Int) : Int := match lnAt l n with
  | none => 12
  | some m => if m.st < 2 then 0 else 17
def tpuF (l : List Ln) (n : Int) (t : ByteArray) : List Fm := match lnAt l n with
  | none => []
  | some m => if m.st < 2 then if m.e = 0 then (fedOf m.r t).out else [] else []
def tpuL (l : List Ln) (n : Int) (t : ByteArray) : List Ln := match lnAt l n with
  | none => l
  | some m => if m.st < 2 then if m.e = 0 then setL l n { m with r := restOf m.r t, e := (fedOf m.r t).e } else l else l
def tbroken (l : List Ln) (n : Int) : Int := match lnAt l n with
  | none => 0
  | some m => m.e

section
variable {w : World} {Z : Nat → Prop} {b : Nat} {l : List Ln}

theorem tbl_push_c (h : TblAt w Z b l) (n : Int) (t : ByteArray) (hlen : ∀ m, lnAt l n = some m → m.r.size + t.size ≤ 1000000) :
    Calls Try.prog 42 #[.pointer (some ⟨b, 0, none⟩), i64 n, .string t] w fun e w' => ∃ ao cap, e = .returned (.tuple #[.slice ao (tpuF l n t).length cap, i64 (tpuE l n)]) ∧
      Sub w' w.heap.size 23 3 (.slice ao (tpuF l n t).length cap) (tpuF l n t).length (fmCells (tpuF l n t)) ∧ UpdP Z w w' ∧ TblAt w' (grow Z w) b (tpuL l n t) := by
  have h' := h
  obtain ⟨h0, v, ls, ov, hX⟩ := h
  unfold tpuE tpuL tpuF
  cases hl : lnAt l n with
  | none =>
    have hn := lnAt_none hl
    rw [← hX.len] at hn
    refine Calls.mono (cpushOut_c hX.tb hn t) ?_
    rintro e w' ⟨rfl, hu⟩
    exact ⟨none, 0, rfl, sub_nil _ _ _ _, h'.same hu⟩
  | some m =>
    have hml := hlen m hl
    obtain ⟨n0, hk, hlt⟩ := lnAt_some hl
    obtain ⟨lb, hb⟩ := hX.at hk
    obtain ⟨k1, k2, -, -⟩ := hX.ln _ _ _ hb hk
    obtain ⟨k, rfl⟩ : ∃ k : Nat, n = (k : Int) := ⟨n.toNat, by omega⟩
    simp only [Int.toNat_natCast] at hk hb k1 k2
    have hm3 := h0 _ _ hk
    by_cases hst : m.st < 2
    · by_cases he : m.e = 0
      · simp only [if_pos hst, if_pos he]
        rw [he] at k1
        refine Calls.mono (cpush_c hX.tb hb k1 hst t hml) ?_
        rintro e w' ⟨ao, cap, rfl, g0, g1, g2⟩
        have := hX.change hb hk (n' := { m with r := restOf m.r t, e := (fedOf m.r t).e }) (ov' := ov k) g2 (fun x hx => by simp at hx; exact .inl hx) g1 (k2.upd g2 (fun x hx hm => by simp at hm; subst hm; exact (hX.apart hb hk).2.2.1 hx)) (fun x hx => .inl hx)
        exact ⟨ao, cap, rfl, g0, this.2, set_st h0 hm3, v, ls, _, this.1⟩
      · simp only [if_pos hst, if_neg he]
        refine Calls.mono (cpushBad_c hX.tb hb k1 hst he t) ?_
        rintro e w' ⟨rfl, hu⟩
        exact ⟨none, 0, rfl, sub_nil _ _ _ _, h'.same hu⟩
    · simp only [if_neg hst]
      refine Calls.mono (cpushShut_c hX.tb hb k1 (by omega) t) ?_
      rintro e w' ⟨rfl, hu⟩
      exact ⟨none, 0, rfl, sub_nil _ _ _ _, h'.same hu⟩

theorem tbl_broken_c (h : TblAt w Z b l) (n : Int) :
    Calls Try.prog 47 #[.pointer (some ⟨b, 0, none⟩), i64 n] w fun e w' => e = .returned (i64 (tbroken l n)) ∧ Upd [] w w' := by
  obtain ⟨h0, v, ls, ov, hX⟩ := h
  unfold tbroken
  cases hl : lnAt l n with
  | none =>
    have hn := lnAt_none hl
    rw [← hX.len] at hn
    exact cbrokenOut_c hX.tb hn
  | some m =>
    obtain ⟨n0, hk, hlt⟩ := lnAt_some hl
    obtain ⟨lb, hb⟩ := hX.at hk
    obtain ⟨k1, k2, -, -⟩ := hX.ln _ _ _ hb hk
    obtain ⟨k, rfl⟩ : ∃ k : Nat, n = (k : Int) := ⟨n.toNat, by omega⟩
    simp only [Int.toNat_natCast] at hk hb k1 k2
    exact cbroken_c hX.tb hb k1
end
end Go.Proofs.Ytagadbgbicebaaa
