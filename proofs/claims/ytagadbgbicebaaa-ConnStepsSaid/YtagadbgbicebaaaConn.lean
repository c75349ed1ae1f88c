/-
  The contracts of chapter 38's table: where a connection is, and what is done to one. Conditions: the table is one that its own functions made.
-/
import Derived.Test.YtagadbgbicebaaaConnNil
import Derived.Test.YtagadbgbicebaaaSub
import Derived.Deep.RegionLaw
namespace Go.Proofs.Ytagadbgbicebaaa
open Go Go.RowKit

theorem info_cline : (Try.prog.info? 83).map (fun i => (i.zero, i.size, i.bytes)) = some (some (.pointer none), 1, 8) := by kernel_rfl
theorem info_cstr : (Try.prog.info? 9).map (fun i => (i.zero, i.size, i.bytes)) = some (some (.string ⟨#[]⟩), 1, 16) := by kernel_rfl

/-- pointers to blocks -/
def ptrs (bs : List Nat) : List Value := bs.map fun b => .pointer (some ⟨b, 0, none⟩)
theorem ptrs_len (l : List Nat) : (ptrs l).length = l.length := by simp [ptrs]
theorem ptrs_get {l : List Nat} {k b : Nat} (h : l[k]? = some b) : (ptrs l)[k]? = some (.pointer (some ⟨b, 0, none⟩)) := by unfold ptrs; rw [List.getElem?_map, h]; rfl
theorem ptrs_append (a b : List Nat) : ptrs (a ++ b) = ptrs a ++ ptrs b := by simp [ptrs]

/-- the texts' cells -/
def strs (l : List ByteArray) : List Value := l.map .string
theorem strs_len (l : List ByteArray) : (strs l).length = l.length := by simp [strs]
theorem strs_append (a b : List ByteArray) : strs (a ++ b) = strs a ++ strs b := by simp [strs]

/-- a table's block, its row, and where its lines lie -/
structure TbAt (w : World) (b : Nat) (v : Value) (base : Nat) (bs : List Nat) : Prop where
  heap : w.heap[b]? = some (.cells #[v] 56 (0, 0))
  sub : Sub w base 83 1 v bs.length (ptrs bs)
  len : bs.length ≤ 16

theorem TbAt.keep {S : List Nat} {w w' : World} {b : Nat} {v : Value} {base : Nat} {bs : List Nat} (h : TbAt w b v base bs) (hu : Upd S w w') (hb : b ∉ S) (hs : ∀ g, g ∈ blkL v → g ∉ S) : TbAt w' b v base bs :=
  ⟨hu.keep h.heap hb, h.sub.upd hu hs, h.len⟩
theorem TbAt.keep0 {w w' : World} {b : Nat} {v : Value} {base : Nat} {bs : List Nat} (h : TbAt w b v base bs) (hu : Upd [] w w') : TbAt w' b v base bs := h.keep hu (by simp) (by simp)

theorem cfind_c {w : World} {b : Nat} {v : Value} {base : Nat} {bs : List Nat} (h : TbAt w b v base bs) {k : Nat} {lb : Nat} (hk : bs[k]? = some lb) :
    Calls Try.prog 52 #[.pointer (some ⟨b, 0, none⟩), i64 k] w fun e w' => e = .returned (.tuple #[.pointer (some ⟨lb, 0, none⟩), i64 0]) ∧ Upd [] w w' := by
  obtain ⟨c0, f0⟩ := cells1 h.heap
  obtain ⟨ao, cap, rfl, hcap, hrow⟩ := h.sub.form
  have hlt : k < bs.length := by
    rcases Nat.lt_or_ge k bs.length with q | q
    · exact q
    · rw [List.getElem?_eq_none q] at hk; cases hk
  obtain ⟨g, off, rfl, -, -, hcs⟩ := hrow (by omega)
  have c1 := hcs k _ (ptrs_get hk)
  have hl := h.len
  clear hrow hcs h hk
  generalize bs.length = n at *
  refine post fun R hR => ?_
  go_enter Try.func52, Try.ntmps52
  go_wp2_with fail
  exact hR.out _ _ ⟨rfl, Upd.refl _ _⟩

theorem cfindOut_c {w : World} {b : Nat} {v : Value} {base : Nat} {bs : List Nat} (h : TbAt w b v base bs) {n : Int} (hn : n < 0 ∨ bs.length ≤ n) :
    Calls Try.prog 52 #[.pointer (some ⟨b, 0, none⟩), i64 n] w fun e w' => e = .returned (.tuple #[.pointer none, i64 12]) ∧ Upd [] w w' := by
  obtain ⟨c0, f0⟩ := cells1 h.heap
  obtain ⟨ao, cap, rfl, hcap, hrow⟩ := h.sub.form
  have hl := h.len
  clear hrow h
  generalize bs.length = m at *
  by_cases h0 : n < 0
  · refine post fun R hR => ?_
    go_enter Try.func52, Try.ntmps52
    go_wp2_with fail
    exact hR.out _ _ ⟨rfl, Upd.refl _ _⟩
  · have h1 : (m : Int) ≤ n := by omega
    clear hn
    refine post fun R hR => ?_
    go_enter Try.func52, Try.ntmps52
    go_wp2_with fail
    exact hR.out _ _ ⟨rfl, Upd.refl _ _⟩

set_option maxHeartbeats 1000000 in
set_option maxRecDepth 100000 in
theorem copen_c {w : World} {b : Nat} {v : Value} {base : Nat} {bs : List Nat} (h : TbAt w b v base bs) (hb : base ≤ w.heap.size) (hlt : bs.length < 16) :
    Calls Try.prog 41 #[.pointer (some ⟨b, 0, none⟩)] w fun e w' => ∃ v' lb, e = .returned (.tuple #[i64 bs.length, i64 0]) ∧ TbAt w' b v' base (bs ++ [lb]) ∧ w.heap.size ≤ lb ∧
      w'.heap[lb]? = some (.cells #[.string ⟨#[]⟩, i64 0, i64 0, i64 (-1), .slice none 0 0] 88 (0, 0)) ∧ Upd (b :: blkL v) w w' ∧ (blkL v' = blkL v ∨ ∃ g, blkL v' = [g] ∧ w.heap.size ≤ g) := by
  obtain ⟨i0, hi, hz0, hz1, hz2⟩ := info_parts info_cline
  obtain ⟨c0, f0⟩ := cells1 h.heap
  obtain ⟨ao, cap, rfl, hcap, -⟩ := h.sub.form
  have hne : b ∉ blkL (.slice ao bs.length cap) := fun hm => by
    obtain ⟨cs, hc⟩ := h.sub.ty _ hm
    rw [h.heap] at hc; injection hc with hc; injection hc with _ hc; cases hc
  have HS := Lib.hid h.sub
  have HH := Lib.hid h.heap
  have HNE := Lib.hid hne
  have hq : b < w.heap.size := lt_of_heap h.heap
  have hmx : ∀ n : Nat, n < 16 → n + 1 ≤ maxLen := fun n hn => by unfold maxLen; omega
  have HMX := Lib.hid hmx
  clear hmx
  have HL := Lib.hid (ptrs_append bs)
  have hnl : w.heap.size ∉ blkL (.slice ao bs.length cap) := fun hm => by have := (h.sub.lt _ hm).2; omega
  have HNL := Lib.hid hnl
  clear h hne hnl
  obtain ⟨n, hn⟩ : ∃ n, n = bs.length := ⟨_, rfl⟩
  have HN := Lib.hid hn
  rw [← hn] at c0 hcap hlt HS HNE HNL HH ⊢
  clear hn
  refine post fun R hR => ?_
  go_enter Try.func41, Try.ntmps41
  go_wp2_with (at_builtin; refine wpList_append_sub _ rfl _ _ 54 rfl base 83 i0 _ 1 8 Try.underlying54 hi hz0 hz1 hz2 rfl (by decide) (.slice ao n cap) n _ rfl (HS.out.upd0 (by repeat' (first | exact Upd.refl _ _ | apply Upd.drew | apply Upd.alloc))) _ 1 1 [.pointer (some ⟨w.heap.size, 0, none⟩)] rfl (src_block (by first | exact heap_new2 _ _ _ | exact heap_alloc_new _ _) 1 1) rfl (by intro u hu; simp at hu; subst hu; rfl) (HMX.out _ hlt) (by omega) (by simp; omega) ?_; intro ao' cap' w5 hs5 hu5 hb5; have hh5 := hu5.keep (o := .cells #[.slice ao n cap] 56 (0, 0)) (heap_alloc_old (heap_alloc_old HH.out _) _) HNE.out; have hl5 := hu5.keep (o := .cells #[.string ⟨#[]⟩, i64 0, i64 0, i64 (-1), .slice none 0 0] 88 (0, 0)) (heap_alloc_old (heap_alloc_new w _) _) HNL.out; obtain ⟨q0, q1⟩ := cells1 hh5; have HS5 := Lib.hid hs5; have HU5 := Lib.hid hu5; have HB5 := Lib.hid hb5; have HH5 := Lib.hid hh5; have HL5 := Lib.hid hl5; clear hs5 hu5 hb5 hh5 hl5)
  have hne5 : b ∉ blkL (.slice ao' (n + 1) cap') := fun hm => by
    obtain ⟨cs, hc⟩ := HS5.out.ty _ hm
    rw [HH5.out] at hc; injection hc with hc; injection hc with _ hc; cases hc
  refine hR.out _ _ ⟨.slice ao' (n + 1) cap', w.heap.size, rfl, ⟨heap_setCell HH5.out _ _, ?_, ?_⟩, Nat.le_refl _, heap_setCell_ne HL5.out (by omega) _ _, ?_, ?_⟩
  · rw [List.length_append, HL.out, ← HN.out]
    exact HS5.out.upd ((Upd.refl [b] w5).setCell (by simp) _) (by intro g hg hm; simp at hm; subst hm; exact hne5 hg)
  · rw [List.length_append, ← HN.out]; simp; omega
  · exact ((((Upd.refl _ _).alloc _).alloc _).trans' (HU5.out.mono (by intro x hx; simp [hx]))).setCell (by simp) _
  · rcases HB5.out with h | ⟨g, h1, h2⟩
    · exact .inl h
    · exact .inr ⟨g, h1, Nat.le_trans (by simp; omega) h2⟩

theorem copenFull_c {w : World} {b : Nat} {v : Value} {base : Nat} {bs : List Nat} (h : TbAt w b v base bs) (hlt : 16 ≤ bs.length) :
    Calls Try.prog 41 #[.pointer (some ⟨b, 0, none⟩)] w fun e w' => e = .returned (.tuple #[i64 0, i64 13]) ∧ Upd [] w w' := by
  obtain ⟨c0, f0⟩ := cells1 h.heap
  obtain ⟨ao, cap, rfl, hcap, -⟩ := h.sub.form
  clear h
  generalize bs.length = n at *
  refine post fun R hR => ?_
  go_enter Try.func41, Try.ntmps41
  go_wp2_with fail
  exact hR.out _ _ ⟨rfl, Upd.refl _ _⟩

/-- a line's block -/
abbrev LnAt (w : World) (lb : Nat) (r : ByteArray) (e st ow : Int) (ov : Value) : Prop := w.heap[lb]? = some (.cells #[.string r, i64 e, i64 st, i64 ow, ov] 88 (0, 0))

theorem ctakes1_c {w : World} {lb : Nat} {r : ByteArray} {e st ow : Int} {ov : Value} (h : LnAt w lb r e st ow ov) :
    Calls Try.prog 53 #[.pointer (some ⟨lb, 0, none⟩)] w fun e w' => e = .returned (.bool (decide (st < 2))) ∧ Upd [] w w' := by
  obtain ⟨c0, c1, c2, c3, c4, -⟩ := cells5 h
  clear h
  refine post fun R hR => ?_
  go_enter Try.func53, Try.ntmps53
  go_wp2_with fail
  exact hR.out _ _ ⟨rfl, Upd.refl _ _⟩

theorem cshut_c {w : World} {b : Nat} {v : Value} {base : Nat} {bs : List Nat} (h : TbAt w b v base bs) {k : Nat} {lb : Nat} (hk : bs[k]? = some lb) {r : ByteArray} {e st ow : Int} {ov : Value} (hl : LnAt w lb r e st ow ov) (hst : st < 2) :
    Calls Try.prog 35 #[.pointer (some ⟨b, 0, none⟩), i64 k] w fun x w' => x = .returned (i64 0) ∧ LnAt w' lb r e 2 ow ov ∧ Upd [lb] w w' := by
  have HH := Lib.hid h
  have HLn := Lib.hid hl
  clear hl
  refine post fun R hR => ?_
  go_enter Try.func35, Try.ntmps35
  go_wp2_with (fail)
  refine Calls.mono (cfind_c h hk) ?_
  rintro e w1 ⟨rfl, hu1⟩
  have hl1 := hu1.keep0 HLn.out
  have ht := ctakes1_c hl1
  rw [decide_eq_true hst] at ht
  have HT := Lib.hid ht
  clear ht h
  go_wp2_with fail
  refine HT.out.mono ?_
  rintro x w2 ⟨rfl, hu2⟩
  have hl2 := hu2.keep0 hl1
  obtain ⟨c0, c1, c2, c3, c4, f0, f1, f2, f3, f4⟩ := cells5 hl2
  go_wp2_with fail
  exact hR.out _ _ ⟨rfl, hset5_2 hl2, ((hu1.trans' hu2).mono (by simp)).setCell (by simp) _⟩

theorem cshutNot_c {w : World} {b : Nat} {v : Value} {base : Nat} {bs : List Nat} (h : TbAt w b v base bs) {k : Nat} {lb : Nat} (hk : bs[k]? = some lb) {r : ByteArray} {e st ow : Int} {ov : Value} (hl : LnAt w lb r e st ow ov) (hst : 2 ≤ st) :
    Calls Try.prog 35 #[.pointer (some ⟨b, 0, none⟩), i64 k] w fun x w' => x = .returned (i64 17) ∧ Upd [] w w' := by
  have HLn := Lib.hid hl
  clear hl
  refine post fun R hR => ?_
  go_enter Try.func35, Try.ntmps35
  go_wp2_with (fail)
  refine Calls.mono (cfind_c h hk) ?_
  rintro e w1 ⟨rfl, hu1⟩
  have ht := ctakes1_c (hu1.keep0 HLn.out)
  rw [decide_eq_false (by omega : ¬ st < 2)] at ht
  have HT := Lib.hid ht
  clear ht h
  go_wp2_with fail
  refine HT.out.mono ?_
  rintro x w2 ⟨rfl, hu2⟩
  go_wp2_with fail
  exact hR.out _ _ ⟨rfl, hu1.trans' hu2⟩

theorem cshutOut_c {w : World} {b : Nat} {v : Value} {base : Nat} {bs : List Nat} (h : TbAt w b v base bs) {n : Int} (hn : n < 0 ∨ bs.length ≤ n) :
    Calls Try.prog 35 #[.pointer (some ⟨b, 0, none⟩), i64 n] w fun x w' => x = .returned (i64 12) ∧ Upd [] w w' := by
  refine post fun R hR => ?_
  go_enter Try.func35, Try.ntmps35
  go_wp2_with (fail)
  refine Calls.mono (cfindOut_c h hn) ?_
  rintro e w1 ⟨rfl, hu1⟩
  go_wp2_with fail
  exact hR.out _ _ ⟨rfl, hu1⟩

set_option maxRecDepth 100000 in
theorem csend_c {w : World} {b : Nat} {v : Value} {base : Nat} {bs : List Nat} (h : TbAt w b v base bs) {k : Nat} {lb : Nat} (hk : bs[k]? = some lb) {r : ByteArray} {e st ow : Int} {ov : Value} (hl : LnAt w lb r e st ow ov) (hst : st < 3)
    {n : Nat} {xs : List Value} {base2 : Nat} (ho : Sub w base2 9 1 ov n xs) (hn : n ≤ 1000) (hb2 : base2 ≤ w.heap.size) (s : ByteArray) :
    Calls Try.prog 37 #[.pointer (some ⟨b, 0, none⟩), i64 k, .string s] w fun x w' => ∃ ov', x = .returned (i64 0) ∧ LnAt w' lb r e st ow ov' ∧ Sub w' base2 9 1 ov' (n + 1) (xs ++ [.string s]) ∧ Upd (lb :: blkL ov) w w' ∧ (blkL ov' = blkL ov ∨ ∃ g, blkL ov' = [g] ∧ w.heap.size ≤ g) := by
  obtain ⟨i0, hi, hz0, hz1, hz2⟩ := info_parts info_cstr
  have HLn := Lib.hid hl
  have hne : lb ∉ blkL ov := fun hm => by
    obtain ⟨cs, hc⟩ := ho.ty _ hm
    rw [hl] at hc; injection hc with hc; injection hc with _ hc; cases hc
  obtain ⟨ao, cap, rfl, hcap, -⟩ := ho.form
  have HNE := Lib.hid hne
  have HO := Lib.hid ho
  have hmx : n + 1 ≤ maxLen := by unfold maxLen; omega
  have HMX := Lib.hid hmx
  clear hl hne hmx ho
  refine post fun R hR => ?_
  go_enter Try.func37, Try.ntmps37
  go_wp2_with (fail)
  refine Calls.mono (cfind_c h hk) ?_
  rintro e w1 ⟨rfl, hu1⟩
  have hl1 := hu1.keep0 HLn.out
  obtain ⟨c0, c1, c2, c3, c4, f0, f1, f2, f3, f4⟩ := cells5 hl1
  have ho1 := HO.out.upd0 hu1
  have HO1 := Lib.hid ho1
  have HL1 := Lib.hid hl1
  have hs1 := hu1.size
  clear ho1 hl1 h
  go_wp2_with (at_builtin; refine wpList_append_sub _ rfl _ _ 38 rfl base2 9 i0 _ 1 16 Try.underlying38 hi hz0 hz1 hz2 rfl (by decide) (.slice ao n cap) n _ rfl (HO1.out.upd0 ((Upd.refl _ _).alloc _)) _ 1 1 [.string s] rfl (src_block (heap_alloc_new _ _) 1 1) rfl (by intro u hu; simp at hu; subst hu; rfl) HMX.out (by omega) (by simp; omega) ?_; intro ao' cap' w5 hs5 hu5 hb5; have hh5 := hu5.keep (heap_alloc_old HL1.out _) HNE.out; obtain ⟨q0, q1, q2, q3, q4, p0, p1, p2, p3, p4⟩ := cells5 hh5; have HS5 := Lib.hid hs5; have HU5 := Lib.hid hu5; have HB5 := Lib.hid hb5; have HH5 := Lib.hid hh5; clear hs5 hu5 hb5 hh5)
  have hne5 : lb ∉ blkL (.slice ao' (n + 1) cap') := fun hm => by
    obtain ⟨cs, hc⟩ := HS5.out.ty _ hm
    rw [HH5.out] at hc; injection hc with hc; injection hc with _ hc; cases hc
  refine hR.out _ _ ⟨.slice ao' (n + 1) cap', rfl, hset5_4 HH5.out, HS5.out.upd ((Upd.refl [lb] w5).setCell (by simp) _) (by intro g hg hm; simp at hm; subst hm; exact hne5 hg), ?_, ?_⟩
  · exact ((((hu1.mono (by simp)).alloc _)).trans' (HU5.out.mono (by intro x hx; simp [hx]))).setCell (by simp) _
  · rcases HB5.out with h | ⟨g, h1, h2⟩
    · exact .inl h
    · exact .inr ⟨g, h1, Nat.le_trans (by simp; omega) h2⟩

theorem csendGone_c {w : World} {b : Nat} {v : Value} {base : Nat} {bs : List Nat} (h : TbAt w b v base bs) {k : Nat} {lb : Nat} (hk : bs[k]? = some lb) {r : ByteArray} {e ow : Int} {ov : Value} (hl : LnAt w lb r e 3 ow ov) (s : ByteArray) :
    Calls Try.prog 37 #[.pointer (some ⟨b, 0, none⟩), i64 k, .string s] w fun x w' => x = .returned (i64 17) ∧ Upd [] w w' := by
  have HLn := Lib.hid hl
  clear hl
  refine post fun R hR => ?_
  go_enter Try.func37, Try.ntmps37
  go_wp2_with (fail)
  refine Calls.mono (cfind_c h hk) ?_
  rintro e w1 ⟨rfl, hu1⟩
  obtain ⟨c0, c1, c2, c3, c4, -⟩ := cells5 (hu1.keep0 HLn.out)
  go_wp2_with fail
  exact hR.out _ _ ⟨rfl, hu1⟩

theorem csendOut_c {w : World} {b : Nat} {v : Value} {base : Nat} {bs : List Nat} (h : TbAt w b v base bs) {n : Int} (hn : n < 0 ∨ bs.length ≤ n) (s : ByteArray) :
    Calls Try.prog 37 #[.pointer (some ⟨b, 0, none⟩), i64 n, .string s] w fun x w' => x = .returned (i64 12) ∧ Upd [] w w' := by
  refine post fun R hR => ?_
  go_enter Try.func37, Try.ntmps37
  go_wp2_with (fail)
  refine Calls.mono (cfindOut_c h hn) ?_
  rintro e w1 ⟨rfl, hu1⟩
  go_wp2_with fail
  exact hR.out _ _ ⟨rfl, hu1⟩

/-- a slice without its first element -/
theorem Sub.tail {w : World} {base : Nat} {e : TypeId} {g off n cap : Nat} {x : Value} {xs : List Value} (h : Sub w base e 1 (.slice (some ⟨g, off, none⟩) (n + 1) cap) (n + 1) (x :: xs)) :
    Sub w base e 1 (.slice (some ⟨g, off + 1, none⟩) n (cap - 1)) n xs := by
  obtain ⟨hl, h⟩ := h
  rcases h with ⟨h, _⟩ | ⟨g', off', cap', cs, he, h2, h3, h4, h5, h6, h7⟩
  · cases h
  · injection he with e1 e2 e3
    injection e1 with e1
    injection e1 with e4 e5
    subst e4; subst e5; subst e3
    refine ⟨by simpa using hl, .inr ⟨g, off + 1, cap - 1, cs, rfl, h2, h3, by omega, by omega, by omega, fun j hj => ?_⟩⟩
    have := h7 (j + 1) (by omega)
    rw [show off + 1 + j = off + (j + 1) by omega, this]
    rfl

theorem Sub.none {w : World} {base : Nat} {e : TypeId} {g off n cap : Nat} {xs : List Value} (h : Sub w base e 1 (.slice (some ⟨g, off, none⟩) n cap) n xs) :
    Sub w base e 1 (.slice (some ⟨g, off, none⟩) 0 0) 0 [] := by
  obtain ⟨hl, h⟩ := h
  rcases h with ⟨h, _⟩ | ⟨g', off', cap', cs, he, h2, h3, h4, h5, h6, h7⟩
  · cases h
  · injection he with e1 e2 e3
    injection e1 with e1
    injection e1 with e4 e5
    subst e4; subst e5; subst e3
    exact ⟨rfl, .inr ⟨g, off, 0, cs, rfl, h2, h3, Nat.le_refl _, by omega, by omega, fun j hj => by omega⟩⟩

set_option maxRecDepth 100000 in
theorem cdeliver_c {w : World} {b : Nat} {v : Value} {base : Nat} {bs : List Nat} (h : TbAt w b v base bs) {k : Nat} {lb : Nat} (hk : bs[k]? = some lb) {r : ByteArray} {e st ow : Int} {ov : Value} (hl : LnAt w lb r e st ow ov) (hst : st < 3)
    {n : Nat} {s : ByteArray} {xs : List Value} {base2 : Nat} (ho : Sub w base2 9 1 ov (n + 1) (.string s :: xs)) (hn : n ≤ 1000) :
    Calls Try.prog 39 #[.pointer (some ⟨b, 0, none⟩), i64 k] w fun x w' => ∃ ov', x = .returned (.tuple #[.string s, .bool false, i64 0]) ∧ LnAt w' lb r e st ow ov' ∧ Sub w' base2 9 1 ov' n xs ∧ Upd [lb] w w' ∧ (∀ g ∈ blkL ov', g ∈ blkL ov) := by
  have HLn := Lib.hid hl
  obtain ⟨ao, cap, rfl, hcap, hrow⟩ := ho.form
  obtain ⟨g, off, rfl, -, -, hcs⟩ := hrow (by omega)
  have hne : lb ≠ g := fun hm => by
    obtain ⟨cs, hc⟩ := ho.ty g (by simp [blkL])
    rw [← hm, hl] at hc; injection hc with hc; injection hc with _ hc; cases hc
  have HNE := Lib.hid hne
  have HO := Lib.hid ho
  clear hl hne ho hrow hcs
  refine post fun R hR => ?_
  go_enter Try.func39, Try.ntmps39
  go_wp2_with (fail)
  refine Calls.mono (cfind_c h hk) ?_
  rintro e w1 ⟨rfl, hu1⟩
  have hl1 := hu1.keep0 HLn.out
  obtain ⟨c0, c1, c2, c3, c4, f0, f1, f2, f3, f4⟩ := cells5 hl1
  have ho1 := HO.out.upd0 hu1
  obtain ⟨ao, cap2, hv, -, hrow⟩ := ho1.form
  obtain ⟨g2, off2, rfl, -, -, hcs⟩ := hrow (by omega)
  injection hv with e1 e2 e3
  injection e1 with e1
  injection e1 with e4 e5
  subst e4; subst e5; subst e3
  have q0 := hcs 0 _ rfl
  rw [Nat.add_zero] at q0
  have HO1 := Lib.hid ho1
  have HL1 := Lib.hid hl1
  clear ho1 hl1 h hrow hcs e2
  by_cases hcap1 : cap = 1
  · subst hcap1
    obtain rfl : n = 0 := by omega
    go_wp2_with fail
    obtain rfl : xs = [] := by have := HO1.out.len; simpa using this
    refine hR.out _ _ ⟨_, rfl, hset5_4 HL1.out, HO1.out.none.upd ((Upd.refl [lb] w1).setCell (by simp) _) (by intro x hx hm; simp [blkL] at hx hm; subst hm; exact HNE.out hx), (hu1.mono (by simp)).setCell (by simp) _, ?_⟩
    intro x hx
    simpa [blkL] using hx
  · have hcap2 : (cap - 1 == 0) = false := by simp; omega
    have hcap3 : ¬ cap - 1 = 0 := by omega
    go_wp2_with fail
    refine hR.out _ _ ⟨_, rfl, hset5_4 HL1.out, HO1.out.tail.upd ((Upd.refl [lb] w1).setCell (by simp) _) (by intro x hx hm; simp [blkL] at hx hm; subst hm; exact HNE.out hx), (hu1.mono (by simp)).setCell (by simp) _, ?_⟩
    intro x hx
    simpa [blkL] using hx

theorem cdeliverShut_c {w : World} {b : Nat} {v : Value} {base : Nat} {bs : List Nat} (h : TbAt w b v base bs) {k : Nat} {lb : Nat} (hk : bs[k]? = some lb) {r : ByteArray} {e ow : Int} {ov : Value} (hl : LnAt w lb r e 2 ow ov)
    {base2 : Nat} (ho : Sub w base2 9 1 ov 0 []) :
    Calls Try.prog 39 #[.pointer (some ⟨b, 0, none⟩), i64 k] w fun x w' => x = .returned (.tuple #[.string ⟨#[]⟩, .bool true, i64 0]) ∧ LnAt w' lb r e 3 ow ov ∧ Upd [lb] w w' := by
  have HLn := Lib.hid hl
  obtain ⟨ao, cap, rfl, hcap, -⟩ := ho.form
  clear hl ho
  refine post fun R hR => ?_
  go_enter Try.func39, Try.ntmps39
  go_wp2_with (fail)
  refine Calls.mono (cfind_c h hk) ?_
  rintro e w1 ⟨rfl, hu1⟩
  have hl1 := hu1.keep0 HLn.out
  obtain ⟨c0, c1, c2, c3, c4, f0, f1, f2, f3, f4⟩ := cells5 hl1
  go_wp2_with fail
  exact hR.out _ _ ⟨rfl, hset5_2 hl1, (hu1.mono (by simp)).setCell (by simp) _⟩

theorem cdeliverNone_c {w : World} {b : Nat} {v : Value} {base : Nat} {bs : List Nat} (h : TbAt w b v base bs) {k : Nat} {lb : Nat} (hk : bs[k]? = some lb) {r : ByteArray} {e st ow : Int} {ov : Value} (hl : LnAt w lb r e st ow ov) (hst : st < 2)
    {base2 : Nat} (ho : Sub w base2 9 1 ov 0 []) :
    Calls Try.prog 39 #[.pointer (some ⟨b, 0, none⟩), i64 k] w fun x w' => x = .returned (.tuple #[.string ⟨#[]⟩, .bool false, i64 0]) ∧ Upd [] w w' := by
  have HLn := Lib.hid hl
  obtain ⟨ao, cap, rfl, hcap, -⟩ := ho.form
  clear hl ho
  refine post fun R hR => ?_
  go_enter Try.func39, Try.ntmps39
  go_wp2_with (fail)
  refine Calls.mono (cfind_c h hk) ?_
  rintro e w1 ⟨rfl, hu1⟩
  have hl1 := hu1.keep0 HLn.out
  obtain ⟨c0, c1, c2, c3, c4, f0, f1, f2, f3, f4⟩ := cells5 hl1
  go_wp2_with fail
  exact hR.out _ _ ⟨rfl, hu1⟩

theorem cdeliverGone_c {w : World} {b : Nat} {v : Value} {base : Nat} {bs : List Nat} (h : TbAt w b v base bs) {k : Nat} {lb : Nat} (hk : bs[k]? = some lb) {r : ByteArray} {e ow : Int} {ov : Value} (hl : LnAt w lb r e 3 ow ov) :
    Calls Try.prog 39 #[.pointer (some ⟨b, 0, none⟩), i64 k] w fun x w' => x = .returned (.tuple #[.string ⟨#[]⟩, .bool false, i64 17]) ∧ Upd [] w w' := by
  have HLn := Lib.hid hl
  clear hl
  refine post fun R hR => ?_
  go_enter Try.func39, Try.ntmps39
  go_wp2_with (fail)
  refine Calls.mono (cfind_c h hk) ?_
  rintro e w1 ⟨rfl, hu1⟩
  obtain ⟨c0, c1, c2, c3, c4, -⟩ := cells5 (hu1.keep0 HLn.out)
  go_wp2_with fail
  exact hR.out _ _ ⟨rfl, hu1⟩

theorem cdeliverOut_c {w : World} {b : Nat} {v : Value} {base : Nat} {bs : List Nat} (h : TbAt w b v base bs) {n : Int} (hn : n < 0 ∨ bs.length ≤ n) :
    Calls Try.prog 39 #[.pointer (some ⟨b, 0, none⟩), i64 n] w fun x w' => x = .returned (.tuple #[.string ⟨#[]⟩, .bool false, i64 12]) ∧ Upd [] w w' := by
  refine post fun R hR => ?_
  go_enter Try.func39, Try.ntmps39
  go_wp2_with (fail)
  refine Calls.mono (cfindOut_c h hn) ?_
  rintro e w1 ⟨rfl, hu1⟩
  go_wp2_with fail
  exact hR.out _ _ ⟨rfl, hu1⟩
end Go.Proofs.Ytagadbgbicebaaa
