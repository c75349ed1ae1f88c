/-
  The contracts of the table's Bind, Drop, Takes, Waits, Owner and Len. Conditions: the table is one that its own functions made.
-/
import Derived.Test.YtagadbgbicebaaaTblOps
namespace Go.Proofs.Ytagadbgbicebaaa
open Go Go.RowKit

section
variable {w : World} {b : Nat} {v : Value} {base : Nat} {bs : List Nat}

theorem cbindOut_c (h : TbAt w b v base bs) {n : Int} (hn : n < 0 ∨ bs.length ≤ n) (o : Int) :
    Calls Try.prog 34 #[.pointer (some ⟨b, 0, none⟩), i64 n, i64 o] w fun x w' => x = .returned (i64 12) ∧ Upd [] w w' := by
  refine post fun R hR => ?_
  go_enter Try.func34, Try.ntmps34
  go_wp2_with (fail)
  refine Calls.mono (cfindOut_c h hn) ?_
  rintro e w1 ⟨rfl, hu1⟩
  go_wp2_with fail
  exact hR.out _ _ ⟨rfl, hu1⟩
theorem cbindForm_c (h : TbAt w b v base bs) {k lb : Nat} (hk : bs[k]? = some lb) {o : Int} (ho : o < 0 ∨ 8 < o) :
    Calls Try.prog 34 #[.pointer (some ⟨b, 0, none⟩), i64 k, i64 o] w fun x w' => x = .returned (i64 1) ∧ Upd [] w w' := by
  have hf := cfind_c h hk
  have HF := Lib.hid hf
  clear h hk hf
  by_cases h1 : o < 0
  · clear ho
    refine post fun R hR => ?_
    go_enter Try.func34, Try.ntmps34
    go_wp2_with (fail)
    refine Calls.mono (HF.out) ?_
    rintro e w1 ⟨rfl, hu1⟩
    go_wp2_with fail
    exact hR.out _ _ ⟨rfl, hu1⟩
  · have h2 : 8 < o := by omega
    clear ho
    refine post fun R hR => ?_
    go_enter Try.func34, Try.ntmps34
    go_wp2_with (fail)
    refine Calls.mono (HF.out) ?_
    rintro e w1 ⟨rfl, hu1⟩
    go_wp2_with fail
    exact hR.out _ _ ⟨rfl, hu1⟩
theorem cbindNot_c (h : TbAt w b v base bs) {k lb : Nat} (hk : bs[k]? = some lb) {o : Int} (ho : 0 ≤ o ∧ o ≤ 8) {r : ByteArray} {e st ow : Int} {ov : Value} (hl : LnAt w lb r e st ow ov) (hst : ¬ st = 0) :
    Calls Try.prog 34 #[.pointer (some ⟨b, 0, none⟩), i64 k, i64 o] w fun x w' => x = .returned (i64 17) ∧ Upd [] w w' := by
  have HF := Lib.hid (cfind_c h hk)
  have HL := Lib.hid hl
  obtain ⟨h1, h2⟩ := ho
  have hq : (st != 0) = true := by simpa using hst
  clear h hk hl hst
  refine post fun R hR => ?_
  go_enter Try.func34, Try.ntmps34
  go_wp2_with (fail)
  refine Calls.mono (HF.out) ?_
  rintro e w1 ⟨rfl, hu1⟩
  obtain ⟨c0, c1, c2, c3, c4, -⟩ := cells5 (hu1.keep0 HL.out)
  go_wp2_with fail
  exact hR.out _ _ ⟨rfl, hu1⟩
theorem cbind_c (h : TbAt w b v base bs) {k lb : Nat} (hk : bs[k]? = some lb) {o : Int} (ho : 0 ≤ o ∧ o ≤ 8) {r : ByteArray} {e ow : Int} {ov : Value} (hl : LnAt w lb r e 0 ow ov) :
    Calls Try.prog 34 #[.pointer (some ⟨b, 0, none⟩), i64 k, i64 o] w fun x w' => x = .returned (i64 0) ∧ LnAt w' lb r e 1 o ov ∧ Upd [lb] w w' := by
  have HF := Lib.hid (cfind_c h hk)
  have HL := Lib.hid hl
  obtain ⟨h1, h2⟩ := ho
  clear h hk hl
  refine post fun R hR => ?_
  go_enter Try.func34, Try.ntmps34
  go_wp2_with (fail)
  refine Calls.mono (HF.out) ?_
  rintro e w1 ⟨rfl, hu1⟩
  have hl1 := hu1.keep0 HL.out
  obtain ⟨c0, c1, c2, c3, c4, f0, f1, f2, f3, f4⟩ := cells5 hl1
  go_wp2_with fail
  exact hR.out _ _ ⟨rfl, hset5_3 (hset5_2 hl1), ((hu1.mono (by simp)).setCell (by simp) _).setCell (by simp) _⟩

theorem cdropOut_c (h : TbAt w b v base bs) {n : Int} (hn : n < 0 ∨ bs.length ≤ n) :
    Calls Try.prog 36 #[.pointer (some ⟨b, 0, none⟩), i64 n] w fun x w' => x = .returned (i64 0) ∧ Upd [] w w' := by
  refine post fun R hR => ?_
  go_enter Try.func36, Try.ntmps36
  go_wp2_with (fail)
  refine Calls.mono (cfindOut_c h hn) ?_
  rintro e w1 ⟨rfl, hu1⟩
  go_wp2_with fail
  exact hR.out _ _ ⟨rfl, hu1⟩
theorem cdrop_c (h : TbAt w b v base bs) {k lb : Nat} (hk : bs[k]? = some lb) {r : ByteArray} {e st ow : Int} {ao : Option Addr} {n cap : Nat} (hl : LnAt w lb r e st ow (.slice ao n cap)) :
    Calls Try.prog 36 #[.pointer (some ⟨b, 0, none⟩), i64 k] w fun x w' => x = .returned (i64 n) ∧ LnAt w' lb r e 3 ow (.slice none 0 0) ∧ Upd [lb] w w' := by
  have HF := Lib.hid (cfind_c h hk)
  have HL := Lib.hid hl
  clear h hk hl
  refine post fun R hR => ?_
  go_enter Try.func36, Try.ntmps36
  go_wp2_with (fail)
  refine Calls.mono (HF.out) ?_
  rintro e w1 ⟨rfl, hu1⟩
  have hl1 := hu1.keep0 HL.out
  obtain ⟨c0, c1, c2, c3, c4, f0, f1, f2, f3, f4⟩ := cells5 hl1
  go_wp2_with fail
  exact hR.out _ _ ⟨rfl, hset5_4 (hset5_2 hl1), ((hu1.mono (by simp)).setCell (by simp) _).setCell (by simp) _⟩

theorem ctakesOut_c (h : TbAt w b v base bs) {n : Int} (hn : n < 0 ∨ bs.length ≤ n) :
    Calls Try.prog 38 #[.pointer (some ⟨b, 0, none⟩), i64 n] w fun x w' => x = .returned (.bool false) ∧ Upd [] w w' := by
  refine post fun R hR => ?_
  go_enter Try.func38, Try.ntmps38
  go_wp2_with (fail)
  refine Calls.mono (cfindOut_c h hn) ?_
  rintro e w1 ⟨rfl, hu1⟩
  go_wp2_with fail
  exact hR.out _ _ ⟨rfl, hu1⟩
theorem ctakes_c (h : TbAt w b v base bs) {k lb : Nat} (hk : bs[k]? = some lb) {r : ByteArray} {e st ow : Int} {ov : Value} (hl : LnAt w lb r e st ow ov) :
    Calls Try.prog 38 #[.pointer (some ⟨b, 0, none⟩), i64 k] w fun x w' => x = .returned (.bool (decide (st < 2))) ∧ Upd [] w w' := by
  have HF := Lib.hid (cfind_c h hk)
  have HL := Lib.hid hl
  clear h hk hl
  refine post fun R hR => ?_
  go_enter Try.func38, Try.ntmps38
  go_wp2_with (fail)
  refine Calls.mono (HF.out) ?_
  rintro e w1 ⟨rfl, hu1⟩
  have ht := ctakes1_c (hu1.keep0 HL.out)
  have HT := Lib.hid ht
  clear ht
  generalize decide (st < 2) = D at *
  go_wp2_with fail
  refine HT.out.mono ?_
  rintro x w2 ⟨rfl, hu2⟩
  go_wp2_with fail
  exact hR.out _ _ ⟨rfl, hu1.trans' hu2⟩

theorem cwaitsOut_c (h : TbAt w b v base bs) {n : Int} (hn : n < 0 ∨ bs.length ≤ n) :
    Calls Try.prog 48 #[.pointer (some ⟨b, 0, none⟩), i64 n] w fun x w' => x = .returned (i64 0) ∧ Upd [] w w' := by
  refine post fun R hR => ?_
  go_enter Try.func48, Try.ntmps48
  go_wp2_with (fail)
  refine Calls.mono (cfindOut_c h hn) ?_
  rintro e w1 ⟨rfl, hu1⟩
  go_wp2_with fail
  exact hR.out _ _ ⟨rfl, hu1⟩
theorem cwaits_c (h : TbAt w b v base bs) {k lb : Nat} (hk : bs[k]? = some lb) {r : ByteArray} {e st ow : Int} {ao : Option Addr} {n cap : Nat} (hl : LnAt w lb r e st ow (.slice ao n cap)) :
    Calls Try.prog 48 #[.pointer (some ⟨b, 0, none⟩), i64 k] w fun x w' => x = .returned (i64 n) ∧ Upd [] w w' := by
  have HF := Lib.hid (cfind_c h hk)
  have HL := Lib.hid hl
  clear h hk hl
  refine post fun R hR => ?_
  go_enter Try.func48, Try.ntmps48
  go_wp2_with (fail)
  refine Calls.mono (HF.out) ?_
  rintro e w1 ⟨rfl, hu1⟩
  obtain ⟨c0, c1, c2, c3, c4, -⟩ := cells5 (hu1.keep0 HL.out)
  go_wp2_with fail
  exact hR.out _ _ ⟨rfl, hu1⟩

theorem cownerOut_c (h : TbAt w b v base bs) {n : Int} (hn : n < 0 ∨ bs.length ≤ n) :
    Calls Try.prog 44 #[.pointer (some ⟨b, 0, none⟩), i64 n] w fun x w' => x = .returned (i64 (-1)) ∧ Upd [] w w' := by
  refine post fun R hR => ?_
  go_enter Try.func44, Try.ntmps44
  go_wp2_with (fail)
  refine Calls.mono (cfindOut_c h hn) ?_
  rintro e w1 ⟨rfl, hu1⟩
  go_wp2_with fail
  exact hR.out _ _ ⟨rfl, hu1⟩
theorem cowner_c (h : TbAt w b v base bs) {k lb : Nat} (hk : bs[k]? = some lb) {r : ByteArray} {e st ow : Int} {ov : Value} (hl : LnAt w lb r e st ow ov) :
    Calls Try.prog 44 #[.pointer (some ⟨b, 0, none⟩), i64 k] w fun x w' => x = .returned (i64 ow) ∧ Upd [] w w' := by
  have HF := Lib.hid (cfind_c h hk)
  have HL := Lib.hid hl
  clear h hk hl
  refine post fun R hR => ?_
  go_enter Try.func44, Try.ntmps44
  go_wp2_with (fail)
  refine Calls.mono (HF.out) ?_
  rintro e w1 ⟨rfl, hu1⟩
  obtain ⟨c0, c1, c2, c3, c4, -⟩ := cells5 (hu1.keep0 HL.out)
  go_wp2_with fail
  exact hR.out _ _ ⟨rfl, hu1⟩

theorem clen_c (h : TbAt w b v base bs) : Calls Try.prog 43 #[.pointer (some ⟨b, 0, none⟩)] w fun x w' => x = .returned (i64 bs.length) ∧ Upd [] w w' := by
  obtain ⟨c0, f0⟩ := cells1 h.heap
  obtain ⟨ao, cap, rfl, hcap, -⟩ := h.sub.form
  clear h
  generalize bs.length = n at *
  refine post fun R hR => ?_
  go_enter Try.func43, Try.ntmps43
  go_wp2_with fail
  exact hR.out _ _ ⟨rfl, Upd.refl _ _⟩
end

section
variable {w : World} {Z : Nat → Prop} {b : Nat} {l : List Ln}

theorem tbl_bind_c (h : TblAt w Z b l) (n o : Int) :
    Calls Try.prog 34 #[.pointer (some ⟨b, 0, none⟩), i64 n, i64 o] w fun e w' => e = .returned (i64 (tbiE l n o)) ∧ UpdP Z w w' ∧ TblAt w' (grow Z w) b (tbiL l n o) := by
  have h' := h
  obtain ⟨h0, v, bs, ov, hX⟩ := h
  unfold tbiE tbiL
  cases hl : lnAt l n with
  | none =>
    have hn := lnAt_none hl
    rw [← hX.len] at hn
    refine Calls.mono (cbindOut_c hX.tb hn o) ?_
    rintro e w' ⟨rfl, hu⟩
    exact ⟨rfl, h'.same hu⟩
  | some m =>
    obtain ⟨n0, hk, hlt⟩ := lnAt_some hl
    obtain ⟨lb, hb⟩ := hX.at hk
    obtain ⟨k1, k2, -, -⟩ := hX.ln _ _ _ hb hk
    obtain ⟨k, rfl⟩ : ∃ k : Nat, n = (k : Int) := ⟨n.toNat, by omega⟩
    simp only [Int.toNat_natCast] at hk hb k1 k2
    by_cases hf : o < 0 ∨ 8 < o
    · simp only [if_pos hf]
      refine Calls.mono (cbindForm_c hX.tb hb hf) ?_
      rintro e w' ⟨rfl, hu⟩
      exact ⟨rfl, h'.same hu⟩
    · simp only [if_neg hf]
      by_cases hst : m.st = 0
      · simp only [if_pos hst]
        rw [hst] at k1
        refine Calls.mono (cbind_c hX.tb hb (by omega) k1) ?_
        rintro e w' ⟨rfl, g1, g2⟩
        have := hX.change hb hk (n' := { m with st := 1, ow := o }) (ov' := ov k) g2 (fun x hx => by simp at hx; exact .inl hx) g1 (k2.upd g2 (fun x hx hm => by simp at hm; subst hm; exact (hX.apart hb hk).2.2.1 hx)) (fun x hx => .inl hx)
        exact ⟨rfl, this.2, set_st h0 (by show (0 : Int) ≤ 1 ∧ (1 : Int) ≤ 3; omega), v, bs, _, this.1⟩
      · simp only [if_neg hst]
        refine Calls.mono (cbindNot_c hX.tb hb (by omega) k1 hst) ?_
        rintro e w' ⟨rfl, hu⟩
        exact ⟨rfl, h'.same hu⟩

theorem tbl_drop_c (h : TblAt w Z b l) (n : Int) :
    Calls Try.prog 36 #[.pointer (some ⟨b, 0, none⟩), i64 n] w fun e w' => e = .returned (i64 (twaits l n)) ∧ UpdP Z w w' ∧ TblAt w' (grow Z w) b (tdrL l n) := by
  have h' := h
  obtain ⟨h0, v, bs, ov, hX⟩ := h
  unfold twaits tdrL
  cases hl : lnAt l n with
  | none =>
    have hn := lnAt_none hl
    rw [← hX.len] at hn
    refine Calls.mono (cdropOut_c hX.tb hn) ?_
    rintro e w' ⟨rfl, hu⟩
    exact ⟨rfl, h'.same hu⟩
  | some m =>
    obtain ⟨n0, hk, hlt⟩ := lnAt_some hl
    obtain ⟨lb, hb⟩ := hX.at hk
    obtain ⟨k1, k2, -, -⟩ := hX.ln _ _ _ hb hk
    obtain ⟨k, rfl⟩ : ∃ k : Nat, n = (k : Int) := ⟨n.toNat, by omega⟩
    simp only [Int.toNat_natCast] at hk hb k1 k2
    obtain ⟨ao, cap, hov, -, -⟩ := k2.form
    rw [hov] at k1
    refine Calls.mono (cdrop_c hX.tb hb k1) ?_
    rintro e w' ⟨rfl, g1, g2⟩
    have := hX.change hb hk (n' := { m with st := 3, out := [] }) (ov' := .slice none 0 0) g2 (fun x hx => by simp at hx; exact .inl hx) g1 (sub_nil _ _ _ _) (fun x hx => by simp [blkL] at hx)
    exact ⟨rfl, this.2, set_st h0 (by show (0 : Int) ≤ 3 ∧ (3 : Int) ≤ 3; omega), v, bs, _, this.1⟩

theorem tbl_takes_c (h : TblAt w Z b l) (n : Int) :
    Calls Try.prog 38 #[.pointer (some ⟨b, 0, none⟩), i64 n] w fun e w' => e = .returned (.bool (ttakes l n)) ∧ Upd [] w w' := by
  obtain ⟨h0, v, bs, ov, hX⟩ := h
  unfold ttakes
  cases hl : lnAt l n with
  | none =>
    have hn := lnAt_none hl
    rw [← hX.len] at hn
    exact ctakesOut_c hX.tb hn
  | some m =>
    obtain ⟨n0, hk, hlt⟩ := lnAt_some hl
    obtain ⟨lb, hb⟩ := hX.at hk
    obtain ⟨k1, k2, -, -⟩ := hX.ln _ _ _ hb hk
    obtain ⟨k, rfl⟩ : ∃ k : Nat, n = (k : Int) := ⟨n.toNat, by omega⟩
    simp only [Int.toNat_natCast] at hk hb k1 k2
    exact ctakes_c hX.tb hb k1
theorem tbl_waits_c (h : TblAt w Z b l) (n : Int) :
    Calls Try.prog 48 #[.pointer (some ⟨b, 0, none⟩), i64 n] w fun e w' => e = .returned (i64 (twaits l n)) ∧ Upd [] w w' := by
  obtain ⟨h0, v, bs, ov, hX⟩ := h
  unfold twaits
  cases hl : lnAt l n with
  | none =>
    have hn := lnAt_none hl
    rw [← hX.len] at hn
    exact cwaitsOut_c hX.tb hn
  | some m =>
    obtain ⟨n0, hk, hlt⟩ := lnAt_some hl
    obtain ⟨lb, hb⟩ := hX.at hk
    obtain ⟨k1, k2, -, -⟩ := hX.ln _ _ _ hb hk
    obtain ⟨k, rfl⟩ : ∃ k : Nat, n = (k : Int) := ⟨n.toNat, by omega⟩
    simp only [Int.toNat_natCast] at hk hb k1 k2
    obtain ⟨ao, cap, hov, -, -⟩ := k2.form
    rw [hov] at k1
    exact cwaits_c hX.tb hb k1
theorem tbl_owner_c (h : TblAt w Z b l) (n : Int) :
    Calls Try.prog 44 #[.pointer (some ⟨b, 0, none⟩), i64 n] w fun e w' => e = .returned (i64 (towner l n)) ∧ Upd [] w w' := by
  obtain ⟨h0, v, bs, ov, hX⟩ := h
  unfold towner
  cases hl : lnAt l n with
  | none =>
    have hn := lnAt_none hl
    rw [← hX.len] at hn
    exact cownerOut_c hX.tb hn
  | some m =>
    obtain ⟨n0, hk, hlt⟩ := lnAt_some hl
    obtain ⟨lb, hb⟩ := hX.at hk
    obtain ⟨k1, k2, -, -⟩ := hX.ln _ _ _ hb hk
    obtain ⟨k, rfl⟩ : ∃ k : Nat, n = (k : Int) := ⟨n.toNat, by omega⟩
    simp only [Int.toNat_natCast] at hk hb k1 k2
    exact cowner_c hX.tb hb k1
theorem tbl_len_c (h : TblAt w Z b l) : Calls Try.prog 43 #[.pointer (some ⟨b, 0, none⟩)] w fun x w' => x = .returned (i64 l.length) ∧ Upd [] w w' := by
  obtain ⟨h0, v, bs, ov, hX⟩ := h
  rw [← hX.len]
  exact clen_c hX.tb

/-- one connection more -/
theorem TbX.push {w' : World} {v v' : Value} {bs : List Nat} {ov : Nat → Value} (h : TbX w Z b l v bs ov) {lb : Nat} (hu : Upd (b :: blkL v) w w') (ht : TbAt w' b v' 0 (bs ++ [lb])) (hlb : w.heap.size ≤ lb)
    (hl : LnAt w' lb ⟨#[]⟩ 0 0 (-1) (.slice none 0 0)) (hv : blkL v' = blkL v ∨ ∃ g, blkL v' = [g] ∧ w.heap.size ≤ g) :
    TbX w' (grow Z w) b (l ++ [Ln.new]) v' (bs ++ [lb]) (fun j => if j = bs.length then .slice none 0 0 else ov j) ∧ UpdP Z w w' := by
  have hget : ∀ (j jb : Nat), (bs ++ [lb])[j]? = some jb → (j = bs.length ∧ jb = lb) ∨ (j ≠ bs.length ∧ bs[j]? = some jb) := fun j jb hj => by
    have := get_lt hj
    rw [List.length_append] at this
    simp at this
    by_cases e : j = bs.length
    · subst e
      rw [List.getElem?_append_right (Nat.le_refl _)] at hj
      simp at hj
      exact .inl ⟨rfl, hj.symm⟩
    · rw [List.getElem?_append_left (by omega)] at hj
      exact .inr ⟨e, hj⟩
  refine ⟨⟨ht, .inl h.zb, fun x hx => ?_, by simp [h.len], fun j jb n hj hn => ?_, fun i j bi bj hi hj hne => ?_⟩, UpdP.of hu fun x hx => ?_⟩
  · rcases hv with q | ⟨g, q1, q2⟩
    · rw [q] at hx; exact .inl (h.zv x hx)
    · rw [q1] at hx; simp at hx; subst hx; exact .inr q2
  · rcases hget j jb hj with ⟨rfl, rfl⟩ | ⟨e, hj'⟩
    · rw [h.len, List.getElem?_append_right (Nat.le_refl _)] at hn
      simp at hn; subst hn
      simp only [if_true]
      exact ⟨hl, sub_nil _ _ _ _, .inr hlb, fun x hx => (by simp [blkL] at hx)⟩
    · have hjl := get_lt hj'
      rw [List.getElem?_append_left (by rw [← h.len]; exact hjl)] at hn
      obtain ⟨k1, k2, k3, k4⟩ := h.ln j jb n hj' hn
      obtain ⟨a1, a2, a3, a4⟩ := h.apart hj' hn
      simp only [if_neg e]
      refine ⟨hu.keep k1 fun hm => ?_, k2.upd hu fun x hx hm => ?_, .inl k3, fun x hx => .inl (k4 x hx)⟩
      · rcases List.mem_cons.1 hm with q | q
        · exact a1 q.symm
        · exact a2 q
      · rcases List.mem_cons.1 hm with q | q
        · exact (a4 x hx).1 q
        · exact (a4 x hx).2 q
  · rcases hget i bi hi with ⟨rfl, rfl⟩ | ⟨e1, hi'⟩
    · rcases hget j bj hj with ⟨rfl, -⟩ | ⟨e2, hj'⟩
      · exact (hne rfl).elim
      · obtain ⟨m, hm⟩ := h.line hj'
        have := lt_of_heap (h.ln j bj m hj' hm).1
        refine ⟨by omega, fun x hx => ?_⟩
        simp [blkL] at hx
    · rcases hget j bj hj with ⟨rfl, rfl⟩ | ⟨e2, hj'⟩
      · obtain ⟨m, hm⟩ := h.line hi'
        have := lt_of_heap (h.ln i bi m hi' hm).1
        refine ⟨by omega, fun x _ hx => ?_⟩
        simp [blkL] at hx
      · simp only [if_neg e1, if_neg e2]
        exact h.inj i j bi bj hi' hj' hne
  · rcases List.mem_cons.1 hx with q | q
    · subst q; exact .inl h.zb
    · exact .inl (h.zv x q)

theorem tbl_open_c (h : TblAt w Z b l) :
    Calls Try.prog 41 #[.pointer (some ⟨b, 0, none⟩)] w fun e w' => e = .returned (.tuple #[i64 (topN l), i64 (topE l)]) ∧ UpdP Z w w' ∧ TblAt w' (grow Z w) b (topL l) := by
  have h' := h
  obtain ⟨h0, v, bs, ov, hX⟩ := h
  unfold topN topE topL
  by_cases hf : 16 ≤ l.length
  · rw [if_pos hf, if_pos hf, if_pos hf]
    refine Calls.mono (copenFull_c hX.tb (by rw [hX.len]; exact hf)) ?_
    rintro e w' ⟨rfl, hu⟩
    exact ⟨rfl, h'.same hu⟩
  · rw [if_neg hf, if_neg hf, if_neg hf]
    refine Calls.mono (copen_c hX.tb (Nat.zero_le _) (by rw [hX.len]; omega)) ?_
    rintro e w' ⟨v', lb, rfl, g1, g2, g3, g4, g5⟩
    have := hX.push g4 g1 g2 g3 g5
    refine ⟨by rw [hX.len], this.2, fun k n hk => ?_, v', _, _, this.1⟩
    have hkl := get_lt hk
    rw [List.length_append] at hkl
    simp at hkl
    by_cases e : k = l.length
    · subst e
      rw [List.getElem?_append_right (Nat.le_refl _)] at hk
      simp at hk; subst hk
      show (0 : Int) ≤ 0 ∧ (0 : Int) ≤ 3; omega
    · rw [List.getElem?_append_left (by omega)] at hk
      exact h0 k n hk
end
end Go.Proofs.Ytagadbgbicebaaa
