/-
  The contracts of the table's functions, but Push, on a table in memory as one notion. Condition: the table is one that its own functions made, with some hundred texts at most.
-/
import Derived.Test.YtagadbgbicebaaaTbl
namespace Go.Proofs.Ytagadbgbicebaaa
open Go Go.RowKit

/-- where a number leads -/
def lnAt (l : List Ln) (n : Int) : Option Ln := if n < 0 then none else l[n.toNat]?
theorem lnAt_nat (l : List Ln) (k : Nat) : lnAt l (k : Int) = l[k]? := by unfold lnAt; rw [if_neg (by omega)]; simp
theorem lnAt_some {l : List Ln} {n : Int} {m : Ln} (h : lnAt l n = some m) : 0 ≤ n ∧ l[n.toNat]? = some m ∧ n < l.length := by
  unfold lnAt at h
  split at h
  · cases h
  · have := get_lt h
    exact ⟨by omega, h, by omega⟩
theorem lnAt_none {l : List Ln} {n : Int} (h : lnAt l n = none) : n < 0 ∨ l.length ≤ n := by
  unfold lnAt at h
  split at h
  · exact .inl ‹_›
  · have := List.getElem?_eq_none_iff.1 h
    omega
def setL (l : List Ln) (n : Int) (m : Ln) : List Ln := l.set n.toNat m
def topE (l : List Ln) : Int := if 16 ≤ l.length then 13 else 0
def topN (l : List Ln) : Int := if 16 ≤ l.length then 0 else l.length
def topL (l : List Ln) : List Ln := if 16 ≤ l.length then l else l ++ [Ln.new]
def tshE (l : List Ln) (n : Int) : Int := match lnAt l n with
  | none => 12
  | some m => if m.st < 2 then 0 else 17
def tshL (l : List Ln) (n : Int) : List Ln := match lnAt l n with
  | none => l
  | some m => if m.st < 2 then setL l n { m with st := 2 } else l
def tbiE (l : List Ln) (n o : Int) : Int := match lnAt l n with
  | none => 12
  | some m => if o < 0 ∨ 8 < o then 1 else if m.st = 0 then 0 else 17
def tbiL (l : List Ln) (n o : Int) : List Ln := match lnAt l n with
  | none => l
  | some m => if o < 0 ∨ 8 < o then l else if m.st = 0 then setL l n { m with st := 1, ow := o } else l
def twaits (l : List Ln) (n : Int) : Nat := match lnAt l n with
  | none => 0
  | some m => m.out.length
def tdrL (l : List Ln) (n : Int) : List Ln := match lnAt l n with
  | none => l
  | some m => setL l n { m with st := 3, out := [] }
def tseE (l : List Ln) (n : Int) : Int := match lnAt l n with
  | none => 12
  | some m => if m.st = 3 then 17 else 0
def tseL (l : List Ln) (n : Int) (s : ByteArray) : List Ln := match lnAt l n with
  | none => l
  | some m => if m.st = 3 then l else setL l n { m with out := m.out ++ [s] }
structure Dv where
  s : ByteArray
  x : Bool
  e : Int
  l : List Ln
def tdv (l : List Ln) (n : Int) : Dv := match lnAt l n with
  | none => ⟨⟨#[]⟩, false, 12, l⟩
  | some m => if m.st = 3 then ⟨⟨#[]⟩, false, 17, l⟩ else match m.out with
    | s :: r => ⟨s, false, 0, setL l n { m with out := r }⟩
    | [] => if m.st = 2 then ⟨⟨#[]⟩, true, 0, setL l n { m with st := 3 }⟩ else ⟨⟨#[]⟩, false, 0, l⟩
def ttakes (l : List Ln) (n : Int) : Bool := match lnAt l n with
  | none => false
  | some m => decide (m.st < 2)
def towner (l : List Ln) (n : Int) : Int := match lnAt l n with
  | none => -1
  | some m => m.ow

/-- each connection has no more than K texts that go out -/
def outs (l : List Ln) (K : Nat) : Prop := ∀ (k : Nat) (n : Ln), l[k]? = some n → n.out.length ≤ K

section
variable {w : World} {Z : Nat → Prop} {b : Nat} {l : List Ln}

theorem grow_sub (Z : Nat → Prop) (w : World) : ∀ x, Z x → grow Z w x := fun _ h => .inl h

theorem TblAt.same (h : TblAt w Z b l) {w' : World} (hu : Upd [] w w') : UpdP Z w w' ∧ TblAt w' (grow Z w) b l := ⟨UpdP.of0 hu, (h.upd0 hu).more (grow_sub Z w)⟩

theorem set_st {l : List Ln} (h : ∀ (k : Nat) (n : Ln), l[k]? = some n → 0 ≤ n.st ∧ n.st ≤ 3) {j : Nat} {m : Ln} (hm : 0 ≤ m.st ∧ m.st ≤ 3) : ∀ (k : Nat) (n : Ln), (l.set j m)[k]? = some n → 0 ≤ n.st ∧ n.st ≤ 3 := by
  intro k n hk
  by_cases e : j = k
  · subst e
    have := get_lt hk
    rw [List.length_set] at this
    rw [List.getElem?_set_self this] at hk
    injection hk with hk; subst hk; exact hm
  · rw [List.getElem?_set_ne e] at hk
    exact h k n hk

theorem tbl_shut_c (h : TblAt w Z b l) (n : Int) :
    Calls Try.prog 35 #[.pointer (some ⟨b, 0, none⟩), i64 n] w fun e w' => e = .returned (i64 (tshE l n)) ∧ UpdP Z w w' ∧ TblAt w' (grow Z w) b (tshL l n) := by
  have h' := h
  obtain ⟨h0, v, bs, ov, hX⟩ := h
  unfold tshE tshL
  cases hl : lnAt l n with
  | none =>
    have hn := lnAt_none hl
    rw [← hX.len] at hn
    refine Calls.mono (cshutOut_c hX.tb hn) ?_
    rintro e w' ⟨rfl, hu⟩
    exact ⟨rfl, h'.same hu⟩
  | some m =>
    obtain ⟨n0, hk, hlt⟩ := lnAt_some hl
    obtain ⟨lb, hb⟩ := hX.at hk
    obtain ⟨k1, k2, -, -⟩ := hX.ln _ _ _ hb hk
    obtain ⟨k, rfl⟩ : ∃ k : Nat, n = (k : Int) := ⟨n.toNat, by omega⟩
    simp only [Int.toNat_natCast] at hk hb k1 k2
    by_cases hst : m.st < 2
    · simp only [if_pos hst]
      refine Calls.mono (cshut_c hX.tb hb k1 hst) ?_
      rintro e w' ⟨rfl, g1, g2⟩
      have := hX.change hb hk (n' := { m with st := 2 }) (ov' := ov k) g2 (fun x hx => by simp at hx; exact .inl hx) g1 (k2.upd g2 (fun x hx hm => by simp at hm; subst hm; exact (hX.apart hb hk).2.2.1 hx)) (fun x hx => .inl hx)
      exact ⟨rfl, this.2, set_st h0 (by show (0 : Int) ≤ 2 ∧ (2 : Int) ≤ 3; omega), v, bs, _, this.1⟩
    · simp only [if_neg hst]
      refine Calls.mono (cshutNot_c hX.tb hb k1 (by omega)) ?_
      rintro e w' ⟨rfl, hu⟩
      exact ⟨rfl, h'.same hu⟩

theorem tbl_send_c (h : TblAt w Z b l) {K : Nat} (hK : outs l K) (hK2 : K ≤ 900) (n : Int) (s : ByteArray) :
    Calls Try.prog 37 #[.pointer (some ⟨b, 0, none⟩), i64 n, .string s] w fun e w' => e = .returned (i64 (tseE l n)) ∧ UpdP Z w w' ∧ TblAt w' (grow Z w) b (tseL l n s) := by
  have h' := h
  obtain ⟨h0, v, bs, ov, hX⟩ := h
  unfold tseE tseL
  cases hl : lnAt l n with
  | none =>
    have hn := lnAt_none hl
    rw [← hX.len] at hn
    refine Calls.mono (csendOut_c hX.tb hn s) ?_
    rintro e w' ⟨rfl, hu⟩
    exact ⟨rfl, h'.same hu⟩
  | some m =>
    obtain ⟨n0, hk, hlt⟩ := lnAt_some hl
    obtain ⟨lb, hb⟩ := hX.at hk
    obtain ⟨k1, k2, -, -⟩ := hX.ln _ _ _ hb hk
    obtain ⟨k, rfl⟩ : ∃ k : Nat, n = (k : Int) := ⟨n.toNat, by omega⟩
    simp only [Int.toNat_natCast] at hk hb k1 k2
    have hm3 := h0 _ _ hk
    by_cases hst : m.st = 3
    · simp only [if_pos hst]
      rw [hst] at k1
      refine Calls.mono (csendGone_c hX.tb hb k1 s) ?_
      rintro e w' ⟨rfl, hu⟩
      exact ⟨rfl, h'.same hu⟩
    · simp only [if_neg hst]
      refine Calls.mono (csend_c hX.tb hb k1 (by omega) k2 (by have := hK _ _ hk; omega) (Nat.zero_le _) s) ?_
      rintro e w' ⟨ov', rfl, g1, g2, g3, g4⟩
      have := hX.change hb hk (n' := { m with out := m.out ++ [s] }) (ov' := ov') g3 (fun x hx => by
        rcases List.mem_cons.1 hx with q | q
        · exact .inl q
        · exact .inr q) g1 (by show Sub w' 0 9 1 ov' (m.out ++ [s]).length (strs (m.out ++ [s])); rw [List.length_append, strs_append]; exact g2) (fun x hx => by
        rcases g4 with q | ⟨g, q1, q2⟩
        · rw [q] at hx; exact .inl hx
        · rw [q1] at hx; simp at hx; subst hx; exact .inr q2)
      exact ⟨rfl, this.2, set_st h0 hm3, v, bs, _, this.1⟩

theorem tbl_deliver_c (h : TblAt w Z b l) {K : Nat} (hK : outs l K) (hK2 : K ≤ 900) (n : Int) :
    Calls Try.prog 39 #[.pointer (some ⟨b, 0, none⟩), i64 n] w fun e w' => e = .returned (.tuple #[.string (tdv l n).s, .bool (tdv l n).x, i64 (tdv l n).e]) ∧ UpdP Z w w' ∧ TblAt w' (grow Z w) b (tdv l n).l := by
  have h' := h
  obtain ⟨h0, v, bs, ov, hX⟩ := h
  unfold tdv
  cases hl : lnAt l n with
  | none =>
    have hn := lnAt_none hl
    rw [← hX.len] at hn
    refine Calls.mono (cdeliverOut_c hX.tb hn) ?_
    rintro e w' ⟨rfl, hu⟩
    exact ⟨rfl, h'.same hu⟩
  | some m =>
    obtain ⟨n0, hk, hlt⟩ := lnAt_some hl
    obtain ⟨lb, hb⟩ := hX.at hk
    obtain ⟨k1, k2, -, -⟩ := hX.ln _ _ _ hb hk
    obtain ⟨k, rfl⟩ : ∃ k : Nat, n = (k : Int) := ⟨n.toNat, by omega⟩
    simp only [Int.toNat_natCast] at hk hb k1 k2
    have hm3 := h0 _ _ hk
    have hap := hX.apart hb hk
    by_cases hst : m.st = 3
    · simp only [if_pos hst]
      rw [hst] at k1
      refine Calls.mono (cdeliverGone_c hX.tb hb k1) ?_
      rintro e w' ⟨rfl, hu⟩
      exact ⟨rfl, h'.same hu⟩
    · simp only [if_neg hst]
      cases ho : m.out with
      | cons s r =>
        simp only
        rw [ho] at k2
        have hkk := hK _ _ hk
        rw [ho] at hkk
        refine Calls.mono (cdeliver_c hX.tb hb k1 (by omega) (n := r.length) (xs := strs r) k2 (by simp at hkk; omega)) ?_
        rintro e w' ⟨ov', rfl, g1, g2, g3, g4⟩
        have := hX.change hb hk (n' := { m with out := r }) (ov' := ov') g3 (fun x hx => by simp at hx; exact .inl hx) g1 g2 (fun x hx => .inl (g4 x hx))
        exact ⟨rfl, this.2, set_st h0 hm3, v, bs, _, this.1⟩
      | nil =>
        simp only
        rw [ho] at k2
        by_cases h2 : m.st = 2
        · simp only [if_pos h2]
          rw [h2] at k1
          refine Calls.mono (cdeliverShut_c hX.tb hb k1 k2) ?_
          rintro e w' ⟨rfl, g1, g2⟩
          have := hX.change hb hk (n' := { m with st := 3, out := [] }) (ov' := ov k) g2 (fun x hx => by simp at hx; exact .inl hx) g1 (k2.upd g2 (fun x hx hm => by simp at hm; subst hm; exact hap.2.2.1 hx)) (fun x hx => .inl hx)
          exact ⟨rfl, this.2, set_st h0 (by show (0 : Int) ≤ 3 ∧ (3 : Int) ≤ 3; omega), v, bs, _, this.1⟩
        · simp only [if_neg h2]
          refine Calls.mono (cdeliverNone_c hX.tb hb k1 (by omega) k2) ?_
          rintro e w' ⟨rfl, hu⟩
          exact ⟨rfl, h'.same hu⟩
end
end Go.Proofs.Ytagadbgbicebaaa
