/-
  How connections end: the plain law of chapter 38's ConnEnds, its three rows beside a table, and whether steps are too many. No condition.
-/
import Derived.Test.YtagadbgbicebaaaConnPush
import Derived.Test.YtagadbgbicebaaaSents
import Derived.Test.YtagadbgbicebaaaOpenZ
namespace Go.Proofs.Ytagadbgbicebaaa
open Go Go.RowKit

structure FineLn (m : Ln) (k T : Nat) : Prop where
  s0 : 0 ≤ m.st
  s3 : m.st ≤ 3
  o0 : -1 ≤ m.ow
  o8 : m.ow ≤ 8
  fr : m.st = 0 → m.ow = -1
  r : m.r.size ≤ T
  out : m.out.length ≤ k
theorem FineLn.mono {m : Ln} {k T k' T' : Nat} (h : FineLn m k T) (hk : k ≤ k') (hT : T ≤ T') : FineLn m k' T' := ⟨h.s0, h.s3, h.o0, h.o8, h.fr, Nat.le_trans h.r hT, Nat.le_trans h.out hk⟩

/-- a table's connections are in order: k texts at most go out on each, T bytes at most wait at each -/
structure Fine (tl : List Ln) (k T : Nat) : Prop where
  len : tl.length ≤ 16
  ln : ∀ (j : Nat) (m : Ln), tl[j]? = some m → FineLn m k T
theorem Fine.mono {tl : List Ln} {k T k' T' : Nat} (h : Fine tl k T) (hk : k ≤ k') (hT : T ≤ T') : Fine tl k' T' := ⟨h.len, fun j m hj => (h.ln j m hj).mono hk hT⟩
theorem Fine.outs {tl : List Ln} {k T : Nat} (h : Fine tl k T) : outs tl k := fun j m hj => (h.ln j m hj).out

/-- connections only go on -/
structure Grw (a b : List Ln) : Prop where
  len : a.length ≤ b.length
  ln : ∀ (j : Nat) (m : Ln), b[j]? = some m → (∃ m0, a[j]? = some m0 ∧ m0.st ≤ m.st ∧ (1 ≤ m0.st → m.ow = m0.ow)) ∨ a.length ≤ j
theorem Grw.refl (a : List Ln) : Grw a a := ⟨Nat.le_refl _, fun _ m h => .inl ⟨m, h, Int.le_refl _, fun _ => rfl⟩⟩

theorem fine_set {tl : List Ln} {k T k' T' : Nat} (h : Fine tl k T) {n : Int} {m m' : Ln} (hl : lnAt tl n = some m) (hm : FineLn m' k' T') (hk : k ≤ k') (hT : T ≤ T') (h1 : m.st ≤ m'.st) (h2 : 1 ≤ m.st → m'.ow = m.ow) :
    Fine (setL tl n m') k' T' ∧ Grw tl (setL tl n m') := by
  obtain ⟨n0, hj, hlt⟩ := lnAt_some hl
  unfold setL
  generalize n.toNat = q at *
  have hq := get_lt hj
  have key : ∀ (j : Nat) (x : Ln), (tl.set q m')[j]? = some x → (j = q ∧ x = m') ∨ (j ≠ q ∧ tl[j]? = some x) := fun j x hx => by
    by_cases e : j = q
    · subst e
      rw [List.getElem?_set_self hq] at hx
      injection hx with hx
      exact .inl ⟨rfl, hx.symm⟩
    · rw [List.getElem?_set_ne (by omega)] at hx
      exact .inr ⟨e, hx⟩
  refine ⟨⟨by rw [List.length_set]; exact h.len, fun j x hx => ?_⟩, ⟨by rw [List.length_set]; exact Nat.le_refl _, fun j x hx => ?_⟩⟩
  · rcases key j x hx with ⟨rfl, rfl⟩ | ⟨e, hx'⟩
    · exact hm
    · exact (h.ln j x hx').mono hk hT
  · rcases key j x hx with ⟨rfl, rfl⟩ | ⟨e, hx'⟩
    · exact .inl ⟨m, hj, h1, h2⟩
    · exact .inl ⟨x, hx', Int.le_refl _, fun _ => rfl⟩
theorem fine_same {tl : List Ln} {k T k' T' : Nat} (h : Fine tl k T) (hk : k ≤ k') (hT : T ≤ T') : Fine tl k' T' ∧ Grw tl tl := ⟨h.mono hk hT, Grw.refl _⟩
theorem Fine.at {tl : List Ln} {k T : Nat} (h : Fine tl k T) {n : Int} {m : Ln} (hl : lnAt tl n = some m) : FineLn m k T := h.ln _ m (lnAt_some hl).2.1

section
variable {tl : List Ln} {k T : Nat}

theorem fine_open (h : Fine tl k T) (T' : Nat) (hT : T ≤ T') : Fine (topL tl) (k + 1) T' ∧ Grw tl (topL tl) := by
  unfold topL
  split
  · exact fine_same h (by omega) hT
  · refine ⟨⟨by simp; omega, fun j m hj => ?_⟩, ⟨by simp, fun j m hj => ?_⟩⟩
    · rw [List.getElem?_append] at hj
      split at hj
      · exact (h.ln j m hj).mono (by omega) hT
      · have := get_lt hj
        simp at this
        rw [this] at hj
        injection hj with hj
        subst hj
        exact ⟨by show (0 : Int) ≤ 0; omega, by show (0 : Int) ≤ 3; omega, by show (-1 : Int) ≤ -1; omega, by show (-1 : Int) ≤ 8; omega, fun _ => rfl, Nat.zero_le _, Nat.zero_le _⟩
    · rw [List.getElem?_append] at hj
      split at hj
      · exact .inl ⟨m, hj, Int.le_refl _, fun _ => rfl⟩
      · exact .inr (by omega)
theorem restOf_len (r t : ByteArray) : (restOf r t).size ≤ r.size + t.size := by
  unfold restOf fedOf
  rw [size_bs]
  have := allFr_len _ (r.data.toList ++ t.data.toList) (Nat.le_refl _)
  rw [List.length_append] at this
  have h1 : r.data.toList.length = r.size := rfl
  have h2 : t.data.toList.length = t.size := rfl
  omega
theorem fine_push (h : Fine tl k T) (n : Int) (t : ByteArray) {T' : Nat} (hT : T + t.size ≤ T') : Fine (tpuL tl n t) (k + 1) T' ∧ Grw tl (tpuL tl n t) := by
  unfold tpuL
  cases hl : lnAt tl n with
  | none => exact fine_same h (by omega) (by omega)
  | some m =>
    simp only
    have hm := h.at hl
    split
    · split
      · have h1 := restOf_len m.r t
        have h2 := hm.r
        exact fine_set h hl (m' := { m with r := restOf m.r t, e := (fedOf m.r t).e }) ⟨hm.s0, hm.s3, hm.o0, hm.o8, hm.fr, by show (restOf m.r t).size ≤ T'; omega, by have := hm.out; show m.out.length ≤ k + 1; omega⟩ (by omega) (by omega) (Int.le_refl _) (fun _ => rfl)
      · exact fine_same h (by omega) (by omega)
    · exact fine_same h (by omega) (by omega)
theorem fine_bind (h : Fine tl k T) (n o : Int) (T' : Nat) (hT : T ≤ T') : Fine (tbiL tl n o) (k + 1) T' ∧ Grw tl (tbiL tl n o) := by
  unfold tbiL
  cases hl : lnAt tl n with
  | none => exact fine_same h (by omega) hT
  | some m =>
    simp only
    have hm := (h.at hl).mono (Nat.le_succ k) hT
    split
    · exact fine_same h (by omega) hT
    · split
      · rename_i ho hs
        exact fine_set h hl (m' := { m with st := 1, ow := o }) ⟨by show (0 : Int) ≤ 1; omega, by show (1 : Int) ≤ 3; omega, by show -1 ≤ o; omega, by show o ≤ 8; omega, fun e => by have : (1 : Int) = 0 := e; omega, hm.r, hm.out⟩ (by omega) hT (by show m.st ≤ 1; omega) (fun e => by omega)
      · exact fine_same h (by omega) hT
theorem fine_shut (h : Fine tl k T) (n : Int) (T' : Nat) (hT : T ≤ T') : Fine (tshL tl n) (k + 1) T' ∧ Grw tl (tshL tl n) := by
  unfold tshL
  cases hl : lnAt tl n with
  | none => exact fine_same h (by omega) hT
  | some m =>
    simp only
    have hm := (h.at hl).mono (Nat.le_succ k) hT
    split
    · rename_i hs
      exact fine_set h hl (m' := { m with st := 2 }) ⟨by show (0 : Int) ≤ 2; omega, by show (2 : Int) ≤ 3; omega, hm.o0, hm.o8, fun e => by have : (2 : Int) = 0 := e; omega, hm.r, hm.out⟩ (by omega) hT (by show m.st ≤ 2; omega) (fun e => rfl)
    · exact fine_same h (by omega) hT
theorem fine_drop (h : Fine tl k T) (n : Int) (T' : Nat) (hT : T ≤ T') : Fine (tdrL tl n) (k + 1) T' ∧ Grw tl (tdrL tl n) := by
  unfold tdrL
  cases hl : lnAt tl n with
  | none => exact fine_same h (by omega) hT
  | some m =>
    simp only
    have hm := (h.at hl).mono (Nat.le_succ k) hT
    exact fine_set h hl (m' := { m with st := 3, out := [] }) ⟨by show (0 : Int) ≤ 3; omega, by show (3 : Int) ≤ 3; omega, hm.o0, hm.o8, fun e => by have : (3 : Int) = 0 := e; omega, hm.r, Nat.zero_le _⟩ (by omega) hT (by show m.st ≤ 3; exact hm.s3) (fun e => rfl)
theorem fine_send (h : Fine tl k T) (n : Int) (s : ByteArray) (T' : Nat) (hT : T ≤ T') : Fine (tseL tl n s) (k + 1) T' ∧ Grw tl (tseL tl n s) := by
  unfold tseL
  cases hl : lnAt tl n with
  | none => exact fine_same h (by omega) hT
  | some m =>
    simp only
    have hm := (h.at hl).mono (Nat.le_succ k) hT
    have ho := (h.at hl).out
    split
    · exact fine_same h (by omega) hT
    · exact fine_set h hl (m' := { m with out := m.out ++ [s] }) ⟨hm.s0, hm.s3, hm.o0, hm.o8, hm.fr, hm.r, by show (m.out ++ [s]).length ≤ k + 1; rw [List.length_append]; simp only [List.length_cons, List.length_nil]; omega⟩ (by omega) hT (Int.le_refl _) (fun e => rfl)
theorem fine_dv (h : Fine tl k T) (n : Int) (T' : Nat) (hT : T ≤ T') : Fine (tdv tl n).l (k + 1) T' ∧ Grw tl (tdv tl n).l := by
  unfold tdv
  cases hl : lnAt tl n with
  | none => exact fine_same h (by omega) hT
  | some m =>
    simp only
    have hm := (h.at hl).mono (Nat.le_succ k) hT
    have ho := hm.out
    split
    · exact fine_same h (by omega) hT
    · cases hmo : m.out with
      | cons s r =>
        rw [hmo] at ho
        simp only [List.length_cons] at ho
        exact fine_set h hl (m' := { m with out := r }) ⟨hm.s0, hm.s3, hm.o0, hm.o8, hm.fr, hm.r, by show r.length ≤ k + 1; omega⟩ (by omega) hT (Int.le_refl _) (fun e => rfl)
      | nil =>
        simp only
        split
        · exact fine_set h hl (m' := { m with st := 3, out := [] }) ⟨by show (0 : Int) ≤ 3; omega, by show (3 : Int) ≤ 3; omega, hm.o0, hm.o8, fun e => by have : (3 : Int) = 0 := e; omega, hm.r, Nat.zero_le _⟩ (by omega) hT (by show m.st ≤ 3; exact hm.s3) (fun e => rfl)
        · exact fine_same h (by omega) hT
end

/-- what the law's three rows say of a table -/
structure Inv1 (x : Option Ln) (e : Bool) (d o : Int) : Prop where
  d0 : 0 ≤ d
  d1 : d ≤ 1
  o0 : 0 ≤ o
  o9 : o ≤ 9
  none : x = none → e = false ∧ d = 0 ∧ o = 0
  some : ∀ m, x = some m → (e = true → 2 ≤ m.st) ∧ (0 < o → m.ow = o - 1 ∧ 1 ≤ m.st) ∧ (0 < d → m.st = 3)
def Inv (tl : List Ln) (E : Nat → Bool) (D O : Nat → Int) : Prop := ∀ j, j < 16 → Inv1 tl[j]? (E j) (D j) (O j)

theorem inv_new : Inv [] (fun _ => false) (fun _ => 0) (fun _ => 0) := fun j hj => ⟨by show (0 : Int) ≤ 0; omega, by show (0 : Int) ≤ 1; omega, by show (0 : Int) ≤ 0; omega, by show (0 : Int) ≤ 9; omega, fun _ => ⟨rfl, rfl, rfl⟩, fun m h => by simp at h⟩
theorem Inv.grw {a b : List Ln} {E : Nat → Bool} {D O : Nat → Int} (h : Inv a E D O) (hg : Grw a b) {k T : Nat} (hf : Fine b k T) : Inv b E D O := fun j hj => by
  have h1 := h j hj
  refine ⟨h1.d0, h1.d1, h1.o0, h1.o9, fun hn => h1.none ?_, fun m hm => ?_⟩
  · have := List.getElem?_eq_none_iff.1 hn
    exact List.getElem?_eq_none (Nat.le_trans hg.len this)
  · have hfm := hf.ln j m hm
    rcases hg.ln j m hm with ⟨m0, g1, g2, g3⟩ | g
    · obtain ⟨q1, q2, q3⟩ := h1.some m0 g1
      refine ⟨fun e => Int.le_trans (q1 e) g2, fun e => ?_, fun e => ?_⟩
      · obtain ⟨z1, z2⟩ := q2 e
        exact ⟨by rw [g3 z2]; exact z1, Int.le_trans z2 g2⟩
      · have := q3 e
        have := hfm.s3
        omega
    · obtain ⟨q1, q2, q3⟩ := h1.none (List.getElem?_eq_none g)
      exact ⟨fun e => (by rw [q1] at e; cases e), fun e => (by omega), fun e => (by omega)⟩
theorem inv_told {tl : List Ln} {E : Nat → Bool} {D O : Nat → Int} {k T : Nat} (h : Inv tl E D O) (hf : Fine tl k T) {n : Int} (hx : (tdv tl n).x = true) :
    ∃ q : Nat, n = q ∧ q < 16 ∧ D q = 0 ∧ Inv (tdv tl n).l E (fun j => if j = q then 1 else D j) O := by
  obtain ⟨g1, g2⟩ := fine_dv hf n T (Nat.le_refl _)
  have hi := h.grw g2 g1
  unfold tdv at hx hi ⊢
  cases hl : lnAt tl n with
  | none => rw [hl] at hx; simp at hx
  | some m =>
    rw [hl] at hx hi
    simp only at hx hi ⊢
    obtain ⟨n0, hj, hlt⟩ := lnAt_some hl
    have hlen := hf.len
    split at hx
    · simp at hx
    · rename_i hs3
      rw [if_neg hs3] at hi ⊢
      split at hx
      · simp at hx
      · rename_i ho
        rw [ho] at hi ⊢
        simp only at hi ⊢
        split at hx
        · rename_i hs2
          rw [if_pos hs2] at hi ⊢
          simp only at hi ⊢
          have hd := (h n.toNat (by omega)).d0
          have hd3 := ((h n.toNat (by omega)).some m hj).2.2
          refine ⟨n.toNat, by omega, by omega, by omega, fun j hj16 => ?_⟩
          have hij := hi j hj16
          by_cases e : j = n.toNat
          · subst e
            simp only [if_true]
            refine ⟨by omega, by omega, hij.o0, hij.o9, fun hn => ?_, fun m' hm' => ?_⟩
            · unfold setL at hn
              rw [List.getElem?_set_self (get_lt hj)] at hn; cases hn
            · obtain ⟨q1, q2, q3⟩ := hij.some m' hm'
              refine ⟨q1, q2, fun _ => ?_⟩
              unfold setL at hm'
              rw [List.getElem?_set_self (get_lt hj)] at hm'
              injection hm' with hm'
              subst hm'; rfl
          · simp only [if_neg e]
            exact hij
        · simp at hx
theorem inv_row {tl : List Ln} {E : Nat → Bool} {D O : Nat → Int} {k T : Nat} (h : Inv tl E D O) (hf : Fine tl k T) {q : Nat} (hq : q < tl.length) :
    (E q = true → ttakes tl q = false) ∧ (0 < O q → towner tl q = O q - 1) ∧ 0 ≤ O q ∧ O q ≤ 9 ∧ -1 ≤ towner tl q ∧ towner tl q ≤ 8 ∧
    Inv tl (fun j => if j = q then !ttakes tl q else E j) D (fun j => if j = q then towner tl q + 1 else O j) := by
  have hlen := hf.len
  have hm := List.getElem?_eq_getElem hq
  have hfm := hf.ln q _ hm
  have hi := h q (by omega)
  obtain ⟨q1, q2, q3⟩ := hi.some _ hm
  have e1 : ttakes tl q = decide (tl[q].st < 2) := by unfold ttakes; rw [lnAt_nat, hm]
  have e2 : towner tl q = tl[q].ow := by unfold towner; rw [lnAt_nat, hm]
  rw [e1, e2]
  refine ⟨fun e => decide_eq_false (by have := q1 e; omega), fun e => (q2 e).1, hi.o0, hi.o9, hfm.o0, hfm.o8, fun j hj => ?_⟩
  by_cases e : j = q
  · subst e
    simp only [if_true]
    have h1 := hfm.o0
    have h2 := hfm.o8
    refine ⟨hi.d0, hi.d1, by omega, by omega, fun hn => (by rw [hm] at hn; cases hn), fun m hm' => ?_⟩
    rw [hm] at hm'; injection hm' with hm'; subst hm'
    refine ⟨fun e => ?_, fun e => ⟨by omega, ?_⟩, q3⟩
    · simp at e; exact e
    · have h3 := hfm.s0
      have h4 := hfm.fr
      omega
  · simp only [if_neg e]
    exact h j hj

/-- the cells of sixteen numbers -/
def icells (G : Nat → Int) : List Value := (List.range 16).map fun j => i64 (G j)
theorem icells_get (G : Nat → Int) {j : Nat} (h : j < 16) : (icells G).toArray[j]? = some (i64 (G j)) := by
  unfold icells
  rw [List.getElem?_toArray, List.getElem?_map, List.getElem?_range h]; rfl
theorem icells_set (G : Nat → Int) {n : Nat} (b : Int) : (icells G).toArray.setIfInBounds n (i64 b) = (icells fun j => if j = n then b else G j).toArray := by
  apply Array.ext_getElem?
  intro j
  rw [Array.getElem?_setIfInBounds, List.getElem?_toArray, List.getElem?_toArray]
  unfold icells
  rw [List.getElem?_map, List.getElem?_map]
  by_cases hj : j < 16
  · rw [List.getElem?_range hj]
    by_cases e : n = j
    · subst e; simp [hj]
    · rw [if_neg e]; simp [Ne.symm e]
  · rw [List.getElem?_eq_none (by simp; omega)]
    by_cases e : n = j
    · subst e; simp; omega
    · rw [if_neg e]; rfl

/-- the law's three rows beside a table whose blocks are Z -/
structure EndsAt (w : World) (Z : Nat → Prop) (Eb Db Ob : Nat) (E : Nat → Bool) (D O : Nat → Int) : Prop where
  hE : w.heap[Eb]? = some (.cells (bcells E).toArray 4 (0, 0))
  hD : w.heap[Db]? = some (.cells (icells D).toArray 3 (0, 0))
  hO : w.heap[Ob]? = some (.cells (icells O).toArray 3 (0, 0))
  zE : ¬ Z Eb
  zD : ¬ Z Db
  zO : ¬ Z Ob
  ne : Db ≠ Ob
section
variable {w w' : World} {Z : Nat → Prop} {Eb Db Ob : Nat} {E : Nat → Bool} {D O : Nat → Int}
theorem EndsAt.neD (h : EndsAt w Z Eb Db Ob E D O) : Eb ≠ Db := cells_ne h.hE h.hD (by decide)
theorem EndsAt.neO (h : EndsAt w Z Eb Db Ob E D O) : Eb ≠ Ob := cells_ne h.hE h.hO (by decide)
theorem grow_not {x : Nat} {o : Obj} (hx : w.heap[x]? = some o) (hz : ¬ Z x) : ¬ grow Z w x := fun q => by
  rcases q with q | q
  · exact hz q
  · have := lt_of_heap hx; omega
/-- the table changes -/
theorem EndsAt.ringed (h : EndsAt w Z Eb Db Ob E D O) (hp : UpdP Z w w') : EndsAt w' (grow Z w) Eb Db Ob E D O :=
  ⟨hp.keep h.hE h.zE, hp.keep h.hD h.zD, hp.keep h.hO h.zO, grow_not h.hE h.zE, grow_not h.hD h.zD, grow_not h.hO h.zO, h.ne⟩
/-- nothing old changes -/
theorem EndsAt.same (h : EndsAt w Z Eb Db Ob E D O) (hu : Upd [] w w') : EndsAt w' Z Eb Db Ob E D O :=
  ⟨hu.keep0 h.hE, hu.keep0 h.hD, hu.keep0 h.hO, h.zE, h.zD, h.zO, h.ne⟩
theorem EndsAt.cut (h : EndsAt w Z Eb Db Ob E D O) : EndsAt w (cutZ Z w) Eb Db Ob E D O :=
  ⟨h.hE, h.hD, h.hO, fun q => h.zE q.1, fun q => h.zD q.1, fun q => h.zO q.1, h.ne⟩
theorem EndsAt.get (h : EndsAt w Z Eb Db Ob E D O) {j : Nat} (hj : j < 16) : w.cell? ⟨Eb, j, none⟩ = some (.bool (E j)) ∧ w.frozen? ⟨Eb, j, none⟩ = false ∧ w.cell? ⟨Db, j, none⟩ = some (i64 (D j)) ∧ w.frozen? ⟨Db, j, none⟩ = false ∧
    w.cell? ⟨Ob, j, none⟩ = some (i64 (O j)) ∧ w.frozen? ⟨Ob, j, none⟩ = false :=
  ⟨(cellOf h.hE j).trans (bcells_get E hj), frzOf h.hE j, (cellOf h.hD j).trans (icells_get D hj), frzOf h.hD j, (cellOf h.hO j).trans (icells_get O hj), frzOf h.hO j⟩
theorem EndsAt.setE (h : EndsAt w Z Eb Db Ob E D O) (n : Nat) (b : Bool) : EndsAt (w.setCell ⟨Eb, n, none⟩ (.bool b)) Z Eb Db Ob (fun j => if j = n then b else E j) D O ∧ Upd [Eb] w (w.setCell ⟨Eb, n, none⟩ (.bool b)) :=
  ⟨⟨by rw [heap_setCell h.hE n _, bcells_set], heap_setCell_ne h.hD h.neD.symm _ _, heap_setCell_ne h.hO h.neO.symm _ _, h.zE, h.zD, h.zO, h.ne⟩, (Upd.refl [Eb] w).setCell (by simp) _⟩
theorem EndsAt.setD (h : EndsAt w Z Eb Db Ob E D O) (n : Nat) (b : Int) : EndsAt (w.setCell ⟨Db, n, none⟩ (i64 b)) Z Eb Db Ob E (fun j => if j = n then b else D j) O ∧ Upd [Db] w (w.setCell ⟨Db, n, none⟩ (i64 b)) :=
  ⟨⟨heap_setCell_ne h.hE h.neD _ _, by rw [heap_setCell h.hD n _, icells_set], heap_setCell_ne h.hO h.ne.symm _ _, h.zE, h.zD, h.zO, h.ne⟩, (Upd.refl [Db] w).setCell (by simp) _⟩
theorem EndsAt.setO (h : EndsAt w Z Eb Db Ob E D O) (n : Nat) (b : Int) : EndsAt (w.setCell ⟨Ob, n, none⟩ (i64 b)) Z Eb Db Ob E D (fun j => if j = n then b else O j) ∧ Upd [Ob] w (w.setCell ⟨Ob, n, none⟩ (i64 b)) :=
  ⟨⟨heap_setCell_ne h.hE h.neO _ _, heap_setCell_ne h.hD h.ne _ _, by rw [heap_setCell h.hO n _, icells_set], h.zE, h.zD, h.zO, h.ne⟩, (Upd.refl [Ob] w).setCell (by simp) _⟩
end

/-- how many bytes steps bring -/
def ctot (l : List CStp) : Nat := (l.map fun s => s.b.size).sum
theorem ctot_snoc (l : List CStp) (k : Nat) (h : k < l.length) : ctot (l.take (k + 1)) = ctot (l.take k) + l[k].b.size := by
  unfold ctot; rw [List.take_succ_eq_append_getElem h, List.map_append, List.sum_append]; simp only [List.map_cons, List.map_nil, List.sum_cons, List.sum_nil, Nat.add_zero]
theorem ctot_take (l : List CStp) (k : Nat) : ctot (l.take k) ≤ ctot l := by
  have : ctot l = ctot (l.take k) + ctot (l.drop k) := by
    unfold ctot
    rw [← List.sum_append, ← List.map_append, List.take_append_drop]
  omega

set_option maxRecDepth 100000 in
set_option maxHeartbeats 1000000 in
theorem cmuchZ_c (ao : Option Addr) (cap : Nat) (l : List CStp) (w : World) (hcap : l.length ≤ maxLen) (hao : l = [] ∨ ∃ b off, ao = some ⟨b, off, none⟩ ∧ RowsAt w b off 4 CStp.cells l ∧ b < w.heap.size) (hgood : ∀ x ∈ l, x.b.size ≤ reachBytes) :
    Calls Try.prog 31 #[.slice ao l.length cap] w fun e w' => ∃ x, e = .returned (.bool x) ∧ (x = false → l.length ≤ 150 ∧ ctot l ≤ 20000) ∧ w = w' := by
  have HAO := Lib.hid hao
  have HGood := Lib.hid hgood
  have hmn := @minR Try.prog
  unfold maxLen at hcap
  clear hao hgood
  refine post fun R hR => ?_
  go_enter Try.func31, Try.ntmps31
  go_wp2_with (fail)
  go_loop [3, 4] (fun s i => ∃ (k m : Nat), i = i64 k ∧ s = i64 m ∧ k ≤ l.length ∧ m = min (ctot (l.take k)) 1048576) (fun _ i => l.length - (intOf i).toNat)
  case atStart => exact ⟨0, 0, rfl, rfl, Nat.zero_le _, rfl⟩
  case round =>
    obtain ⟨k, m, rfl, rfl, hk, hm⟩ := hrel
    by_cases hlt : k < l.length
    · obtain ⟨b, off, rfl, hrows, hb⟩ : ∃ b off, ao = some ⟨b, off, none⟩ ∧ RowsAt w b off 4 CStp.cells l ∧ b < w.heap.size := by
        rcases HAO.out with e | e
        · rw [e] at hlt; simp at hlt
        · exact e
      obtain ⟨c0, c1, c2, c3⟩ := csrow hrows (Upd.refl _ _) hb hlt
      have hsz := HGood.out l[k] (List.getElem_mem hlt)
      have ht := ctot_snoc l k hlt
      generalize l[k].b = s at *
      unfold reachBytes at hsz
      have hm2 : m ≤ 1048576 := by omega
      have HM := Lib.hid hm
      have HT := Lib.hid ht
      clear hm ht hrows c0 c1 c2
      go_wp2_with (fail)
      go_round
      case rel => exact ⟨k + 1, min (m + s.size) 1048576, by go_num, by congr 1; omega, by omega, by rw [HT.out, HM.out]; omega⟩
      case measure => simp [intOf]; omega
    · have hkl : l.take k = l := List.take_of_length_le (by omega)
      rw [hkl] at hm
      have HM := Lib.hid hm
      clear hm
      by_cases h150 : 150 < l.length
      · go_wp2_with (fail)
        exact hR.out _ _ ⟨true, rfl, fun e => (by cases e), rfl⟩
      · have h1 : l.length ≤ 150 := by omega
        by_cases h2 : 20000 < m
        · go_wp2_with (fail)
          exact hR.out _ _ ⟨_, rfl, fun e => by simp at e; omega, rfl⟩
        · go_wp2_with (fail)
          exact hR.out _ _ ⟨_, rfl, fun e => ⟨h1, by have := HM.out; omega⟩, rfl⟩
end Go.Proofs.Ytagadbgbicebaaa
