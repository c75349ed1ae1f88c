/-
  A table of connections in memory, as one notion, and as a plain list; and how it changes when one connection does. Condition: the table is one that its own functions made.
-/
import Derived.Test.YtagadbgbicebaaaConn
import Derived.Test.YtagadbgbicebaaaConnOne
import Derived.Test.YtagadbgbicebaaaUpdP
namespace Go.Proofs.Ytagadbgbicebaaa
open Go Go.RowKit

/-- a connection: bytes that wait, what broke it, its stage, its owner, and the texts that go out -/
structure Ln where
  r : ByteArray
  e : Int
  st : Int
  ow : Int
  out : List ByteArray
def Ln.new : Ln := ⟨⟨#[]⟩, 0, 0, -1, []⟩

structure TbX (w : World) (Z : Nat → Prop) (b : Nat) (l : List Ln) (v : Value) (bs : List Nat) (ov : Nat → Value) : Prop where
  tb : TbAt w b v 0 bs
  zb : Z b
  zv : ∀ x ∈ blkL v, Z x
  len : bs.length = l.length
  ln : ∀ (k lb : Nat) (n : Ln), bs[k]? = some lb → l[k]? = some n → LnAt w lb n.r n.e n.st n.ow (ov k) ∧ Sub w 0 9 1 (ov k) n.out.length (strs n.out) ∧ Z lb ∧ ∀ x ∈ blkL (ov k), Z x
  inj : ∀ (i j bi bj : Nat), bs[i]? = some bi → bs[j]? = some bj → i ≠ j → bi ≠ bj ∧ ∀ x ∈ blkL (ov i), x ∉ blkL (ov j)

theorem get_lt {α : Type} {l : List α} {k : Nat} {x : α} (h : l[k]? = some x) : k < l.length := by
  rcases Nat.lt_or_ge k l.length with q | q
  · exact q
  · rw [List.getElem?_eq_none q] at h; cases h

section
variable {w w' : World} {Z : Nat → Prop} {b : Nat} {l : List Ln} {v : Value} {bs : List Nat} {ov : Nat → Value}

theorem TbX.at (h : TbX w Z b l v bs ov) {k : Nat} {n : Ln} (hn : l[k]? = some n) : ∃ lb, bs[k]? = some lb := by
  have := get_lt hn
  rw [← h.len] at this
  exact ⟨bs[k], List.getElem?_eq_getElem this⟩
theorem TbX.line (h : TbX w Z b l v bs ov) {k lb : Nat} (hb : bs[k]? = some lb) : ∃ n, l[k]? = some n := by
  have := get_lt hb
  rw [h.len] at this
  exact ⟨l[k], List.getElem?_eq_getElem this⟩
theorem TbX.mono (h : TbX w Z b l v bs ov) {Z' : Nat → Prop} (hz : ∀ x, Z x → Z' x) : TbX w Z' b l v bs ov :=
  ⟨h.tb, hz _ h.zb, fun x hx => hz _ (h.zv x hx), h.len, fun k lb n hb hn => by
    obtain ⟨h1, h2, h3, h4⟩ := h.ln k lb n hb hn
    exact ⟨h1, h2, hz _ h3, fun x hx => hz _ (h4 x hx)⟩, h.inj⟩
theorem TbX.cut (h : TbX w Z b l v bs ov) : TbX w (cutZ Z w) b l v bs ov :=
  ⟨h.tb, ⟨h.zb, lt_of_heap h.tb.heap⟩, fun x hx => ⟨h.zv x hx, (h.tb.sub.lt x hx).2⟩, h.len, fun k lb n hb hn => by
    obtain ⟨h1, h2, h3, h4⟩ := h.ln k lb n hb hn
    exact ⟨h1, h2, ⟨h3, lt_of_heap h1⟩, fun x hx => ⟨h4 x hx, (h2.lt x hx).2⟩⟩, h.inj⟩
theorem TbX.upd (h : TbX w Z b l v bs ov) {S : List Nat} (hu : Upd S w w') (hS : ∀ x ∈ S, ¬ Z x) : TbX w' Z b l v bs ov :=
  ⟨h.tb.keep hu (fun hm => hS _ hm h.zb) (fun g hg hm => hS _ hm (h.zv g hg)), h.zb, h.zv, h.len, fun k lb n hb hn => by
    obtain ⟨h1, h2, h3, h4⟩ := h.ln k lb n hb hn
    exact ⟨hu.keep h1 fun hm => hS _ hm h3, h2.upd hu fun x hx hm => hS _ hm (h4 x hx), h3, h4⟩, h.inj⟩

/-- a line's block, and its texts', are none of the table's own -/
theorem TbX.apart (h : TbX w Z b l v bs ov) {k lb : Nat} {n : Ln} (hb : bs[k]? = some lb) (hn : l[k]? = some n) : b ≠ lb ∧ lb ∉ blkL v ∧ lb ∉ blkL (ov k) ∧ ∀ x ∈ blkL (ov k), x ≠ b ∧ x ∉ blkL v := by
  obtain ⟨h1, h2, -, -⟩ := h.ln k lb n hb hn
  refine ⟨cells_ne h.tb.heap h1 (by decide), fun hm => ?_, fun hm => ?_, fun x hx => ⟨?_, fun hm => ?_⟩⟩
  · obtain ⟨cs, q⟩ := h.tb.sub.ty _ hm
    exact cells_ne h1 q (by decide) rfl
  · obtain ⟨cs, q⟩ := h2.ty _ hm
    exact cells_ne h1 q (by decide) rfl
  · obtain ⟨cs, q⟩ := h2.ty _ hx
    exact cells_ne q h.tb.heap (by decide)
  · obtain ⟨cs, q⟩ := h2.ty _ hx
    obtain ⟨cs2, q2⟩ := h.tb.sub.ty _ hm
    exact cells_ne q q2 (by decide) rfl

/-- one line changes -/
theorem TbX.change (h : TbX w Z b l v bs ov) {k lb : Nat} {n n' : Ln} (hb : bs[k]? = some lb) (hn : l[k]? = some n) {S : List Nat} {ov' : Value} (hu : Upd S w w') (hS : ∀ x ∈ S, x = lb ∨ x ∈ blkL (ov k))
    (hl : LnAt w' lb n'.r n'.e n'.st n'.ow ov') (ho : Sub w' 0 9 1 ov' n'.out.length (strs n'.out)) (hz : ∀ x ∈ blkL ov', x ∈ blkL (ov k) ∨ w.heap.size ≤ x) :
    TbX w' (grow Z w) b (l.set k n') v bs (fun j => if j = k then ov' else ov j) ∧ UpdP Z w w' := by
  obtain ⟨h1, h2, h3, h4⟩ := h.ln k lb n hb hn
  obtain ⟨a1, a2, a3, a4⟩ := h.apart hb hn
  have hkl := get_lt hn
  refine ⟨⟨h.tb.keep hu (fun hm => ?_) (fun g hg hm => ?_), .inl h.zb, fun x hx => .inl (h.zv x hx), by rw [List.length_set]; exact h.len, fun j jb m hj hm => ?_, fun i j bi bj hi hj hne => ?_⟩, UpdP.of hu fun x hx => ?_⟩
  · rcases hS _ hm with q | q
    · exact a1 q
    · exact (a4 _ q).1 rfl
  · rcases hS _ hm with q | q
    · subst q; exact a2 hg
    · exact (a4 _ q).2 hg
  · by_cases e : j = k
    · subst e
      rw [List.getElem?_set_self hkl] at hm
      injection hm with hm; subst hm
      rw [hb] at hj; injection hj with hj; subst hj
      simp only [if_true]
      refine ⟨hl, ho, .inl h3, fun x hx => ?_⟩
      rcases hz x hx with q | q
      · exact .inl (h4 x q)
      · exact .inr q
    · rw [List.getElem?_set_ne (by omega)] at hm
      obtain ⟨k1, k2, k3, k4⟩ := h.ln j jb m hj hm
      obtain ⟨d1, d2⟩ := h.inj j k jb lb hj hb e
      obtain ⟨g1, g2⟩ := h.inj k j lb jb hb hj (Ne.symm e)
      simp only [if_neg e]
      refine ⟨hu.keep k1 fun hx => ?_, k2.upd hu fun x hx hy => ?_, .inl k3, fun x hx => .inl (k4 x hx)⟩
      · rcases hS _ hx with q | q
        · exact d1 q
        · obtain ⟨cs, z⟩ := h2.ty _ q
          exact cells_ne z k1 (by decide) rfl
      · rcases hS _ hy with q | q
        · subst q
          obtain ⟨cs, z⟩ := k2.ty _ hx
          exact cells_ne z h1 (by decide) rfl
        · exact d2 x hx q
  · refine ⟨(h.inj i j bi bj hi hj hne).1, fun x hx hy => ?_⟩
    by_cases e1 : i = k
    · subst e1
      have e2 : j ≠ i := Ne.symm hne
      simp only [if_true, if_neg e2] at hx hy
      rcases hz x hx with q | q
      · exact (h.inj i j bi bj hi hj hne).2 x q hy
      · obtain ⟨m, hm⟩ := h.line hj
        have := ((h.ln j bj m hj hm).2.1.lt x hy).2
        omega
    · by_cases e2 : j = k
      · subst e2
        simp only [if_true, if_neg e1] at hx hy
        rcases hz x hy with q | q
        · exact (h.inj i j bi bj hi hj hne).2 x hx q
        · obtain ⟨m, hm⟩ := h.line hi
          have := ((h.ln i bi m hi hm).2.1.lt x hx).2
          omega
      · simp only [if_neg e1, if_neg e2] at hx hy
        exact (h.inj i j bi bj hi hj hne).2 x hx hy
  · rcases hS x hx with q | q
    · subst q; exact .inl h3
    · exact .inl (h4 x q)
end

def TblAt (w : World) (Z : Nat → Prop) (b : Nat) (l : List Ln) : Prop := (∀ (k : Nat) (n : Ln), l[k]? = some n → 0 ≤ n.st ∧ n.st ≤ 3) ∧ ∃ v bs ov, TbX w Z b l v bs ov

section
variable {w w' : World} {Z : Nat → Prop} {b : Nat} {l : List Ln}

theorem TblAt.more (h : TblAt w Z b l) {Z' : Nat → Prop} (hz : ∀ x, Z x → Z' x) : TblAt w Z' b l := by
  obtain ⟨h0, v, bs, ov, h1⟩ := h
  exact ⟨h0, v, bs, ov, h1.mono hz⟩
theorem TblAt.cut (h : TblAt w Z b l) : TblAt w (cutZ Z w) b l := by
  obtain ⟨h0, v, bs, ov, h1⟩ := h
  exact ⟨h0, v, bs, ov, h1.cut⟩
theorem TblAt.upd (h : TblAt w Z b l) {S : List Nat} (hu : Upd S w w') (hS : ∀ x ∈ S, ¬ Z x) : TblAt w' Z b l := by
  obtain ⟨h0, v, bs, ov, h1⟩ := h
  exact ⟨h0, v, bs, ov, h1.upd hu hS⟩
theorem TblAt.upd0 (h : TblAt w Z b l) (hu : Upd [] w w') : TblAt w' Z b l := h.upd hu fun _ q => (by cases q)
theorem TblAt.len (h : TblAt w Z b l) : l.length ≤ 16 := by
  obtain ⟨h0, v, bs, ov, h1⟩ := h
  rw [← h1.len]; exact h1.tb.len
theorem tblAt_new {Z : Nat → Prop} (hb : w.heap[b]? = some (.cells #[.slice none 0 0] 56 (0, 0))) (hz : Z b) : TblAt w Z b [] :=
  ⟨fun k n hk => by simp at hk, .slice none 0 0, [], fun _ => .slice none 0 0, ⟨hb, sub_nil _ _ _ _, by simp⟩, hz, fun x hx => (by simp [blkL] at hx), rfl, fun k lb n hk => by simp at hk, fun i j bi bj hi => by simp at hi⟩
end
end Go.Proofs.Ytagadbgbicebaaa
