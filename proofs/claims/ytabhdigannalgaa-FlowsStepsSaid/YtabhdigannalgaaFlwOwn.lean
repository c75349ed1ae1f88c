/-
  Nine rows of items, which owners are there and which rest, beside flows; and what the ring's answers are in those words. No condition.
-/
import Derived.Test.YtabhdigannalgaaFlwNone
namespace Go.Proofs.Ytabhdigannalgaa
open Go Go.RowKit Go.Maps Go.ChangeShapes Go.WideShapes Go.ChangeAt

def updB (H : Nat → Bool) (n : Nat) (b : Bool) : Nat → Bool := fun j => if j = n then b else H j
def bcl (G : Nat → Bool) : List Value := (List.range 9).map fun j => .bool (G j)
theorem bcl_get (G : Nat → Bool) {j : Nat} (h : j < 9) : (bcl G).toArray[j]? = some (.bool (G j)) := by
  unfold bcl
  rw [List.getElem?_toArray, List.getElem?_map, List.getElem?_range h]; rfl
theorem bcl_set (G : Nat → Bool) {n : Nat} (b : Bool) : (bcl G).toArray.setIfInBounds n (.bool b) = (bcl (updB G n b)).toArray := by
  apply Array.ext_getElem?
  intro j
  rw [Array.getElem?_setIfInBounds, List.getElem?_toArray, List.getElem?_toArray]
  unfold bcl updB
  rw [List.getElem?_map, List.getElem?_map]
  by_cases hj : j < 9
  · rw [List.getElem?_range hj]
    by_cases e : n = j
    · subst e; simp [hj]
    · rw [if_neg e]; simp [Ne.symm e]
  · rw [List.getElem?_eq_none (by simp; omega)]
    by_cases e : n = j
    · subst e; simp; omega
    · rw [if_neg e]; rfl

structure Own (w : World) (base : Nat) (Z : Nat → Prop) (A T R : Nat) (cvs : List Value) (F : Nat → List It) (H G : Nat → Bool) : Prop where
  hA : w.heap[A]? = some (.cells cvs.toArray 60 (0, 0))
  hT : w.heap[T]? = some (.cells (bcl H).toArray 4 (0, 0))
  hR : w.heap[R]? = some (.cells (bcl G).toArray 4 (0, 0))
  tr : T ≠ R
  len : cvs.length = 9
  sub : ∀ (j : Nat) (v : Value), cvs[j]? = some v → Sub w base 74 5 v (F j).length (ics (F j))
  sep : ∀ (i j : Nat) (u v : Value), cvs[i]? = some u → cvs[j]? = some v → i ≠ j → ∀ x ∈ blkL u, x ∉ blkL v
  nz : ∀ (j : Nat) (v : Value), cvs[j]? = some v → ∀ x ∈ blkL v, ¬ Z x
  zA : ¬ Z A
  zT : ¬ Z T
  zR : ¬ Z R

section
variable {w w' : World} {base : Nat} {Z : Nat → Prop} {A T R : Nat} {cvs : List Value} {F : Nat → List It} {H G : Nat → Bool}
theorem Own.get (h : Own w base Z A T R cvs F H G) {j : Nat} (hj : j < 9) :
    ∃ v, cvs[j]? = some v ∧ w.cell? ⟨A, j, none⟩ = some v ∧ w.frozen? ⟨A, j, none⟩ = false ∧ w.cell? ⟨T, j, none⟩ = some (.bool (H j)) ∧ w.frozen? ⟨T, j, none⟩ = false ∧ w.cell? ⟨R, j, none⟩ = some (.bool (G j)) ∧ w.frozen? ⟨R, j, none⟩ = false := by
  have e : cvs[j]? = some (cvs[j]'(by rw [h.len]; exact hj)) := List.getElem?_eq_getElem _
  refine ⟨_, e, ?_, frzOf h.hA _, ?_, frzOf h.hT _, ?_, frzOf h.hR _⟩
  · rw [cellOf h.hA j, List.getElem?_toArray, e]
  · rw [cellOf h.hT j, bcl_get H hj]
  · rw [cellOf h.hR j, bcl_get G hj]
theorem Own.aw (h : Own w base Z A T R cvs F H G) {cs : Array Value} {x : Nat} {e : TypeId} (hx : w.heap[x]? = some (.cells cs e (0, 0))) (he : e ≠ 60) : A ≠ x := by
  rintro rfl
  have q := h.hA.symm.trans hx; injection q with q; injection q with _ q; exact he q.symm
/-- the flows change -/
theorem Own.ringed (h : Own w base Z A T R cvs F H G) (hp : UpdP Z w w') : Own w' base (grow Z w) A T R cvs F H G := by
  have hk : ∀ {x : Nat} {o : Obj}, w.heap[x]? = some o → ¬ Z x → ¬ grow Z w x := fun hx hz q => q.elim hz (fun q => by have := lt_of_heap hx; omega)
  obtain ⟨S, hu, hS⟩ := hp
  refine ⟨(UpdP.keep ⟨S, hu, hS⟩ h.hA h.zA), (UpdP.keep ⟨S, hu, hS⟩ h.hT h.zT), (UpdP.keep ⟨S, hu, hS⟩ h.hR h.zR), h.tr, h.len, fun j v hv => ?_, h.sep, fun j v hv x hx hz => ?_, hk h.hA h.zA, hk h.hT h.zT, hk h.hR h.zR⟩
  · refine (h.sub j v hv).upd hu fun x hx hm => ?_
    rcases hS x hm with q | q
    · exact h.nz j v hv x hx q
    · have := ((h.sub j v hv).lt x hx).2; omega
  · rcases hz with q | q
    · exact h.nz j v hv x hx q
    · have := ((h.sub j v hv).lt x hx).2; omega
theorem Own.step (h : Own w base Z A T R cvs F H G) (hu : Upd [] w w') : Own w' base (cutZ Z w) A T R cvs F H G :=
  ⟨hu.keep0 h.hA, hu.keep0 h.hT, hu.keep0 h.hR, h.tr, h.len, fun j v hv => (h.sub j v hv).upd0 hu, h.sep, fun j v hv x hx hz => h.nz j v hv x hx hz.1, fun hz => h.zA hz.1, fun hz => h.zT hz.1, fun hz => h.zR hz.1⟩
theorem Own.step0 (h : Own w base Z A T R cvs F H G) (hu : Upd [] w w') : Own w' base Z A T R cvs F H G :=
  ⟨hu.keep0 h.hA, hu.keep0 h.hT, hu.keep0 h.hR, h.tr, h.len, fun j v hv => (h.sub j v hv).upd0 hu, h.sep, h.nz, h.zA, h.zT, h.zR⟩
/-- one row changes -/
theorem Own.put {w5 : World} (h : Own w base Z A T R cvs F H G) {n : Nat} {v v' : Value} (hv : cvs[n]? = some v) {l : List It}
    (hu : Upd (blkL v) w w5) (hs : Sub w5 base 74 5 v' l.length (ics l)) (hb : ∀ x ∈ blkL v', x ∈ blkL v ∨ w.heap.size ≤ x) :
    Own (w5.setCell ⟨A, n, none⟩ v') base (cutZ Z w) A T R (cvs.set n v') (updN F n l) H G ∧ Upd (A :: blkL v) w (w5.setCell ⟨A, n, none⟩ v') := by
  have hnl : n < cvs.length := by
    rcases Nat.lt_or_ge n cvs.length with q | q
    · exact q
    · rw [List.getElem?_eq_none q] at hv; cases hv
  have tv := (h.sub n v hv).ty
  have hAv : A ∉ blkL v := fun hm => by
    obtain ⟨cs, q⟩ := tv _ hm
    exact h.aw q (by decide) rfl
  have hTv : T ∉ blkL v := fun hm => by
    obtain ⟨cs, q⟩ := tv _ hm
    have hx := h.hT.symm.trans q; injection hx with hx; injection hx with _ hx; cases hx
  have hRv : R ∉ blkL v := fun hm => by
    obtain ⟨cs, q⟩ := tv _ hm
    have hx := h.hR.symm.trans q; injection hx with hx; injection hx with _ hx; cases hx
  have hAR : R ≠ A := fun e => h.aw h.hR (by decide) e.symm
  have hAT : T ≠ A := fun e => h.aw h.hT (by decide) e.symm
  have hA5 := hu.keep h.hA hAv
  have hT5 := hu.keep h.hT hTv
  have hR5 := hu.keep h.hR hRv
  have hAv' : A ∉ blkL v' := fun hm => by
    obtain ⟨cs, q⟩ := hs.ty _ hm
    have hx := hA5.symm.trans q; injection hx with hx; injection hx with _ hx; cases hx
  have hset : Upd [A] w5 (w5.setCell ⟨A, n, none⟩ v') := (Upd.refl [A] w5).setCell (by simp) _
  have hget : ∀ (j : Nat) (u : Value), (cvs.set n v')[j]? = some u → (j = n ∧ u = v') ∨ (j ≠ n ∧ cvs[j]? = some u) := fun j u hj => by
    by_cases e : j = n
    · subst e
      rw [List.getElem?_set_self hnl] at hj
      injection hj with hj
      exact .inl ⟨rfl, hj.symm⟩
    · rw [List.getElem?_set_ne (by omega)] at hj
      exact .inr ⟨e, hj⟩
  refine ⟨⟨?_, heap_setCell_ne hT5 hAT _ _, heap_setCell_ne hR5 hAR _ _, h.tr, by rw [List.length_set]; exact h.len, fun j u hj => ?_, fun i j u u2 hi hj hne x hx hx2 => ?_, fun j u hj x hx hz => ?_, fun hz => h.zA hz.1, fun hz => h.zT hz.1, fun hz => h.zR hz.1⟩, (hu.mono (by intro x hx; simp [hx])).setCell (by simp) _⟩
  · rw [heap_setCell hA5 n v', List.setIfInBounds_toArray]
  · rcases hget j u hj with ⟨rfl, rfl⟩ | ⟨e, hj'⟩
    · rw [updN_same]
      exact hs.upd hset fun x hx hm => by simp at hm; subst hm; exact hAv' hx
    · rw [updN_other _ _ e]
      refine ((h.sub j u hj').upd hu fun x hx hm => h.sep j n u v hj' hv e x hx hm).upd hset fun x hx hm => ?_
      simp at hm; subst hm
      obtain ⟨cs, q⟩ := (h.sub j u hj').ty _ hx
      exact h.aw q (by decide) rfl
  · rcases hget i u hi with ⟨rfl, rfl⟩ | ⟨e, hi'⟩
    · rcases hget j u2 hj with ⟨rfl, -⟩ | ⟨e2, hj'⟩
      · exact hne rfl
      · rcases hb x hx with q | q
        · exact h.sep i j v u2 hv hj' hne x q hx2
        · have := ((h.sub j u2 hj').lt x hx2).2; omega
    · rcases hget j u2 hj with ⟨rfl, rfl⟩ | ⟨e2, hj'⟩
      · rcases hb x hx2 with q | q
        · exact h.sep i j u v hi' hv hne x hx q
        · have := ((h.sub i u hi').lt x hx).2; omega
      · exact h.sep i j u u2 hi' hj' hne x hx hx2
  · rcases hget j u hj with ⟨rfl, rfl⟩ | ⟨e, hj'⟩
    · rcases hb x hx with q | q
      · exact h.nz j v hv x q hz.1
      · have := hz.2; omega
    · exact h.nz j u hj' x hx hz.1
theorem Own.off (h : Own w base Z A T R cvs F H G) {n : Nat} {v : Value} (hv : cvs[n]? = some v) : ∀ x ∈ A :: blkL v, ¬ cutZ Z w x := fun x hx hz => by
  rcases List.mem_cons.1 hx with q | q
  · subst q; exact h.zA hz.1
  · exact h.nz n v hv x q hz.1
theorem Own.aoff (h : Own w base Z A T R cvs F H G) {n : Nat} {v : Value} (hv : cvs[n]? = some v) : A ∉ blkL v := fun hm => by
  obtain ⟨cs, q⟩ := (h.sub n v hv).ty _ hm
  exact h.aw q (by decide) rfl
theorem blk_orF {v v' : Value} {M N : Nat} (h : blkL v' = blkL v ∨ ∃ g, blkL v' = [g] ∧ N ≤ g) (hm : M ≤ N) : ∀ x ∈ blkL v', x ∈ blkL v ∨ M ≤ x := by
  intro x hx
  rcases h with q | ⟨g, q1, q2⟩
  · rw [q] at hx; exact .inl hx
  · rw [q1] at hx; simp at hx; subst hx; exact .inr (Nat.le_trans hm q2)
theorem Own.bset (h : Own w base Z A T R cvs F H G) {X : Nat} {X0 : Nat → Bool} (hX : w.heap[X]? = some (.cells (bcl X0).toArray 4 (0, 0))) (n : Nat) (b : Bool) :
    Upd [X] w (w.setCell ⟨X, n, none⟩ (.bool b)) ∧ (w.setCell ⟨X, n, none⟩ (.bool b)).heap[A]? = some (.cells cvs.toArray 60 (0, 0)) ∧ ∀ (j : Nat) (v : Value), cvs[j]? = some v → Sub (w.setCell ⟨X, n, none⟩ (.bool b)) base 74 5 v (F j).length (ics (F j)) := by
  have hset : Upd [X] w (w.setCell ⟨X, n, none⟩ (.bool b)) := (Upd.refl [X] w).setCell (by simp) _
  refine ⟨hset, heap_setCell_ne h.hA (h.aw hX (by decide)) _ _, fun j v hv => (h.sub j v hv).upd hset fun x hx hm => ?_⟩
  simp at hm; subst hm
  obtain ⟨cs, q⟩ := (h.sub j v hv).ty _ hx
  have hy := hX.symm.trans q; injection hy with hy; injection hy with _ hy; cases hy
/-- an owner is there, or not -/
theorem Own.there (h : Own w base Z A T R cvs F H G) (n : Nat) (b : Bool) :
    Own (w.setCell ⟨T, n, none⟩ (.bool b)) base Z A T R cvs F (updB H n b) G ∧ Upd [T] w (w.setCell ⟨T, n, none⟩ (.bool b)) := by
  obtain ⟨q1, q2, q3⟩ := h.bset h.hT n b
  exact ⟨⟨q2, by rw [heap_setCell h.hT n _, bcl_set], heap_setCell_ne h.hR h.tr.symm _ _, h.tr, h.len, q3, h.sep, h.nz, h.zA, h.zT, h.zR⟩, q1⟩
/-- an owner rests, or not -/
theorem Own.rest (h : Own w base Z A T R cvs F H G) (n : Nat) (b : Bool) :
    Own (w.setCell ⟨R, n, none⟩ (.bool b)) base Z A T R cvs F H (updB G n b) ∧ Upd [R] w (w.setCell ⟨R, n, none⟩ (.bool b)) := by
  obtain ⟨q1, q2, q3⟩ := h.bset h.hR n b
  exact ⟨⟨q2, heap_setCell_ne h.hT h.tr _ _, by rw [heap_setCell h.hR n _, bcl_set], h.tr, h.len, q3, h.sep, h.nz, h.zA, h.zT, h.zR⟩, q1⟩
end
theorem sub_tail5b {w : World} {base : Nat} {e : TypeId} {g off n cap : Nat} {x : It} {l : List It} (h : Sub w base e 5 (.slice (some ⟨g, off, none⟩) (n + 1) cap) (n + 1) (ics (x :: l))) : Sub w base e 5 (.slice (some ⟨g, off + 5, none⟩) n (cap - 1)) n (ics l) := by
  obtain ⟨hl, h⟩ := h
  rcases h with ⟨h, _⟩ | ⟨g', off', cap', cs, he, h2, h3, h4, h5, h6, h7⟩
  · cases h
  · injection he with e1 e2 e3
    injection e1 with e1
    injection e1 with e4 e5
    subst e4; subst e5; subst e3
    have hx : ics (x :: l) = x.cells ++ ics l := rfl
    rw [hx] at hl
    have h5l : (x.cells ++ ics l).length = 5 + (ics l).length := by rw [List.length_append]; rfl
    refine ⟨by omega, .inr ⟨g, off + 5, cap - 1, cs, rfl, h2, h3, by omega, by omega, by omega, fun j hj => ?_⟩⟩
    have := h7 (j + 5) (by omega)
    rw [show off + 5 + j = off + (j + 5) by omega, this, hx, List.getElem?_append_right (by show 5 ≤ _; omega)]
    congr 1
theorem sub_none5b {w : World} {base : Nat} {e : TypeId} {g off n cap : Nat} {xs : List Value} (h : Sub w base e 5 (.slice (some ⟨g, off, none⟩) n cap) n xs) : Sub w base e 5 (.slice (some ⟨g, off, none⟩) 0 0) 0 [] := by
  obtain ⟨hl, h⟩ := h
  rcases h with ⟨h, _⟩ | ⟨g', off', cap', cs, he, h2, h3, h4, h5, h6, h7⟩
  · cases h
  · injection he with e1 e2 e3
    injection e1 with e1
    injection e1 with e4 e5
    subst e4; subst e5; subst e3
    exact ⟨rfl, .inr ⟨g, off, 0, cs, rfl, h2, h3, Nat.le_refl _, by omega, by omega, fun j hj => by omega⟩⟩
def nilI9 : List Value := List.replicate 9 (.slice none 0 0)
theorem ownF_new {w : World} {base A T R : Nat} {Z : Nat → Prop} (hA : w.heap[A]? = some (.cells nilI9.toArray 60 (0, 0))) (hT : w.heap[T]? = some (.cells (bcl fun _ => false).toArray 4 (0, 0))) (hR : w.heap[R]? = some (.cells (bcl fun _ => false).toArray 4 (0, 0))) (tr : T ≠ R) (zA : ¬ Z A) (zT : ¬ Z T) (zR : ¬ Z R) :
    Own w base Z A T R nilI9 (fun _ => []) (fun _ => false) (fun _ => false) := by
  have hn : ∀ (j : Nat) (v : Value), nilI9[j]? = some v → v = .slice none 0 0 := fun j v hj => by
    unfold nilI9 at hj
    rw [List.getElem?_replicate] at hj
    split at hj
    · injection hj with hj; exact hj.symm
    · cases hj
  refine ⟨hA, hT, hR, tr, rfl, fun j v hj => ?_, fun i j u v hi hj _ x hx => ?_, fun j v hj x hx => ?_, zA, zT, zR⟩
  · rw [hn j v hj]; exact sub_nil _ _ _ _
  · rw [hn i u hi] at hx; simp [blkL] at hx
  · rw [hn j v hj] at hx; simp [blkL] at hx

/-! ### the ring in those words -/
def Bk (r : Rg) (H G : Nat → Bool) : Prop := ∀ j : Nat, j < 9 → H j = (r.view j).isSome ∧ G j = ((r.view j).map Prod.snd).getD false
theorem bk_new : Bk Rg.new (fun _ => false) (fun _ => false) := fun _ _ => ⟨rfl, rfl⟩
theorem view_none {r : Rg} {n : Int} : r.view n = none ↔ r.fl n = none := by unfold Rg.view; rw [Option.map_eq_none_iff]
theorem bk_th {r : Rg} {H G : Nat → Bool} (h : Bk r H G) {n : Nat} (hn : n < 9) : H n = (r.fl n).isSome := by
  rw [(h n hn).1]; unfold Rg.view; rw [Option.isSome_map]
theorem set_viewF (r : Rg) {n q : Int} (h : 0 ≤ n ∧ n ≤ 8) (hq : 1 ≤ q ∧ q ≤ 1048576) (j : Int) : (r.set n q).view j = if j = n then some ((r.view n).getD ([], false)) else r.view j := by
  unfold Rg.set Rg.view
  rw [if_neg (by omega)]
  by_cases e : j = n
  · subst e
    rw [if_pos rfl]
    show (r.put j _ j).map _ = _
    rw [Rg.put_same]
    cases r.fl j <;> rfl
  · rw [if_neg e]
    show (r.put n _ j).map _ = _
    rw [Rg.put_other r _ e]
theorem bk_set {r : Rg} {H G : Nat → Bool} (h : Bk r H G) {n : Nat} (hn : n < 9) {q : Int} (hq : 1 ≤ q ∧ q ≤ 1048576) : Bk (r.set n q) (updB H n true) G := by
  intro j hj
  rw [set_viewF r (by omega) hq]
  by_cases e : j = n
  · subst e
    rw [if_pos rfl]
    refine ⟨by simp [updB], ?_⟩
    rw [(h j hj).2]
    cases r.view (j : Int) <;> rfl
  · rw [if_neg (by omega)]
    refine ⟨?_, (h j hj).2⟩
    unfold updB; rw [if_neg e]; exact (h j hj).1
theorem bk_drop {r : Rg} {H G : Nat → Bool} (h : Bk r H G) (n : Nat) : Bk (r.drop n) (updB H n false) (updB G n false) := by
  intro j hj
  have hv : (r.drop n).view j = if j = n then none else r.view j := by
    unfold Rg.drop
    by_cases hf : r.fl n = none
    · rw [if_pos hf]
      by_cases e : j = n
      · subst e; rw [if_pos rfl]; exact view_none.2 hf
      · rw [if_neg e]
    · rw [if_neg hf]
      unfold Rg.view
      show (r.put n none j).map _ = _
      by_cases e : j = n
      · subst e; rw [if_pos rfl, Rg.put_same]; rfl
      · rw [if_neg e, Rg.put_other r _ (by omega)]
  rw [hv]
  by_cases e : j = n
  · subst e; simp [updB]
  · rw [if_neg e]; unfold updB; rw [if_neg e, if_neg e]; exact h j hj
theorem bk_settle {r : Rg} {H G : Nat → Bool} (h : Bk r H G) {n : Nat} {f : Fl} (hf : (r.fl n).isSome = true) {b : Bool} (hb : f.rs = b) : Bk (r.settle n f) H (updB G n b) := by
  intro j hj
  rw [settle_view]
  by_cases e : j = n
  · subst e
    rw [if_pos rfl]
    refine ⟨?_, ?_⟩
    · rw [bk_th h hj, hf]; rfl
    · simp [updB, hb]
  · rw [if_neg (by omega)]; unfold updB; rw [if_neg e]; exact h j hj
theorem bk_rest {r : Rg} {H G : Nat → Bool} (h : Bk r H G) {n : Nat} (hn : n < 9) (b : Bool) : Bk (r.rest n b) H (updB G n (H n && b)) := by
  unfold Rg.rest
  cases hf : r.fl (n : Int) with
  | none =>
    have hH : H n = false := by rw [bk_th h hn, hf]; rfl
    intro j hj
    by_cases e : j = n
    · subst e
      refine ⟨(h j hj).1, ?_⟩
      have hv : r.view (j : Int) = none := view_none.2 hf
      show updB G j (H j && b) j = ((r.view (j : Int)).map Prod.snd).getD false
      rw [hv, hH]; simp [updB]
    · unfold updB; rw [if_neg e]; exact h j hj
  | some f =>
    have hH : H n = true := by rw [bk_th h hn, hf]; rfl
    rw [hH, Bool.true_and]
    exact bk_settle h (by rw [hf]; rfl) rfl
theorem bk_push {r : Rg} {H G : Nat → Bool} (h : Bk r H G) {n : Nat} (hn : n < 9) (c : Int) : Bk (r.push n c) H G := by
  unfold Rg.push
  split
  · exact h
  · cases hf : r.fl (n : Int) with
    | none => exact h
    | some f =>
      have hg : updB G n f.rs = G := by
        funext j
        unfold updB
        split
        · next e =>
          subst e
          rw [(h j hn).2]; unfold Rg.view; rw [hf]; rfl
        · rfl
      rw [← hg]
      exact bk_settle h (by rw [hf]; rfl) rfl
theorem bk_turn {r : Rg} {H G : Nat → Bool} (h : Bk r H G) (hok : r.ok) : Bk r.turn.r H G := by
  cases ht : r.turn.ok with
  | false => rw [turn_none hok ht]; exact h
  | true =>
    obtain ⟨⟨cs, h3, h4⟩, h5⟩ := turn_serves hok ht
    intro j hj
    by_cases e : (j : Int) = r.turn.n
    · have := h j hj
      rw [e] at this ⊢
      rw [h3] at this
      rw [h4]; exact this
    · rw [h5 j e]; exact h j hj
theorem pushE_bk {r : Rg} {H G : Nat → Bool} (h : Bk r H G) {n : Nat} (hn : n < 9) {c : Int} (hc : 1 ≤ c ∧ c ≤ 1040) : ((r.pushE n c) == 0) = H n := by
  unfold Rg.pushE
  rw [if_neg (by omega), bk_th h hn]
  cases r.fl (n : Int) <;> rfl
theorem restE_bk {r : Rg} {H G : Nat → Bool} (h : Bk r H G) {n : Nat} (hn : n < 9) : ((r.restE n) == 0) = H n := by
  unfold Rg.restE
  rw [bk_th h hn]
  cases r.fl (n : Int) <;> rfl
theorem pushI_bk {r : Rg} {H G : Nat → Bool} (h : Bk r H G) {n : Nat} (hn : n < 9) (F : Nat → List It) (x : It) : pushI r F n x = if H n = true then updN F n (F n ++ [x]) else F := by
  unfold pushI
  rw [bk_th h hn, Int.toNat_natCast]
  cases r.fl (n : Int) <;> simp
theorem bk_empty {r : Rg} {H G : Nat → Bool} {F : Nat → List It} (h : Bk r H G) (hl : Linked r F) {n : Nat} (hn : n < 9) (e : H n = false) : F n = [] ∧ G n = false := by
  have hf : r.fl (n : Int) = none := by rw [bk_th h hn] at e; cases hq : r.fl (n : Int) with
    | none => rfl
    | some f => rw [hq] at e; cases e
  refine ⟨(hl n hn).1 hf, ?_⟩
  rw [(h n hn).2, view_none.2 hf]; rfl

/-- has one of the first k owners, that does not rest, any items? -/
def anyI (F : Nat → List It) (G : Nat → Bool) : Nat → Bool
  | 0 => false
  | k + 1 => anyI F G k || (decide (0 < (F k).length) && !G k)
theorem anyI_iff {F : Nat → List It} {G : Nat → Bool} : ∀ {k : Nat}, anyI F G k = true ↔ ∃ j, j < k ∧ 0 < (F j).length ∧ G j = false
  | 0 => by simp [anyI]
  | k + 1 => by
    unfold anyI
    rw [Bool.or_eq_true, anyI_iff (k := k)]
    simp only [Bool.and_eq_true, decide_eq_true_eq, Bool.not_eq_true']
    constructor
    · rintro (⟨j, h1, h2, h3⟩ | ⟨h2, h3⟩)
      · exact ⟨j, by omega, h2, h3⟩
      · exact ⟨k, by omega, h2, h3⟩
    · rintro ⟨j, h1, h2, h3⟩
      by_cases e : j = k
      · subst e; exact .inr ⟨h2, h3⟩
      · exact .inl ⟨j, by omega, h2, h3⟩
theorem any_turn {r : Rg} (hok : r.ok) {F : Nat → List It} {H G : Nat → Bool} (hl : Linked r F) (h : Bk r H G) : r.turn.ok = anyI F G 9 := by
  rw [turn_ok hok, Bool.eq_iff_iff, anyI_iff]
  simp only [decide_eq_true_eq]
  constructor
  · intro hlr
    cases hr : r.row with
    | nil => rw [hr] at hlr; simp at hlr
    | cons n t =>
      obtain ⟨f, hf, ha⟩ := (hok.mem n).1 (by rw [hr]; simp)
      have hrg := hok.rng n f hf
      obtain ⟨m, rfl⟩ : ∃ m : Nat, n = m := ⟨n.toNat, by omega⟩
      have hm9 : m < 9 := by omega
      unfold Fl.act at ha
      simp only [Bool.and_eq_true, decide_eq_true_eq, Bool.not_eq_true'] at ha
      refine ⟨m, hm9, ?_, ?_⟩
      · have := (hl m hm9).2 f hf
        have h1 := ha.1
        rw [this, List.length_map] at h1; exact h1
      · rw [(h m hm9).2]; unfold Rg.view; rw [hf]; exact ha.2
  · rintro ⟨j, h1, h2, h3⟩
    cases hf : r.fl (j : Int) with
    | none => rw [(hl j h1).1 hf] at h2; simp at h2
    | some f =>
      have hrs : f.rs = false := by
        have := (h j h1).2
        unfold Rg.view at this; rw [hf, h3] at this
        exact this.symm
      have hm : (j : Int) ∈ r.row := (hok.mem _).2 ⟨f, hf, by unfold Fl.act; rw [(hl j h1).2 f hf, hrs, List.length_map]; simpa using h2⟩
      cases hr : r.row with
      | nil => rw [hr] at hm; cases hm
      | cons a t => simp
/-- a turn that serves -/
theorem next_bk {r : Rg} (hok : r.ok) {F : Nat → List It} {H G : Nat → Bool} (hl : Linked r F) (h : Bk r H G) (e : r.turn.ok = true) :
    ∃ (m : Nat) (x : It) (l : List It), r.turn.n = (m : Int) ∧ m < 9 ∧ F m = x :: l ∧ G m = false ∧ nextX r F = x ∧ nextI r F = updN F m l := by
  obtain ⟨m, x, l, h1, h2, h3, -, -⟩ := turn_link hl hok e
  obtain ⟨⟨cs, q3, -⟩, -⟩ := turn_serves hok e
  refine ⟨m, x, l, h1, h2, h3, ?_, ?_, ?_⟩
  · rw [(h m h2).2, ← h1, q3]; rfl
  · unfold nextX; rw [if_pos e, h1, Int.toNat_natCast, h3]; rfl
  · unfold nextI; rw [if_pos e, h1, Int.toNat_natCast, h3]; rfl
end Go.Proofs.Ytabhdigannalgaa
