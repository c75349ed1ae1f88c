/-
  Flows and the document's flows beside one another in memory: what each may change. No condition.
-/
import Derived.Test.YtabhdigannalgaaR4Same
namespace Go.Proofs.Ytabhdigannalgaa
open Go Go.RowKit Go.Maps

theorem R4.updP {w w' : World} {Y Z : Nat → Prop} {fv rv xv : Value} {r : Rg} {its : Nat → List It} (h : R4 w Y fv rv xv r its) (hp : UpdP Z w w') (hd : ∀ x, Y x → x < w.heap.size ∧ ¬ Z x) : R4 w' Y fv rv xv r its := by
  obtain ⟨S, hu, hs⟩ := hp
  refine h.upd hu fun x hx hy => ?_
  obtain ⟨h1, h2⟩ := hd x hy
  rcases hs x hx with q | q
  · exact h2 q
  · omega
theorem Sub.updP {w w' : World} {Z : Nat → Prop} {base : Nat} {e : TypeId} {size : Nat} {v : Value} {n : Nat} {xs : List Value} (h : Sub w base e size v n xs) (hp : UpdP Z w w') (hd : ∀ x ∈ blkL v, ¬ Z x) : Sub w' base e size v n xs := by
  obtain ⟨S, hu, hs⟩ := hp
  refine h.upd hu fun x hx hm => ?_
  rcases hs x hm with q | q
  · exact hd x hx q
  · have := (h.lt x hx).2; omega
theorem FwAt.small {w : World} {Z : Nat → Prop} {b K : Nat} {r : Rg} {its : Nat → List It} (h : FwAt w Z b K r its) : r.small K ∧ (∀ j, j < 9 → (its j).length ≤ K) ∧ Linked r its := by
  obtain ⟨hk, Zr, tv, h⟩ := h
  exact ⟨h.ring.2.2.1, h.len, hk⟩
theorem FwAt.zb {w : World} {Z : Nat → Prop} {b K : Nat} {r : Rg} {its : Nat → List It} (h : FwAt w Z b K r its) : Z b ∧ b < w.heap.size := by
  obtain ⟨hk, Zr, tv, h⟩ := h
  exact ⟨FwX.zb h, h.ring.lt⟩

theorem r4drop2_c {w : World} {Y : Nat → Prop} {fv rv xv : Value} {r : Rg} {its : Nat → List It} (h : R4 w Y fv rv xv r its) (hok : r.ok) (hlk : Linked r its) (n : Int) :
    Calls Try.prog 40 #[.agg #[fv, rv, xv], i64 n] w fun e w' => ∃ fv' rv' xv' va vc, e = .returned (.tuple #[.agg #[fv', rv', xv'], .slice va (rowI its n).length vc]) ∧ R4 w' (grow Y w) fv' rv' xv' (r.drop n) (dropI its n) ∧ Upd [] w w' ∧ Sub w' 0 68 5 (.slice va (rowI its n).length vc) (rowI its n).length (ics (rowI its n)) ∧ ∀ x ∈ blkL (.slice va (rowI its n).length vc), Y x := by
  refine (r4drop_c h hok hlk n).mono ?_
  rintro e w' ⟨fv', rv', xv', v, rfl, h1, h2, h3, h4⟩
  obtain ⟨va, vc, rfl, -⟩ := h3.form
  exact ⟨_, _, _, _, _, rfl, h1, h2, h3, h4⟩

/-- flows' bodies are strings that are there -/
def GoodI (its : Nat → List It) : Prop := ∀ j, j < 9 → ∀ x ∈ its j, x.b.size ≤ maxLen
theorem GoodI.push {its : Nat → List It} (h : GoodI its) (r : Rg) (n : Int) {x : It} (hx : x.b.size ≤ maxLen) : GoodI (pushI r its n x) := by
  unfold pushI
  split
  · exact h
  · intro j hj y hy
    by_cases e : j = n.toNat
    · subst e
      rw [updN_same] at hy
      rcases List.mem_append.1 hy with q | q
      · exact h _ hj y q
      · rw [List.mem_singleton.1 q]; exact hx
    · rw [updN_other _ _ e] at hy; exact h j hj y hy
theorem GoodI.drop {its : Nat → List It} (h : GoodI its) (n : Int) : GoodI (dropI its n) := by
  unfold dropI
  split
  · intro j hj y hy
    by_cases e : j = n.toNat
    · subst e; rw [updN_same] at hy; cases hy
    · rw [updN_other _ _ e] at hy; exact h j hj y hy
  · exact h
theorem GoodI.next {its : Nat → List It} (h : GoodI its) (r : Rg) : GoodI (nextI r its) := by
  unfold nextI
  split
  · intro j hj y hy
    by_cases e : j = r.turn.n.toNat
    · subst e; rw [updN_same] at hy; exact h _ hj y (List.mem_of_mem_tail hy)
    · rw [updN_other _ _ e] at hy; exact h j hj y hy
  · exact h

/-- the flows at B hold r and its, the document's, in the box W, hold s and jts -/
structure FlX (w wr : World) (W B k : Nat) (r s : Rg) (its jts : Nat → List It) (a b c fv rv xv : Value) (Z Y : Nat → Prop) : Prop where
  hW : wr.heap[W]? = some (.cells #[a, b, c] 81 (0, 0))
  fw : FwAt wr Z B k r its
  ref : R4 wr Y fv rv xv s jts
  dj : ∀ x, Z x → ¬ Y x
  zW : ¬ Z W
  yW : ¬ Y W
  zw : ∀ x, Z x → w.heap.size ≤ x
  yw : ∀ x, Y x → w.heap.size ≤ x
  wW : w.heap.size ≤ W
  upd : Upd [] w wr
section
variable {w wr w' : World} {W B k : Nat} {r s : Rg} {its jts : Nat → List It} {a b c fv rv xv : Value} {Z Y : Nat → Prop}
theorem FlX.same (h : FlX w wr W B k r s its jts a b c fv rv xv Z Y) (hu : Upd [] wr w') : FlX w w' W B k r s its jts a b c fv rv xv Z Y :=
  ⟨hu.keep0 h.hW, h.fw.upd0 hu, h.ref.upd0 hu, h.dj, h.zW, h.yW, h.zw, h.yw, h.wW, h.upd.trans' hu⟩
theorem FlX.cut (h : FlX w wr W B k r s its jts a b c fv rv xv Z Y) : FlX w wr W B k r s its jts a b c fv rv xv (cutZ Z wr) (cutZ Y wr) :=
  ⟨h.hW, h.fw.cut, h.ref.cut, fun x hz hy => h.dj x hz.1 hy.1, fun q => h.zW q.1, fun q => h.yW q.1, fun x hx => h.zw x hx.1, fun x hx => h.yw x hx.1, h.wW, h.upd⟩
theorem FlX.lt (h : FlX w wr W B k r s its jts a b c fv rv xv Z Y) : W < wr.heap.size := lt_of_heap h.hW
/-- the document's flows are made anew -/
theorem FlX.rf (h : FlX w wr W B k r s its jts a b c fv rv xv Z Y) (hu : Upd [] wr w') {fv' rv' xv' : Value} {s' : Rg} {jts' : Nat → List It} (h' : R4 w' (grow Y wr) fv' rv' xv' s' jts') : FlX w w' W B k r s' its jts' a b c fv' rv' xv' (cutZ Z wr) (grow Y wr) :=
  ⟨hu.keep0 h.hW, (h.fw.cut).upd0 hu, h', fun x hz hy => hy.elim (h.dj x hz.1) (fun q => by have := hz.2; omega), fun q => h.zW q.1, fun q => q.elim h.yW (fun q => by have := h.lt; omega),
    fun x hx => h.zw x hx.1, fun x hx => hx.elim (h.yw x) (Nat.le_trans h.upd.size), h.wW, h.upd.trans' hu⟩
/-- its box is written -/
theorem FlX.put (h : FlX w wr W B k r s its jts a b c fv rv xv Z Y) (a' b' c' : Value) : FlX w (((wr.setCell ⟨W, 0, none⟩ a').setCell ⟨W, 1, none⟩ b').setCell ⟨W, 2, none⟩ c') W B k r s its jts a' b' c' fv rv xv Z Y := by
  have hu : Upd [W] wr (((wr.setCell ⟨W, 0, none⟩ a').setCell ⟨W, 1, none⟩ b').setCell ⟨W, 2, none⟩ c') := (((Upd.refl _ _).setCell (by simp) _).setCell (by simp) _).setCell (by simp) _
  exact ⟨hset3_2 (hset3_1 (hset3_0 h.hW)), h.fw.upd hu (fun x hx => by have := List.mem_singleton.1 hx; subst this; exact h.zW), h.ref.upd hu (fun x hx => by have := List.mem_singleton.1 hx; subst this; exact h.yW), h.dj, h.zW, h.yW, h.zw, h.yw, h.wW,
    h.upd.trans hu (fun x hx => .inr (by have := List.mem_singleton.1 hx; subst this; exact h.wW))⟩
/-- a step of the flows -/
theorem FlX.rg (h : FlX w wr W B k r s its jts a b c fv rv xv Z Y) (hp : UpdP Z wr w') {k' : Nat} {r' : Rg} {its' : Nat → List It} (h' : FwAt w' (grow Z wr) B k' r' its') : FlX w w' W B k' r' s its' jts a b c fv rv xv (grow Z wr) (cutZ Y wr) :=
  ⟨hp.keep h.hW h.zW, h', (h.ref.cut).updP hp (fun x hx => ⟨hx.2, fun q => h.dj x q hx.1⟩), fun x hz hy => hz.elim (fun q => h.dj x q hy.1) (fun q => by have := hy.2; omega), fun q => q.elim h.zW (fun q => by have := h.lt; omega), fun q => h.yW q.1,
    fun x hx => hx.elim (h.zw x) (Nat.le_trans h.upd.size), fun x hx => h.yw x hx.1, h.wW, h.upd.transP hp h.zw⟩
end
end Go.Proofs.Ytabhdigannalgaa
