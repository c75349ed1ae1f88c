/-
  A ring and the document's ring beside one another in memory: what each may change. No condition.
-/
import Derived.Test.YtabhdigannalgaaRfSame
import Derived.Test.YtabhdigannalgaaDrrAwake
import Derived.Test.YtabhdigannalgaaRgFair
namespace Go.Proofs.Ytabhdigannalgaa
open Go Go.RowKit

theorem RfAt.updP {w w' : World} {Y Z : Nat → Prop} {fv rv : Value} {r : Rg} (h : RfAt w Y fv rv r) (hp : UpdP Z w w') (hd : ∀ x, Y x → x < w.heap.size ∧ ¬ Z x) : RfAt w' Y fv rv r := by
  obtain ⟨S, hu, hs⟩ := hp
  refine h.upd hu fun x hx hy => ?_
  obtain ⟨h1, h2⟩ := hd x hy
  rcases hs x hx with q | q
  · exact h2 q
  · omega

/-- the ring at B holds r, the document's ring, in the box W, holds s -/
structure DrX (w wr : World) (W B k : Nat) (ty : TypeId) (tl : List Value) (r s : Rg) (a b fv rv : Value) (Z Y : Nat → Prop) : Prop where
  hW : wr.heap[W]? = some (.cells #[a, b] 46 (0, 0))
  ring : RingAt wr Z B ty tl k r
  ref : RfAt wr Y fv rv s
  dj : ∀ x, Z x → ¬ Y x
  zW : ¬ Z W
  yW : ¬ Y W
  zw : ∀ x, Z x → w.heap.size ≤ x
  yw : ∀ x, Y x → w.heap.size ≤ x
  wW : w.heap.size ≤ W
  upd : Upd [] w wr
section
variable {w wr w' : World} {W B k : Nat} {ty : TypeId} {tl : List Value} {r s : Rg} {a b fv rv : Value} {Z Y : Nat → Prop}
theorem DrX.same (h : DrX w wr W B k ty tl r s a b fv rv Z Y) (hu : Upd [] wr w') : DrX w w' W B k ty tl r s a b fv rv Z Y :=
  ⟨hu.keep0 h.hW, h.ring.upd0 hu, h.ref.upd0 hu, h.dj, h.zW, h.yW, h.zw, h.yw, h.wW, h.upd.trans' hu⟩
theorem DrX.cut (h : DrX w wr W B k ty tl r s a b fv rv Z Y) : DrX w wr W B k ty tl r s a b fv rv (cutZ Z wr) (cutZ Y wr) :=
  ⟨h.hW, h.ring.cut, h.ref.cut, fun x hz hy => h.dj x hz.1 hy.1, fun q => h.zW q.1, fun q => h.yW q.1, fun x hx => h.zw x hx.1, fun x hx => h.yw x hx.1, h.wW, h.upd⟩
theorem DrX.lt (h : DrX w wr W B k ty tl r s a b fv rv Z Y) : W < wr.heap.size := lt_of_heap h.hW
/-- the document's ring is made anew -/
theorem DrX.rf (h : DrX w wr W B k ty tl r s a b fv rv Z Y) (hu : Upd [] wr w') {fv' rv' : Value} {s' : Rg} (h' : RfAt w' (grow Y wr) fv' rv' s') : DrX w w' W B k ty tl r s' a b fv' rv' (cutZ Z wr) (grow Y wr) :=
  ⟨hu.keep0 h.hW, (h.ring.cut).upd0 hu, h', fun x hz hy => hy.elim (h.dj x hz.1) (fun q => by have := hz.2; omega), fun q => h.zW q.1, fun q => q.elim h.yW (fun q => by have := h.lt; omega),
    fun x hx => h.zw x hx.1, fun x hx => hx.elim (h.yw x) (Nat.le_trans h.upd.size), h.wW, h.upd.trans' hu⟩
/-- its box is written -/
theorem DrX.put (h : DrX w wr W B k ty tl r s a b fv rv Z Y) (a' b' : Value) : DrX w ((wr.setCell ⟨W, 0, none⟩ a').setCell ⟨W, 1, none⟩ b') W B k ty tl r s a' b' fv rv Z Y := by
  have hu : Upd [W] wr ((wr.setCell ⟨W, 0, none⟩ a').setCell ⟨W, 1, none⟩ b') := ((Upd.refl _ _).setCell (by simp) _).setCell (by simp) _
  exact ⟨hset2_1 (hset2_0 h.hW), h.ring.upd hu (fun x hx => by have := List.mem_singleton.1 hx; subst this; exact h.zW), h.ref.upd hu (fun x hx => by have := List.mem_singleton.1 hx; subst this; exact h.yW), h.dj, h.zW, h.yW, h.zw, h.yw, h.wW,
    h.upd.trans hu (fun x hx => .inr (by have := List.mem_singleton.1 hx; subst this; exact h.wW))⟩
/-- a step of the ring -/
theorem DrX.rg (h : DrX w wr W B k ty tl r s a b fv rv Z Y) (hp : UpdP Z wr w') {k' : Nat} {r' : Rg} {tl' : List Value} (h' : RingAt w' (grow Z wr) B ty tl' k' r') : DrX w w' W B k' ty tl' r' s a b fv rv (grow Z wr) (cutZ Y wr) :=
  ⟨hp.keep h.hW h.zW, h', (h.ref.cut).updP hp (fun x hx => ⟨hx.2, fun q => h.dj x q hx.1⟩), fun x hz hy => hz.elim (fun q => h.dj x q hy.1) (fun q => by have := hy.2; omega), fun q => q.elim h.zW (fun q => by have := h.lt; omega), fun q => h.yW q.1,
    fun x hx => hx.elim (h.zw x) (Nat.le_trans h.upd.size), fun x hx => h.yw x hx.1, h.wW, h.upd.transP hp h.zw⟩
end
end Go.Proofs.Ytabhdigannalgaa
