/-
  Flows in memory, as one notion: the ring, and the nine rows of items beside it. Condition: they are flows that their own functions made, by some hundred steps at most.
-/
import Derived.Test.YtabhdigannalgaaDrrX
import Derived.Test.YtabhdigannalgaaRgOrder
namespace Go.Proofs.Ytabhdigannalgaa
open Go Go.RowKit Go.Maps

def costN (n : Int) : Int := 16 + min (max n 0) 1024
theorem costN_bd (n : Int) : 16 ≤ costN n ∧ costN n ≤ 1040 := by unfold costN; omega

/-- a frame that waits -/
structure It where
  c : Int
  k : Int
  f : Int
  b : ByteArray
  a : Int
def It.zero : It := ⟨0, 0, 0, ⟨#[]⟩, 0⟩
def It.cells (x : It) : List Value := [i64 x.c, i64 x.k, i64 x.f, .string x.b, i64 x.a]
abbrev iv (x : It) : Value := .agg #[i64 x.c, i64 x.k, i64 x.f, .string x.b, i64 x.a]
def It.cost (x : It) : Int := costN x.b.size
def ics (l : List It) : List Value := l.flatMap It.cells
theorem ics_len (l : List It) : (ics l).length = l.length * 5 := by
  unfold ics
  induction l with
  | nil => rfl
  | cons p r ih => simp only [List.flatMap_cons, List.length_append, ih, List.length_cons]; show 5 + _ = _; omega
theorem ics_append (a b : List It) : ics (a ++ b) = ics a ++ ics b := by simp [ics]
theorem ics_get : ∀ (l : List It) (k i : Nat), i < 5 → (ics l)[k * 5 + i]? = (l[k]?).bind fun p => (p.cells)[i]?
  | [], k, i, _ => by simp [ics]
  | p :: r, 0, i, hi => by
    show (p.cells ++ ics r)[0 * 5 + i]? = _
    rw [Nat.zero_mul, Nat.zero_add, List.getElem?_append_left (by show i < 5; exact hi)]
    rfl
  | p :: r, k + 1, i, hi => by
    show (p.cells ++ ics r)[(k + 1) * 5 + i]? = _
    rw [List.getElem?_append_right (by show 5 ≤ _; omega), show (k + 1) * 5 + i - (It.cells p).length = k * 5 + i from by show _ - 5 = _; omega, ics_get r k i hi]
    rfl
theorem ics_one (l : List It) : ∀ u ∈ ics l, u.oneCell' = true := by
  intro u hu
  unfold ics at hu
  obtain ⟨p, hp, hu⟩ := List.mem_flatMap.1 hu
  unfold It.cells at hu
  simp only [List.mem_cons, List.not_mem_nil, or_false] at hu
  rcases hu with h | h | h | h | h
  all_goals (rw [h]; rfl)
/-- the cells of an item of a row -/
theorem its_get {w : World} {e : TypeId} {g off n cap : Nat} {l : List It} (h : Sub w 0 e 5 (.slice (some ⟨g, off, none⟩) n cap) n (ics l)) {k : Nat} (hk : k < l.length) (hn : n = l.length) :
    w.cell? ⟨g, off + k * 5, none⟩ = some (i64 l[k].c) ∧ w.cell? ⟨g, off + k * 5 + 1, none⟩ = some (i64 l[k].k) ∧ w.cell? ⟨g, off + k * 5 + 2, none⟩ = some (i64 l[k].f) ∧ w.cell? ⟨g, off + k * 5 + 3, none⟩ = some (.string l[k].b) ∧ w.cell? ⟨g, off + k * 5 + 4, none⟩ = some (i64 l[k].a) := by
  subst hn
  obtain ⟨ao, cap', he, h1, h2⟩ := h.form
  obtain ⟨g', off', e1, -, -, h3⟩ := h2 (by omega)
  injection he with e2 e3 e4
  rw [e1] at e2
  injection e2 with e2
  injection e2 with e5 e6
  subst e5; subst e6
  have hc : ∀ i, i < 5 → (ics l)[k * 5 + i]? = (l[k].cells)[i]? := fun i hi => by rw [ics_get _ _ _ hi, List.getElem?_eq_getElem hk]; rfl
  exact ⟨h3 _ _ (hc 0 (by omega)), h3 _ _ (hc 1 (by omega)), h3 _ _ (hc 2 (by omega)), h3 _ _ (hc 3 (by omega)), h3 _ _ (hc 4 (by omega))⟩

def tvl (tv : Nat → Value) : List Value := [tv 0, tv 1, tv 2, tv 3, tv 4, tv 5, tv 6, tv 7, tv 8]
theorem tvl_get (tv : Nat → Value) {j : Nat} (hj : j < 9) : (tvl tv)[j]? = some (tv j) := by
  match j, hj with
  | 0, _ => rfl
  | 1, _ => rfl
  | 2, _ => rfl
  | 3, _ => rfl
  | 4, _ => rfl
  | 5, _ => rfl
  | 6, _ => rfl
  | 7, _ => rfl
  | 8, _ => rfl
theorem tvl_set (tv : Nat → Value) {j : Nat} (hj : j < 9) (v : Value) : (tvl tv).set j v = tvl (updN tv j v) := by
  match j, hj with
  | 0, _ => rfl
  | 1, _ => rfl
  | 2, _ => rfl
  | 3, _ => rfl
  | 4, _ => rfl
  | 5, _ => rfl
  | 6, _ => rfl
  | 7, _ => rfl
  | 8, _ => rfl
theorem rty_flows : RTy 63 := ⟨by decide, by decide, by decide⟩

/-- a cell behind the ring is written -/
theorem RingAt.setTl {w : World} {Z : Nat → Prop} {b : Nat} {ty : TypeId} {tl : List Value} {K : Nat} {r : Rg} (h : RingAt w Z b ty tl K r) (j : Nat) (v : Value) : RingAt (w.setCell ⟨b, 2 + j, none⟩ v) Z b ty (tl.set j v) K r := by
  obtain ⟨hty, hok, hsm, M0, blk, mv, rv, cv, hMK, hX⟩ := h
  have hu : Upd [b] w (w.setCell ⟨b, 2 + j, none⟩ v) := (Upd.refl _ _).setCell (by simp) _
  refine ⟨hty, hok, hsm, M0, blk, mv, rv, cv, hMK, ⟨?_, hX.zb, ?_, ?_, hX.zr, fun n f hf => ?_, hX.inj⟩⟩
  · have := heap_setCell hX.hb (2 + j) v
    rw [this]
    congr 2
    apply Array.ext'
    simp only [List.setIfInBounds_toArray, List.toList_toArray]
    rw [show 2 + j = j + 1 + 1 from by omega]
    rfl
  · rcases hX.map with q | ⟨M, h1, h2, h3⟩
    · exact .inl q
    · exact .inr ⟨M, h1, h2, h3.upd hu fun hm => by have := List.mem_singleton.1 hm; exact h3.ne hX.hb this⟩
  · refine hX.row.upd hu fun x hx hm => ?_
    have := List.mem_singleton.1 hm; subst this
    obtain ⟨cs, q⟩ := hX.row.ty _ hx
    exact cells_ne hX.hb q hty.p rfl
  · obtain ⟨h1, h2, h3, h4⟩ := hX.fl n f hf
    refine ⟨hu.keep h1 fun hm => ?_, h2.upd hu fun x hx hm => ?_, h3, h4⟩
    · have := List.mem_singleton.1 hm
      exact cells_ne hX.hb h1 hty.f this.symm
    · have := List.mem_singleton.1 hm; subst this
      obtain ⟨cs, q⟩ := h2.ty _ hx
      exact cells_ne hX.hb q hty.i rfl
/-- the cells of its block -/
theorem RingAt.cells {w : World} {Z : Nat → Prop} {b : Nat} {ty : TypeId} {tl : List Value} {K : Nat} {r : Rg} (h : RingAt w Z b ty tl K r) (j : Nat) : w.cell? ⟨b, 2 + j, none⟩ = tl[j]? ∧ w.frozen? ⟨b, 2 + j, none⟩ = false := by
  obtain ⟨hty, hok, hsm, M0, blk, mv, rv, cv, hMK, hX⟩ := h
  refine ⟨?_, frzOf hX.hb _⟩
  rw [cellOf hX.hb, List.getElem?_toArray, show 2 + j = j + 1 + 1 from by omega]
  rfl
theorem RingAt.ty {w : World} {Z : Nat → Prop} {b : Nat} {ty : TypeId} {tl : List Value} {K : Nat} {r : Rg} (h : RingAt w Z b ty tl K r) : ∃ cs, w.heap[b]? = some (.cells cs ty (0, 0)) := by
  obtain ⟨hty, hok, hsm, M0, blk, mv, rv, cv, hMK, hX⟩ := h
  exact ⟨_, hX.hb⟩

/-- how the ring and the rows hang together -/
def Linked (r : Rg) (its : Nat → List It) : Prop := ∀ j : Nat, j < 9 → (r.fl j = none → its j = []) ∧ ∀ f, r.fl j = some f → f.cs = (its j).map It.cost

structure FwX (w : World) (Z Zr : Nat → Prop) (b K : Nat) (r : Rg) (its : Nat → List It) (tv : Nat → Value) : Prop where
  ring : RingAt w Zr b 63 (tvl tv) K r
  row : ∀ j, j < 9 → Sub w 0 74 5 (tv j) (its j).length (ics (its j))
  zr : ∀ x, Zr x → Z x
  zi : ∀ j, j < 9 → ∀ x ∈ blkL (tv j), Z x ∧ ¬ Zr x
  inj : ∀ i j, i < 9 → j < 9 → i ≠ j → ∀ x ∈ blkL (tv i), x ∉ blkL (tv j)
  len : ∀ j, j < 9 → (its j).length ≤ K
/-- flows of K steps at most -/
def FwAt (w : World) (Z : Nat → Prop) (b K : Nat) (r : Rg) (its : Nat → List It) : Prop := Linked r its ∧ ∃ Zr tv, FwX w Z Zr b K r its tv
section
variable {w w' : World} {Z Zr : Nat → Prop} {b K : Nat} {r : Rg} {its : Nat → List It} {tv : Nat → Value}
theorem FwX.mono (h : FwX w Z Zr b K r its tv) {Z' : Nat → Prop} (hz : ∀ x, Z x → Z' x) {L : Nat} (hl : K ≤ L) : FwX w Z' Zr b L r its tv :=
  ⟨h.ring.more (fun _ q => q) hl, h.row, fun x hx => hz x (h.zr x hx), fun j hj x hx => ⟨hz x (h.zi j hj x hx).1, (h.zi j hj x hx).2⟩, h.inj, fun j hj => Nat.le_trans (h.len j hj) hl⟩
theorem FwX.upd (h : FwX w Z Zr b K r its tv) {S : List Nat} (hu : Upd S w w') (hS : ∀ x ∈ S, ¬ Z x) : FwX w' Z Zr b K r its tv :=
  ⟨h.ring.upd hu fun x hx q => hS x hx (h.zr x q), fun j hj => (h.row j hj).upd hu fun x hx hm => hS x hm (h.zi j hj x hx).1, h.zr, h.zi, h.inj, h.len⟩
theorem FwX.cut (h : FwX w Z Zr b K r its tv) : FwX w (cutZ Z w) (cutZ Zr w) b K r its tv :=
  ⟨h.ring.cut, h.row, fun x hx => ⟨h.zr x hx.1, hx.2⟩, fun j hj x hx => ⟨⟨(h.zi j hj x hx).1, ((h.row j hj).lt x hx).2⟩, fun q => (h.zi j hj x hx).2 q.1⟩, h.inj, h.len⟩
theorem FwX.zb (h : FwX w Z Zr b K r its tv) : Z b := h.zr b h.ring.zb
theorem FwAt.more (h : FwAt w Z b K r its) {Z' : Nat → Prop} (hz : ∀ x, Z x → Z' x) {L : Nat} (hl : K ≤ L) : FwAt w Z' b L r its := by
  obtain ⟨hk, Zr, tv, h⟩ := h
  exact ⟨hk, Zr, tv, h.mono hz hl⟩
theorem FwAt.upd (h : FwAt w Z b K r its) {S : List Nat} (hu : Upd S w w') (hS : ∀ x ∈ S, ¬ Z x) : FwAt w' Z b K r its := by
  obtain ⟨hk, Zr, tv, h⟩ := h
  exact ⟨hk, Zr, tv, h.upd hu hS⟩
theorem FwAt.upd0 (h : FwAt w Z b K r its) (hu : Upd [] w w') : FwAt w' Z b K r its := h.upd hu (by simp)
theorem FwAt.cut (h : FwAt w Z b K r its) : FwAt w (cutZ Z w) b K r its := by
  obtain ⟨hk, Zr, tv, h⟩ := h
  exact ⟨hk, _, tv, h.cut⟩
theorem FwAt.ok (h : FwAt w Z b K r its) : r.ok := by
  obtain ⟨hk, Zr, tv, h⟩ := h
  exact h.ring.ok
/-- the ring has changed, the rows staying -/
theorem FwX.ringed (h : FwX w Z Zr b K r its tv) (hp : UpdP Zr w w') {K' : Nat} {r' : Rg} (h' : RingAt w' (grow Zr w) b 63 (tvl tv) K' r') (hK : K ≤ K') : FwX w' (grow Z w) (grow Zr w) b K' r' its tv := by
  obtain ⟨S, hu, hs⟩ := hp
  refine ⟨h', fun j hj => (h.row j hj).upd hu fun x hx hm => ?_, fun x hx => hx.imp (h.zr x) id, fun j hj x hx => ⟨.inl (h.zi j hj x hx).1, fun q => ?_⟩, h.inj, fun j hj => Nat.le_trans (h.len j hj) hK⟩
  · rcases hs x hm with q | q
    · exact (h.zi j hj x hx).2 q
    · have := ((h.row j hj).lt x hx).2; omega
  · rcases q with q | q
    · exact (h.zi j hj x hx).2 q
    · have := ((h.row j hj).lt x hx).2; omega
/-- one row changes, the ring staying but for the row's own cell -/
theorem FwX.rowed (h : FwX w Z Zr b K r its tv) {n : Nat} (_hn : n < 9) {S : List Nat} {wm : World} (hu : Upd S w wm) (hS : ∀ x ∈ S, x ∈ blkL (tv n) ∨ w.heap.size ≤ x) {v : Value} {l : List It} {K' : Nat} (hv : Sub wm 0 74 5 v l.length (ics l))
    (hb : ∀ x ∈ blkL v, x ∈ blkL (tv n) ∨ w.heap.size ≤ x) (hK : K ≤ K') (hlen : l.length ≤ K') :
    FwX (wm.setCell ⟨b, 2 + n, none⟩ v) (grow Z w) (cutZ Zr w) b K' r (updN its n l) (updN tv n v) ∧ UpdP Z w (wm.setCell ⟨b, 2 + n, none⟩ v) := by
  have hbw : b < w.heap.size := h.ring.lt
  have hrm : RingAt wm (cutZ Zr w) b 63 (tvl tv) K r := (h.ring.cut).upd hu fun x hx q => by
    rcases hS x hx with z | z
    · exact (h.zi n _hn x z).2 q.1
    · have := q.2; omega
  have hu2 : Upd (b :: S) w (wm.setCell ⟨b, 2 + n, none⟩ v) := (hu.mono (by intro x hx; simp [hx])).setCell (by simp) _
  have hbt : ∀ j, j < 9 → b ∉ blkL (tv j) := fun j hj hm => (h.zi j hj b hm).2 h.ring.zb
  have hbv : b ∉ blkL v := fun hm => by
    rcases hb b hm with q | q
    · exact hbt n _hn q
    · omega
  refine ⟨⟨?_, fun j hj => ?_, fun x hx => .inl (h.zr x hx.1), fun j hj x hx => ?_, fun i j hi hj hne x hx hy => ?_, fun j hj => ?_⟩, UpdP.of hu2 fun x hx => ?_⟩
  · have := (hrm.setTl n v).more (fun _ q => q) hK
    rw [tvl_set tv _hn v] at this
    exact this
  · by_cases e : j = n
    · subst e
      rw [updN_same, updN_same]
      exact hv.upd ((Upd.refl [b] wm).setCell (by simp) _) fun x hx hm => by have := List.mem_singleton.1 hm; subst this; exact hbv hx
    · rw [updN_other _ _ e, updN_other _ _ e]
      refine (h.row j hj).upd hu2 fun x hx hm => ?_
      rcases List.mem_cons.1 hm with q | q
      · subst q; exact hbt j hj hx
      · rcases hS x q with z | z
        · exact h.inj j n hj _hn e x hx z
        · have := ((h.row j hj).lt x hx).2; omega
  · by_cases e : j = n
    · subst e
      rw [updN_same] at hx
      rcases hb x hx with q | q
      · exact ⟨.inl (h.zi j hj x q).1, fun z => (h.zi j hj x q).2 z.1⟩
      · exact ⟨.inr q, fun z => by have := z.2; omega⟩
    · rw [updN_other _ _ e] at hx
      exact ⟨.inl (h.zi j hj x hx).1, fun z => (h.zi j hj x hx).2 z.1⟩
  · by_cases e1 : i = n
    · subst e1
      have e2 : j ≠ i := fun e => hne e.symm
      rw [updN_same] at hx
      rw [updN_other _ _ e2] at hy
      rcases hb x hx with q | q
      · exact h.inj i j hi hj hne x q hy
      · have := ((h.row j hj).lt x hy).2; omega
    · by_cases e2 : j = n
      · subst e2
        rw [updN_same] at hy
        rw [updN_other _ _ e1] at hx
        rcases hb x hy with q | q
        · exact h.inj i j hi hj hne x hx q
        · have := ((h.row i hi).lt x hx).2; omega
      · rw [updN_other _ _ e1] at hx
        rw [updN_other _ _ e2] at hy
        exact h.inj i j hi hj hne x hx hy
  · by_cases e : j = n
    · subst e; rw [updN_same]; exact hlen
    · rw [updN_other _ _ e]; exact Nat.le_trans (h.len j hj) hK
  · rcases List.mem_cons.1 hx with q | q
    · subst q; exact .inl h.zb
    · exact (hS x q).imp (fun z => (h.zi n _hn x z).1) id
end
theorem grow_grow {Z : Nat → Prop} {w w' : World} (h : w.heap.size ≤ w'.heap.size) : ∀ x, grow (grow Z w) w' x → grow Z w x := fun x q => by
  rcases q with q | q
  · exact q
  · exact .inr (Nat.le_trans h q)

/-- new flows, their block being there -/
theorem fwAt_new {w : World} {b : Nat} {Z : Nat → Prop} (hb : w.heap[b]? = some (.cells (.map none :: .slice none 0 0 :: tvl fun _ => .slice none 0 0).toArray 63 (0, 0))) (hz : Z b) : FwAt w Z b 0 Rg.new (fun _ => []) :=
  ⟨fun j hj => ⟨fun _ => rfl, fun f hf => by cases hf⟩, Z, fun _ => .slice none 0 0, ringAt_new rty_flows hb Z hz, fun j hj => sub_nil _ _ _ _, fun _ q => q, fun j hj x hx => by simp [blkL] at hx, fun i j hi hj hne x hx => by simp [blkL] at hx, fun j hj => Nat.zero_le _⟩
end Go.Proofs.Ytabhdigannalgaa
