/-
  Plain notions on worlds that all texts of this work share: what a call may have changed (Upd), and how the cells of a block are read out of the block. No condition.
-/
import Derived.Handy
import Derived.WalkLawsBesides
import Derived.WalkSpells
import Derived.Deep.QuietTactic
import Derived.BigQuiet
import Derived.Lib.Hide
namespace Go.Proofs.Ytagnclphmhjoiaa
open Go Go.RowKit

abbrev i64 (n : Int) : Value := .int .i64 n

/-- Of the blocks that were there only those of the list S may have changed. -/
structure Upd (S : List Nat) (w w' : World) : Prop where
  os : w'.os = w.os
  tape : w'.tape = w.tape
  output : w'.output = w.output
  size : w.heap.size ≤ w'.heap.size
  block : ∀ k, k < w.heap.size → k ∉ S → w'.heap[k]? = w.heap[k]?

theorem Upd.refl (S : List Nat) (w : World) : Upd S w w := ⟨rfl, rfl, rfl, Nat.le_refl _, fun _ _ _ => rfl⟩
theorem Upd.mono {S S' : List Nat} {w w' : World} (h : Upd S w w') (hs : ∀ k, k ∈ S → k ∈ S') : Upd S' w w' :=
  ⟨h.os, h.tape, h.output, h.size, fun k hk hn => h.block k hk fun hm => hn (hs k hm)⟩
/-- blocks that are newer than the first world need not be named -/
theorem Upd.trans {S S' : List Nat} {a b c : World} (h : Upd S a b) (k : Upd S' b c) (hs : ∀ x, x ∈ S' → x ∈ S ∨ a.heap.size ≤ x) : Upd S a c :=
  ⟨k.os.trans h.os, k.tape.trans h.tape, k.output.trans h.output, Nat.le_trans h.size k.size, fun i hi hn =>
    (k.block i (Nat.lt_of_lt_of_le hi h.size) fun hm => by
      rcases hs i hm with h1 | h1
      · exact hn h1
      · omega).trans (h.block i hi hn)⟩
theorem Upd.trans' {S : List Nat} {a b c : World} (h : Upd S a b) (k : Upd S b c) : Upd S a c := h.trans k fun _ hx => .inl hx
theorem Upd.drew {S : List Nat} {a w : World} (h : Upd S a w) : Upd S a w.drew := ⟨h.os, h.tape, h.output, h.size, h.block⟩
theorem Upd.drewN {S : List Nat} {a w : World} (h : Upd S a w) (n : Nat) : Upd S a (w.drewN n) := ⟨h.os, h.tape, h.output, h.size, h.block⟩
theorem Upd.alloc {S : List Nat} {a w : World} (h : Upd S a w) (o : Obj) : Upd S a (w.alloc o) :=
  ⟨h.os, h.tape, h.output, by have := h.size; simp; omega, fun k hk hn => (Below.heap_alloc _ _ _ (Nat.lt_of_lt_of_le hk h.size)).trans (h.block k hk hn)⟩
theorem Upd.setCell {S : List Nat} {a w : World} (h : Upd S a w) {p : Addr} (hp : p.block ∈ S ∨ a.heap.size ≤ p.block) (u : Value) : Upd S a (w.setCell p u) :=
  ⟨h.os, h.tape, h.output, by have := h.size; simp; omega, fun k hk hn => (Below.heap_setCell _ _ _ _ (fun e => by
    subst e
    rcases hp with hp | hp
    · exact hn hp
    · omega)).trans (h.block k hk hn)⟩
theorem Upd.below {w w' : World} (h : Upd [] w w') : Below w.heap.size w w' := ⟨h.os, h.tape, h.output, h.size, fun k hk => h.block k hk (by simp)⟩
theorem Upd.of_below {w w' : World} (h : Below w.heap.size w w') : Upd [] w w' := ⟨h.os, h.tape, h.output, h.size, fun k hk _ => h.block k hk⟩

theorem Upd.grown {S : List Nat} {a w w' : World} {row : Option Nat} (h : Upd S a w) (hg : w.grownBy w' row) (hr : ∀ k, row = some k → k ∈ S ∨ a.heap.size ≤ k) : Upd S a w' :=
  ⟨hg.os.trans h.os, hg.tape.trans h.tape, hg.output.trans h.output, Nat.le_trans h.size hg.size, fun i hi hn =>
    (hg.block i (Nat.lt_of_lt_of_le hi h.size) fun e => by
      rcases hr i e.symm with h1 | h1
      · exact hn h1
      · omega).trans (h.block i hi hn)⟩

theorem lt_of_heap {w : World} {b : Nat} {o : Obj} (h : w.heap[b]? = some o) : b < w.heap.size := by
  rcases Nat.lt_or_ge b w.heap.size with g | g
  · exact g
  · simp [Array.getElem?_eq_none g] at h
theorem Upd.keep {S : List Nat} {w w' : World} (h : Upd S w w') {b : Nat} {o : Obj} (hb : w.heap[b]? = some o) (hn : b ∉ S) : w'.heap[b]? = some o :=
  (h.block b (lt_of_heap hb) hn).trans hb
theorem Upd.keep0 {w w' : World} (h : Upd [] w w') {b : Nat} {o : Obj} (hb : w.heap[b]? = some o) : w'.heap[b]? = some o := h.keep hb (by simp)

/-- a cell out of its block -/
theorem cellOf {w : World} {b : Nat} {cs : Array Value} {t : TypeId} {fr : Nat × Nat} (h : w.heap[b]? = some (.cells cs t fr)) (i : Nat) : w.cell? ⟨b, i, none⟩ = cs[i]? := by
  simp [World.cell?, h]
theorem new_cells {w : World} {b : Nat} {cs : List Value} {t : TypeId} {fr : Nat × Nat} (h : w.heap[b]? = some (.cells cs.toArray t fr)) :
    ∀ j u, cs[j]? = some u → w.cell? ((⟨b, 0, none⟩ : Addr).add j) = some u := by
  intro j u hj
  have e : (⟨b, 0, none⟩ : Addr).add j = ⟨b, j, none⟩ := by
    unfold Addr.add
    by_cases h0 : j = 0
    · rw [if_pos h0, h0]
    · rw [if_neg h0]; simp
  rw [e, cellOf h j]
  simpa using hj
theorem frzOf {w : World} {b : Nat} {cs : Array Value} {t : TypeId} (h : w.heap[b]? = some (.cells cs t (0, 0))) (i : Nat) : w.frozen? ⟨b, i, none⟩ = false := by
  simp [World.frozen?, h]
theorem heap_setCell {w : World} {b : Nat} {cs : Array Value} {t : TypeId} {fr : Nat × Nat} (h : w.heap[b]? = some (.cells cs t fr)) (i : Nat) (v : Value) :
    (w.setCell ⟨b, i, none⟩ v).heap[b]? = some (.cells (cs.setIfInBounds i v) t fr) := by
  simp [World.setCell, Array.getElem?_modify, h]
theorem heap_setCell_ne {w : World} {b c : Nat} {o : Obj} (h : w.heap[b]? = some o) (hne : b ≠ c) (i : Nat) (v : Value) : (w.setCell ⟨c, i, none⟩ v).heap[b]? = some o :=
  (Below.heap_setCell _ _ _ _ hne).trans h
theorem heap_alloc_old {w : World} {b : Nat} {o : Obj} (h : w.heap[b]? = some o) (x : Obj) : (w.alloc x).heap[b]? = some o :=
  (Below.heap_alloc _ _ _ (lt_of_heap h)).trans h
theorem heap_drew {w : World} {b : Nat} {o : Obj} (h : w.heap[b]? = some o) : w.drew.heap[b]? = some o := h
theorem heap_drewN {w : World} {b : Nat} {o : Obj} (h : w.heap[b]? = some o) (n : Nat) : (w.drewN n).heap[b]? = some o := h
theorem heap_alloc_new (w : World) (x : Obj) : (w.alloc x).heap[w.heap.size]? = some x := by
  show (w.heap.push x)[w.heap.size]? = _
  simp

theorem cells1 {w : World} {b : Nat} {t : TypeId} {v0 : Value} (h : w.heap[b]? = some (.cells #[v0] t (0, 0))) : w.cell? ⟨b, 0, none⟩ = some v0 ∧ w.frozen? ⟨b, 0, none⟩ = false :=
  ⟨cellOf h 0, frzOf h 0⟩
theorem cells2 {w : World} {b : Nat} {t : TypeId} {v0 v1 : Value} (h : w.heap[b]? = some (.cells #[v0, v1] t (0, 0))) : w.cell? ⟨b, 0, none⟩ = some v0 ∧ w.cell? ⟨b, 1, none⟩ = some v1 ∧ w.frozen? ⟨b, 0, none⟩ = false ∧ w.frozen? ⟨b, 1, none⟩ = false :=
  ⟨cellOf h 0, cellOf h 1, frzOf h 0, frzOf h 1⟩
theorem cells3 {w : World} {b : Nat} {t : TypeId} {v0 v1 v2 : Value} (h : w.heap[b]? = some (.cells #[v0, v1, v2] t (0, 0))) : w.cell? ⟨b, 0, none⟩ = some v0 ∧ w.cell? ⟨b, 1, none⟩ = some v1 ∧ w.cell? ⟨b, 2, none⟩ = some v2 ∧ w.frozen? ⟨b, 0, none⟩ = false ∧ w.frozen? ⟨b, 1, none⟩ = false ∧ w.frozen? ⟨b, 2, none⟩ = false :=
  ⟨cellOf h 0, cellOf h 1, cellOf h 2, frzOf h 0, frzOf h 1, frzOf h 2⟩
theorem cells4 {w : World} {b : Nat} {t : TypeId} {v0 v1 v2 v3 : Value} (h : w.heap[b]? = some (.cells #[v0, v1, v2, v3] t (0, 0))) : w.cell? ⟨b, 0, none⟩ = some v0 ∧ w.cell? ⟨b, 1, none⟩ = some v1 ∧ w.cell? ⟨b, 2, none⟩ = some v2 ∧ w.cell? ⟨b, 3, none⟩ = some v3 ∧ w.frozen? ⟨b, 0, none⟩ = false ∧ w.frozen? ⟨b, 1, none⟩ = false ∧ w.frozen? ⟨b, 2, none⟩ = false ∧ w.frozen? ⟨b, 3, none⟩ = false :=
  ⟨cellOf h 0, cellOf h 1, cellOf h 2, cellOf h 3, frzOf h 0, frzOf h 1, frzOf h 2, frzOf h 3⟩
theorem cells5 {w : World} {b : Nat} {t : TypeId} {v0 v1 v2 v3 v4 : Value} (h : w.heap[b]? = some (.cells #[v0, v1, v2, v3, v4] t (0, 0))) : w.cell? ⟨b, 0, none⟩ = some v0 ∧ w.cell? ⟨b, 1, none⟩ = some v1 ∧ w.cell? ⟨b, 2, none⟩ = some v2 ∧ w.cell? ⟨b, 3, none⟩ = some v3 ∧ w.cell? ⟨b, 4, none⟩ = some v4 ∧ w.frozen? ⟨b, 0, none⟩ = false ∧ w.frozen? ⟨b, 1, none⟩ = false ∧ w.frozen? ⟨b, 2, none⟩ = false ∧ w.frozen? ⟨b, 3, none⟩ = false ∧ w.frozen? ⟨b, 4, none⟩ = false :=
  ⟨cellOf h 0, cellOf h 1, cellOf h 2, cellOf h 3, cellOf h 4, frzOf h 0, frzOf h 1, frzOf h 2, frzOf h 3, frzOf h 4⟩
theorem cells6 {w : World} {b : Nat} {t : TypeId} {v0 v1 v2 v3 v4 v5 : Value} (h : w.heap[b]? = some (.cells #[v0, v1, v2, v3, v4, v5] t (0, 0))) : w.cell? ⟨b, 0, none⟩ = some v0 ∧ w.cell? ⟨b, 1, none⟩ = some v1 ∧ w.cell? ⟨b, 2, none⟩ = some v2 ∧ w.cell? ⟨b, 3, none⟩ = some v3 ∧ w.cell? ⟨b, 4, none⟩ = some v4 ∧ w.cell? ⟨b, 5, none⟩ = some v5 ∧ w.frozen? ⟨b, 0, none⟩ = false ∧ w.frozen? ⟨b, 1, none⟩ = false ∧ w.frozen? ⟨b, 2, none⟩ = false ∧ w.frozen? ⟨b, 3, none⟩ = false ∧ w.frozen? ⟨b, 4, none⟩ = false ∧ w.frozen? ⟨b, 5, none⟩ = false :=
  ⟨cellOf h 0, cellOf h 1, cellOf h 2, cellOf h 3, cellOf h 4, cellOf h 5, frzOf h 0, frzOf h 1, frzOf h 2, frzOf h 3, frzOf h 4, frzOf h 5⟩
theorem cells7 {w : World} {b : Nat} {t : TypeId} {v0 v1 v2 v3 v4 v5 v6 : Value} (h : w.heap[b]? = some (.cells #[v0, v1, v2, v3, v4, v5, v6] t (0, 0))) : w.cell? ⟨b, 0, none⟩ = some v0 ∧ w.cell? ⟨b, 1, none⟩ = some v1 ∧ w.cell? ⟨b, 2, none⟩ = some v2 ∧ w.cell? ⟨b, 3, none⟩ = some v3 ∧ w.cell? ⟨b, 4, none⟩ = some v4 ∧ w.cell? ⟨b, 5, none⟩ = some v5 ∧ w.cell? ⟨b, 6, none⟩ = some v6 ∧ w.frozen? ⟨b, 0, none⟩ = false ∧ w.frozen? ⟨b, 1, none⟩ = false ∧ w.frozen? ⟨b, 2, none⟩ = false ∧ w.frozen? ⟨b, 3, none⟩ = false ∧ w.frozen? ⟨b, 4, none⟩ = false ∧ w.frozen? ⟨b, 5, none⟩ = false ∧ w.frozen? ⟨b, 6, none⟩ = false :=
  ⟨cellOf h 0, cellOf h 1, cellOf h 2, cellOf h 3, cellOf h 4, cellOf h 5, cellOf h 6, frzOf h 0, frzOf h 1, frzOf h 2, frzOf h 3, frzOf h 4, frzOf h 5, frzOf h 6⟩
theorem cells8 {w : World} {b : Nat} {t : TypeId} {v0 v1 v2 v3 v4 v5 v6 v7 : Value} (h : w.heap[b]? = some (.cells #[v0, v1, v2, v3, v4, v5, v6, v7] t (0, 0))) : w.cell? ⟨b, 0, none⟩ = some v0 ∧ w.cell? ⟨b, 1, none⟩ = some v1 ∧ w.cell? ⟨b, 2, none⟩ = some v2 ∧ w.cell? ⟨b, 3, none⟩ = some v3 ∧ w.cell? ⟨b, 4, none⟩ = some v4 ∧ w.cell? ⟨b, 5, none⟩ = some v5 ∧ w.cell? ⟨b, 6, none⟩ = some v6 ∧ w.cell? ⟨b, 7, none⟩ = some v7 ∧ w.frozen? ⟨b, 0, none⟩ = false ∧ w.frozen? ⟨b, 1, none⟩ = false ∧ w.frozen? ⟨b, 2, none⟩ = false ∧ w.frozen? ⟨b, 3, none⟩ = false ∧ w.frozen? ⟨b, 4, none⟩ = false ∧ w.frozen? ⟨b, 5, none⟩ = false ∧ w.frozen? ⟨b, 6, none⟩ = false ∧ w.frozen? ⟨b, 7, none⟩ = false :=
  ⟨cellOf h 0, cellOf h 1, cellOf h 2, cellOf h 3, cellOf h 4, cellOf h 5, cellOf h 6, cellOf h 7, frzOf h 0, frzOf h 1, frzOf h 2, frzOf h 3, frzOf h 4, frzOf h 5, frzOf h 6, frzOf h 7⟩
theorem cells9 {w : World} {b : Nat} {t : TypeId} {v0 v1 v2 v3 v4 v5 v6 v7 v8 : Value} (h : w.heap[b]? = some (.cells #[v0, v1, v2, v3, v4, v5, v6, v7, v8] t (0, 0))) : w.cell? ⟨b, 0, none⟩ = some v0 ∧ w.cell? ⟨b, 1, none⟩ = some v1 ∧ w.cell? ⟨b, 2, none⟩ = some v2 ∧ w.cell? ⟨b, 3, none⟩ = some v3 ∧ w.cell? ⟨b, 4, none⟩ = some v4 ∧ w.cell? ⟨b, 5, none⟩ = some v5 ∧ w.cell? ⟨b, 6, none⟩ = some v6 ∧ w.cell? ⟨b, 7, none⟩ = some v7 ∧ w.cell? ⟨b, 8, none⟩ = some v8 ∧ w.frozen? ⟨b, 0, none⟩ = false ∧ w.frozen? ⟨b, 1, none⟩ = false ∧ w.frozen? ⟨b, 2, none⟩ = false ∧ w.frozen? ⟨b, 3, none⟩ = false ∧ w.frozen? ⟨b, 4, none⟩ = false ∧ w.frozen? ⟨b, 5, none⟩ = false ∧ w.frozen? ⟨b, 6, none⟩ = false ∧ w.frozen? ⟨b, 7, none⟩ = false ∧ w.frozen? ⟨b, 8, none⟩ = false :=
  ⟨cellOf h 0, cellOf h 1, cellOf h 2, cellOf h 3, cellOf h 4, cellOf h 5, cellOf h 6, cellOf h 7, cellOf h 8, frzOf h 0, frzOf h 1, frzOf h 2, frzOf h 3, frzOf h 4, frzOf h 5, frzOf h 6, frzOf h 7, frzOf h 8⟩
theorem cells10 {w : World} {b : Nat} {t : TypeId} {v0 v1 v2 v3 v4 v5 v6 v7 v8 v9 : Value} (h : w.heap[b]? = some (.cells #[v0, v1, v2, v3, v4, v5, v6, v7, v8, v9] t (0, 0))) : w.cell? ⟨b, 0, none⟩ = some v0 ∧ w.cell? ⟨b, 1, none⟩ = some v1 ∧ w.cell? ⟨b, 2, none⟩ = some v2 ∧ w.cell? ⟨b, 3, none⟩ = some v3 ∧ w.cell? ⟨b, 4, none⟩ = some v4 ∧ w.cell? ⟨b, 5, none⟩ = some v5 ∧ w.cell? ⟨b, 6, none⟩ = some v6 ∧ w.cell? ⟨b, 7, none⟩ = some v7 ∧ w.cell? ⟨b, 8, none⟩ = some v8 ∧ w.cell? ⟨b, 9, none⟩ = some v9 ∧ w.frozen? ⟨b, 0, none⟩ = false ∧ w.frozen? ⟨b, 1, none⟩ = false ∧ w.frozen? ⟨b, 2, none⟩ = false ∧ w.frozen? ⟨b, 3, none⟩ = false ∧ w.frozen? ⟨b, 4, none⟩ = false ∧ w.frozen? ⟨b, 5, none⟩ = false ∧ w.frozen? ⟨b, 6, none⟩ = false ∧ w.frozen? ⟨b, 7, none⟩ = false ∧ w.frozen? ⟨b, 8, none⟩ = false ∧ w.frozen? ⟨b, 9, none⟩ = false :=
  ⟨cellOf h 0, cellOf h 1, cellOf h 2, cellOf h 3, cellOf h 4, cellOf h 5, cellOf h 6, cellOf h 7, cellOf h 8, cellOf h 9, frzOf h 0, frzOf h 1, frzOf h 2, frzOf h 3, frzOf h 4, frzOf h 5, frzOf h 6, frzOf h 7, frzOf h 8, frzOf h 9⟩
theorem cells11 {w : World} {b : Nat} {t : TypeId} {v0 v1 v2 v3 v4 v5 v6 v7 v8 v9 v10 : Value} (h : w.heap[b]? = some (.cells #[v0, v1, v2, v3, v4, v5, v6, v7, v8, v9, v10] t (0, 0))) : w.cell? ⟨b, 0, none⟩ = some v0 ∧ w.cell? ⟨b, 1, none⟩ = some v1 ∧ w.cell? ⟨b, 2, none⟩ = some v2 ∧ w.cell? ⟨b, 3, none⟩ = some v3 ∧ w.cell? ⟨b, 4, none⟩ = some v4 ∧ w.cell? ⟨b, 5, none⟩ = some v5 ∧ w.cell? ⟨b, 6, none⟩ = some v6 ∧ w.cell? ⟨b, 7, none⟩ = some v7 ∧ w.cell? ⟨b, 8, none⟩ = some v8 ∧ w.cell? ⟨b, 9, none⟩ = some v9 ∧ w.cell? ⟨b, 10, none⟩ = some v10 ∧ w.frozen? ⟨b, 0, none⟩ = false ∧ w.frozen? ⟨b, 1, none⟩ = false ∧ w.frozen? ⟨b, 2, none⟩ = false ∧ w.frozen? ⟨b, 3, none⟩ = false ∧ w.frozen? ⟨b, 4, none⟩ = false ∧ w.frozen? ⟨b, 5, none⟩ = false ∧ w.frozen? ⟨b, 6, none⟩ = false ∧ w.frozen? ⟨b, 7, none⟩ = false ∧ w.frozen? ⟨b, 8, none⟩ = false ∧ w.frozen? ⟨b, 9, none⟩ = false ∧ w.frozen? ⟨b, 10, none⟩ = false :=
  ⟨cellOf h 0, cellOf h 1, cellOf h 2, cellOf h 3, cellOf h 4, cellOf h 5, cellOf h 6, cellOf h 7, cellOf h 8, cellOf h 9, cellOf h 10, frzOf h 0, frzOf h 1, frzOf h 2, frzOf h 3, frzOf h 4, frzOf h 5, frzOf h 6, frzOf h 7, frzOf h 8, frzOf h 9, frzOf h 10⟩
theorem cells12 {w : World} {b : Nat} {t : TypeId} {v0 v1 v2 v3 v4 v5 v6 v7 v8 v9 v10 v11 : Value} (h : w.heap[b]? = some (.cells #[v0, v1, v2, v3, v4, v5, v6, v7, v8, v9, v10, v11] t (0, 0))) : w.cell? ⟨b, 0, none⟩ = some v0 ∧ w.cell? ⟨b, 1, none⟩ = some v1 ∧ w.cell? ⟨b, 2, none⟩ = some v2 ∧ w.cell? ⟨b, 3, none⟩ = some v3 ∧ w.cell? ⟨b, 4, none⟩ = some v4 ∧ w.cell? ⟨b, 5, none⟩ = some v5 ∧ w.cell? ⟨b, 6, none⟩ = some v6 ∧ w.cell? ⟨b, 7, none⟩ = some v7 ∧ w.cell? ⟨b, 8, none⟩ = some v8 ∧ w.cell? ⟨b, 9, none⟩ = some v9 ∧ w.cell? ⟨b, 10, none⟩ = some v10 ∧ w.cell? ⟨b, 11, none⟩ = some v11 ∧ w.frozen? ⟨b, 0, none⟩ = false ∧ w.frozen? ⟨b, 1, none⟩ = false ∧ w.frozen? ⟨b, 2, none⟩ = false ∧ w.frozen? ⟨b, 3, none⟩ = false ∧ w.frozen? ⟨b, 4, none⟩ = false ∧ w.frozen? ⟨b, 5, none⟩ = false ∧ w.frozen? ⟨b, 6, none⟩ = false ∧ w.frozen? ⟨b, 7, none⟩ = false ∧ w.frozen? ⟨b, 8, none⟩ = false ∧ w.frozen? ⟨b, 9, none⟩ = false ∧ w.frozen? ⟨b, 10, none⟩ = false ∧ w.frozen? ⟨b, 11, none⟩ = false :=
  ⟨cellOf h 0, cellOf h 1, cellOf h 2, cellOf h 3, cellOf h 4, cellOf h 5, cellOf h 6, cellOf h 7, cellOf h 8, cellOf h 9, cellOf h 10, cellOf h 11, frzOf h 0, frzOf h 1, frzOf h 2, frzOf h 3, frzOf h 4, frzOf h 5, frzOf h 6, frzOf h 7, frzOf h 8, frzOf h 9, frzOf h 10, frzOf h 11⟩
theorem cells13 {w : World} {b : Nat} {t : TypeId} {v0 v1 v2 v3 v4 v5 v6 v7 v8 v9 v10 v11 v12 : Value} (h : w.heap[b]? = some (.cells #[v0, v1, v2, v3, v4, v5, v6, v7, v8, v9, v10, v11, v12] t (0, 0))) : w.cell? ⟨b, 0, none⟩ = some v0 ∧ w.cell? ⟨b, 1, none⟩ = some v1 ∧ w.cell? ⟨b, 2, none⟩ = some v2 ∧ w.cell? ⟨b, 3, none⟩ = some v3 ∧ w.cell? ⟨b, 4, none⟩ = some v4 ∧ w.cell? ⟨b, 5, none⟩ = some v5 ∧ w.cell? ⟨b, 6, none⟩ = some v6 ∧ w.cell? ⟨b, 7, none⟩ = some v7 ∧ w.cell? ⟨b, 8, none⟩ = some v8 ∧ w.cell? ⟨b, 9, none⟩ = some v9 ∧ w.cell? ⟨b, 10, none⟩ = some v10 ∧ w.cell? ⟨b, 11, none⟩ = some v11 ∧ w.cell? ⟨b, 12, none⟩ = some v12 ∧ w.frozen? ⟨b, 0, none⟩ = false ∧ w.frozen? ⟨b, 1, none⟩ = false ∧ w.frozen? ⟨b, 2, none⟩ = false ∧ w.frozen? ⟨b, 3, none⟩ = false ∧ w.frozen? ⟨b, 4, none⟩ = false ∧ w.frozen? ⟨b, 5, none⟩ = false ∧ w.frozen? ⟨b, 6, none⟩ = false ∧ w.frozen? ⟨b, 7, none⟩ = false ∧ w.frozen? ⟨b, 8, none⟩ = false ∧ w.frozen? ⟨b, 9, none⟩ = false ∧ w.frozen? ⟨b, 10, none⟩ = false ∧ w.frozen? ⟨b, 11, none⟩ = false ∧ w.frozen? ⟨b, 12, none⟩ = false :=
  ⟨cellOf h 0, cellOf h 1, cellOf h 2, cellOf h 3, cellOf h 4, cellOf h 5, cellOf h 6, cellOf h 7, cellOf h 8, cellOf h 9, cellOf h 10, cellOf h 11, cellOf h 12, frzOf h 0, frzOf h 1, frzOf h 2, frzOf h 3, frzOf h 4, frzOf h 5, frzOf h 6, frzOf h 7, frzOf h 8, frzOf h 9, frzOf h 10, frzOf h 11, frzOf h 12⟩
theorem cells14 {w : World} {b : Nat} {t : TypeId} {v0 v1 v2 v3 v4 v5 v6 v7 v8 v9 v10 v11 v12 v13 : Value} (h : w.heap[b]? = some (.cells #[v0, v1, v2, v3, v4, v5, v6, v7, v8, v9, v10, v11, v12, v13] t (0, 0))) : w.cell? ⟨b, 0, none⟩ = some v0 ∧ w.cell? ⟨b, 1, none⟩ = some v1 ∧ w.cell? ⟨b, 2, none⟩ = some v2 ∧ w.cell? ⟨b, 3, none⟩ = some v3 ∧ w.cell? ⟨b, 4, none⟩ = some v4 ∧ w.cell? ⟨b, 5, none⟩ = some v5 ∧ w.cell? ⟨b, 6, none⟩ = some v6 ∧ w.cell? ⟨b, 7, none⟩ = some v7 ∧ w.cell? ⟨b, 8, none⟩ = some v8 ∧ w.cell? ⟨b, 9, none⟩ = some v9 ∧ w.cell? ⟨b, 10, none⟩ = some v10 ∧ w.cell? ⟨b, 11, none⟩ = some v11 ∧ w.cell? ⟨b, 12, none⟩ = some v12 ∧ w.cell? ⟨b, 13, none⟩ = some v13 ∧ w.frozen? ⟨b, 0, none⟩ = false ∧ w.frozen? ⟨b, 1, none⟩ = false ∧ w.frozen? ⟨b, 2, none⟩ = false ∧ w.frozen? ⟨b, 3, none⟩ = false ∧ w.frozen? ⟨b, 4, none⟩ = false ∧ w.frozen? ⟨b, 5, none⟩ = false ∧ w.frozen? ⟨b, 6, none⟩ = false ∧ w.frozen? ⟨b, 7, none⟩ = false ∧ w.frozen? ⟨b, 8, none⟩ = false ∧ w.frozen? ⟨b, 9, none⟩ = false ∧ w.frozen? ⟨b, 10, none⟩ = false ∧ w.frozen? ⟨b, 11, none⟩ = false ∧ w.frozen? ⟨b, 12, none⟩ = false ∧ w.frozen? ⟨b, 13, none⟩ = false :=
  ⟨cellOf h 0, cellOf h 1, cellOf h 2, cellOf h 3, cellOf h 4, cellOf h 5, cellOf h 6, cellOf h 7, cellOf h 8, cellOf h 9, cellOf h 10, cellOf h 11, cellOf h 12, cellOf h 13, frzOf h 0, frzOf h 1, frzOf h 2, frzOf h 3, frzOf h 4, frzOf h 5, frzOf h 6, frzOf h 7, frzOf h 8, frzOf h 9, frzOf h 10, frzOf h 11, frzOf h 12, frzOf h 13⟩
theorem hset1_0 {w : World} {b : Nat} {t : TypeId} {fr : Nat × Nat} {v0 v : Value} (h : w.heap[b]? = some (.cells #[v0] t fr)) : (w.setCell ⟨b, 0, none⟩ v).heap[b]? = some (.cells #[v] t fr) := heap_setCell h 0 v
theorem hset2_0 {w : World} {b : Nat} {t : TypeId} {fr : Nat × Nat} {v0 v1 v : Value} (h : w.heap[b]? = some (.cells #[v0, v1] t fr)) : (w.setCell ⟨b, 0, none⟩ v).heap[b]? = some (.cells #[v, v1] t fr) := heap_setCell h 0 v
theorem hset2_1 {w : World} {b : Nat} {t : TypeId} {fr : Nat × Nat} {v0 v1 v : Value} (h : w.heap[b]? = some (.cells #[v0, v1] t fr)) : (w.setCell ⟨b, 1, none⟩ v).heap[b]? = some (.cells #[v0, v] t fr) := heap_setCell h 1 v
theorem hset3_0 {w : World} {b : Nat} {t : TypeId} {fr : Nat × Nat} {v0 v1 v2 v : Value} (h : w.heap[b]? = some (.cells #[v0, v1, v2] t fr)) : (w.setCell ⟨b, 0, none⟩ v).heap[b]? = some (.cells #[v, v1, v2] t fr) := heap_setCell h 0 v
theorem hset3_1 {w : World} {b : Nat} {t : TypeId} {fr : Nat × Nat} {v0 v1 v2 v : Value} (h : w.heap[b]? = some (.cells #[v0, v1, v2] t fr)) : (w.setCell ⟨b, 1, none⟩ v).heap[b]? = some (.cells #[v0, v, v2] t fr) := heap_setCell h 1 v
theorem hset3_2 {w : World} {b : Nat} {t : TypeId} {fr : Nat × Nat} {v0 v1 v2 v : Value} (h : w.heap[b]? = some (.cells #[v0, v1, v2] t fr)) : (w.setCell ⟨b, 2, none⟩ v).heap[b]? = some (.cells #[v0, v1, v] t fr) := heap_setCell h 2 v
theorem hset4_0 {w : World} {b : Nat} {t : TypeId} {fr : Nat × Nat} {v0 v1 v2 v3 v : Value} (h : w.heap[b]? = some (.cells #[v0, v1, v2, v3] t fr)) : (w.setCell ⟨b, 0, none⟩ v).heap[b]? = some (.cells #[v, v1, v2, v3] t fr) := heap_setCell h 0 v
theorem hset4_1 {w : World} {b : Nat} {t : TypeId} {fr : Nat × Nat} {v0 v1 v2 v3 v : Value} (h : w.heap[b]? = some (.cells #[v0, v1, v2, v3] t fr)) : (w.setCell ⟨b, 1, none⟩ v).heap[b]? = some (.cells #[v0, v, v2, v3] t fr) := heap_setCell h 1 v
theorem hset4_2 {w : World} {b : Nat} {t : TypeId} {fr : Nat × Nat} {v0 v1 v2 v3 v : Value} (h : w.heap[b]? = some (.cells #[v0, v1, v2, v3] t fr)) : (w.setCell ⟨b, 2, none⟩ v).heap[b]? = some (.cells #[v0, v1, v, v3] t fr) := heap_setCell h 2 v
theorem hset4_3 {w : World} {b : Nat} {t : TypeId} {fr : Nat × Nat} {v0 v1 v2 v3 v : Value} (h : w.heap[b]? = some (.cells #[v0, v1, v2, v3] t fr)) : (w.setCell ⟨b, 3, none⟩ v).heap[b]? = some (.cells #[v0, v1, v2, v] t fr) := heap_setCell h 3 v
theorem hset5_0 {w : World} {b : Nat} {t : TypeId} {fr : Nat × Nat} {v0 v1 v2 v3 v4 v : Value} (h : w.heap[b]? = some (.cells #[v0, v1, v2, v3, v4] t fr)) : (w.setCell ⟨b, 0, none⟩ v).heap[b]? = some (.cells #[v, v1, v2, v3, v4] t fr) := heap_setCell h 0 v
theorem hset5_1 {w : World} {b : Nat} {t : TypeId} {fr : Nat × Nat} {v0 v1 v2 v3 v4 v : Value} (h : w.heap[b]? = some (.cells #[v0, v1, v2, v3, v4] t fr)) : (w.setCell ⟨b, 1, none⟩ v).heap[b]? = some (.cells #[v0, v, v2, v3, v4] t fr) := heap_setCell h 1 v
theorem hset5_2 {w : World} {b : Nat} {t : TypeId} {fr : Nat × Nat} {v0 v1 v2 v3 v4 v : Value} (h : w.heap[b]? = some (.cells #[v0, v1, v2, v3, v4] t fr)) : (w.setCell ⟨b, 2, none⟩ v).heap[b]? = some (.cells #[v0, v1, v, v3, v4] t fr) := heap_setCell h 2 v
theorem hset5_3 {w : World} {b : Nat} {t : TypeId} {fr : Nat × Nat} {v0 v1 v2 v3 v4 v : Value} (h : w.heap[b]? = some (.cells #[v0, v1, v2, v3, v4] t fr)) : (w.setCell ⟨b, 3, none⟩ v).heap[b]? = some (.cells #[v0, v1, v2, v, v4] t fr) := heap_setCell h 3 v
theorem hset5_4 {w : World} {b : Nat} {t : TypeId} {fr : Nat × Nat} {v0 v1 v2 v3 v4 v : Value} (h : w.heap[b]? = some (.cells #[v0, v1, v2, v3, v4] t fr)) : (w.setCell ⟨b, 4, none⟩ v).heap[b]? = some (.cells #[v0, v1, v2, v3, v] t fr) := heap_setCell h 4 v
theorem hset6_0 {w : World} {b : Nat} {t : TypeId} {fr : Nat × Nat} {v0 v1 v2 v3 v4 v5 v : Value} (h : w.heap[b]? = some (.cells #[v0, v1, v2, v3, v4, v5] t fr)) : (w.setCell ⟨b, 0, none⟩ v).heap[b]? = some (.cells #[v, v1, v2, v3, v4, v5] t fr) := heap_setCell h 0 v
theorem hset6_1 {w : World} {b : Nat} {t : TypeId} {fr : Nat × Nat} {v0 v1 v2 v3 v4 v5 v : Value} (h : w.heap[b]? = some (.cells #[v0, v1, v2, v3, v4, v5] t fr)) : (w.setCell ⟨b, 1, none⟩ v).heap[b]? = some (.cells #[v0, v, v2, v3, v4, v5] t fr) := heap_setCell h 1 v
theorem hset6_2 {w : World} {b : Nat} {t : TypeId} {fr : Nat × Nat} {v0 v1 v2 v3 v4 v5 v : Value} (h : w.heap[b]? = some (.cells #[v0, v1, v2, v3, v4, v5] t fr)) : (w.setCell ⟨b, 2, none⟩ v).heap[b]? = some (.cells #[v0, v1, v, v3, v4, v5] t fr) := heap_setCell h 2 v
theorem hset6_3 {w : World} {b : Nat} {t : TypeId} {fr : Nat × Nat} {v0 v1 v2 v3 v4 v5 v : Value} (h : w.heap[b]? = some (.cells #[v0, v1, v2, v3, v4, v5] t fr)) : (w.setCell ⟨b, 3, none⟩ v).heap[b]? = some (.cells #[v0, v1, v2, v, v4, v5] t fr) := heap_setCell h 3 v
theorem hset6_4 {w : World} {b : Nat} {t : TypeId} {fr : Nat × Nat} {v0 v1 v2 v3 v4 v5 v : Value} (h : w.heap[b]? = some (.cells #[v0, v1, v2, v3, v4, v5] t fr)) : (w.setCell ⟨b, 4, none⟩ v).heap[b]? = some (.cells #[v0, v1, v2, v3, v, v5] t fr) := heap_setCell h 4 v
theorem hset6_5 {w : World} {b : Nat} {t : TypeId} {fr : Nat × Nat} {v0 v1 v2 v3 v4 v5 v : Value} (h : w.heap[b]? = some (.cells #[v0, v1, v2, v3, v4, v5] t fr)) : (w.setCell ⟨b, 5, none⟩ v).heap[b]? = some (.cells #[v0, v1, v2, v3, v4, v] t fr) := heap_setCell h 5 v
theorem hset7_0 {w : World} {b : Nat} {t : TypeId} {fr : Nat × Nat} {v0 v1 v2 v3 v4 v5 v6 v : Value} (h : w.heap[b]? = some (.cells #[v0, v1, v2, v3, v4, v5, v6] t fr)) : (w.setCell ⟨b, 0, none⟩ v).heap[b]? = some (.cells #[v, v1, v2, v3, v4, v5, v6] t fr) := heap_setCell h 0 v
theorem hset7_1 {w : World} {b : Nat} {t : TypeId} {fr : Nat × Nat} {v0 v1 v2 v3 v4 v5 v6 v : Value} (h : w.heap[b]? = some (.cells #[v0, v1, v2, v3, v4, v5, v6] t fr)) : (w.setCell ⟨b, 1, none⟩ v).heap[b]? = some (.cells #[v0, v, v2, v3, v4, v5, v6] t fr) := heap_setCell h 1 v
theorem hset7_2 {w : World} {b : Nat} {t : TypeId} {fr : Nat × Nat} {v0 v1 v2 v3 v4 v5 v6 v : Value} (h : w.heap[b]? = some (.cells #[v0, v1, v2, v3, v4, v5, v6] t fr)) : (w.setCell ⟨b, 2, none⟩ v).heap[b]? = some (.cells #[v0, v1, v, v3, v4, v5, v6] t fr) := heap_setCell h 2 v
theorem hset7_3 {w : World} {b : Nat} {t : TypeId} {fr : Nat × Nat} {v0 v1 v2 v3 v4 v5 v6 v : Value} (h : w.heap[b]? = some (.cells #[v0, v1, v2, v3, v4, v5, v6] t fr)) : (w.setCell ⟨b, 3, none⟩ v).heap[b]? = some (.cells #[v0, v1, v2, v, v4, v5, v6] t fr) := heap_setCell h 3 v
theorem hset7_4 {w : World} {b : Nat} {t : TypeId} {fr : Nat × Nat} {v0 v1 v2 v3 v4 v5 v6 v : Value} (h : w.heap[b]? = some (.cells #[v0, v1, v2, v3, v4, v5, v6] t fr)) : (w.setCell ⟨b, 4, none⟩ v).heap[b]? = some (.cells #[v0, v1, v2, v3, v, v5, v6] t fr) := heap_setCell h 4 v
theorem hset7_5 {w : World} {b : Nat} {t : TypeId} {fr : Nat × Nat} {v0 v1 v2 v3 v4 v5 v6 v : Value} (h : w.heap[b]? = some (.cells #[v0, v1, v2, v3, v4, v5, v6] t fr)) : (w.setCell ⟨b, 5, none⟩ v).heap[b]? = some (.cells #[v0, v1, v2, v3, v4, v, v6] t fr) := heap_setCell h 5 v
theorem hset7_6 {w : World} {b : Nat} {t : TypeId} {fr : Nat × Nat} {v0 v1 v2 v3 v4 v5 v6 v : Value} (h : w.heap[b]? = some (.cells #[v0, v1, v2, v3, v4, v5, v6] t fr)) : (w.setCell ⟨b, 6, none⟩ v).heap[b]? = some (.cells #[v0, v1, v2, v3, v4, v5, v] t fr) := heap_setCell h 6 v
theorem hset8_0 {w : World} {b : Nat} {t : TypeId} {fr : Nat × Nat} {v0 v1 v2 v3 v4 v5 v6 v7 v : Value} (h : w.heap[b]? = some (.cells #[v0, v1, v2, v3, v4, v5, v6, v7] t fr)) : (w.setCell ⟨b, 0, none⟩ v).heap[b]? = some (.cells #[v, v1, v2, v3, v4, v5, v6, v7] t fr) := heap_setCell h 0 v
theorem hset8_1 {w : World} {b : Nat} {t : TypeId} {fr : Nat × Nat} {v0 v1 v2 v3 v4 v5 v6 v7 v : Value} (h : w.heap[b]? = some (.cells #[v0, v1, v2, v3, v4, v5, v6, v7] t fr)) : (w.setCell ⟨b, 1, none⟩ v).heap[b]? = some (.cells #[v0, v, v2, v3, v4, v5, v6, v7] t fr) := heap_setCell h 1 v
theorem hset8_2 {w : World} {b : Nat} {t : TypeId} {fr : Nat × Nat} {v0 v1 v2 v3 v4 v5 v6 v7 v : Value} (h : w.heap[b]? = some (.cells #[v0, v1, v2, v3, v4, v5, v6, v7] t fr)) : (w.setCell ⟨b, 2, none⟩ v).heap[b]? = some (.cells #[v0, v1, v, v3, v4, v5, v6, v7] t fr) := heap_setCell h 2 v
theorem hset8_3 {w : World} {b : Nat} {t : TypeId} {fr : Nat × Nat} {v0 v1 v2 v3 v4 v5 v6 v7 v : Value} (h : w.heap[b]? = some (.cells #[v0, v1, v2, v3, v4, v5, v6, v7] t fr)) : (w.setCell ⟨b, 3, none⟩ v).heap[b]? = some (.cells #[v0, v1, v2, v, v4, v5, v6, v7] t fr) := heap_setCell h 3 v
theorem hset8_4 {w : World} {b : Nat} {t : TypeId} {fr : Nat × Nat} {v0 v1 v2 v3 v4 v5 v6 v7 v : Value} (h : w.heap[b]? = some (.cells #[v0, v1, v2, v3, v4, v5, v6, v7] t fr)) : (w.setCell ⟨b, 4, none⟩ v).heap[b]? = some (.cells #[v0, v1, v2, v3, v, v5, v6, v7] t fr) := heap_setCell h 4 v
theorem hset8_5 {w : World} {b : Nat} {t : TypeId} {fr : Nat × Nat} {v0 v1 v2 v3 v4 v5 v6 v7 v : Value} (h : w.heap[b]? = some (.cells #[v0, v1, v2, v3, v4, v5, v6, v7] t fr)) : (w.setCell ⟨b, 5, none⟩ v).heap[b]? = some (.cells #[v0, v1, v2, v3, v4, v, v6, v7] t fr) := heap_setCell h 5 v
theorem hset8_6 {w : World} {b : Nat} {t : TypeId} {fr : Nat × Nat} {v0 v1 v2 v3 v4 v5 v6 v7 v : Value} (h : w.heap[b]? = some (.cells #[v0, v1, v2, v3, v4, v5, v6, v7] t fr)) : (w.setCell ⟨b, 6, none⟩ v).heap[b]? = some (.cells #[v0, v1, v2, v3, v4, v5, v, v7] t fr) := heap_setCell h 6 v
theorem hset8_7 {w : World} {b : Nat} {t : TypeId} {fr : Nat × Nat} {v0 v1 v2 v3 v4 v5 v6 v7 v : Value} (h : w.heap[b]? = some (.cells #[v0, v1, v2, v3, v4, v5, v6, v7] t fr)) : (w.setCell ⟨b, 7, none⟩ v).heap[b]? = some (.cells #[v0, v1, v2, v3, v4, v5, v6, v] t fr) := heap_setCell h 7 v
theorem hset9_0 {w : World} {b : Nat} {t : TypeId} {fr : Nat × Nat} {v0 v1 v2 v3 v4 v5 v6 v7 v8 v : Value} (h : w.heap[b]? = some (.cells #[v0, v1, v2, v3, v4, v5, v6, v7, v8] t fr)) : (w.setCell ⟨b, 0, none⟩ v).heap[b]? = some (.cells #[v, v1, v2, v3, v4, v5, v6, v7, v8] t fr) := heap_setCell h 0 v
theorem hset9_1 {w : World} {b : Nat} {t : TypeId} {fr : Nat × Nat} {v0 v1 v2 v3 v4 v5 v6 v7 v8 v : Value} (h : w.heap[b]? = some (.cells #[v0, v1, v2, v3, v4, v5, v6, v7, v8] t fr)) : (w.setCell ⟨b, 1, none⟩ v).heap[b]? = some (.cells #[v0, v, v2, v3, v4, v5, v6, v7, v8] t fr) := heap_setCell h 1 v
theorem hset9_2 {w : World} {b : Nat} {t : TypeId} {fr : Nat × Nat} {v0 v1 v2 v3 v4 v5 v6 v7 v8 v : Value} (h : w.heap[b]? = some (.cells #[v0, v1, v2, v3, v4, v5, v6, v7, v8] t fr)) : (w.setCell ⟨b, 2, none⟩ v).heap[b]? = some (.cells #[v0, v1, v, v3, v4, v5, v6, v7, v8] t fr) := heap_setCell h 2 v
theorem hset9_3 {w : World} {b : Nat} {t : TypeId} {fr : Nat × Nat} {v0 v1 v2 v3 v4 v5 v6 v7 v8 v : Value} (h : w.heap[b]? = some (.cells #[v0, v1, v2, v3, v4, v5, v6, v7, v8] t fr)) : (w.setCell ⟨b, 3, none⟩ v).heap[b]? = some (.cells #[v0, v1, v2, v, v4, v5, v6, v7, v8] t fr) := heap_setCell h 3 v
theorem hset9_4 {w : World} {b : Nat} {t : TypeId} {fr : Nat × Nat} {v0 v1 v2 v3 v4 v5 v6 v7 v8 v : Value} (h : w.heap[b]? = some (.cells #[v0, v1, v2, v3, v4, v5, v6, v7, v8] t fr)) : (w.setCell ⟨b, 4, none⟩ v).heap[b]? = some (.cells #[v0, v1, v2, v3, v, v5, v6, v7, v8] t fr) := heap_setCell h 4 v
theorem hset9_5 {w : World} {b : Nat} {t : TypeId} {fr : Nat × Nat} {v0 v1 v2 v3 v4 v5 v6 v7 v8 v : Value} (h : w.heap[b]? = some (.cells #[v0, v1, v2, v3, v4, v5, v6, v7, v8] t fr)) : (w.setCell ⟨b, 5, none⟩ v).heap[b]? = some (.cells #[v0, v1, v2, v3, v4, v, v6, v7, v8] t fr) := heap_setCell h 5 v
theorem hset9_6 {w : World} {b : Nat} {t : TypeId} {fr : Nat × Nat} {v0 v1 v2 v3 v4 v5 v6 v7 v8 v : Value} (h : w.heap[b]? = some (.cells #[v0, v1, v2, v3, v4, v5, v6, v7, v8] t fr)) : (w.setCell ⟨b, 6, none⟩ v).heap[b]? = some (.cells #[v0, v1, v2, v3, v4, v5, v, v7, v8] t fr) := heap_setCell h 6 v
theorem hset9_7 {w : World} {b : Nat} {t : TypeId} {fr : Nat × Nat} {v0 v1 v2 v3 v4 v5 v6 v7 v8 v : Value} (h : w.heap[b]? = some (.cells #[v0, v1, v2, v3, v4, v5, v6, v7, v8] t fr)) : (w.setCell ⟨b, 7, none⟩ v).heap[b]? = some (.cells #[v0, v1, v2, v3, v4, v5, v6, v, v8] t fr) := heap_setCell h 7 v
theorem hset9_8 {w : World} {b : Nat} {t : TypeId} {fr : Nat × Nat} {v0 v1 v2 v3 v4 v5 v6 v7 v8 v : Value} (h : w.heap[b]? = some (.cells #[v0, v1, v2, v3, v4, v5, v6, v7, v8] t fr)) : (w.setCell ⟨b, 8, none⟩ v).heap[b]? = some (.cells #[v0, v1, v2, v3, v4, v5, v6, v7, v] t fr) := heap_setCell h 8 v
theorem hset10_0 {w : World} {b : Nat} {t : TypeId} {fr : Nat × Nat} {v0 v1 v2 v3 v4 v5 v6 v7 v8 v9 v : Value} (h : w.heap[b]? = some (.cells #[v0, v1, v2, v3, v4, v5, v6, v7, v8, v9] t fr)) : (w.setCell ⟨b, 0, none⟩ v).heap[b]? = some (.cells #[v, v1, v2, v3, v4, v5, v6, v7, v8, v9] t fr) := heap_setCell h 0 v
theorem hset10_1 {w : World} {b : Nat} {t : TypeId} {fr : Nat × Nat} {v0 v1 v2 v3 v4 v5 v6 v7 v8 v9 v : Value} (h : w.heap[b]? = some (.cells #[v0, v1, v2, v3, v4, v5, v6, v7, v8, v9] t fr)) : (w.setCell ⟨b, 1, none⟩ v).heap[b]? = some (.cells #[v0, v, v2, v3, v4, v5, v6, v7, v8, v9] t fr) := heap_setCell h 1 v
theorem hset10_2 {w : World} {b : Nat} {t : TypeId} {fr : Nat × Nat} {v0 v1 v2 v3 v4 v5 v6 v7 v8 v9 v : Value} (h : w.heap[b]? = some (.cells #[v0, v1, v2, v3, v4, v5, v6, v7, v8, v9] t fr)) : (w.setCell ⟨b, 2, none⟩ v).heap[b]? = some (.cells #[v0, v1, v, v3, v4, v5, v6, v7, v8, v9] t fr) := heap_setCell h 2 v
theorem hset10_3 {w : World} {b : Nat} {t : TypeId} {fr : Nat × Nat} {v0 v1 v2 v3 v4 v5 v6 v7 v8 v9 v : Value} (h : w.heap[b]? = some (.cells #[v0, v1, v2, v3, v4, v5, v6, v7, v8, v9] t fr)) : (w.setCell ⟨b, 3, none⟩ v).heap[b]? = some (.cells #[v0, v1, v2, v, v4, v5, v6, v7, v8, v9] t fr) := heap_setCell h 3 v
theorem hset10_4 {w : World} {b : Nat} {t : TypeId} {fr : Nat × Nat} {v0 v1 v2 v3 v4 v5 v6 v7 v8 v9 v : Value} (h : w.heap[b]? = some (.cells #[v0, v1, v2, v3, v4, v5, v6, v7, v8, v9] t fr)) : (w.setCell ⟨b, 4, none⟩ v).heap[b]? = some (.cells #[v0, v1, v2, v3, v, v5, v6, v7, v8, v9] t fr) := heap_setCell h 4 v
theorem hset10_5 {w : World} {b : Nat} {t : TypeId} {fr : Nat × Nat} {v0 v1 v2 v3 v4 v5 v6 v7 v8 v9 v : Value} (h : w.heap[b]? = some (.cells #[v0, v1, v2, v3, v4, v5, v6, v7, v8, v9] t fr)) : (w.setCell ⟨b, 5, none⟩ v).heap[b]? = some (.cells #[v0, v1, v2, v3, v4, v, v6, v7, v8, v9] t fr) := heap_setCell h 5 v
theorem hset10_6 {w : World} {b : Nat} {t : TypeId} {fr : Nat × Nat} {v0 v1 v2 v3 v4 v5 v6 v7 v8 v9 v : Value} (h : w.heap[b]? = some (.cells #[v0, v1, v2, v3, v4, v5, v6, v7, v8, v9] t fr)) : (w.setCell ⟨b, 6, none⟩ v).heap[b]? = some (.cells #[v0, v1, v2, v3, v4, v5, v, v7, v8, v9] t fr) := heap_setCell h 6 v
theorem hset10_7 {w : World} {b : Nat} {t : TypeId} {fr : Nat × Nat} {v0 v1 v2 v3 v4 v5 v6 v7 v8 v9 v : Value} (h : w.heap[b]? = some (.cells #[v0, v1, v2, v3, v4, v5, v6, v7, v8, v9] t fr)) : (w.setCell ⟨b, 7, none⟩ v).heap[b]? = some (.cells #[v0, v1, v2, v3, v4, v5, v6, v, v8, v9] t fr) := heap_setCell h 7 v
theorem hset10_8 {w : World} {b : Nat} {t : TypeId} {fr : Nat × Nat} {v0 v1 v2 v3 v4 v5 v6 v7 v8 v9 v : Value} (h : w.heap[b]? = some (.cells #[v0, v1, v2, v3, v4, v5, v6, v7, v8, v9] t fr)) : (w.setCell ⟨b, 8, none⟩ v).heap[b]? = some (.cells #[v0, v1, v2, v3, v4, v5, v6, v7, v, v9] t fr) := heap_setCell h 8 v
theorem hset10_9 {w : World} {b : Nat} {t : TypeId} {fr : Nat × Nat} {v0 v1 v2 v3 v4 v5 v6 v7 v8 v9 v : Value} (h : w.heap[b]? = some (.cells #[v0, v1, v2, v3, v4, v5, v6, v7, v8, v9] t fr)) : (w.setCell ⟨b, 9, none⟩ v).heap[b]? = some (.cells #[v0, v1, v2, v3, v4, v5, v6, v7, v8, v] t fr) := heap_setCell h 9 v
theorem hset11_0 {w : World} {b : Nat} {t : TypeId} {fr : Nat × Nat} {v0 v1 v2 v3 v4 v5 v6 v7 v8 v9 v10 v : Value} (h : w.heap[b]? = some (.cells #[v0, v1, v2, v3, v4, v5, v6, v7, v8, v9, v10] t fr)) : (w.setCell ⟨b, 0, none⟩ v).heap[b]? = some (.cells #[v, v1, v2, v3, v4, v5, v6, v7, v8, v9, v10] t fr) := heap_setCell h 0 v
theorem hset11_1 {w : World} {b : Nat} {t : TypeId} {fr : Nat × Nat} {v0 v1 v2 v3 v4 v5 v6 v7 v8 v9 v10 v : Value} (h : w.heap[b]? = some (.cells #[v0, v1, v2, v3, v4, v5, v6, v7, v8, v9, v10] t fr)) : (w.setCell ⟨b, 1, none⟩ v).heap[b]? = some (.cells #[v0, v, v2, v3, v4, v5, v6, v7, v8, v9, v10] t fr) := heap_setCell h 1 v
theorem hset11_2 {w : World} {b : Nat} {t : TypeId} {fr : Nat × Nat} {v0 v1 v2 v3 v4 v5 v6 v7 v8 v9 v10 v : Value} (h : w.heap[b]? = some (.cells #[v0, v1, v2, v3, v4, v5, v6, v7, v8, v9, v10] t fr)) : (w.setCell ⟨b, 2, none⟩ v).heap[b]? = some (.cells #[v0, v1, v, v3, v4, v5, v6, v7, v8, v9, v10] t fr) := heap_setCell h 2 v
theorem hset11_3 {w : World} {b : Nat} {t : TypeId} {fr : Nat × Nat} {v0 v1 v2 v3 v4 v5 v6 v7 v8 v9 v10 v : Value} (h : w.heap[b]? = some (.cells #[v0, v1, v2, v3, v4, v5, v6, v7, v8, v9, v10] t fr)) : (w.setCell ⟨b, 3, none⟩ v).heap[b]? = some (.cells #[v0, v1, v2, v, v4, v5, v6, v7, v8, v9, v10] t fr) := heap_setCell h 3 v
theorem hset11_4 {w : World} {b : Nat} {t : TypeId} {fr : Nat × Nat} {v0 v1 v2 v3 v4 v5 v6 v7 v8 v9 v10 v : Value} (h : w.heap[b]? = some (.cells #[v0, v1, v2, v3, v4, v5, v6, v7, v8, v9, v10] t fr)) : (w.setCell ⟨b, 4, none⟩ v).heap[b]? = some (.cells #[v0, v1, v2, v3, v, v5, v6, v7, v8, v9, v10] t fr) := heap_setCell h 4 v
theorem hset11_5 {w : World} {b : Nat} {t : TypeId} {fr : Nat × Nat} {v0 v1 v2 v3 v4 v5 v6 v7 v8 v9 v10 v : Value} (h : w.heap[b]? = some (.cells #[v0, v1, v2, v3, v4, v5, v6, v7, v8, v9, v10] t fr)) : (w.setCell ⟨b, 5, none⟩ v).heap[b]? = some (.cells #[v0, v1, v2, v3, v4, v, v6, v7, v8, v9, v10] t fr) := heap_setCell h 5 v
theorem hset11_6 {w : World} {b : Nat} {t : TypeId} {fr : Nat × Nat} {v0 v1 v2 v3 v4 v5 v6 v7 v8 v9 v10 v : Value} (h : w.heap[b]? = some (.cells #[v0, v1, v2, v3, v4, v5, v6, v7, v8, v9, v10] t fr)) : (w.setCell ⟨b, 6, none⟩ v).heap[b]? = some (.cells #[v0, v1, v2, v3, v4, v5, v, v7, v8, v9, v10] t fr) := heap_setCell h 6 v
theorem hset11_7 {w : World} {b : Nat} {t : TypeId} {fr : Nat × Nat} {v0 v1 v2 v3 v4 v5 v6 v7 v8 v9 v10 v : Value} (h : w.heap[b]? = some (.cells #[v0, v1, v2, v3, v4, v5, v6, v7, v8, v9, v10] t fr)) : (w.setCell ⟨b, 7, none⟩ v).heap[b]? = some (.cells #[v0, v1, v2, v3, v4, v5, v6, v, v8, v9, v10] t fr) := heap_setCell h 7 v
theorem hset11_8 {w : World} {b : Nat} {t : TypeId} {fr : Nat × Nat} {v0 v1 v2 v3 v4 v5 v6 v7 v8 v9 v10 v : Value} (h : w.heap[b]? = some (.cells #[v0, v1, v2, v3, v4, v5, v6, v7, v8, v9, v10] t fr)) : (w.setCell ⟨b, 8, none⟩ v).heap[b]? = some (.cells #[v0, v1, v2, v3, v4, v5, v6, v7, v, v9, v10] t fr) := heap_setCell h 8 v
theorem hset11_9 {w : World} {b : Nat} {t : TypeId} {fr : Nat × Nat} {v0 v1 v2 v3 v4 v5 v6 v7 v8 v9 v10 v : Value} (h : w.heap[b]? = some (.cells #[v0, v1, v2, v3, v4, v5, v6, v7, v8, v9, v10] t fr)) : (w.setCell ⟨b, 9, none⟩ v).heap[b]? = some (.cells #[v0, v1, v2, v3, v4, v5, v6, v7, v8, v, v10] t fr) := heap_setCell h 9 v
theorem hset11_10 {w : World} {b : Nat} {t : TypeId} {fr : Nat × Nat} {v0 v1 v2 v3 v4 v5 v6 v7 v8 v9 v10 v : Value} (h : w.heap[b]? = some (.cells #[v0, v1, v2, v3, v4, v5, v6, v7, v8, v9, v10] t fr)) : (w.setCell ⟨b, 10, none⟩ v).heap[b]? = some (.cells #[v0, v1, v2, v3, v4, v5, v6, v7, v8, v9, v] t fr) := heap_setCell h 10 v
theorem hset12_0 {w : World} {b : Nat} {t : TypeId} {fr : Nat × Nat} {v0 v1 v2 v3 v4 v5 v6 v7 v8 v9 v10 v11 v : Value} (h : w.heap[b]? = some (.cells #[v0, v1, v2, v3, v4, v5, v6, v7, v8, v9, v10, v11] t fr)) : (w.setCell ⟨b, 0, none⟩ v).heap[b]? = some (.cells #[v, v1, v2, v3, v4, v5, v6, v7, v8, v9, v10, v11] t fr) := heap_setCell h 0 v
theorem hset12_1 {w : World} {b : Nat} {t : TypeId} {fr : Nat × Nat} {v0 v1 v2 v3 v4 v5 v6 v7 v8 v9 v10 v11 v : Value} (h : w.heap[b]? = some (.cells #[v0, v1, v2, v3, v4, v5, v6, v7, v8, v9, v10, v11] t fr)) : (w.setCell ⟨b, 1, none⟩ v).heap[b]? = some (.cells #[v0, v, v2, v3, v4, v5, v6, v7, v8, v9, v10, v11] t fr) := heap_setCell h 1 v
theorem hset12_2 {w : World} {b : Nat} {t : TypeId} {fr : Nat × Nat} {v0 v1 v2 v3 v4 v5 v6 v7 v8 v9 v10 v11 v : Value} (h : w.heap[b]? = some (.cells #[v0, v1, v2, v3, v4, v5, v6, v7, v8, v9, v10, v11] t fr)) : (w.setCell ⟨b, 2, none⟩ v).heap[b]? = some (.cells #[v0, v1, v, v3, v4, v5, v6, v7, v8, v9, v10, v11] t fr) := heap_setCell h 2 v
theorem hset12_3 {w : World} {b : Nat} {t : TypeId} {fr : Nat × Nat} {v0 v1 v2 v3 v4 v5 v6 v7 v8 v9 v10 v11 v : Value} (h : w.heap[b]? = some (.cells #[v0, v1, v2, v3, v4, v5, v6, v7, v8, v9, v10, v11] t fr)) : (w.setCell ⟨b, 3, none⟩ v).heap[b]? = some (.cells #[v0, v1, v2, v, v4, v5, v6, v7, v8, v9, v10, v11] t fr) := heap_setCell h 3 v
theorem hset12_4 {w : World} {b : Nat} {t : TypeId} {fr : Nat × Nat} {v0 v1 v2 v3 v4 v5 v6 v7 v8 v9 v10 v11 v : Value} (h : w.heap[b]? = some (.cells #[v0, v1, v2, v3, v4, v5, v6, v7, v8, v9, v10, v11] t fr)) : (w.setCell ⟨b, 4, none⟩ v).heap[b]? = some (.cells #[v0, v1, v2, v3, v, v5, v6, v7, v8, v9, v10, v11] t fr) := heap_setCell h 4 v
theorem hset12_5 {w : World} {b : Nat} {t : TypeId} {fr : Nat × Nat} {v0 v1 v2 v3 v4 v5 v6 v7 v8 v9 v10 v11 v : Value} (h : w.heap[b]? = some (.cells #[v0, v1, v2, v3, v4, v5, v6, v7, v8, v9, v10, v11] t fr)) : (w.setCell ⟨b, 5, none⟩ v).heap[b]? = some (.cells #[v0, v1, v2, v3, v4, v, v6, v7, v8, v9, v10, v11] t fr) := heap_setCell h 5 v
theorem hset12_6 {w : World} {b : Nat} {t : TypeId} {fr : Nat × Nat} {v0 v1 v2 v3 v4 v5 v6 v7 v8 v9 v10 v11 v : Value} (h : w.heap[b]? = some (.cells #[v0, v1, v2, v3, v4, v5, v6, v7, v8, v9, v10, v11] t fr)) : (w.setCell ⟨b, 6, none⟩ v).heap[b]? = some (.cells #[v0, v1, v2, v3, v4, v5, v, v7, v8, v9, v10, v11] t fr) := heap_setCell h 6 v
theorem hset12_7 {w : World} {b : Nat} {t : TypeId} {fr : Nat × Nat} {v0 v1 v2 v3 v4 v5 v6 v7 v8 v9 v10 v11 v : Value} (h : w.heap[b]? = some (.cells #[v0, v1, v2, v3, v4, v5, v6, v7, v8, v9, v10, v11] t fr)) : (w.setCell ⟨b, 7, none⟩ v).heap[b]? = some (.cells #[v0, v1, v2, v3, v4, v5, v6, v, v8, v9, v10, v11] t fr) := heap_setCell h 7 v
theorem hset12_8 {w : World} {b : Nat} {t : TypeId} {fr : Nat × Nat} {v0 v1 v2 v3 v4 v5 v6 v7 v8 v9 v10 v11 v : Value} (h : w.heap[b]? = some (.cells #[v0, v1, v2, v3, v4, v5, v6, v7, v8, v9, v10, v11] t fr)) : (w.setCell ⟨b, 8, none⟩ v).heap[b]? = some (.cells #[v0, v1, v2, v3, v4, v5, v6, v7, v, v9, v10, v11] t fr) := heap_setCell h 8 v
theorem hset12_9 {w : World} {b : Nat} {t : TypeId} {fr : Nat × Nat} {v0 v1 v2 v3 v4 v5 v6 v7 v8 v9 v10 v11 v : Value} (h : w.heap[b]? = some (.cells #[v0, v1, v2, v3, v4, v5, v6, v7, v8, v9, v10, v11] t fr)) : (w.setCell ⟨b, 9, none⟩ v).heap[b]? = some (.cells #[v0, v1, v2, v3, v4, v5, v6, v7, v8, v, v10, v11] t fr) := heap_setCell h 9 v
theorem hset12_10 {w : World} {b : Nat} {t : TypeId} {fr : Nat × Nat} {v0 v1 v2 v3 v4 v5 v6 v7 v8 v9 v10 v11 v : Value} (h : w.heap[b]? = some (.cells #[v0, v1, v2, v3, v4, v5, v6, v7, v8, v9, v10, v11] t fr)) : (w.setCell ⟨b, 10, none⟩ v).heap[b]? = some (.cells #[v0, v1, v2, v3, v4, v5, v6, v7, v8, v9, v, v11] t fr) := heap_setCell h 10 v
theorem hset12_11 {w : World} {b : Nat} {t : TypeId} {fr : Nat × Nat} {v0 v1 v2 v3 v4 v5 v6 v7 v8 v9 v10 v11 v : Value} (h : w.heap[b]? = some (.cells #[v0, v1, v2, v3, v4, v5, v6, v7, v8, v9, v10, v11] t fr)) : (w.setCell ⟨b, 11, none⟩ v).heap[b]? = some (.cells #[v0, v1, v2, v3, v4, v5, v6, v7, v8, v9, v10, v] t fr) := heap_setCell h 11 v
theorem hset13_0 {w : World} {b : Nat} {t : TypeId} {fr : Nat × Nat} {v0 v1 v2 v3 v4 v5 v6 v7 v8 v9 v10 v11 v12 v : Value} (h : w.heap[b]? = some (.cells #[v0, v1, v2, v3, v4, v5, v6, v7, v8, v9, v10, v11, v12] t fr)) : (w.setCell ⟨b, 0, none⟩ v).heap[b]? = some (.cells #[v, v1, v2, v3, v4, v5, v6, v7, v8, v9, v10, v11, v12] t fr) := heap_setCell h 0 v
theorem hset13_1 {w : World} {b : Nat} {t : TypeId} {fr : Nat × Nat} {v0 v1 v2 v3 v4 v5 v6 v7 v8 v9 v10 v11 v12 v : Value} (h : w.heap[b]? = some (.cells #[v0, v1, v2, v3, v4, v5, v6, v7, v8, v9, v10, v11, v12] t fr)) : (w.setCell ⟨b, 1, none⟩ v).heap[b]? = some (.cells #[v0, v, v2, v3, v4, v5, v6, v7, v8, v9, v10, v11, v12] t fr) := heap_setCell h 1 v
theorem hset13_2 {w : World} {b : Nat} {t : TypeId} {fr : Nat × Nat} {v0 v1 v2 v3 v4 v5 v6 v7 v8 v9 v10 v11 v12 v : Value} (h : w.heap[b]? = some (.cells #[v0, v1, v2, v3, v4, v5, v6, v7, v8, v9, v10, v11, v12] t fr)) : (w.setCell ⟨b, 2, none⟩ v).heap[b]? = some (.cells #[v0, v1, v, v3, v4, v5, v6, v7, v8, v9, v10, v11, v12] t fr) := heap_setCell h 2 v
theorem hset13_3 {w : World} {b : Nat} {t : TypeId} {fr : Nat × Nat} {v0 v1 v2 v3 v4 v5 v6 v7 v8 v9 v10 v11 v12 v : Value} (h : w.heap[b]? = some (.cells #[v0, v1, v2, v3, v4, v5, v6, v7, v8, v9, v10, v11, v12] t fr)) : (w.setCell ⟨b, 3, none⟩ v).heap[b]? = some (.cells #[v0, v1, v2, v, v4, v5, v6, v7, v8, v9, v10, v11, v12] t fr) := heap_setCell h 3 v
theorem hset13_4 {w : World} {b : Nat} {t : TypeId} {fr : Nat × Nat} {v0 v1 v2 v3 v4 v5 v6 v7 v8 v9 v10 v11 v12 v : Value} (h : w.heap[b]? = some (.cells #[v0, v1, v2, v3, v4, v5, v6, v7, v8, v9, v10, v11, v12] t fr)) : (w.setCell ⟨b, 4, none⟩ v).heap[b]? = some (.cells #[v0, v1, v2, v3, v, v5, v6, v7, v8, v9, v10, v11, v12] t fr) := heap_setCell h 4 v
theorem hset13_5 {w : World} {b : Nat} {t : TypeId} {fr : Nat × Nat} {v0 v1 v2 v3 v4 v5 v6 v7 v8 v9 v10 v11 v12 v : Value} (h : w.heap[b]? = some (.cells #[v0, v1, v2, v3, v4, v5, v6, v7, v8, v9, v10, v11, v12] t fr)) : (w.setCell ⟨b, 5, none⟩ v).heap[b]? = some (.cells #[v0, v1, v2, v3, v4, v, v6, v7, v8, v9, v10, v11, v12] t fr) := heap_setCell h 5 v
theorem hset13_6 {w : World} {b : Nat} {t : TypeId} {fr : Nat × Nat} {v0 v1 v2 v3 v4 v5 v6 v7 v8 v9 v10 v11 v12 v : Value} (h : w.heap[b]? = some (.cells #[v0, v1, v2, v3, v4, v5, v6, v7, v8, v9, v10, v11, v12] t fr)) : (w.setCell ⟨b, 6, none⟩ v).heap[b]? = some (.cells #[v0, v1, v2, v3, v4, v5, v, v7, v8, v9, v10, v11, v12] t fr) := heap_setCell h 6 v
theorem hset13_7 {w : World} {b : Nat} {t : TypeId} {fr : Nat × Nat} {v0 v1 v2 v3 v4 v5 v6 v7 v8 v9 v10 v11 v12 v : Value} (h : w.heap[b]? = some (.cells #[v0, v1, v2, v3, v4, v5, v6, v7, v8, v9, v10, v11, v12] t fr)) : (w.setCell ⟨b, 7, none⟩ v).heap[b]? = some (.cells #[v0, v1, v2, v3, v4, v5, v6, v, v8, v9, v10, v11, v12] t fr) := heap_setCell h 7 v
theorem hset13_8 {w : World} {b : Nat} {t : TypeId} {fr : Nat × Nat} {v0 v1 v2 v3 v4 v5 v6 v7 v8 v9 v10 v11 v12 v : Value} (h : w.heap[b]? = some (.cells #[v0, v1, v2, v3, v4, v5, v6, v7, v8, v9, v10, v11, v12] t fr)) : (w.setCell ⟨b, 8, none⟩ v).heap[b]? = some (.cells #[v0, v1, v2, v3, v4, v5, v6, v7, v, v9, v10, v11, v12] t fr) := heap_setCell h 8 v
theorem hset13_9 {w : World} {b : Nat} {t : TypeId} {fr : Nat × Nat} {v0 v1 v2 v3 v4 v5 v6 v7 v8 v9 v10 v11 v12 v : Value} (h : w.heap[b]? = some (.cells #[v0, v1, v2, v3, v4, v5, v6, v7, v8, v9, v10, v11, v12] t fr)) : (w.setCell ⟨b, 9, none⟩ v).heap[b]? = some (.cells #[v0, v1, v2, v3, v4, v5, v6, v7, v8, v, v10, v11, v12] t fr) := heap_setCell h 9 v
theorem hset13_10 {w : World} {b : Nat} {t : TypeId} {fr : Nat × Nat} {v0 v1 v2 v3 v4 v5 v6 v7 v8 v9 v10 v11 v12 v : Value} (h : w.heap[b]? = some (.cells #[v0, v1, v2, v3, v4, v5, v6, v7, v8, v9, v10, v11, v12] t fr)) : (w.setCell ⟨b, 10, none⟩ v).heap[b]? = some (.cells #[v0, v1, v2, v3, v4, v5, v6, v7, v8, v9, v, v11, v12] t fr) := heap_setCell h 10 v
theorem hset13_11 {w : World} {b : Nat} {t : TypeId} {fr : Nat × Nat} {v0 v1 v2 v3 v4 v5 v6 v7 v8 v9 v10 v11 v12 v : Value} (h : w.heap[b]? = some (.cells #[v0, v1, v2, v3, v4, v5, v6, v7, v8, v9, v10, v11, v12] t fr)) : (w.setCell ⟨b, 11, none⟩ v).heap[b]? = some (.cells #[v0, v1, v2, v3, v4, v5, v6, v7, v8, v9, v10, v, v12] t fr) := heap_setCell h 11 v
theorem hset13_12 {w : World} {b : Nat} {t : TypeId} {fr : Nat × Nat} {v0 v1 v2 v3 v4 v5 v6 v7 v8 v9 v10 v11 v12 v : Value} (h : w.heap[b]? = some (.cells #[v0, v1, v2, v3, v4, v5, v6, v7, v8, v9, v10, v11, v12] t fr)) : (w.setCell ⟨b, 12, none⟩ v).heap[b]? = some (.cells #[v0, v1, v2, v3, v4, v5, v6, v7, v8, v9, v10, v11, v] t fr) := heap_setCell h 12 v
theorem hset14_0 {w : World} {b : Nat} {t : TypeId} {fr : Nat × Nat} {v0 v1 v2 v3 v4 v5 v6 v7 v8 v9 v10 v11 v12 v13 v : Value} (h : w.heap[b]? = some (.cells #[v0, v1, v2, v3, v4, v5, v6, v7, v8, v9, v10, v11, v12, v13] t fr)) : (w.setCell ⟨b, 0, none⟩ v).heap[b]? = some (.cells #[v, v1, v2, v3, v4, v5, v6, v7, v8, v9, v10, v11, v12, v13] t fr) := heap_setCell h 0 v
theorem hset14_1 {w : World} {b : Nat} {t : TypeId} {fr : Nat × Nat} {v0 v1 v2 v3 v4 v5 v6 v7 v8 v9 v10 v11 v12 v13 v : Value} (h : w.heap[b]? = some (.cells #[v0, v1, v2, v3, v4, v5, v6, v7, v8, v9, v10, v11, v12, v13] t fr)) : (w.setCell ⟨b, 1, none⟩ v).heap[b]? = some (.cells #[v0, v, v2, v3, v4, v5, v6, v7, v8, v9, v10, v11, v12, v13] t fr) := heap_setCell h 1 v
theorem hset14_2 {w : World} {b : Nat} {t : TypeId} {fr : Nat × Nat} {v0 v1 v2 v3 v4 v5 v6 v7 v8 v9 v10 v11 v12 v13 v : Value} (h : w.heap[b]? = some (.cells #[v0, v1, v2, v3, v4, v5, v6, v7, v8, v9, v10, v11, v12, v13] t fr)) : (w.setCell ⟨b, 2, none⟩ v).heap[b]? = some (.cells #[v0, v1, v, v3, v4, v5, v6, v7, v8, v9, v10, v11, v12, v13] t fr) := heap_setCell h 2 v
theorem hset14_3 {w : World} {b : Nat} {t : TypeId} {fr : Nat × Nat} {v0 v1 v2 v3 v4 v5 v6 v7 v8 v9 v10 v11 v12 v13 v : Value} (h : w.heap[b]? = some (.cells #[v0, v1, v2, v3, v4, v5, v6, v7, v8, v9, v10, v11, v12, v13] t fr)) : (w.setCell ⟨b, 3, none⟩ v).heap[b]? = some (.cells #[v0, v1, v2, v, v4, v5, v6, v7, v8, v9, v10, v11, v12, v13] t fr) := heap_setCell h 3 v
theorem hset14_4 {w : World} {b : Nat} {t : TypeId} {fr : Nat × Nat} {v0 v1 v2 v3 v4 v5 v6 v7 v8 v9 v10 v11 v12 v13 v : Value} (h : w.heap[b]? = some (.cells #[v0, v1, v2, v3, v4, v5, v6, v7, v8, v9, v10, v11, v12, v13] t fr)) : (w.setCell ⟨b, 4, none⟩ v).heap[b]? = some (.cells #[v0, v1, v2, v3, v, v5, v6, v7, v8, v9, v10, v11, v12, v13] t fr) := heap_setCell h 4 v
theorem hset14_5 {w : World} {b : Nat} {t : TypeId} {fr : Nat × Nat} {v0 v1 v2 v3 v4 v5 v6 v7 v8 v9 v10 v11 v12 v13 v : Value} (h : w.heap[b]? = some (.cells #[v0, v1, v2, v3, v4, v5, v6, v7, v8, v9, v10, v11, v12, v13] t fr)) : (w.setCell ⟨b, 5, none⟩ v).heap[b]? = some (.cells #[v0, v1, v2, v3, v4, v, v6, v7, v8, v9, v10, v11, v12, v13] t fr) := heap_setCell h 5 v
theorem hset14_6 {w : World} {b : Nat} {t : TypeId} {fr : Nat × Nat} {v0 v1 v2 v3 v4 v5 v6 v7 v8 v9 v10 v11 v12 v13 v : Value} (h : w.heap[b]? = some (.cells #[v0, v1, v2, v3, v4, v5, v6, v7, v8, v9, v10, v11, v12, v13] t fr)) : (w.setCell ⟨b, 6, none⟩ v).heap[b]? = some (.cells #[v0, v1, v2, v3, v4, v5, v, v7, v8, v9, v10, v11, v12, v13] t fr) := heap_setCell h 6 v
theorem hset14_7 {w : World} {b : Nat} {t : TypeId} {fr : Nat × Nat} {v0 v1 v2 v3 v4 v5 v6 v7 v8 v9 v10 v11 v12 v13 v : Value} (h : w.heap[b]? = some (.cells #[v0, v1, v2, v3, v4, v5, v6, v7, v8, v9, v10, v11, v12, v13] t fr)) : (w.setCell ⟨b, 7, none⟩ v).heap[b]? = some (.cells #[v0, v1, v2, v3, v4, v5, v6, v, v8, v9, v10, v11, v12, v13] t fr) := heap_setCell h 7 v
theorem hset14_8 {w : World} {b : Nat} {t : TypeId} {fr : Nat × Nat} {v0 v1 v2 v3 v4 v5 v6 v7 v8 v9 v10 v11 v12 v13 v : Value} (h : w.heap[b]? = some (.cells #[v0, v1, v2, v3, v4, v5, v6, v7, v8, v9, v10, v11, v12, v13] t fr)) : (w.setCell ⟨b, 8, none⟩ v).heap[b]? = some (.cells #[v0, v1, v2, v3, v4, v5, v6, v7, v, v9, v10, v11, v12, v13] t fr) := heap_setCell h 8 v
theorem hset14_9 {w : World} {b : Nat} {t : TypeId} {fr : Nat × Nat} {v0 v1 v2 v3 v4 v5 v6 v7 v8 v9 v10 v11 v12 v13 v : Value} (h : w.heap[b]? = some (.cells #[v0, v1, v2, v3, v4, v5, v6, v7, v8, v9, v10, v11, v12, v13] t fr)) : (w.setCell ⟨b, 9, none⟩ v).heap[b]? = some (.cells #[v0, v1, v2, v3, v4, v5, v6, v7, v8, v, v10, v11, v12, v13] t fr) := heap_setCell h 9 v
theorem hset14_10 {w : World} {b : Nat} {t : TypeId} {fr : Nat × Nat} {v0 v1 v2 v3 v4 v5 v6 v7 v8 v9 v10 v11 v12 v13 v : Value} (h : w.heap[b]? = some (.cells #[v0, v1, v2, v3, v4, v5, v6, v7, v8, v9, v10, v11, v12, v13] t fr)) : (w.setCell ⟨b, 10, none⟩ v).heap[b]? = some (.cells #[v0, v1, v2, v3, v4, v5, v6, v7, v8, v9, v, v11, v12, v13] t fr) := heap_setCell h 10 v
theorem hset14_11 {w : World} {b : Nat} {t : TypeId} {fr : Nat × Nat} {v0 v1 v2 v3 v4 v5 v6 v7 v8 v9 v10 v11 v12 v13 v : Value} (h : w.heap[b]? = some (.cells #[v0, v1, v2, v3, v4, v5, v6, v7, v8, v9, v10, v11, v12, v13] t fr)) : (w.setCell ⟨b, 11, none⟩ v).heap[b]? = some (.cells #[v0, v1, v2, v3, v4, v5, v6, v7, v8, v9, v10, v, v12, v13] t fr) := heap_setCell h 11 v
theorem hset14_12 {w : World} {b : Nat} {t : TypeId} {fr : Nat × Nat} {v0 v1 v2 v3 v4 v5 v6 v7 v8 v9 v10 v11 v12 v13 v : Value} (h : w.heap[b]? = some (.cells #[v0, v1, v2, v3, v4, v5, v6, v7, v8, v9, v10, v11, v12, v13] t fr)) : (w.setCell ⟨b, 12, none⟩ v).heap[b]? = some (.cells #[v0, v1, v2, v3, v4, v5, v6, v7, v8, v9, v10, v11, v, v13] t fr) := heap_setCell h 12 v
theorem hset14_13 {w : World} {b : Nat} {t : TypeId} {fr : Nat × Nat} {v0 v1 v2 v3 v4 v5 v6 v7 v8 v9 v10 v11 v12 v13 v : Value} (h : w.heap[b]? = some (.cells #[v0, v1, v2, v3, v4, v5, v6, v7, v8, v9, v10, v11, v12, v13] t fr)) : (w.setCell ⟨b, 13, none⟩ v).heap[b]? = some (.cells #[v0, v1, v2, v3, v4, v5, v6, v7, v8, v9, v10, v11, v12, v] t fr) := heap_setCell h 13 v
theorem heap_new2 (w : World) (x y : Obj) : ((w.alloc x).alloc y).heap[w.heap.size + 1]? = some y := by
  have := heap_alloc_new (w.alloc x) y
  simpa using this
theorem heap_new3 (w : World) (x y z : Obj) : (((w.alloc x).alloc y).alloc z).heap[w.heap.size + 2]? = some z := by
  have := heap_alloc_new ((w.alloc x).alloc y) z
  simpa using this

/-- an owned row as a slice: its address and its cells -/
theorem own_slice {w : World} {base : Nat} {e : TypeId} {size : Nat} {v : Value} {n : Nat} {xs : List Value} (h : w.ownsRow base e size v n xs) :
    ∃ ao cap, v = .slice ao n cap ∧ (0 < n → ∃ g, ao = some ⟨g, 0, none⟩ ∧ base ≤ g ∧ g < w.heap.size ∧ ∀ j u, xs[j]? = some u → w.cell? ⟨g, j, none⟩ = some u) := by
  obtain ⟨_, h⟩ := h
  rcases h with ⟨rfl, rfl⟩ | ⟨g, cap, cur, rfl, hg, hh, _, _, _, hx⟩
  · exact ⟨none, 0, rfl, fun h => by omega⟩
  · refine ⟨_, _, rfl, fun _ => ⟨g, rfl, hg, ?_, ?_⟩⟩
    · rcases Nat.lt_or_ge g w.heap.size with q | q
      · exact q
      · simp [Array.getElem?_eq_none q] at hh
    · intro j u hj
      rw [cellOf hh j, ← Array.getElem?_toList]
      rw [← hx] at hj
      rw [List.getElem?_take] at hj
      split at hj
      · exact hj
      · cases hj

theorem set_self {cs : Array Value} {i : Nat} {u v : Value} (h : cs[i]? = some u) : (cs.setIfInBounds i v)[i]? = some v := by
  have : i < cs.size := by
    rcases Nat.lt_or_ge i cs.size with g | g
    · exact g
    · simp [Array.getElem?_eq_none g] at h
  simp [this]
theorem set_ne {cs : Array Value} {i j : Nat} (v : Value) {o : Option Value} (hne : i ≠ j) (h : cs[j]? = o) : (cs.setIfInBounds i v)[j]? = o := by
  rw [← h]; simp [hne]

/-- the end that is to be shown is kept out of the walk's sight -/
theorem post {P : Program} {f : FuncId} {args : Array Value} {w : World} {Q : Ending → World → Prop}
    (h : ∀ R : Ending → World → Prop, Hid (∀ e w', Q e w' → R e w') → Calls P f args w R) : Calls P f args w Q := h Q fun _ _ h => h

theorem set_same {cs : Array Value} {i : Nat} {v : Value} (h : cs[i]? = some v) : cs.setIfInBounds i v = cs := by
  apply Array.ext_getElem?
  intro j
  rw [Array.getElem?_setIfInBounds]
  split
  · rename_i e; subst e
    split
    · exact h.symm
    · rename_i g; rw [Array.getElem?_eq_none (by omega)]
  · rfl

theorem ret_i {a b : Int} (h : a = b) : Ending.returned (i64 a) = Ending.returned (i64 b) := by rw [h]
theorem ret_b {a b : Bool} (h : a = b) : Ending.returned (.bool a) = Ending.returned (.bool b) := by rw [h]

end Go.Proofs.Ytagnclphmhjoiaa
