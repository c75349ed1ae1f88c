/-
  Slices that begin anywhere in a block that is the call's own: what they hold, how they are read, appended to, and cut in front. No condition.
-/
import Derived.Test.YtagnclphmhjoiaaBase
import Derived.ArgAppend
import Derived.Laws.OwnMore
import Derived.RegionTactic
namespace Go.Proofs.Ytagnclphmhjoiaa
open Go Go.RowKit

/-- the slice v, of n elements of type e (size cells each), holds the cells xs; it is nil, or it lies in a block from base on, no cell of which is frozen -/
def Sub (w : World) (base : Nat) (e : TypeId) (size : Nat) (v : Value) (n : Nat) (xs : List Value) : Prop :=
  xs.length = n * size ∧ ((v = .slice none 0 0 ∧ n = 0) ∨ ∃ g off cap cs, v = .slice (some ⟨g, off, none⟩) n cap ∧ base ≤ g ∧ w.heap[g]? = some (.cells cs e (0, 0)) ∧ n ≤ cap ∧ cap ≤ maxLen ∧ off + cap * size ≤ cs.size ∧
    ∀ j, j < n * size → cs[off + j]? = xs[j]?)

/-- the block of a slice -/
def blkL : Value → List Nat
  | .slice (some a) _ _ => [a.block]
  | _ => []

theorem sub_nil (w : World) (base : Nat) (e : TypeId) (size : Nat) : Sub w base e size (.slice none 0 0) 0 [] := ⟨by simp, .inl ⟨rfl, rfl⟩⟩

theorem sub_of_own {w : World} {base : Nat} {e : TypeId} {size : Nat} {v : Value} {n : Nat} {xs : List Value} (h : w.ownsRow base e size v n xs) : Sub w base e size v n xs := by
  obtain ⟨hl, h⟩ := h
  rcases h with ⟨rfl, rfl⟩ | ⟨g, cap, cur, rfl, hg, hh, hn, hc, hs, hx⟩
  · exact ⟨hl, .inl ⟨rfl, rfl⟩⟩
  · refine ⟨hl, .inr ⟨g, 0, cap, cur, rfl, hg, hh, hn, hc, by omega, ?_⟩⟩
    intro j hj
    rw [← hx, List.getElem?_take, if_pos hj, Nat.zero_add]
    simp

theorem Sub.len {w : World} {base : Nat} {e : TypeId} {size : Nat} {v : Value} {n : Nat} {xs : List Value} (h : Sub w base e size v n xs) : xs.length = n * size := h.1

theorem Sub.mono {w : World} {base base' : Nat} {e : TypeId} {size : Nat} {v : Value} {n : Nat} {xs : List Value} (h : Sub w base e size v n xs) (hb : base' ≤ base) : Sub w base' e size v n xs := by
  obtain ⟨hl, h⟩ := h
  rcases h with h | ⟨g, off, cap, cs, h1, h2, h3⟩
  · exact ⟨hl, .inl h⟩
  · exact ⟨hl, .inr ⟨g, off, cap, cs, h1, by omega, h3⟩⟩

/-- it stays what it is while its block does -/
theorem Sub.keepB {w w' : World} {base : Nat} {e : TypeId} {size : Nat} {v : Value} {n : Nat} {xs : List Value} (h : Sub w base e size v n xs) (hk : ∀ g, g ∈ blkL v → w'.heap[g]? = w.heap[g]?) : Sub w' base e size v n xs := by
  obtain ⟨hl, h⟩ := h
  rcases h with h | ⟨g, off, cap, cs, rfl, h2, h3, h4⟩
  · exact ⟨hl, .inl h⟩
  · exact ⟨hl, .inr ⟨g, off, cap, cs, rfl, h2, (hk g (by simp [blkL])).trans h3, h4⟩⟩

theorem Sub.lt {w : World} {base : Nat} {e : TypeId} {size : Nat} {v : Value} {n : Nat} {xs : List Value} (h : Sub w base e size v n xs) : ∀ g, g ∈ blkL v → base ≤ g ∧ g < w.heap.size := by
  obtain ⟨hl, h⟩ := h
  rcases h with ⟨rfl, _⟩ | ⟨g, off, cap, cs, rfl, h2, h3, h4⟩
  · simp [blkL]
  · intro k hk
    simp [blkL] at hk
    subst hk
    exact ⟨h2, lt_of_heap h3⟩

theorem Sub.upd {S : List Nat} {w w' : World} {base : Nat} {e : TypeId} {size : Nat} {v : Value} {n : Nat} {xs : List Value} (h : Sub w base e size v n xs) (hu : Upd S w w') (hs : ∀ g, g ∈ blkL v → g ∉ S) : Sub w' base e size v n xs :=
  h.keepB fun g hg => hu.block g (h.lt g hg).2 (hs g hg)
theorem Sub.upd0 {w w' : World} {base : Nat} {e : TypeId} {size : Nat} {v : Value} {n : Nat} {xs : List Value} (h : Sub w base e size v n xs) (hu : Upd [] w w') : Sub w' base e size v n xs := h.upd hu (by simp)

/-- of what type its block is -/
theorem Sub.ty {w : World} {base : Nat} {e : TypeId} {size : Nat} {v : Value} {n : Nat} {xs : List Value} (h : Sub w base e size v n xs) : ∀ g, g ∈ blkL v → ∃ cs, w.heap[g]? = some (.cells cs e (0, 0)) := by
  obtain ⟨hl, h⟩ := h
  rcases h with ⟨rfl, _⟩ | ⟨g, off, cap, cs, rfl, h2, h3, h4⟩
  · simp [blkL]
  · intro k hk
    simp [blkL] at hk
    subst hk
    exact ⟨cs, h3⟩

/-- its form, and its cells -/
theorem Sub.form {w : World} {base : Nat} {e : TypeId} {size : Nat} {v : Value} {n : Nat} {xs : List Value} (h : Sub w base e size v n xs) :
    ∃ ao cap, v = .slice ao n cap ∧ n ≤ cap ∧ (0 < n → ∃ g off, ao = some ⟨g, off, none⟩ ∧ base ≤ g ∧ g < w.heap.size ∧ ∀ j u, xs[j]? = some u → w.cell? ⟨g, off + j, none⟩ = some u) := by
  obtain ⟨hl, h⟩ := h
  rcases h with ⟨rfl, rfl⟩ | ⟨g, off, cap, cs, rfl, h2, h3, h4, h5, h6, h7⟩
  · exact ⟨none, 0, rfl, Nat.le_refl _, fun h => by omega⟩
  · refine ⟨_, _, rfl, h4, fun _ => ⟨g, off, rfl, h2, lt_of_heap h3, fun j u hj => ?_⟩⟩
    rw [cellOf h3, h7 j (by rw [← hl]; rcases Nat.lt_or_ge j xs.length with q | q; exact q; rw [List.getElem?_eq_none q] at hj; cases hj), hj]

/-- a store into one of its elements -/
theorem Sub.set {w : World} {base : Nat} {e : TypeId} {size : Nat} {g off n cap : Nat} {xs : List Value} (h : Sub w base e size (.slice (some ⟨g, off, none⟩) n cap) n xs) {j : Nat} (hj : j < n * size) (u : Value) :
    Sub (w.setCell ⟨g, off + j, none⟩ u) base e size (.slice (some ⟨g, off, none⟩) n cap) n (xs.set j u) := by
  obtain ⟨hl, h⟩ := h
  rcases h with ⟨h, _⟩ | ⟨g', off', cap', cs, he, h2, h3, h4, h5, h6, h7⟩
  · cases h
  · injection he with e1 e2 e3
    injection e1 with e1
    injection e1 with e4 e5
    subst e4; subst e5; subst e3
    refine ⟨by simpa using hl, .inr ⟨g, off, cap, _, rfl, h2, heap_setCell h3 _ _, h4, h5, by simpa using h6, ?_⟩⟩
    intro i hi
    by_cases hij : i = j
    · subst hij
      have : i < xs.length := by omega
      rw [List.getElem?_set_self this]
      exact set_self (u := xs[i]) ((h7 i hi).trans (List.getElem?_eq_getElem this))
    · rw [List.getElem?_set_ne (by omega)]
      exact set_ne _ (by omega) (h7 i hi)

/-- a slice that is handed in to be appended: its address, and its cells -/
def Src (w : World) (ax : Option Addr) (m cx : Nat) (ys : List Value) : Prop := (ax = none ∧ m = 0 ∧ cx = 0 ∧ ys = []) ∨ ∃ ad, ax = some ad ∧ ∀ j u, ys[j]? = some u → w.cell? (ad.add j) = some u

theorem Sub.src {w : World} {base : Nat} {e : TypeId} {size : Nat} {ax : Option Addr} {n n' cap : Nat} {xs : List Value} (h : Sub w base e size (.slice ax n cap) n' xs) : Src w ax n cap xs := by
  obtain ⟨hl, h⟩ := h
  rcases h with ⟨h, hn⟩ | ⟨g, off, cap', cs, h1, h2, h3, h4, h5, h6, h7⟩
  · injection h with e1 e2 e3
    subst e1; subst e2; subst e3; subst hn
    exact .inl ⟨rfl, rfl, rfl, List.eq_nil_of_length_eq_zero (by simpa using hl)⟩
  · injection h1 with e1 e2 e3
    subst e1; subst e2
    refine .inr ⟨_, rfl, fun j u hj => ?_⟩
    rw [Addr.add_lit, cellOf h3, h7 j (by rw [← hl]; rcases Nat.lt_or_ge j xs.length with q | q; exact q; rw [List.getElem?_eq_none q] at hj; cases hj), hj]

theorem src_block {w : World} {b : Nat} {cs : List Value} {t : TypeId} {fr : Nat × Nat} (h : w.heap[b]? = some (.cells cs.toArray t fr)) (m c : Nat) : Src w (some ⟨b, 0, none⟩) m c cs := .inr ⟨_, rfl, new_cells h⟩

theorem heap_setCells (w : World) (g off : Nat) (news : List Value) {cs : Array Value} {e : TypeId} {fr : Nat × Nat} (h : w.heap[g]? = some (.cells cs e fr)) (hr : off + news.length ≤ cs.size) :
    ∃ cs' : Array Value, (w.setCells g off news).heap[g]? = some (.cells cs' e fr) ∧ cs'.size = cs.size ∧ (∀ j, j < off → cs'[j]? = cs[j]?) ∧ (∀ j, j < news.length → cs'[off + j]? = news[j]?) ∧ Upd [g] w (w.setCells g off news) := by
  induction news generalizing w off cs with
  | nil => exact ⟨cs, h, rfl, fun _ _ => rfl, by simp, Upd.refl _ _⟩
  | cons x r ih =>
    simp only [List.length_cons] at hr
    obtain ⟨cs', h1, h2, h3, h4, h5⟩ := ih (w.setCell ⟨g, off, none⟩ x) (off + 1) (heap_setCell h off x) (by rw [Array.size_setIfInBounds]; omega)
    refine ⟨cs', h1, by rw [h2]; simp, ?_, ?_, ((Upd.refl _ _).setCell (by simp) _).trans' h5⟩
    · intro j hj
      rw [h3 j (by omega)]
      exact set_ne _ (by omega) rfl
    · intro j hj
      cases j with
      | zero =>
        rw [Nat.add_zero, h3 off (by omega), Array.getElem?_setIfInBounds, if_pos rfl, if_pos (by omega)]
        rfl
      | succ j =>
        have := h4 j (by simpa using hj)
        rw [show off + (j + 1) = off + 1 + j by omega, this]
        simp

theorem str_eq {a b : ByteArray} (h : a = b) : (a.toList == b.toList) = true := by subst h; simp
theorem str_ne {a b : ByteArray} (h : a ≠ b) : (a.toList == b.toList) = false := by
  rw [ByteArray.toList_eq, ByteArray.toList_eq]
  simp only [beq_eq_false_iff_ne, ne_eq]
  intro e
  apply h
  cases a; cases b
  simp at e
  rw [e]

theorem Upd.of_grown {w w' : World} {row : Option Nat} {S : List Nat} (hg : w.grownBy w' row) (hr : ∀ k, row = some k → k ∈ S) : Upd S w w' :=
  (Upd.refl _ _).grown hg fun k hk => .inl (hr k hk)

theorem ownBlock_blkL {v : Value} {k : Nat} (h : v.ownBlock = some k) : k ∈ blkL v := by
  unfold Value.ownBlock at h
  split at h
  · injection h with h; subst h; simp [blkL]
  · cases h

/-- an owned row's block, where the base is the heap's size -/
theorem own_new {w : World} {base : Nat} {e : TypeId} {size : Nat} {v : Value} {n : Nat} {xs : List Value} (h : w.ownsRow base e size v n xs) (hn : 0 < n) : ∃ g, blkL v = [g] ∧ base ≤ g := by
  obtain ⟨hl, h⟩ := h
  rcases h with ⟨rfl, rfl⟩ | ⟨g, cap, cur, rfl, hg, _⟩
  · omega
  · exact ⟨g, rfl, hg⟩

/-- append, whatever the source -/
theorem run_append_sub {P : Program} {w : World} (base : Nat) (t ty e : TypeId) (i : TypeInfo) (z : Value) (size bytes : Nat) (ht : P.underlying t = some (.slice e)) (hi : P.info? e = some i) (hz : i.zero = some z)
    (hsize : i.size = size) (hby : i.bytes = bytes) (hzs : z.cells.size = size) (hsz : 0 < size) {v : Value} {n : Nat} {xs : List Value} (hsub : Sub w base e size v n xs)
    {ax : Option Addr} {m cx : Nat} {ys : List Value} (hsrc : Src w ax m cx ys) (hl : ys.length = m * size) (h1 : ∀ u ∈ ys, u.oneCell' = true) (h63 : n + m ≤ maxLen) (hbytes : (n + m) * bytes ≤ 140737488355328) (hbase : base ≤ w.heap.size) :
    ∃ v' w', (Builtin.append_ #[t, t] ty #[v, .slice ax m cx]).run P w = .ok v' w' ∧ Sub w' base e size v' (n + m) (xs ++ ys) ∧ Upd (blkL v) w w' ∧ (blkL v' = blkL v ∨ ∃ g, blkL v' = [g] ∧ w.heap.size ≤ g) := by
  obtain ⟨hxl, hs⟩ := hsub
  have hs0 := hs
  rcases hsrc with ⟨rfl, rfl, rfl, rfl⟩ | ⟨ad, rfl, hc⟩
  · refine ⟨v, w, ?_, by rw [List.append_nil, Nat.add_zero]; exact ⟨hxl, hs⟩, Upd.refl _ _, .inl rfl⟩
    rcases hs with ⟨rfl, rfl⟩ | ⟨g, off, cap, cs, rfl, h2, h3, h4, h5, h6, h7⟩
    · exact run_append_owned_none (P := P) (w := w) base t ty e i size ht hi (.slice none 0 0) 0 [] (World.ownsRow_nil w _ e size)
    · simp [Builtin.append_, run_underlying ht, sizeOf, typeInfo, hi, Builtin.lenOf, Builtin.firstCells, h4, storeCells]
  · rcases hs with ⟨rfl, rfl⟩ | ⟨g, off, cap, cs, rfl, h2, h3, h4, h5, h6, h7⟩
    · obtain rfl : xs = [] := List.eq_nil_of_length_eq_zero (by simpa using hxl)
      by_cases hm : m = 0
      · subst hm
        obtain rfl : ys = [] := List.eq_nil_of_length_eq_zero (by simpa using hl)
        obtain ⟨v', w', hrun, r1, r2, r3⟩ := run_append_own (P := P) (w := w) base t ty e i z size bytes ht hi hz hsize hby hzs hsz (.slice none 0 0) 0 [] (World.ownsRow_nil w _ e size) ad 0 cx [] hl hc h1 h63 hbytes hbase
        obtain rfl := r3.2 ⟨rfl, rfl⟩
        exact ⟨_, w', hrun, sub_of_own r1, Upd.of_grown r2 (by simp [Value.ownBlock]), .inl rfl⟩
      · obtain ⟨v', w', hrun, r1, r2, r3⟩ := run_append_own (P := P) (w := w) w.heap.size t ty e i z size bytes ht hi hz hsize hby hzs hsz (.slice none 0 0) 0 [] (World.ownsRow_nil w _ e size) ad m cx ys hl hc h1 h63 hbytes (Nat.le_refl _)
        exact ⟨_, w', hrun, (sub_of_own r1).mono hbase, Upd.of_grown r2 (by simp [Value.ownBlock]), .inr (own_new r1 (by omega))⟩
    · have hcell : ∀ j u, xs[j]? = some u → w.cell? ⟨g, off + j, none⟩ = some u := fun j u hj => by
        rw [cellOf h3, h7 j (by rw [← hxl]; rcases Nat.lt_or_ge j xs.length with q | q; exact q; rw [List.getElem?_eq_none q] at hj; cases hj), hj]
      by_cases hr : n + m ≤ cap
      · have hmul : (n + m) * size ≤ cap * size := Nat.mul_le_mul_right _ hr
        rw [Nat.add_mul] at hmul
        have hin : ∀ j, j < ys.length → off + n * size + j < cs.size := fun j hj => by rw [hl] at hj; omega
        have hrun := run_append_room_cells (P := P) (w := w) t ty e i ht hi g off n cap ad m cx ys (by rw [hsize]; exact hl) hc h1 hr
          (fun j hj => by rw [hsize, cellOf h3, Array.getElem?_eq_getElem (hin j hj)]; rfl) (fun j hj => frzOf h3 _)
        rw [hsize] at hrun
        obtain ⟨cs', q1, q2, q3, q4, q5⟩ := heap_setCells w g (off + n * size) ys h3 (by rw [hl]; omega)
        refine ⟨_, _, hrun, ⟨by rw [List.length_append, hxl, hl, Nat.add_mul], .inr ⟨g, off, cap, cs', rfl, h2, q1, hr, h5, by omega, ?_⟩⟩, q5, .inl rfl⟩
        intro j hj
        rw [Nat.add_mul] at hj
        by_cases hjx : j < n * size
        · rw [q3 _ (by omega), h7 j hjx, List.getElem?_append_left (by omega)]
        · have := q4 (j - n * size) (by omega)
          rw [show off + n * size + (j - n * size) = off + j by omega] at this
          rw [this, List.getElem?_append_right (by omega), hxl]
      · obtain ⟨v', w', hrun, r1, r2⟩ := run_append_arg_grows (P := P) w t ty e i z size bytes ht hi hz hsize hby hzs hsz ⟨g, off, none⟩ n cap xs hxl (fun j u hj => by rw [Addr.add_lit]; exact hcell j u hj) ad m cx ys hl hc (by omega) h63 hbytes
        exact ⟨v', w', hrun, (sub_of_own r1).mono hbase, Upd.of_grown r2 (by simp), .inr (own_new r1 (by omega))⟩

/-- .. the value written out -/
theorem run_append_sl {P : Program} {w : World} (base : Nat) (t ty e : TypeId) (i : TypeInfo) (z : Value) (size bytes : Nat) (ht : P.underlying t = some (.slice e)) (hi : P.info? e = some i) (hz : i.zero = some z)
    (hsize : i.size = size) (hby : i.bytes = bytes) (hzs : z.cells.size = size) (hsz : 0 < size) {v : Value} {n : Nat} {xs : List Value} (hsub : Sub w base e size v n xs)
    {ax : Option Addr} {m cx : Nat} {ys : List Value} (hsrc : Src w ax m cx ys) (hl : ys.length = m * size) (h1 : ∀ u ∈ ys, u.oneCell' = true) (h63 : n + m ≤ maxLen) (hbytes : (n + m) * bytes ≤ 140737488355328) (hbase : base ≤ w.heap.size) :
    ∃ ao cap w', (Builtin.append_ #[t, t] ty #[v, .slice ax m cx]).run P w = .ok (.slice ao (n + m) cap) w' ∧ Sub w' base e size (.slice ao (n + m) cap) (n + m) (xs ++ ys) ∧ Upd (blkL v) w w' ∧ (blkL (.slice ao (n + m) cap) = blkL v ∨ ∃ g, blkL (.slice ao (n + m) cap) = [g] ∧ w.heap.size ≤ g) := by
  obtain ⟨v', w', hr, h2, h3, h4⟩ := run_append_sub (P := P) (w := w) base t ty e i z size bytes ht hi hz hsize hby hzs hsz hsub hsrc hl h1 h63 hbytes hbase
  obtain ⟨ao, cap, rfl, -⟩ := h2.form
  exact ⟨ao, cap, w', hr, h2, h3, h4⟩

theorem wp_append_sub {P : Program} {w : World} {o : Oper} {a : Act} {K : Act → World → Prop} {Q : Exit → Act → World → Prop} (s x : Operand) (t : TypeId)
    (ho : o.op = .call { callee := .builtin .append, args := #[s, x], argTypes := #[t, t] })
    (base : Nat) (e : TypeId) (i : TypeInfo) (z : Value) (size bytes : Nat) (ht : P.underlying t = some (.slice e)) (hi : P.info? e = some i) (hz : i.zero = some z)
    (hsize : i.size = size) (hby : i.bytes = bytes) (hzs : z.cells.size = size) (hsz : 0 < size) (v : Value) (n : Nat) (xs : List Value) (hs : a.eval s = v) (hsub : Sub w base e size v n xs)
    (ax : Option Addr) (m cx : Nat) (ys : List Value) (hx : a.eval x = .slice ax m cx) (hsrc : Src w ax m cx ys) (hl : ys.length = m * size) (h1 : ∀ u ∈ ys, u.oneCell' = true)
    (h63 : n + m ≤ maxLen) (hbytes : (n + m) * bytes ≤ 140737488355328) (hbase : base ≤ w.heap.size)
    (hK : ∀ ao cap w', Sub w' base e size (.slice ao (n + m) cap) (n + m) (xs ++ ys) → Upd (blkL v) w w' → (blkL (.slice ao (n + m) cap) = blkL v ∨ ∃ g, blkL (.slice ao (n + m) cap) = [g] ∧ w.heap.size ≤ g) → K (a.put o.dst (.slice ao (n + m) cap)) w') : o.wp P a w K Q := by
  obtain ⟨ao, cap, w', hr, h2, h3, h4⟩ := run_append_sl (P := P) (w := w) base t o.type e i z size bytes ht hi hz hsize hby hzs hsz hsub hsrc hl h1 h63 hbytes hbase
  unfold Oper.wp execOp
  simp only [ho, resolve, invoke, builtin, Sem.run_bind, Sem.run_pure, Result.andThen_ok, List.map_toArray, List.map_cons, List.map_nil, hs, hx, hr]
  exact hK ao cap w' h2 h3 h4

theorem wpList_append_sub {P : Program} (w : World) {ops : Array Oper} {rest : List Oper} {o : Oper} {a : Act} {Q : Exit → Act → World → Prop}
    (hg : o.guard = none) (s x : Operand) (t : TypeId) (hop : o.op = Op.call { callee := Callee.builtin Builtin.append, args := #[s, x], argTypes := #[t, t] })
    (base : Nat) (e : TypeId) (i : TypeInfo) (z : Value) (size bytes : Nat) (ht : P.underlying t = some (.slice e)) (hi : P.info? e = some i) (hz : i.zero = some z)
    (hsize : i.size = size) (hby : i.bytes = bytes) (hzs : z.cells.size = size) (hsz : 0 < size) (v : Value) (n : Nat) (xs : List Value) (hs : a.eval s = v) (hsub : Sub w base e size v n xs)
    (ax : Option Addr) (m cx : Nat) (ys : List Value) (hx : a.eval x = .slice ax m cx) (hsrc : Src w ax m cx ys) (hl : ys.length = m * size) (h1 : ∀ u ∈ ys, u.oneCell' = true)
    (h63 : n + m ≤ maxLen) (hbytes : (n + m) * bytes ≤ 140737488355328) (hbase : base ≤ w.heap.size)
    (hK : ∀ ao cap w', Sub w' base e size (.slice ao (n + m) cap) (n + m) (xs ++ ys) → Upd (blkL v) w w' → (blkL (.slice ao (n + m) cap) = blkL v ∨ ∃ g, blkL (.slice ao (n + m) cap) = [g] ∧ w.heap.size ≤ g) → wpList P ops Q rest (a.put o.dst (.slice ao (n + m) cap)) w') :
    wpList P ops Q (o :: rest) a w :=
  wpList_plain hg fun _ hK' => wp_append_sub s x t hop base e i z size bytes ht hi hz hsize hby hzs hsz v n xs hs hsub ax m cx ys hx hsrc hl h1 h63 hbytes hbase fun ao cap w' h2 h3 h4 => hK' _ _ (hK ao cap w' h2 h3 h4)

theorem Upd.trans2 {S : List Nat} {a b c : World} (k : Upd S b c) (h : Upd [] a b) : Upd S a c := (h.mono (by simp)).trans' k

theorem wp_append_run {P : Program} {w : World} {o : Oper} {a : Act} {K : Act → World → Prop} {Q : Exit → Act → World → Prop} (s x : Operand) (t : TypeId)
    (ho : o.op = .call { callee := .builtin .append, args := #[s, x], argTypes := #[t, t] }) {v vx v' : Value} {w' : World} (hs : a.eval s = v) (hx : a.eval x = vx)
    (hrun : (Builtin.append_ #[t, t] o.type #[v, vx]).run P w = .ok v' w') (h : K (a.put o.dst v') w') : o.wp P a w K Q := by
  unfold Oper.wp execOp
  simp only [ho, resolve, invoke, builtin, Sem.run_bind, Sem.run_pure, Result.andThen_ok, List.map_toArray, List.map_cons, List.map_nil, hs, hx, hrun]
  exact h

theorem step_plain {P : Program} {ops : Array Oper} {o : Oper} {a : Act} {w : World} {K : Act → World → Prop} {Q : Exit → Act → World → Prop} {E : Prop} (hgd : o.guard = none) (h : Oper.wp P o a w K Q) :
    if Region.wanted o (yielded ops a.tmps) = true then Oper.wp P o a w K Q else E := by
  have hw : Region.wanted o (yielded ops a.tmps) = true := by simp [Region.wanted, hgd]
  rw [if_pos hw]
  exact h
end Go.Proofs.Ytagnclphmhjoiaa
