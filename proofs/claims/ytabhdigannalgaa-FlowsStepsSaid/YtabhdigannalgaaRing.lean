/-
  A ring in memory, as one notion: where its map, its row, its flows and their costs lie; and how it changes when one flow does. Condition: the ring is one that its own functions made.
-/
import Derived.Test.YtabhdigannalgaaDrrMore
import Derived.Test.YtabhdigannalgaaRgLaw
namespace Go.Proofs.Ytabhdigannalgaa
open Go Go.RowKit Go.Maps

/-- of the blocks that were there only those of Z may have changed -/
def UpdP (Z : Nat → Prop) (w w' : World) : Prop := ∃ S, Upd S w w' ∧ ∀ x ∈ S, Z x ∨ w.heap.size ≤ x
theorem UpdP.refl (Z : Nat → Prop) (w : World) : UpdP Z w w := ⟨[], Upd.refl _ _, fun _ h => (by cases h)⟩
theorem UpdP.size {Z : Nat → Prop} {w w' : World} (h : UpdP Z w w') : w.heap.size ≤ w'.heap.size := by obtain ⟨S, h, -⟩ := h; exact h.size
theorem UpdP.keep {Z : Nat → Prop} {w w' : World} (h : UpdP Z w w') {b : Nat} {o : Obj} (hb : w.heap[b]? = some o) (hn : ¬ Z b) : w'.heap[b]? = some o := by
  obtain ⟨S, h, hs⟩ := h
  refine h.keep hb fun hm => ?_
  rcases hs b hm with q | q
  · exact hn q
  · have := lt_of_heap hb; omega
theorem UpdP.trans {Z Z' : Nat → Prop} {a b c : World} (h : UpdP Z a b) (k : UpdP Z' b c) (hz : ∀ x, Z' x → Z x ∨ a.heap.size ≤ x) : UpdP Z a c := by
  obtain ⟨S, h, hs⟩ := h
  obtain ⟨S', k, ks⟩ := k
  refine ⟨S ++ S', (h.mono (by intro x hx; simp [hx])).trans' (k.mono (by intro x hx; simp [hx])), fun x hx => ?_⟩
  rcases List.mem_append.1 hx with q | q
  · exact hs x q
  · rcases ks x q with r | r
    · exact hz x r
    · exact .inr (Nat.le_trans h.size r)
theorem UpdP.of {Z : Nat → Prop} {w w' : World} {S : List Nat} (h : Upd S w w') (hs : ∀ x ∈ S, Z x ∨ w.heap.size ≤ x) : UpdP Z w w' := ⟨S, h, hs⟩
theorem UpdP.of0 {Z : Nat → Prop} {w w' : World} (h : Upd [] w w') : UpdP Z w w' := ⟨[], h, fun _ q => (by cases q)⟩
theorem UpdP.mono {Z Z' : Nat → Prop} {w w' : World} (h : UpdP Z w w') (hz : ∀ x, Z x → Z' x ∨ w.heap.size ≤ x) : UpdP Z' w w' := by
  obtain ⟨S, h, hs⟩ := h
  refine ⟨S, h, fun x hx => ?_⟩
  rcases hs x hx with q | q
  · exact hz x q
  · exact .inr q
theorem Upd.transP {Z : Nat → Prop} {w a b : World} (h : Upd [] w a) (k : UpdP Z a b) (hz : ∀ x, Z x → w.heap.size ≤ x) : Upd [] w b := by
  obtain ⟨S, k, ks⟩ := k
  refine h.trans k fun x hx => .inr ?_
  rcases ks x hx with q | q
  · exact hz x q
  · exact Nat.le_trans h.size q

/-- Z, and all that is new -/
def grow (Z : Nat → Prop) (w : World) : Nat → Prop := fun x => Z x ∨ w.heap.size ≤ x
/-- of Z what is there -/
def cutZ (Z : Nat → Prop) (w : World) : Nat → Prop := fun x => Z x ∧ x < w.heap.size

structure RingX (w : World) (Z : Nat → Prop) (b : Nat) (ty : TypeId) (tl : List Value) (N : Nat) (r : Rg) (blk : Int → Nat) (mv rv : Value) (cv : Int → Value) : Prop where
  hb : w.heap[b]? = some (.cells (mv :: rv :: tl).toArray ty (0, 0))
  zb : Z b
  map : (mv = .map none ∧ ∀ n, r.fl n = none) ∨ ∃ M, mv = .map (some M) ∧ Z M ∧ FlMap w M N (fun n => (r.fl n).map fun _ => blk n)
  row : Sub w 0 96 1 rv r.row.length (evs (r.row.map blk))
  zr : ∀ x ∈ blkL rv, Z x
  fl : ∀ n f, r.fl n = some f → FlAt w (blk n) n f.q f.d (cv n) f.rs f.an ∧ Sub w 0 3 1 (cv n) f.cs.length (f.cs.map i64) ∧ Z (blk n) ∧ ∀ x ∈ blkL (cv n), Z x
  inj : ∀ n m, r.fl n ≠ none → r.fl m ≠ none → n ≠ m → blk n ≠ blk m ∧ ∀ x ∈ blkL (cv n), x ∉ blkL (cv m)

theorem FlMap.ne {w : World} {M N b : Nat} {f : Int → Option Nat} (h : FlMap w M N f) {cs : Array Value} {t : TypeId} {fr : Nat × Nat} (hb : w.heap[b]? = some (.cells cs t fr)) : M ≠ b := by
  obtain ⟨D, ⟨es, clock, hb', -⟩, -⟩ := h
  rintro rfl
  have hx := hb'.symm.trans hb
  injection hx with hx; cases hx
theorem FlMap.lt {w : World} {M N : Nat} {f : Int → Option Nat} (h : FlMap w M N f) : M < w.heap.size := by
  obtain ⟨D, h, -⟩ := h
  exact h.lt

section
variable {w w' : World} {Z : Nat → Prop} {b : Nat} {ty : TypeId} {tl : List Value} {N : Nat} {r : Rg} {blk : Int → Nat} {mv rv : Value} {cv : Int → Value}

theorem RingX.lv (h : RingX w Z b ty tl N r blk mv rv cv) (hr : ∀ m ∈ r.row, r.fl m ≠ none) : ∀ y ∈ r.row.map blk, Lv w y := by
  intro y hy
  obtain ⟨m, hm, rfl⟩ := List.mem_map.1 hy
  cases hf : r.fl m with
  | none => exact (hr m hm hf).elim
  | some f => exact lv_of (h.fl m f hf).1
theorem RingX.off (h : RingX w Z b ty tl N r blk mv rv cv) (hr : ∀ m ∈ r.row, r.fl m ≠ none) {n : Int} (hn : r.fl n ≠ none) : rmv (blk n) (r.row.map blk) = (offR n r.row).map blk := by
  unfold rmv offR
  have : ∀ l : List Int, (∀ m ∈ l, r.fl m ≠ none) → (l.map blk).filter (fun y => !decide (y = blk n)) = (l.filter fun j => !decide (j = n)).map blk := by
    intro l
    induction l with
    | nil => intro _; rfl
    | cons a t ih =>
      intro hl
      have ih := ih fun m hm => hl m (by simp [hm])
      by_cases e : a = n
      · subst e; simp [ih]
      · have := (h.inj a n (hl a (by simp)) hn e).1
        simp [ih, e, this]
  exact this r.row hr
theorem RingX.mem (h : RingX w Z b ty tl N r blk mv rv cv) (hr : ∀ m ∈ r.row, r.fl m ≠ none) {n : Int} (hn : r.fl n ≠ none) : blk n ∈ r.row.map blk ↔ n ∈ r.row := by
  constructor
  · intro hx
    obtain ⟨m, hm, e⟩ := List.mem_map.1 hx
    by_cases e2 : m = n
    · rw [← e2]; exact hm
    · exact ((h.inj m n (hr m hm) hn e2).1 e).elim
  · exact fun hm => List.mem_map_of_mem hm

/-- Z may be larger -/
theorem RingX.mono (h : RingX w Z b ty tl N r blk mv rv cv) {Z' : Nat → Prop} (hz : ∀ x, Z x → Z' x) : RingX w Z' b ty tl N r blk mv rv cv :=
  ⟨h.hb, hz _ h.zb, h.map.imp id fun ⟨M, h1, h2, h3⟩ => ⟨M, h1, hz _ h2, h3⟩, h.row, fun x hx => hz _ (h.zr x hx), fun n f hf => by
    obtain ⟨h1, h2, h3, h4⟩ := h.fl n f hf
    exact ⟨h1, h2, hz _ h3, fun x hx => hz _ (h4 x hx)⟩, h.inj⟩
theorem RingX.cut (h : RingX w Z b ty tl N r blk mv rv cv) : RingX w (cutZ Z w) b ty tl N r blk mv rv cv :=
  ⟨h.hb, ⟨h.zb, lt_of_heap h.hb⟩, h.map.imp id fun ⟨M, h1, h2, h3⟩ => ⟨M, h1, ⟨h2, h3.lt⟩, h3⟩, h.row, fun x hx => ⟨h.zr x hx, (h.row.lt x hx).2⟩, fun n f hf => by
    obtain ⟨h1, h2, h3, h4⟩ := h.fl n f hf
    exact ⟨h1, h2, ⟨h3, lt_of_heap h1⟩, fun x hx => ⟨h4 x hx, (h2.lt x hx).2⟩⟩, h.inj⟩
/-- it stays while no block of Z changes -/
theorem RingX.upd (h : RingX w Z b ty tl N r blk mv rv cv) {S : List Nat} (hu : Upd S w w') (hS : ∀ x ∈ S, ¬ Z x) : RingX w' Z b ty tl N r blk mv rv cv :=
  ⟨hu.keep h.hb fun hm => hS _ hm h.zb, h.zb, h.map.imp id fun ⟨M, h1, h2, h3⟩ => ⟨M, h1, h2, h3.upd hu fun hm => hS _ hm h2⟩, h.row.upd hu fun x hx hm => hS _ hm (h.zr x hx), h.zr, fun n f hf => by
    obtain ⟨h1, h2, h3, h4⟩ := h.fl n f hf
    exact ⟨hu.keep h1 fun hm => hS _ hm h3, h2.upd hu fun x hx hm => hS _ hm (h4 x hx), h3, h4⟩, h.inj⟩

/-- one flow changes -/
theorem RingX.change (hty : RTy ty) (h : RingX w Z b ty tl N r blk mv rv cv) {n : Int} {F : Nat} {S : List Nat} {o : Option Fl} {row' : List Int} {mv' rv' cvn : Value} {N' : Nat}
    (hu : Upd S w w') (hF : (r.fl n ≠ none ∧ F = blk n) ∨ w.heap.size ≤ F)
    (hS : ∀ x ∈ S, x = b ∨ x = F ∨ x ∈ blkL rv ∨ (r.fl n ≠ none ∧ x ∈ blkL (cv n)) ∨ mv = .map (some x))
    (hb' : w'.heap[b]? = some (.cells (mv' :: rv' :: tl).toArray ty (0, 0)))
    (hm' : (mv' = .map none ∧ ∀ j, r.put n o j = none) ∨ ∃ M, mv' = .map (some M) ∧ (mv = .map (some M) ∨ w.heap.size ≤ M) ∧ FlMap w' M N' (fun j => (r.put n o j).map fun _ => if j = n then F else blk j))
    (hrow : Sub w' 0 96 1 rv' row'.length (evs (row'.map fun j => if j = n then F else blk j)))
    (hzr : ∀ x ∈ blkL rv', x ∈ blkL rv ∨ w.heap.size ≤ x)
    (hfl : ∀ f, o = some f → FlAt w' F n f.q f.d cvn f.rs f.an ∧ Sub w' 0 3 1 cvn f.cs.length (f.cs.map i64) ∧ ∀ x ∈ blkL cvn, (r.fl n ≠ none ∧ x ∈ blkL (cv n)) ∨ w.heap.size ≤ x) :
    RingX w' (grow Z w) b ty tl N' ⟨r.put n o, row'⟩ (fun j => if j = n then F else blk j) mv' rv' (fun j => if j = n then cvn else cv j) ∧ UpdP Z w w' := by
  have hzM : ∀ M, mv = .map (some M) → Z M ∧ ∃ f, FlMap w M N f := by
    intro M e
    rcases h.map with ⟨e2, -⟩ | ⟨M', e2, h2, h3⟩
    · rw [e2] at e; cases e
    · rw [e2] at e; injection e with e; injection e with e; subst e
      exact ⟨h2, _, h3⟩
  have hzF : Z F ∨ w.heap.size ≤ F := by
    rcases hF with ⟨h1, rfl⟩ | h1
    · cases hf : r.fl n with
      | none => exact (h1 hf).elim
      | some f => exact .inl (h.fl n f hf).2.2.1
    · exact .inr h1
  have hzc : r.fl n ≠ none → ∀ x ∈ blkL (cv n), Z x := fun h1 => by
    cases hf : r.fl n with
    | none => exact (h1 hf).elim
    | some f => exact (h.fl n f hf).2.2.2
  have htc : r.fl n ≠ none → ∀ x ∈ blkL (cv n), ∃ cs, w.heap[x]? = some (.cells cs 3 (0, 0)) := fun h1 => by
    cases hf : r.fl n with
    | none => exact (h1 hf).elim
    | some f => exact (h.fl n f hf).2.1.ty
  have htF : F < w.heap.size → ∃ cs, w.heap[F]? = some (.cells cs 98 (0, 0)) := by
    intro hlt
    rcases hF with ⟨h1, rfl⟩ | h1
    · cases hf : r.fl n with
      | none => exact (h1 hf).elim
      | some f => exact ⟨_, (h.fl n f hf).1⟩
    · omega
  -- the other flows stay
  have hother : ∀ j g, j ≠ n → r.fl j = some g → FlAt w' (blk j) j g.q g.d (cv j) g.rs g.an ∧ Sub w' 0 3 1 (cv j) g.cs.length (g.cs.map i64) := by
    intro j g hj hg
    obtain ⟨h1, h2, h3, h4⟩ := h.fl j g hg
    have hne : r.fl j ≠ none := by rw [hg]; exact fun e => (by cases e)
    constructor
    · refine hu.keep h1 fun hm => ?_
      rcases hS _ hm with e | e | e | ⟨e1, e⟩ | e
      · exact cells_ne h.hb h1 hty.f e.symm
      · rcases hF with ⟨q1, q2⟩ | q
        · exact (h.inj j n hne q1 hj).1 (e.trans q2)
        · have := lt_of_heap h1; omega
      · obtain ⟨cs, q⟩ := h.row.ty _ e
        exact cells_ne q h1 (by decide) rfl
      · obtain ⟨cs, q⟩ := htc e1 _ e
        exact cells_ne q h1 (by decide) rfl
      · obtain ⟨-, f, q⟩ := hzM _ e
        exact q.ne h1 rfl
    · refine h2.upd hu fun x hx hm => ?_
      obtain ⟨cs, hxt⟩ := h2.ty _ hx
      rcases hS _ hm with e | e | e | ⟨e1, e⟩ | e
      · subst e; exact cells_ne h.hb hxt hty.i rfl
      · subst e
        obtain ⟨cs', q⟩ := htF (lt_of_heap hxt)
        exact cells_ne q hxt (by decide) rfl
      · obtain ⟨cs', q⟩ := h.row.ty _ e
        exact cells_ne q hxt (by decide) rfl
      · exact (h.inj j n hne e1 hj).2 x hx e
      · obtain ⟨-, f, q⟩ := hzM _ e
        exact q.ne hxt rfl
  refine ⟨⟨hb', .inl h.zb, ?_, hrow, fun x hx => ?_, fun j g hg => ?_, fun j m hj hm hne => ?_⟩, UpdP.of hu fun x hx => ?_⟩
  · rcases hm' with h1 | ⟨M, h1, h2, h3⟩
    · exact .inl h1
    · refine .inr ⟨M, h1, ?_, h3⟩
      rcases h2 with q | q
      · exact .inl (hzM M q).1
      · exact .inr q
  · rcases hzr x hx with q | q
    · exact .inl (h.zr x q)
    · exact .inr q
  · by_cases e : j = n
    · subst e
      have := (Rg.put_same r j o).symm.trans hg
      subst this
      obtain ⟨h1, h2, h3⟩ := hfl g rfl
      simp only [if_true]
      refine ⟨h1, h2, hzF, fun x hx => ?_⟩
      rcases h3 x hx with ⟨q1, q2⟩ | q
      · exact .inl (hzc q1 x q2)
      · exact .inr q
    · have hg' := (Rg.put_other r o e).symm.trans hg
      obtain ⟨h1, h2⟩ := hother j g e hg'
      obtain ⟨-, -, h3, h4⟩ := h.fl j g hg'
      simp only [if_neg e]
      exact ⟨h1, h2, .inl h3, fun x hx => .inl (h4 x hx)⟩
  · change r.put n o j ≠ none at hj
    change r.put n o m ≠ none at hm
    by_cases e1 : j = n
    · subst e1
      have e2 : m ≠ j := fun e => hne e.symm
      rw [Rg.put_same] at hj
      rw [Rg.put_other r o e2] at hm
      simp only [if_true, if_neg e2]
      cases ho : o with
      | none => exact (hj ho).elim
      | some f =>
        obtain ⟨h1, h2, h3⟩ := hfl f ho
        cases hg : r.fl m with
        | none => exact (hm hg).elim
        | some g =>
          obtain ⟨k1, k2, -, -⟩ := h.fl m g hg
          refine ⟨?_, fun x hx hx2 => ?_⟩
          · rcases hF with ⟨q1, q2⟩ | q
            · rw [q2]; exact (h.inj j m q1 hm hne).1
            · have := lt_of_heap k1; omega
          · rcases h3 x hx with ⟨q1, q2⟩ | q
            · exact (h.inj j m q1 hm hne).2 x q2 hx2
            · have := (k2.lt x hx2).2; omega
    · by_cases e2 : m = n
      · subst e2
        rw [Rg.put_same] at hm
        rw [Rg.put_other r o e1] at hj
        simp only [if_true, if_neg e1]
        cases ho : o with
        | none => exact (hm ho).elim
        | some f =>
          obtain ⟨h1, h2, h3⟩ := hfl f ho
          cases hg : r.fl j with
          | none => exact (hj hg).elim
          | some g =>
            obtain ⟨k1, k2, -, -⟩ := h.fl j g hg
            refine ⟨?_, fun x hx hx2 => ?_⟩
            · rcases hF with ⟨q1, q2⟩ | q
              · rw [q2]; exact (h.inj j m hj q1 e1).1
              · have := lt_of_heap k1; omega
            · rcases h3 x hx2 with ⟨q1, q2⟩ | q
              · exact (h.inj j m hj q1 e1).2 x hx q2
              · have := (k2.lt x hx).2; omega
      · rw [Rg.put_other r o e1] at hj
        rw [Rg.put_other r o e2] at hm
        simp only [if_neg e1, if_neg e2]
        exact h.inj j m hj hm hne
  · rcases hS x hx with e | e | e | ⟨e1, e⟩ | e
    · subst e; exact .inl h.zb
    · subst e; exact hzF
    · exact .inl (h.zr x e)
    · exact .inl (hzc e1 x e)
    · exact .inl (hzM x e).1

theorem blk_same {α : Type} (f : Int → α) (n : Int) : (fun j => if j = n then f n else f j) = f := by
  funext j
  split
  · rename_i e; rw [e]
  · rfl
theorem map_keep {n : Int} {f : Fl} (hn : r.fl n ≠ none) : (fun j => (r.put n (some f) j).map fun _ => blk j) = fun j => (r.fl j).map fun _ => blk j := by
  funext j
  by_cases e : j = n
  · subst e
    rw [Rg.put_same]
    cases hf : r.fl j with
    | none => exact (hn hf).elim
    | some g => rfl
  · rw [Rg.put_other r _ e]

/-- one flow that is there changes, the map staying -/
theorem RingX.change1 (hty : RTy ty) (h : RingX w Z b ty tl N r blk mv rv cv) {n : Int} {S : List Nat} {f : Fl} {row' : List Int} {rv' cvn : Value}
    (hu : Upd S w w') (hn : r.fl n ≠ none)
    (hS : ∀ x ∈ S, x = b ∨ x = blk n ∨ x ∈ blkL rv ∨ x ∈ blkL (cv n))
    (hb' : w'.heap[b]? = some (.cells (mv :: rv' :: tl).toArray ty (0, 0)))
    (hrow : Sub w' 0 96 1 rv' row'.length (evs (row'.map blk)))
    (hzr : ∀ x ∈ blkL rv', x ∈ blkL rv ∨ w.heap.size ≤ x)
    (hf1 : FlAt w' (blk n) n f.q f.d cvn f.rs f.an) (hf2 : Sub w' 0 3 1 cvn f.cs.length (f.cs.map i64)) (hf3 : ∀ x ∈ blkL cvn, x ∈ blkL (cv n) ∨ w.heap.size ≤ x) :
    RingX w' (grow Z w) b ty tl N ⟨r.put n (some f), row'⟩ blk mv rv' (fun j => if j = n then cvn else cv j) ∧ UpdP Z w w' := by
  obtain ⟨M, hM, hzM, hmap⟩ : ∃ M, mv = .map (some M) ∧ Z M ∧ FlMap w M N (fun n => (r.fl n).map fun _ => blk n) := by
    rcases h.map with ⟨-, q⟩ | q
    · exact (hn (q n)).elim
    · exact q
  have hMS : M ∉ S := by
    intro hm
    rcases hS _ hm with e | e | e | e
    · exact hmap.ne h.hb e
    · cases hf : r.fl n with
      | none => exact hn hf
      | some f => exact hmap.ne (h.fl n f hf).1 e
    · obtain ⟨cs, q⟩ := h.row.ty _ e
      exact hmap.ne q rfl
    · cases hf : r.fl n with
      | none => exact hn hf
      | some f =>
        obtain ⟨cs, q⟩ := (h.fl n f hf).2.1.ty _ e
        exact hmap.ne q rfl
  have := h.change hty (n := n) (F := blk n) (o := some f) (row' := row') (mv' := mv) (rv' := rv') (cvn := cvn) (N' := N) hu (.inl ⟨hn, rfl⟩)
    (fun x hx => by
      rcases hS x hx with e | e | e | e
      · exact .inl e
      · exact .inr (.inl e)
      · exact .inr (.inr (.inl e))
      · exact .inr (.inr (.inr (.inl ⟨hn, e⟩)))) hb'
    (.inr ⟨M, hM, .inl hM, by
      have hx := hmap.upd hu hMS
      rw [show (fun j => (r.put n (some f) j).map fun _ => if j = n then blk n else blk j) = fun j => (r.fl j).map fun _ => blk j from by
        funext j
        have e : (if j = n then blk n else blk j) = blk j := congrFun (blk_same blk n) j
        rw [e]
        exact congrFun (map_keep (f := f) hn) j]
      exact hx⟩)
    (by rw [blk_same]; exact hrow) hzr
    (fun g hg => by
      injection hg with hg; subst hg
      exact ⟨hf1, hf2, fun x hx => (hf3 x hx).imp (fun q => ⟨hn, q⟩) id⟩)
  rw [blk_same] at this
  exact this
end

/-- a ring of K steps at most -/
def RingAt (w : World) (Z : Nat → Prop) (b : Nat) (ty : TypeId) (tl : List Value) (K : Nat) (r : Rg) : Prop :=
  RTy ty ∧ r.ok ∧ r.small K ∧ ∃ N blk mv rv cv, N ≤ K ∧ RingX w Z b ty tl N r blk mv rv cv

theorem RingAt.ok {w : World} {Z : Nat → Prop} {b : Nat} {ty : TypeId} {tl : List Value} {K : Nat} {r : Rg} (h : RingAt w Z b ty tl K r) : r.ok := h.2.1
theorem RingAt.more {w : World} {Z Z' : Nat → Prop} {b : Nat} {ty : TypeId} {tl : List Value} {K L : Nat} {r : Rg} (h : RingAt w Z b ty tl K r) (hz : ∀ x, Z x → Z' x) (hl : K ≤ L) : RingAt w Z' b ty tl L r := by
  obtain ⟨h1, h2, h3, N, blk, mv, rv, cv, h4, h5⟩ := h
  exact ⟨h1, h2, h3.mono hl, N, blk, mv, rv, cv, Nat.le_trans h4 hl, h5.mono hz⟩
theorem RingAt.upd {w w' : World} {Z : Nat → Prop} {b : Nat} {ty : TypeId} {tl : List Value} {K : Nat} {r : Rg} (h : RingAt w Z b ty tl K r) {S : List Nat} (hu : Upd S w w') (hS : ∀ x ∈ S, ¬ Z x) : RingAt w' Z b ty tl K r := by
  obtain ⟨h1, h2, h3, N, blk, mv, rv, cv, h4, h5⟩ := h
  exact ⟨h1, h2, h3, N, blk, mv, rv, cv, h4, h5.upd hu hS⟩
theorem RingAt.upd0 {w w' : World} {Z : Nat → Prop} {b : Nat} {ty : TypeId} {tl : List Value} {K : Nat} {r : Rg} (h : RingAt w Z b ty tl K r) (hu : Upd [] w w') : RingAt w' Z b ty tl K r := h.upd hu fun _ q => (by cases q)
theorem RingAt.cut {w : World} {Z : Nat → Prop} {b : Nat} {ty : TypeId} {tl : List Value} {K : Nat} {r : Rg} (h : RingAt w Z b ty tl K r) : RingAt w (cutZ Z w) b ty tl K r := by
  obtain ⟨h1, h2, h3, N, blk, mv, rv, cv, h4, h5⟩ := h
  exact ⟨h1, h2, h3, N, blk, mv, rv, cv, h4, h5.cut⟩
theorem RingAt.zb {w : World} {Z : Nat → Prop} {b : Nat} {ty : TypeId} {tl : List Value} {K : Nat} {r : Rg} (h : RingAt w Z b ty tl K r) : Z b := by
  obtain ⟨h1, h2, h3, N, blk, mv, rv, cv, h4, h5⟩ := h
  exact h5.zb
theorem RingAt.lt {w : World} {Z : Nat → Prop} {b : Nat} {ty : TypeId} {tl : List Value} {K : Nat} {r : Rg} (h : RingAt w Z b ty tl K r) : b < w.heap.size := by
  obtain ⟨h1, h2, h3, N, blk, mv, rv, cv, h4, h5⟩ := h
  exact lt_of_heap h5.hb

/-- a new ring, its block being there -/
theorem ringAt_new {w : World} {b : Nat} {ty : TypeId} {tl : List Value} (hty : RTy ty) (hb : w.heap[b]? = some (.cells (.map none :: .slice none 0 0 :: tl).toArray ty (0, 0))) (Z : Nat → Prop) (hz : Z b) : RingAt w Z b ty tl 0 Rg.new :=
  ⟨hty, Rg.ok_new, small_new 0, 0, fun _ => 0, _, _, fun _ => .slice none 0 0, Nat.le_refl _, ⟨hb, hz, .inl ⟨rfl, fun _ => rfl⟩, sub_nil _ _ _ _, fun x hx => (by simp [blkL] at hx), fun _ _ h => (by cases h), fun n _ h => (h rfl).elim⟩⟩
end Go.Proofs.Ytabhdigannalgaa
