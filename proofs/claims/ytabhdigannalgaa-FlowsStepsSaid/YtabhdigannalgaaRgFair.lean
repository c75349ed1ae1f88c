/-
  What turns leave as it is, and whom they serve: chapter 25's ring as plain lists; and how the steps of its laws read. No condition.
-/
import Derived.Test.YtabhdigannalgaaDrrAwake
import Derived.Test.YtabhdigannalgaaRingRead
import Derived.Test.YtabhdigannalgaaOpen
namespace Go.Proofs.Ytabhdigannalgaa
open Go Go.RowKit Go.ChangeShapes Go.WideShapes Go.ChangeAt

structure DStp where
  kind : Int
  flow : Int
  n : Int
def DStp.cells (s : DStp) : List Value := [i64 s.kind, i64 s.flow, i64 s.n]
def DStp.good (s : DStp) : Prop := inI s.kind ∧ inI s.flow ∧ inI s.n
theorem DStp.parse (vs : List Value) (h : AllOK [.int .i64, .int .i64, .int .i64] vs) : ∃ s, DStp.cells s = vs ∧ DStp.good s := by
  obtain ⟨a, r, rfl, ha, h⟩ := h.i64
  obtain ⟨b, r, rfl, hb, h⟩ := h.i64
  obtain ⟨c, r, rfl, hc, h⟩ := h.i64
  obtain rfl := h.none
  exact ⟨⟨a, b, c⟩, rfl, ha, hb, hc⟩
theorem flat_dstp : flat Try.prog 5 35 = some [.int .i64, .int .i64, .int .i64] := by kernel_rfl
theorem cells_dstp : Try.prog.cellsOf 35 = 3 := by kernel_rfl
theorem dsrow {w wr : World} {b off : Nat} {l : List DStp} (hr : RowsAt w b off 3 DStp.cells l) (hu : Upd [] w wr) (hb : b < w.heap.size) {k : Nat} (hk : k < l.length) :
    wr.cell? ⟨b, off + k * 3, none⟩ = some (i64 (l[k].kind)) ∧ wr.cell? ⟨b, off + k * 3 + 1, none⟩ = some (i64 (l[k].flow)) ∧ wr.cell? ⟨b, off + k * 3 + 2, none⟩ = some (i64 (l[k].n)) := by
  have h0 := hr k l[k] (List.getElem?_eq_getElem hk)
  exact ⟨(hu.below.cell (p := ⟨b, off + k * 3, none⟩) hb).trans (h0 0 (by omega)), (hu.below.cell (p := ⟨b, off + k * 3 + 1, none⟩) hb).trans (h0 1 (by omega)), (hu.below.cell (p := ⟨b, off + k * 3 + 2, none⟩) hb).trans (h0 2 (by omega))⟩

/-- a number's remainder, taken without its sign -/
theorem umod_in (x m : Int) (hm : 1 ≤ m ∧ m ≤ 2000) : ∃ y : Int, wrap64 ((IntKind.u64.wrap x).tmod m) = y ∧ 0 ≤ y ∧ y < m := by
  have h1 : 0 ≤ IntKind.u64.wrap x := by rw [IntKind.wrap_u64]; omega
  rw [Int.tmod_eq_emod_of_nonneg h1]
  have h2 := Int.emod_nonneg (IntKind.u64.wrap x) (b := m) (by omega)
  have h3 := Int.emod_lt_of_pos (IntKind.u64.wrap x) (b := m) (by omega)
  generalize IntKind.u64.wrap x % m = y at *
  exact ⟨y, IntWalk.wrap64_in _ (by omega), h2, h3⟩

theorem turn_ok {r : Rg} (h : r.ok) : r.turn.ok = decide (0 < r.row.length) :=
  turn_ind (P := fun r s => s.ok = decide (0 < r.row.length)) (fun r _ hr => by rw [hr]; rfl) (fun r n c l cs f _ hr _ _ _ _ => by rw [hr]; simp) (fun r n c l cs f s _ hr _ _ _ _ _ ih => by rw [ih, hr]; simp [Rg.spin]) r h
theorem turn_in {r : Rg} (h : r.ok) : 0 ≤ r.turn.n ∧ r.turn.n ≤ 8 :=
  turn_ind (P := fun _ s => 0 ≤ s.n ∧ s.n ≤ 8) (fun r _ _ => ⟨Int.le_refl _, by show (0 : Int) ≤ 8; decide⟩) (fun r n c l cs f h hr hf _ _ _ => h.rng n f hf) (fun _ _ _ _ _ _ _ _ _ _ _ _ _ _ ih => ih) r h
theorem turn_zero {r : Rg} (h : r.ok) : r.turn.ok = true → r.turn.r.waits r.turn.n = 0 → r.turn.r.deficit r.turn.n = 0 :=
  turn_ind (P := fun _ s => s.ok = true → s.r.waits s.n = 0 → s.r.deficit s.n = 0) (fun r _ _ e => by cases e)
    (fun r n c l cs f _ _ hf _ _ _ _ hw => by
      unfold Rg.serve Rg.waits at hw
      unfold Rg.serve Rg.deficit
      obtain ⟨g, hg, -, hgc, -⟩ := settle_fl_same r n { f.fresh with d := f.fresh.d - c, cs := cs }
      simp only [hg] at hw ⊢
      simp only at hgc
      rw [hgc] at hw
      have hcs : cs = [] := List.eq_nil_of_length_eq_zero hw
      subst hcs
      unfold Rg.settle at hg
      rw [if_neg (by simp [Fl.act])] at hg
      have := (Rg.put_same r n _).symm.trans hg
      injection this with this
      rw [← this])
    (fun _ _ _ _ _ _ _ _ _ _ _ _ _ _ ih => ih) r h

/-- a flow's quantum -/
def Rg.qOf (r : Rg) (n : Int) : Option Int := (r.fl n).map Fl.q
theorem settle_q (r : Rg) {n : Int} {f f0 : Fl} (hf : r.fl n = some f0) (hq : f.q = f0.q) (j : Int) : (r.settle n f).qOf j = r.qOf j := by
  unfold Rg.qOf
  by_cases e : j = n
  · subst e
    obtain ⟨g, hg, hq2, -, -⟩ := settle_fl_same r j f
    rw [hg, hf]; simp [hq2, hq]
  · rw [settle_fl_other r f e]
theorem push_q (r : Rg) (n c j : Int) : (r.push n c).qOf j = r.qOf j := by
  unfold Rg.push
  split
  · rfl
  · split
    · rfl
    · rename_i f hf
      exact settle_q (f := { f with cs := f.cs ++ [c] }) r hf rfl j
theorem rest_q (r : Rg) (n : Int) (b : Bool) (j : Int) : (r.rest n b).qOf j = r.qOf j := by
  unfold Rg.rest
  split
  · rfl
  · rename_i f hf
    exact settle_q (f := { f with rs := b }) r hf rfl j
theorem fresh_q (f : Fl) : f.fresh.q = f.q := by unfold Fl.fresh; split <;> rfl
theorem turn_q {r : Rg} (h : r.ok) (j : Int) : r.turn.r.qOf j = r.qOf j :=
  turn_ind (P := fun r s => s.r.qOf j = r.qOf j) (fun _ _ _ => rfl) (fun r n c l cs f _ _ hf _ _ _ => settle_q (f := { f.fresh with d := f.fresh.d - c, cs := cs }) r hf (fresh_q f) j)
    (fun r n c l cs f s _ _ hf _ _ _ _ ih => by
      rw [ih]
      unfold Rg.spin Rg.qOf
      by_cases e : j = n
      · subst e
        show (r.put j _ j).map Fl.q = _
        rw [Rg.put_same, hf]
        simp [fresh_q]
      · show (r.put n _ j).map Fl.q = _
        rw [Rg.put_other r _ e]) r h
theorem set_q_same (r : Rg) {n q : Int} (h : 0 ≤ n ∧ n ≤ 8) (hq : 1 ≤ q ∧ q ≤ 1048576) : (r.set n q).qOf n = some q := by
  unfold Rg.set Rg.qOf
  rw [if_neg (by omega)]
  show (r.put n _ n).map Fl.q = _
  rw [Rg.put_same]
  cases r.fl n <;> rfl
theorem set_q_other (r : Rg) {n q j : Int} (h : j ≠ n) : (r.set n q).qOf j = r.qOf j := by
  unfold Rg.set Rg.qOf
  split
  · rfl
  · show (r.put n _ j).map Fl.q = _
    rw [Rg.put_other r _ h]

/-- what the law of fair turns asks of an active flow -/
theorem fair_row {r : Rg} (h : r.ok) {m : Nat} (hm : m < r.row.length) {q : Int} (hq : r.qOf r.row[m] = some q) : 0 ≤ r.deficit r.row[m] ∧ (0 < m → r.deficit r.row[m] ≤ 1039) ∧ r.deficit r.row[m] ≤ q + 1039 ∧ 0 ≤ r.row[m] ∧ r.row[m] ≤ 8 := by
  obtain ⟨f, hf, -⟩ := (h.mem r.row[m]).1 (List.getElem_mem hm)
  have hfo := h.fok _ f hf
  have hd := hfo.d
  have hrg := h.rng _ f hf
  unfold Rg.qOf at hq
  rw [hf] at hq
  simp only [Option.map_some, Option.some.injEq] at hq
  unfold Rg.deficit
  simp only [hf]
  refine ⟨hd.1, fun h0 => hfo.an (h.tl _ ?_ f hf), by omega, hrg⟩
  obtain ⟨j, rfl⟩ : ∃ j, m = j + 1 := ⟨m - 1, by omega⟩
  rw [← List.getElem_tail (l := r.row) (i := j) (by rw [List.length_tail]; omega)]
  exact List.getElem_mem _
end Go.Proofs.Ytabhdigannalgaa
