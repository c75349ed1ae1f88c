/-
  Whose cost a turn takes: chapter 25's ring as plain lists; and rows of rows beside a ring. No condition.
-/
import Derived.Test.YtabhdigannalgaaRgFair
namespace Go.Proofs.Ytabhdigannalgaa
open Go Go.RowKit

/-- a flow's costs, and whether it rests -/
def Rg.view (r : Rg) (n : Int) : Option (List Int × Bool) := (r.fl n).map fun f => (f.cs, f.rs)
theorem settle_view (r : Rg) (n : Int) (f : Fl) (j : Int) : (r.settle n f).view j = if j = n then some (f.cs, f.rs) else r.view j := by
  unfold Rg.view
  by_cases e : j = n
  · subst e
    obtain ⟨g, hg, -, h1, h2⟩ := settle_fl_same r j f
    rw [hg, if_pos rfl]; simp [h1, h2]
  · rw [settle_fl_other r f e, if_neg e]
theorem fresh_rs (f : Fl) : f.fresh.rs = f.rs := by unfold Fl.fresh; split <;> rfl
theorem spin_view {r : Rg} {n : Int} {f : Fl} {l : List Int} (hf : r.fl n = some f) (j : Int) : (r.spin n f l).view j = r.view j := by
  unfold Rg.view Rg.spin
  by_cases e : j = n
  · subst e
    show (r.put j _ j).map _ = _
    rw [Rg.put_same, hf]
    simp [fresh_cs, fresh_rs]
  · show (r.put n _ j).map _ = _
    rw [Rg.put_other r _ e]

/-- what a turn that serves does -/
structure Serves (r : Rg) (s : Served) : Prop where
  ex : ∃ cs, r.view s.n = some (s.c :: cs, false) ∧ s.r.view s.n = some (cs, false)
  oth : ∀ j, j ≠ s.n → s.r.view j = r.view j

theorem turn_serves {r : Rg} (h : r.ok) : r.turn.ok = true → Serves r r.turn :=
  turn_ind (P := fun r s => s.ok = true → Serves r s) (fun r _ _ e => by cases e)
    (fun r n c l cs f _ _ hf hc hrs _ _ => by
      refine ⟨⟨cs, ?_, ?_⟩, fun j hj => ?_⟩
      · show r.view n = some (c :: cs, false)
        unfold Rg.view; rw [hf, ← hc, ← hrs]; rfl
      · show (r.settle n { f.fresh with d := f.fresh.d - c, cs := cs }).view n = some (cs, false)
        rw [settle_view, if_pos rfl]; simp [fresh_rs, hrs]
      · show (r.settle n { f.fresh with d := f.fresh.d - c, cs := cs }).view j = r.view j
        rw [settle_view, if_neg hj])
    (fun r n c l cs f s _ _ hf _ _ _ _ ih e => by
      obtain ⟨⟨cs2, h1, h2⟩, h3⟩ := ih e
      refine ⟨⟨cs2, by rw [← spin_view hf]; exact h1, h2⟩, fun j hj => by rw [h3 j hj, spin_view hf]⟩) r h
theorem turn_none {r : Rg} (h : r.ok) : r.turn.ok = false → r.turn.r = r := fun e => by
  rw [turn_ok h] at e
  have : r.row = [] := by
    cases hr : r.row with
    | nil => rfl
    | cons a t => rw [hr] at e; simp at e
  rw [turn_empty this]

/-- is one of the first k flows active? -/
def anyB (F : Nat → List Int) (G : Nat → Bool) : Nat → Bool
  | 0 => false
  | k + 1 => anyB F G k || (decide (0 < (F k).length) && !G k)
theorem anyB_iff {F : Nat → List Int} {G : Nat → Bool} : ∀ {k : Nat}, anyB F G k = true ↔ ∃ j, j < k ∧ 0 < (F j).length ∧ G j = false
  | 0 => by simp [anyB]
  | k + 1 => by
    unfold anyB
    rw [Bool.or_eq_true, anyB_iff (k := k)]
    simp only [Bool.and_eq_true, decide_eq_true_eq, Bool.not_eq_true']
    constructor
    · rintro (⟨j, h1, h2, h3⟩ | ⟨h2, h3⟩)
      · exact ⟨j, by omega, h2, h3⟩
      · exact ⟨k, by omega, h2, h3⟩
    · rintro ⟨j, h1, h2, h3⟩
      by_cases e : j = k
      · subst e; exact .inr ⟨h2, h3⟩
      · exact .inl ⟨j, by omega, h2, h3⟩

/-- nine flows that are there: their costs, and which rest -/
def Nine (r : Rg) (F : Nat → List Int) (G : Nat → Bool) : Prop := ∀ j : Nat, j < 9 → r.view (j : Int) = some (F j, G j)
theorem nine_any {r : Rg} (h : r.ok) {F : Nat → List Int} {G : Nat → Bool} (hn : Nine r F G) : r.turn.ok = anyB F G 9 := by
  rw [turn_ok h, Bool.eq_iff_iff, anyB_iff]
  simp only [decide_eq_true_eq]
  constructor
  · intro hl
    cases hr : r.row with
    | nil => rw [hr] at hl; simp at hl
    | cons n t =>
      obtain ⟨f, hf, ha⟩ := (h.mem n).1 (by rw [hr]; simp)
      have hrg := h.rng n f hf
      have hv := hn n.toNat (by omega)
      rw [show ((n.toNat : Nat) : Int) = n from by omega] at hv
      unfold Rg.view at hv
      rw [hf] at hv
      simp only [Option.map_some, Option.some.injEq, Prod.mk.injEq] at hv
      unfold Fl.act at ha
      simp only [Bool.and_eq_true, decide_eq_true_eq, Bool.not_eq_true'] at ha
      exact ⟨n.toNat, by omega, by rw [← hv.1]; exact ha.1, by rw [← hv.2]; exact ha.2⟩
  · rintro ⟨j, h1, h2, h3⟩
    have hv := hn j h1
    unfold Rg.view at hv
    cases hf : r.fl (j : Int) with
    | none => rw [hf] at hv; cases hv
    | some f =>
      rw [hf] at hv
      simp only [Option.map_some, Option.some.injEq, Prod.mk.injEq] at hv
      have hm : (j : Int) ∈ r.row := (h.mem _).2 ⟨f, hf, by unfold Fl.act; rw [hv.1, hv.2, h3]; simpa using h2⟩
      cases hr : r.row with
      | nil => rw [hr] at hm; cases hm
      | cons a t => simp
theorem nine_push {r : Rg} {F : Nat → List Int} {G : Nat → Bool} (hn : Nine r F G) {f : Nat} (hf : f < 9) {c : Int} (hc : 1 ≤ c ∧ c ≤ 1040) : r.pushE f c = 0 ∧ Nine (r.push f c) (fun j => if j = f then F f ++ [c] else F j) G := by
  have hv := hn f hf
  cases hfl : r.fl (f : Int) with
  | none => unfold Rg.view at hv; rw [hfl] at hv; cases hv
  | some g =>
    refine ⟨by unfold Rg.pushE; rw [if_neg (by omega), if_neg (by rw [hfl]; exact fun e => (by cases e))], fun j hj => ?_⟩
    have e2 : r.push f c = r.settle f { g with cs := g.cs ++ [c] } := by unfold Rg.push; rw [if_neg (by omega), hfl]
    unfold Rg.view at hv
    rw [hfl] at hv
    simp only [Option.map_some, Option.some.injEq, Prod.mk.injEq] at hv
    rw [e2, settle_view]
    by_cases e : j = f
    · subst e
      simp [hv.1, hv.2]
    · rw [if_neg (by omega)]; simp only [if_neg e]
      exact hn j hj
theorem nine_rest {r : Rg} {F : Nat → List Int} {G : Nat → Bool} (hn : Nine r F G) {f : Nat} (hf : f < 9) (b : Bool) : Nine (r.rest f b) F (fun j => if j = f then b else G j) := by
  have hv := hn f hf
  cases hfl : r.fl (f : Int) with
  | none => unfold Rg.view at hv; rw [hfl] at hv; cases hv
  | some g =>
    intro j hj
    have e2 : r.rest f b = r.settle f { g with rs := b } := by unfold Rg.rest; rw [hfl]
    unfold Rg.view at hv
    rw [hfl] at hv
    simp only [Option.map_some, Option.some.injEq, Prod.mk.injEq] at hv
    rw [e2, settle_view]
    by_cases e : j = f
    · subst e
      simp [hv.1]
    · rw [if_neg (by omega)]; simp only [if_neg e]
      exact hn j hj
theorem nine_turn {r : Rg} (h : r.ok) {F : Nat → List Int} {G : Nat → Bool} (hn : Nine r F G) (ht : r.turn.ok = true) :
    ∃ (n : Nat) (cs : List Int), r.turn.n = (n : Int) ∧ n < 9 ∧ F n = r.turn.c :: cs ∧ G n = false ∧ Nine r.turn.r (fun j => if j = n then cs else F j) G := by
  obtain ⟨h1, h2⟩ := turn_in h
  obtain ⟨⟨cs, h3, h4⟩, h5⟩ := turn_serves h ht
  have e : ((r.turn.n.toNat : Nat) : Int) = r.turn.n := by omega
  have hv := hn r.turn.n.toNat (by omega)
  rw [e, h3] at hv
  simp only [Option.some.injEq, Prod.mk.injEq] at hv
  refine ⟨r.turn.n.toNat, cs, e.symm, by omega, hv.1.symm, hv.2.symm, fun j hj => ?_⟩
  by_cases q : j = r.turn.n.toNat
  · subst q
    rw [e, h4, ← hv.2]; simp
  · simp only [if_neg q]; rw [h5 _ (by omega)]
    exact hn j hj
theorem nine_none {r : Rg} (h : r.ok) {F : Nat → List Int} {G : Nat → Bool} (hn : Nine r F G) (ht : r.turn.ok = false) : Nine r.turn.r F G := by
  rw [turn_none h ht]; exact hn
end Go.Proofs.Ytabhdigannalgaa
