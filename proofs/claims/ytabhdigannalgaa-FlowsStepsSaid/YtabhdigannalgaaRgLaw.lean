/-
  Chapter 25's ring as plain lists: what each step does to it, and what every ring keeps. No condition.
-/
import Derived.Test.YtabhdigannalgaaSlDP
namespace Go.Proofs.Ytabhdigannalgaa
open Go Go.RowKit

/-- a flow: its quantum, its deficit, its costs, whether it rests, and whether it has its turn anew -/
structure Fl where
  q : Int
  d : Int
  cs : List Int
  rs : Bool
  an : Bool
def Fl.act (f : Fl) : Bool := decide (0 < f.cs.length) && !f.rs
def Fl.fresh (f : Fl) : Fl := if f.an = true then { f with d := f.d + f.q, an := false } else f

/-- a ring: its flows, by numbers, and the row of those that are active -/
structure Rg where
  fl : Int → Option Fl
  row : List Int
def Rg.new : Rg := ⟨fun _ => none, []⟩
def Rg.put (r : Rg) (n : Int) (o : Option Fl) : Int → Option Fl := fun j => if j = n then o else r.fl j
theorem Rg.put_same (r : Rg) (n : Int) (o : Option Fl) : r.put n o n = o := by unfold Rg.put; rw [if_pos rfl]
theorem Rg.put_other (r : Rg) {n j : Int} (o : Option Fl) (h : j ≠ n) : r.put n o j = r.fl j := by unfold Rg.put; rw [if_neg h]
def offR (n : Int) (l : List Int) : List Int := l.filter fun j => !decide (j = n)
def Rg.settle (r : Rg) (n : Int) (f : Fl) : Rg :=
  if f.act = true then
    if n ∈ r.row then ⟨r.put n (some f), r.row⟩ else ⟨r.put n (some { f with d := 0, an := true }), r.row ++ [n]⟩
  else ⟨r.put n (some { f with d := 0 }), offR n r.row⟩

def setE (n q : Int) : Int := if n < 0 ∨ 8 < n ∨ q < 1 ∨ 1048576 < q then 1 else 0
def Fl.reset (q : Int) : Option Fl → Fl
  | none => ⟨q, 0, [], false, false⟩
  | some f => { f with q := q, d := min f.d q }
def Rg.set (r : Rg) (n q : Int) : Rg := if n < 0 ∨ 8 < n ∨ q < 1 ∨ 1048576 < q then r else ⟨r.put n (some (Fl.reset q (r.fl n))), r.row⟩
def Rg.pushE (r : Rg) (n c : Int) : Int := if c < 1 ∨ 1040 < c then 1 else if r.fl n = none then 12 else 0
def Rg.push (r : Rg) (n c : Int) : Rg := if c < 1 ∨ 1040 < c then r else match r.fl n with
  | none => r
  | some f => r.settle n { f with cs := f.cs ++ [c] }
def Rg.restE (r : Rg) (n : Int) : Int := if r.fl n = none then 12 else 0
def Rg.rest (r : Rg) (n : Int) (b : Bool) : Rg := match r.fl n with
  | none => r
  | some f => r.settle n { f with rs := b }
def Rg.waits (r : Rg) (n : Int) : Nat := match r.fl n with
  | none => 0
  | some f => f.cs.length
def Rg.drop (r : Rg) (n : Int) : Rg := if r.fl n = none then r else ⟨r.put n none, offR n r.row⟩
def sumI : List Int → Int
  | [] => 0
  | c :: l => c + sumI l
def Rg.cost (r : Rg) (n : Int) : Int := match r.fl n with
  | none => 0
  | some f => sumI f.cs
def Rg.deficit (r : Rg) (n : Int) : Int := match r.fl n with
  | none => 0
  | some f => f.d

def Rg.spin (r : Rg) (n : Int) (f : Fl) (l : List Int) : Rg := ⟨r.put n (some { f.fresh with an := true }), l ++ [n]⟩
def Rg.serve (r : Rg) (n : Int) (f : Fl) (c : Int) (cs : List Int) : Rg := r.settle n { f.fresh with d := f.fresh.d - c, cs := cs }
structure Served where
  r : Rg
  n : Int
  c : Int
  ok : Bool
def Rg.turnN : Nat → Rg → Served
  | 0, r => ⟨r, 0, 0, false⟩
  | k + 1, r => match r.row with
    | [] => ⟨r, 0, 0, false⟩
    | n :: l => match r.fl n with
      | none => ⟨r, 0, 0, false⟩
      | some f => match f.cs with
        | [] => ⟨r, 0, 0, false⟩
        | c :: cs => if c ≤ f.fresh.d then ⟨r.serve n f c cs, n, c, true⟩ else Rg.turnN k (r.spin n f l)
def needF : Option Fl → Nat
  | none => 0
  | some f => (2 * (1040 - f.d) + (if f.an = true then 0 else 1)).toNat
def sumN : List Nat → Nat
  | [] => 0
  | x :: l => x + sumN l
def Rg.meas (r : Rg) : Nat := sumN (r.row.map fun n => needF (r.fl n))
def Rg.turn (r : Rg) : Served := Rg.turnN (r.meas + 1) r

structure Fl.ok (f : Fl) : Prop where
  q : 1 ≤ f.q ∧ f.q ≤ 1048576
  d : 0 ≤ f.d ∧ f.d ≤ f.q + 1039
  an : f.an = true → f.d ≤ 1039
  cs : ∀ c ∈ f.cs, 1 ≤ c ∧ c ≤ 1040
structure Rg.ok (r : Rg) : Prop where
  rng : ∀ n f, r.fl n = some f → 0 ≤ n ∧ n ≤ 8
  fok : ∀ n f, r.fl n = some f → f.ok
  nd : r.row.Nodup
  mem : ∀ n, n ∈ r.row ↔ ∃ f, r.fl n = some f ∧ f.act = true
  tl : ∀ n ∈ r.row.tail, ∀ f, r.fl n = some f → f.an = true

theorem Rg.ok_new : Rg.new.ok := ⟨fun _ _ h => (by cases h), fun _ _ h => (by cases h), List.nodup_nil, fun n => ⟨fun h => (by cases h), fun ⟨_, h, _⟩ => (by cases h)⟩, fun _ h => (by cases h)⟩

theorem nodup_le : ∀ (k : Nat) (l : List Int), l.Nodup → (∀ x ∈ l, 0 ≤ x ∧ x < k) → l.length ≤ k
  | 0, l, _, h => by
    cases l with
    | nil => exact Nat.le_refl _
    | cons x r => have := h x (by simp); omega
  | k + 1, l, hn, h => by
    have h1 := nodup_le k (l.filter fun x => !decide (x = (k : Int))) (hn.filter _) (by
      intro x hx
      simp only [List.mem_filter, Bool.not_eq_true', decide_eq_false_iff_not] at hx
      have := h x hx.1
      omega)
    have h2 : l.length ≤ (l.filter fun x => !decide (x = (k : Int))).length + 1 := by
      clear h h1
      induction l with
      | nil => simp
      | cons a t ih =>
        simp only [List.nodup_cons] at hn
        by_cases e : a = (k : Int)
        · subst e
          have : (t.filter fun x => !decide (x = (k : Int))) = t := List.filter_eq_self.2 (by intro x hx; simp; rintro rfl; exact hn.1 hx)
          simp [this]
        · have := ih hn.2
          simp [e]; omega
    omega
theorem Rg.ok.len {r : Rg} (h : r.ok) : r.row.length ≤ 9 :=
  nodup_le 9 r.row h.nd fun x hx => by
    obtain ⟨f, hf, _⟩ := (h.mem x).1 hx
    have := h.rng x f hf
    omega

theorem offR_mem {n x : Int} {l : List Int} : x ∈ offR n l ↔ x ∈ l ∧ x ≠ n := by unfold offR; simp
theorem offR_tail {n x : Int} {l : List Int} (h : x ∈ (offR n l).tail) (hl : l.Nodup) : x ∈ l.tail ∧ x ≠ n := by
  cases l with
  | nil => simp [offR] at h
  | cons a t =>
    have hx := (offR_mem (n := n) (x := x) (l := a :: t)).1 (List.mem_of_mem_tail h)
    refine ⟨?_, hx.2⟩
    by_cases e : a = n
    · subst e
      rcases List.mem_cons.1 hx.1 with q | q
      · exact (hx.2 q).elim
      · exact q
    · have : offR n (a :: t) = a :: offR n t := by unfold offR; simp [e]
      rw [this] at h
      exact (offR_mem.1 h).1

theorem settle_fl_same (r : Rg) (n : Int) (f : Fl) : ∃ g, (r.settle n f).fl n = some g ∧ g.q = f.q ∧ g.cs = f.cs ∧ g.rs = f.rs := by
  unfold Rg.settle
  split
  · split
    · exact ⟨_, Rg.put_same _ _ _, rfl, rfl, rfl⟩
    · exact ⟨_, Rg.put_same _ _ _, rfl, rfl, rfl⟩
  · exact ⟨_, Rg.put_same _ _ _, rfl, rfl, rfl⟩
theorem settle_fl_other (r : Rg) {n j : Int} (f : Fl) (h : j ≠ n) : (r.settle n f).fl j = r.fl j := by
  unfold Rg.settle
  split
  · split
    · exact Rg.put_other _ _ h
    · exact Rg.put_other _ _ h
  · exact Rg.put_other _ _ h

/-- a flow that has changed is settled -/
theorem Rg.ok.settle {r : Rg} (h : r.ok) {n : Int} (hn : 0 ≤ n ∧ n ≤ 8) {f : Fl} (hf : f.ok) (han : n ∈ r.row.tail → f.an = true) : (r.settle n f).ok := by
  unfold Rg.settle
  by_cases ha : f.act = true
  · rw [if_pos ha]
    by_cases hr : n ∈ r.row
    · rw [if_pos hr]
      refine ⟨fun j g hj => ?_, fun j g hj => ?_, h.nd, fun j => ?_, fun j hj g hg => ?_⟩
      · by_cases e : j = n
        · subst e; exact hn
        · exact h.rng j g ((Rg.put_other r _ e).symm.trans hj)
      · by_cases e : j = n
        · subst e
          have := (Rg.put_same r j (some f)).symm.trans hj
          injection this with this; subst this; exact hf
        · exact h.fok j g ((Rg.put_other r _ e).symm.trans hj)
      · by_cases e : j = n
        · subst e
          exact ⟨fun _ => ⟨f, Rg.put_same _ _ _, ha⟩, fun _ => hr⟩
        · show j ∈ r.row ↔ ∃ g, r.put n (some f) j = some g ∧ _
          rw [Rg.put_other r _ e]; exact h.mem j
      · by_cases e : j = n
        · subst e
          have := (Rg.put_same r j (some f)).symm.trans hg
          injection this with this; subst this; exact han hj
        · exact h.tl j hj g ((Rg.put_other r _ e).symm.trans hg)
    · rw [if_neg hr]
      refine ⟨fun j g hj => ?_, fun j g hj => ?_, ?_, fun j => ?_, fun j hj g hg => ?_⟩
      · by_cases e : j = n
        · subst e; exact hn
        · exact h.rng j g ((Rg.put_other r _ e).symm.trans hj)
      · by_cases e : j = n
        · subst e
          have := (Rg.put_same r j _).symm.trans hj
          injection this with this; subst this
          exact ⟨hf.q, ⟨Int.le_refl _, by show (0 : Int) ≤ f.q + 1039; have := hf.q; omega⟩, fun _ => by show (0 : Int) ≤ 1039; decide, hf.cs⟩
        · exact h.fok j g ((Rg.put_other r _ e).symm.trans hj)
      · show (r.row ++ [n]).Nodup
        rw [List.nodup_append]
        exact ⟨h.nd, by simp, fun a ha b hb => by simp at hb; subst hb; rintro rfl; exact hr ha⟩
      · show j ∈ r.row ++ [n] ↔ ∃ g, r.put n (some _) j = some g ∧ _
        by_cases e : j = n
        · subst e
          exact ⟨fun _ => ⟨_, Rg.put_same _ _ _, ha⟩, fun _ => by simp⟩
        · rw [Rg.put_other r _ e, ← h.mem j]; simp [e]
      · by_cases e : j = n
        · subst e
          have := (Rg.put_same r j _).symm.trans hg
          injection this with this; subst this; rfl
        · refine h.tl j ?_ g ((Rg.put_other r _ e).symm.trans hg)
          change j ∈ (r.row ++ [n]).tail at hj
          cases hrow : r.row with
          | nil => rw [hrow] at hj; simp at hj
          | cons a t => rw [hrow] at hj; simp at hj; simp; rcases hj with q | q; exact q; exact (e q).elim
  · rw [if_neg ha]
    refine ⟨fun j g hj => ?_, fun j g hj => ?_, h.nd.filter _, fun j => ?_, fun j hj g hg => ?_⟩
    · by_cases e : j = n
      · subst e; exact hn
      · exact h.rng j g ((Rg.put_other r _ e).symm.trans hj)
    · by_cases e : j = n
      · subst e
        have := (Rg.put_same r j _).symm.trans hj
        injection this with this; subst this
        exact ⟨hf.q, ⟨Int.le_refl _, by show (0 : Int) ≤ f.q + 1039; have := hf.q; omega⟩, fun _ => by show (0 : Int) ≤ 1039; decide, hf.cs⟩
      · exact h.fok j g ((Rg.put_other r _ e).symm.trans hj)
    · show j ∈ offR n r.row ↔ ∃ g, r.put n (some _) j = some g ∧ _
      rw [offR_mem]
      by_cases e : j = n
      · subst e
        refine ⟨fun q => (q.2 rfl).elim, fun ⟨g, q1, q2⟩ => ?_⟩
        have := (Rg.put_same r j _).symm.trans q1
        injection this with this; subst this
        exact (ha q2).elim
      · rw [Rg.put_other r _ e, ← h.mem j]; simp [e]
    · obtain ⟨q1, q2⟩ := offR_tail hj h.nd
      exact h.tl j q1 g ((Rg.put_other r _ q2).symm.trans hg)

theorem Rg.ok.set {r : Rg} (h : r.ok) (n q : Int) : (r.set n q).ok := by
  unfold Rg.set
  by_cases hb : n < 0 ∨ 8 < n ∨ q < 1 ∨ 1048576 < q
  · rw [if_pos hb]; exact h
  · rw [if_neg hb]
    have hres : (Fl.reset q (r.fl n)).ok := by
      cases hf : r.fl n with
      | none => exact ⟨by show 1 ≤ q ∧ q ≤ 1048576; omega, by show (0 : Int) ≤ 0 ∧ 0 ≤ q + 1039; omega, fun e => (by cases e), fun c hc => (by cases hc)⟩
      | some f =>
        have h1 := h.fok n f hf
        have h2 := h1.d
        refine ⟨by show 1 ≤ q ∧ q ≤ 1048576; omega, by show 0 ≤ min f.d q ∧ min f.d q ≤ q + 1039; omega, fun e => ?_, h1.cs⟩
        have := h1.an e
        show min f.d q ≤ 1039; omega
    have hact : (∃ f, r.fl n = some f ∧ f.act = true) ↔ (Fl.reset q (r.fl n)).act = true := by
      cases hf : r.fl n with
      | none => exact ⟨fun ⟨_, e, _⟩ => (by cases e), fun e => by simp [Fl.act, Fl.reset] at e⟩
      | some f => exact ⟨fun ⟨g, e, q⟩ => by injection e with e; subst e; exact q, fun e => ⟨f, rfl, e⟩⟩
    refine ⟨fun j g hj => ?_, fun j g hj => ?_, h.nd, fun j => ?_, fun j hj g hg => ?_⟩
    · by_cases e : j = n
      · subst e; omega
      · exact h.rng j g ((Rg.put_other r _ e).symm.trans hj)
    · by_cases e : j = n
      · subst e
        have := (Rg.put_same r j _).symm.trans hj
        injection this with this; subst this; exact hres
      · exact h.fok j g ((Rg.put_other r _ e).symm.trans hj)
    · show j ∈ r.row ↔ ∃ g, r.put n (some _) j = some g ∧ _
      by_cases e : j = n
      · subst e
        rw [h.mem j, hact]
        refine ⟨fun q => ⟨_, Rg.put_same _ _ _, q⟩, fun ⟨g, q1, q2⟩ => ?_⟩
        have := (Rg.put_same r j _).symm.trans q1
        injection this with this; subst this; exact q2
      · rw [Rg.put_other r _ e]; exact h.mem j
    · by_cases e : j = n
      · subst e
        have := (Rg.put_same r j _).symm.trans hg
        injection this with this; subst this
        obtain ⟨f, hf, ha⟩ := (h.mem j).1 (List.mem_of_mem_tail hj)
        have := h.tl j hj f hf
        rw [hf]; exact this
      · exact h.tl j hj g ((Rg.put_other r _ e).symm.trans hg)

theorem Rg.ok.push {r : Rg} (h : r.ok) (n c : Int) : (r.push n c).ok := by
  unfold Rg.push
  by_cases hc : c < 1 ∨ 1040 < c
  · rw [if_pos hc]; exact h
  · rw [if_neg hc]
    cases hf : r.fl n with
    | none => exact h
    | some f =>
      have h1 := h.fok n f hf
      refine h.settle (h.rng n f hf) ⟨h1.q, h1.d, h1.an, fun x hx => ?_⟩ fun ht => h.tl n ht f hf
      rcases List.mem_append.1 hx with q | q
      · exact h1.cs x q
      · simp at q; subst q; omega
theorem Rg.ok.rest {r : Rg} (h : r.ok) (n : Int) (b : Bool) : (r.rest n b).ok := by
  unfold Rg.rest
  cases hf : r.fl n with
  | none => exact h
  | some f =>
    have h1 := h.fok n f hf
    exact h.settle (h.rng n f hf) ⟨h1.q, h1.d, h1.an, h1.cs⟩ fun ht => h.tl n ht f hf
theorem Rg.ok.drop {r : Rg} (h : r.ok) (n : Int) : (r.drop n).ok := by
  unfold Rg.drop
  by_cases hn : r.fl n = none
  · rw [if_pos hn]; exact h
  · rw [if_neg hn]
    refine ⟨fun j g hj => ?_, fun j g hj => ?_, h.nd.filter _, fun j => ?_, fun j hj g hg => ?_⟩
    · by_cases e : j = n
      · subst e
        have := (Rg.put_same r j none).symm.trans hj
        cases this
      · exact h.rng j g ((Rg.put_other r _ e).symm.trans hj)
    · by_cases e : j = n
      · subst e
        have := (Rg.put_same r j none).symm.trans hj
        cases this
      · exact h.fok j g ((Rg.put_other r _ e).symm.trans hj)
    · show j ∈ offR n r.row ↔ ∃ g, r.put n none j = some g ∧ _
      rw [offR_mem]
      by_cases e : j = n
      · subst e
        refine ⟨fun q => (q.2 rfl).elim, fun ⟨g, q1, q2⟩ => ?_⟩
        have := (Rg.put_same r j none).symm.trans q1
        cases this
      · rw [Rg.put_other r _ e, ← h.mem j]; simp [e]
    · obtain ⟨q1, q2⟩ := offR_tail hj h.nd
      exact h.tl j q1 g ((Rg.put_other r _ q2).symm.trans hg)

theorem fresh_ok {f : Fl} (h : f.ok) : f.fresh.q = f.q ∧ f.fresh.cs = f.cs ∧ f.fresh.rs = f.rs ∧ f.fresh.an = false ∧ 0 ≤ f.fresh.d ∧ f.fresh.d ≤ f.q + 1039 := by
  unfold Fl.fresh
  by_cases ha : f.an = true
  · rw [if_pos ha]
    have h1 := h.an ha
    have h2 := h.d
    have h3 := h.q
    refine ⟨rfl, rfl, rfl, rfl, ?_, ?_⟩
    · show 0 ≤ f.d + f.q; omega
    · show f.d + f.q ≤ f.q + 1039; omega
  · rw [if_neg ha]
    exact ⟨rfl, rfl, rfl, by simpa using ha, h.d.1, h.d.2⟩
theorem Rg.ok.serve {r : Rg} (h : r.ok) {n c : Int} {l cs : List Int} {f : Fl} (hr : r.row = n :: l) (hf : r.fl n = some f) (hc : f.cs = c :: cs) (hd : c ≤ f.fresh.d) : (r.serve n f c cs).ok := by
  have h1 := h.fok n f hf
  obtain ⟨e1, e2, e3, e4, e5, e6⟩ := fresh_ok h1
  have hcb := h1.cs c (by rw [hc]; simp)
  refine h.settle (h.rng n f hf) ⟨by show 1 ≤ f.fresh.q ∧ _; rw [e1]; exact h1.q, ⟨by show 0 ≤ f.fresh.d - c; omega, by show f.fresh.d - c ≤ f.fresh.q + 1039; rw [e1]; omega⟩, fun e => ?_, fun x hx => h1.cs x (by rw [hc]; simp; exact .inr hx)⟩ fun ht => ?_
  · change f.fresh.an = true at e
    rw [e4] at e; cases e
  · have hnd := h.nd
    rw [hr] at hnd ht
    exact ((List.nodup_cons.1 hnd).1 ht).elim
theorem Rg.ok.spin {r : Rg} (h : r.ok) {n c : Int} {l cs : List Int} {f : Fl} (hr : r.row = n :: l) (hf : r.fl n = some f) (hc : f.cs = c :: cs) (hd : ¬ c ≤ f.fresh.d) : (r.spin n f l).ok := by
  have h1 := h.fok n f hf
  obtain ⟨e1, e2, e3, e4, e5, e6⟩ := fresh_ok h1
  have hcb := h1.cs c (by rw [hc]; simp)
  have hnd := h.nd
  rw [hr] at hnd
  obtain ⟨n1, n2⟩ := List.nodup_cons.1 hnd
  have hfa : f.act = true := by
    obtain ⟨g, hg, ha⟩ := (h.mem n).1 (by rw [hr]; simp)
    rw [hf] at hg; injection hg with hg; subst hg; exact ha
  unfold Rg.spin
  refine ⟨fun j g hj => ?_, fun j g hj => ?_, ?_, fun j => ?_, fun j hj g hg => ?_⟩
  · by_cases e : j = n
    · subst e; exact h.rng j f hf
    · exact h.rng j g ((Rg.put_other r _ e).symm.trans hj)
  · by_cases e : j = n
    · subst e
      have := (Rg.put_same r j _).symm.trans hj
      injection this with this; subst this
      exact ⟨by show 1 ≤ f.fresh.q ∧ _; rw [e1]; exact h1.q, ⟨e5, by show f.fresh.d ≤ f.fresh.q + 1039; rw [e1]; exact e6⟩, fun _ => by show f.fresh.d ≤ 1039; omega, by show ∀ c ∈ f.fresh.cs, _; rw [e2]; exact h1.cs⟩
    · exact h.fok j g ((Rg.put_other r _ e).symm.trans hj)
  · show (l ++ [n]).Nodup
    rw [List.nodup_append]
    exact ⟨n2, by simp, fun a ha b hb => by simp at hb; subst hb; rintro rfl; exact n1 ha⟩
  · show j ∈ l ++ [n] ↔ ∃ g, r.put n (some _) j = some g ∧ _
    by_cases e : j = n
    · subst e
      refine ⟨fun _ => ⟨_, Rg.put_same _ _ _, ?_⟩, fun _ => by simp⟩
      show (decide (0 < f.fresh.cs.length) && !f.fresh.rs) = true
      rw [e2, e3]; exact hfa
    · rw [Rg.put_other r _ e, ← h.mem j, hr]; simp [e]
  · by_cases e : j = n
    · subst e
      have := (Rg.put_same r j _).symm.trans hg
      injection this with this; subst this; rfl
    · refine h.tl j ?_ g ((Rg.put_other r _ e).symm.trans hg)
      have := List.mem_of_mem_tail hj
      change j ∈ l ++ [n] at this
      rw [hr]; simpa [e] using this

theorem sumN_append (a b : List Nat) : sumN (a ++ b) = sumN a + sumN b := by
  induction a with
  | nil => simp [sumN]
  | cons x t ih => simp only [List.cons_append, sumN, ih]; omega
theorem meas_spin {r : Rg} (h : r.ok) {n c : Int} {l cs : List Int} {f : Fl} (hr : r.row = n :: l) (hf : r.fl n = some f) (hc : f.cs = c :: cs) (hd : ¬ c ≤ f.fresh.d) : (r.spin n f l).meas < r.meas := by
  have h1 := h.fok n f hf
  have hcb := h1.cs c (by rw [hc]; simp)
  have hq := h1.q
  have hnd := h.nd
  rw [hr] at hnd
  obtain ⟨n1, n2⟩ := List.nodup_cons.1 hnd
  unfold Rg.meas Rg.spin
  rw [hr]
  simp only [List.map_append, List.map_cons, List.map_nil, sumN_append, sumN]
  have e1 : (l.map fun j => needF (r.put n (some { f.fresh with an := true }) j)) = l.map fun j => needF (r.fl j) := by
    apply List.map_congr_left
    intro j hj
    rw [Rg.put_other r _ (by rintro rfl; exact n1 hj)]
  rw [e1, Rg.put_same, hf]
  have : needF (some (⟨f.fresh.q, f.fresh.d, f.fresh.cs, f.fresh.rs, true⟩ : Fl)) < needF (some f) := by
    unfold needF Fl.fresh at *
    by_cases ha : f.an = true
    · rw [if_pos ha] at hd
      simp only [if_pos ha]
      simp only at hd
      simp only [if_true]
      omega
    · rw [if_neg ha] at hd
      simp only [if_neg ha, if_true]
      omega
  omega

theorem turnN_more : ∀ (k : Nat) (r : Rg), r.ok → r.meas < k → Rg.turnN k r = Rg.turnN (k + 1) r
  | 0, _, _, h => by omega
  | k + 1, r, hok, h => by
    rw [Rg.turnN, Rg.turnN]
    split
    · rfl
    · rename_i n l hr
      split
      · rfl
      · rename_i f hf
        split
        · rfl
        · rename_i c cs hc
          split
          · rfl
          · rename_i hd
            have := meas_spin hok hr hf hc hd
            exact turnN_more k _ (hok.spin hr hf hc hd) (by omega)
theorem turnN_all (k : Nat) (r : Rg) (hok : r.ok) (h : r.meas < k) : Rg.turnN k r = r.turn := by
  obtain ⟨j, rfl⟩ : ∃ j, k = r.meas + 1 + j := ⟨k - (r.meas + 1), by omega⟩
  clear h
  induction j with
  | zero => rfl
  | succ j ih => rw [← ih]; exact (turnN_more (r.meas + 1 + j) r hok (by omega)).symm

theorem turn_empty {r : Rg} (h : r.row = []) : r.turn = ⟨r, 0, 0, false⟩ := by
  unfold Rg.turn; rw [Rg.turnN, h]
theorem turn_serve {r : Rg} {n c : Int} {l cs : List Int} {f : Fl} (hr : r.row = n :: l) (hf : r.fl n = some f) (hc : f.cs = c :: cs) (hd : c ≤ f.fresh.d) : r.turn = ⟨r.serve n f c cs, n, c, true⟩ := by
  unfold Rg.turn; rw [Rg.turnN, hr]
  simp only [hf, hc, if_pos hd]
theorem turn_spin {r : Rg} (h : r.ok) {n c : Int} {l cs : List Int} {f : Fl} (hr : r.row = n :: l) (hf : r.fl n = some f) (hc : f.cs = c :: cs) (hd : ¬ c ≤ f.fresh.d) : r.turn = (r.spin n f l).turn := by
  have hm := meas_spin h hr hf hc hd
  rw [← turnN_all r.meas (r.spin n f l) (h.spin hr hf hc hd) hm]
  unfold Rg.turn; rw [Rg.turnN, hr]
  simp only [hf, hc, if_neg hd]

/-- the front of a row that is not empty -/
theorem Rg.ok.front {r : Rg} (h : r.ok) {n : Int} {l : List Int} (hr : r.row = n :: l) : ∃ f c cs, r.fl n = some f ∧ f.cs = c :: cs ∧ f.rs = false ∧ 1 ≤ c ∧ c ≤ 1040 := by
  obtain ⟨f, hf, ha⟩ := (h.mem n).1 (by rw [hr]; simp)
  unfold Fl.act at ha
  simp only [Bool.and_eq_true, decide_eq_true_eq, Bool.not_eq_true'] at ha
  cases hc : f.cs with
  | nil => rw [hc] at ha; simp at ha
  | cons c cs =>
    have := (h.fok n f hf).cs c (by rw [hc]; simp)
    exact ⟨f, c, cs, hf, hc, ha.2, this⟩

/-- a proof by turns -/
theorem turn_ind {P : Rg → Served → Prop} (h0 : ∀ r : Rg, r.ok → r.row = [] → P r ⟨r, 0, 0, false⟩)
    (h1 : ∀ (r : Rg) n c l cs f, r.ok → r.row = n :: l → r.fl n = some f → f.cs = c :: cs → f.rs = false → c ≤ f.fresh.d → P r ⟨r.serve n f c cs, n, c, true⟩)
    (h2 : ∀ (r : Rg) n c l cs f s, r.ok → r.row = n :: l → r.fl n = some f → f.cs = c :: cs → f.rs = false → ¬ c ≤ f.fresh.d → (r.spin n f l).ok → P (r.spin n f l) s → P r s) :
    ∀ (r : Rg), r.ok → P r r.turn := by
  suffices H : ∀ (k : Nat) (r : Rg), r.ok → r.meas < k → P r r.turn from fun r hr => H (r.meas + 1) r hr (by omega)
  intro k
  induction k with
  | zero => intro r _ h; omega
  | succ k ih =>
    intro r hok hm
    cases hr : r.row with
    | nil => rw [turn_empty hr]; exact h0 r hok hr
    | cons n l =>
      obtain ⟨f, c, cs, hf, hc, hrs, -⟩ := hok.front hr
      by_cases hd : c ≤ f.fresh.d
      · rw [turn_serve hr hf hc hd]; exact h1 r n c l cs f hok hr hf hc hrs hd
      · rw [turn_spin hok hr hf hc hd]
        have := meas_spin hok hr hf hc hd
        exact h2 r n c l cs f _ hok hr hf hc hrs hd (hok.spin hr hf hc hd) (ih _ (hok.spin hr hf hc hd) (by omega))

theorem Rg.ok.turn {r : Rg} (h : r.ok) : r.turn.r.ok :=
  turn_ind (P := fun _ s => s.r.ok) (fun _ h _ => h) (fun _ _ _ _ _ _ h hr hf hc _ hd => h.serve hr hf hc hd) (fun _ _ _ _ _ _ _ _ _ _ _ _ _ _ h => h) r h

/-- no flow has more than K costs -/
def Rg.small (r : Rg) (K : Nat) : Prop := ∀ n f, r.fl n = some f → f.cs.length ≤ K
theorem Rg.small.mono {r : Rg} {K L : Nat} (h : r.small K) (hl : K ≤ L) : r.small L := fun n f hf => Nat.le_trans (h n f hf) hl
theorem small_new (K : Nat) : Rg.new.small K := fun _ _ h => by cases h
theorem Rg.small.settle {r : Rg} {K : Nat} (h : r.small K) {n : Int} {f : Fl} (hf : f.cs.length ≤ K) : (r.settle n f).small K := by
  intro j g hj
  by_cases e : j = n
  · subst e
    obtain ⟨g', h1, -, h2, -⟩ := settle_fl_same r j f
    rw [h1] at hj; injection hj with hj; subst hj
    rw [h2]; exact hf
  · rw [settle_fl_other r f e] at hj; exact h j g hj
theorem Rg.small.set {r : Rg} {K : Nat} (h : r.small K) (n q : Int) : (r.set n q).small K := by
  unfold Rg.set
  split
  · exact h
  · intro j g hj
    by_cases e : j = n
    · subst e
      have := (Rg.put_same r j _).symm.trans hj
      injection this with this; subst this
      cases hf : r.fl j with
      | none => exact Nat.zero_le _
      | some f => exact h j f hf
    · exact h j g ((Rg.put_other r _ e).symm.trans hj)
theorem Rg.small.push {r : Rg} {K : Nat} (h : r.small K) (n c : Int) : (r.push n c).small (K + 1) := by
  unfold Rg.push
  split
  · exact h.mono (by omega)
  · split
    · exact h.mono (by omega)
    · rename_i f hf
      exact (h.mono (by omega)).settle (by have := h n f hf; simp; omega)
theorem Rg.small.rest {r : Rg} {K : Nat} (h : r.small K) (n : Int) (b : Bool) : (r.rest n b).small K := by
  unfold Rg.rest
  split
  · exact h
  · rename_i f hf
    exact h.settle (h n f hf)
theorem Rg.small.drop {r : Rg} {K : Nat} (h : r.small K) (n : Int) : (r.drop n).small K := by
  unfold Rg.drop
  split
  · exact h
  · intro j g hj
    by_cases e : j = n
    · subst e
      have := (Rg.put_same r j none).symm.trans hj
      cases this
    · exact h j g ((Rg.put_other r _ e).symm.trans hj)
theorem fresh_cs (f : Fl) : f.fresh.cs = f.cs := by unfold Fl.fresh; split <;> rfl
theorem Rg.small.turn {r : Rg} {K : Nat} (hok : r.ok) (h : r.small K) : r.turn.r.small K := by
  refine turn_ind (P := fun r s => r.small K → s.r.small K) (fun _ _ _ h => h) ?_ ?_ r hok h
  · intro r n c l cs f _ _ hf hc _ _ h
    refine h.settle ?_
    have := h n f hf
    rw [hc] at this
    simp at this
    show cs.length ≤ K; omega
  · intro r n c l cs f s _ _ hf _ _ _ _ ih h
    refine ih fun j g hj => ?_
    by_cases e : j = n
    · subst e
      have := (Rg.put_same r j _).symm.trans hj
      injection this with this; subst this
      show f.fresh.cs.length ≤ K
      rw [fresh_cs]; exact h j f hf
    · exact h j g ((Rg.put_other r _ e).symm.trans hj)
end Go.Proofs.Ytabhdigannalgaa
