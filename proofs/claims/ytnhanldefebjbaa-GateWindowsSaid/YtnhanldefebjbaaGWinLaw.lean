/-
  The plain law of chapter 39's windows: the tokens are the least, over all times that ended, of burst and rate times ticks, less what was taken since. No condition.
-/
import Derived.Test.YtnhanldefebjbaaGateLim
namespace Go.Proofs.Ytnhanldefebjbaa
open Go Go.RowKit

/-- windows: what was taken, and the ticks, since some step -/
def wcells : List (Int × Int) → List Value
  | [] => []
  | p :: r => i64 p.1 :: i64 p.2 :: wcells r
theorem wcells_len : ∀ l : List (Int × Int), (wcells l).length = l.length * 2
  | [] => rfl
  | p :: r => by simp only [wcells, List.length_cons, wcells_len r]; omega
theorem wcells_append : ∀ a b : List (Int × Int), wcells (a ++ b) = wcells a ++ wcells b
  | [], b => rfl
  | p :: r, b => by simp only [List.cons_append, wcells, wcells_append r b]
theorem wcells_c : ∀ {l : List (Int × Int)} {j : Nat} (h : j < l.length), (wcells l)[j * 2]? = some (i64 l[j].1)
  | p :: r, 0, _ => rfl
  | p :: r, j + 1, h => by
    rw [show (j + 1) * 2 = j * 2 + 1 + 1 by omega]
    simp only [wcells, List.getElem?_cons_succ, List.getElem_cons_succ]
    exact wcells_c _
theorem wcells_t : ∀ {l : List (Int × Int)} {j : Nat} (h : j < l.length), (wcells l)[j * 2 + 1]? = some (i64 l[j].2)
  | p :: r, 0, _ => rfl
  | p :: r, j + 1, h => by
    rw [show (j + 1) * 2 + 1 = (j * 2 + 1) + 1 + 1 by omega]
    simp only [wcells, List.getElem?_cons_succ, List.getElem_cons_succ]
    exact wcells_t _
theorem wcells_set_c : ∀ {l : List (Int × Int)} {j : Nat} (h : j < l.length) (x : Int), (wcells l).set (j * 2) (i64 x) = wcells (l.set j (x, l[j].2))
  | p :: r, 0, _, x => rfl
  | p :: r, j + 1, h, x => by
    rw [show (j + 1) * 2 = j * 2 + 1 + 1 by omega]
    simp only [wcells, List.set_cons_succ, List.getElem_cons_succ]
    rw [wcells_set_c]
theorem wcells_set_t : ∀ {l : List (Int × Int)} {j : Nat} (h : j < l.length) (x : Int), (wcells l).set (j * 2 + 1) (i64 x) = wcells (l.set j (l[j].1, x))
  | p :: r, 0, _, x => rfl
  | p :: r, j + 1, h, x => by
    rw [show (j + 1) * 2 + 1 = (j * 2 + 1) + 1 + 1 by omega]
    simp only [wcells, List.set_cons_succ, List.getElem_cons_succ]
    rw [wcells_set_t]

/-- the first k of a row changed -/
def upto {α : Type} (f : α → α) (k : Nat) (l : List α) : List α := (l.take k).map f ++ l.drop k
theorem upto_zero {α : Type} (f : α → α) (l : List α) : upto f 0 l = l := by simp [upto]
theorem upto_all {α : Type} (f : α → α) (l : List α) : upto f l.length l = l.map f := by simp [upto]
theorem upto_len {α : Type} (f : α → α) (k : Nat) (l : List α) : (upto f k l).length = l.length := by
  unfold upto
  rw [List.length_append, List.length_map, ← List.length_append, List.take_append_drop]
theorem upto_get {α : Type} (f : α → α) {k : Nat} {l : List α} (h : k < l.length) : (upto f k l)[k]? = some l[k] := by
  unfold upto
  rw [List.getElem?_append_right (by simp; omega), List.length_map, List.length_take, show k - min k l.length = 0 by omega, List.getElem?_drop]
  simp [h]
theorem upto_succ {α : Type} (f : α → α) {k : Nat} {l : List α} (h : k < l.length) : upto f (k + 1) l = (upto f k l).set k (f l[k]) := by
  unfold upto
  rw [List.set_append_right _ _ (by simp; omega), List.length_map, List.length_take, show k - min k l.length = 0 by omega, List.take_succ_eq_append_getElem h, List.map_append, List.append_assoc]
  congr 1
  rw [List.drop_eq_getElem_cons h]
  rfl

structure GWin (rate burst T : Int) (l : List (Int × Int)) (m : Nat) : Prop where
  le : ∀ p ∈ l, T ≤ burst + rate * p.2 - p.1
  lb : 0 ≤ T ∧ T ≤ burst
  ex : T = burst ∨ ∃ p ∈ l, T = burst + rate * p.2 - p.1
  bd : ∀ p ∈ l, 0 ≤ p.1 ∧ p.1 ≤ (m : Int) * 1040 ∧ 0 ≤ p.2 ∧ p.2 ≤ (m : Int)

theorem gwin_zero {rate burst : Int} (hb : 0 ≤ burst) : GWin rate burst burst [] 0 :=
  ⟨fun p hp => (by cases hp), ⟨hb, Int.le_refl _⟩, .inl rfl, fun p hp => (by cases hp)⟩
theorem gwin_push {rate burst T : Int} {l : List (Int × Int)} {m : Nat} (h : GWin rate burst T l m) : GWin rate burst T (l ++ [(0, 0)]) m ∧ ∃ p ∈ l ++ [((0, 0) : Int × Int)], T = burst + rate * p.2 - p.1 := by
  have hex : ∃ p ∈ l ++ [((0, 0) : Int × Int)], T = burst + rate * p.2 - p.1 := by
    rcases h.ex with e | ⟨p, hp, e⟩
    · exact ⟨(0, 0), by simp, by rw [e]; show burst = burst + rate * 0 - 0; rw [Int.mul_zero]; omega⟩
    · exact ⟨p, by simp [hp], e⟩
  refine ⟨⟨fun p hp => ?_, h.lb, .inr hex, fun p hp => ?_⟩, hex⟩
  · rcases List.mem_append.1 hp with q | q
    · exact h.le p q
    · simp only [List.mem_cons, List.not_mem_nil, or_false] at q
      subst q
      have := h.lb
      show T ≤ burst + rate * 0 - 0
      rw [Int.mul_zero]; omega
  · rcases List.mem_append.1 hp with q | q
    · exact h.bd p q
    · simp only [List.mem_cons, List.not_mem_nil, or_false] at q
      subst q
      show (0 : Int) ≤ 0 ∧ (0 : Int) ≤ (m : Int) * 1040 ∧ (0 : Int) ≤ 0 ∧ (0 : Int) ≤ (m : Int)
      omega

def wtick (p : Int × Int) : Int × Int := (p.1, p.2 + 1)
def wtake (c : Int) (p : Int × Int) : Int × Int := (p.1 + c, p.2)
theorem gwin_tick {rate burst T : Int} {l : List (Int × Int)} {m : Nat} (h : GWin rate burst T l m) (hr : 0 ≤ rate) : GWin rate burst (min (T + rate) burst) (l.map wtick) (m + 1) := by
  have hlb := h.lb
  refine ⟨fun p hp => ?_, by omega, ?_, fun p hp => ?_⟩
  · obtain ⟨q, hq, rfl⟩ := List.mem_map.1 hp
    have := h.le q hq
    show _ ≤ burst + rate * (q.2 + 1) - q.1
    rw [Int.mul_add, Int.mul_one]; omega
  · rcases h.ex with e | ⟨p, hp, e⟩
    · exact .inl (by omega)
    · by_cases hx : T + rate ≤ burst
      · refine .inr ⟨wtick p, List.mem_map_of_mem hp, ?_⟩
        show _ = burst + rate * (p.2 + 1) - p.1
        rw [Int.mul_add, Int.mul_one]; omega
      · exact .inl (by omega)
  · obtain ⟨q, hq, rfl⟩ := List.mem_map.1 hp
    have := h.bd q hq
    show 0 ≤ q.1 ∧ q.1 ≤ ((m + 1 : Nat) : Int) * 1040 ∧ 0 ≤ q.2 + 1 ∧ q.2 + 1 ≤ ((m + 1 : Nat) : Int)
    omega
theorem gwin_take {rate burst T c : Int} {l : List (Int × Int)} {m : Nat} (h : GWin rate burst T l m) (hex : ∃ p ∈ l, T = burst + rate * p.2 - p.1) (hc : 0 ≤ c ∧ c ≤ 1040) (hT : c ≤ T) : GWin rate burst (T - c) (l.map (wtake c)) (m + 1) := by
  have hlb := h.lb
  refine ⟨fun p hp => ?_, by omega, ?_, fun p hp => ?_⟩
  · obtain ⟨q, hq, rfl⟩ := List.mem_map.1 hp
    have := h.le q hq
    show _ ≤ burst + rate * q.2 - (q.1 + c)
    omega
  · obtain ⟨p, hp, e⟩ := hex
    refine .inr ⟨wtake c p, List.mem_map_of_mem hp, ?_⟩
    show _ = burst + rate * p.2 - (p.1 + c)
    omega
  · obtain ⟨q, hq, rfl⟩ := List.mem_map.1 hp
    have := h.bd q hq
    show 0 ≤ q.1 + c ∧ q.1 + c ≤ ((m + 1 : Nat) : Int) * 1040 ∧ 0 ≤ q.2 ∧ q.2 ≤ ((m + 1 : Nat) : Int)
    omega
theorem gwin_stay {rate burst T : Int} {l : List (Int × Int)} {m : Nat} (h : GWin rate burst T l m) : GWin rate burst T l (m + 1) :=
  ⟨h.le, h.lb, h.ex, fun p hp => by have := h.bd p hp; omega⟩

/-- would c more break one of these windows? -/
def brkB (rate burst c : Int) (l : List (Int × Int)) : Bool := l.any fun p => decide (burst + rate * p.2 < p.1 + c)
theorem brkB_eq {rate burst T c : Int} {l : List (Int × Int)} {m : Nat} (h : GWin rate burst T l m) (hex : ∃ p ∈ l, T = burst + rate * p.2 - p.1) : brkB rate burst c l = decide (T < c) := by
  unfold brkB
  rw [Bool.eq_iff_iff]
  simp only [List.any_eq_true, decide_eq_true_eq]
  constructor
  · rintro ⟨p, hp, e⟩
    have := h.le p hp; omega
  · intro hT
    obtain ⟨p, hp, e⟩ := hex
    exact ⟨p, hp, by omega⟩

/-- a gate that only tokens can shut -/
structure GTok (g : Gt) : Prop where
  ok : g.ok
  rs : g.rests = false
  ml : g.ml = 1040
  mt : g.mt = 0
  sl : g.sl = 1
  st : g.st = 0
  ol : g.ol = 1
  ot : g.ot = 0

theorem gtok_new (c : Cf) (hm : c.mem = 1040) (hs : c.slots = 1) (ho : c.outs = 1) : GTok (Gt.new c) := by
  refine ⟨(glim_new c).ok, rfl, ?_, rfl, ?_, rfl, ?_, rfl⟩ <;> simp only [Gt.new, lim, hm, hs, ho] <;> rfl
theorem gtok_tick {g : Gt} (h : GTok g) : GTok g.tick := by
  have h1 := h.ok.t0
  have h2 := h.ok.r0
  exact ⟨⟨h.ok.r0, h.ok.u0, by show 0 ≤ min (g.t + g.r) g.u ∧ min (g.t + g.r) g.u ≤ g.u; omega, h.ok.ml0, h.ok.mt0, h.ok.sl0, h.ok.st0, h.ok.ol0, h.ok.ot0⟩, h.rs, h.ml, h.mt, h.sl, h.st, h.ol, h.ot⟩

/-- a frame, its reply delivered, and its place given back: what is behind it -/
def Gt.pass (g : Gt) (k n : Int) : Gt := (g.admG k n).deliv.serv n
theorem gtok_pass {g : Gt} (h : GTok g) (k n : Int) : g.admE k n = (if g.t < costN n then 14 else 0) ∧ (g.admG k n).ok ∧ (g.admG k n).deliv.ok ∧ GTok (g.pass k n) ∧ (g.pass k n).t = (if g.t < costN n then g.t else g.t - costN n) ∧ (g.pass k n).r = g.r ∧ (g.pass k n).u = g.u := by
  have hcb := costN_bd n
  obtain ⟨ok, rs, ml, mt, sl, st, ol, ot⟩ := h
  have t0 := ok.t0
  have hob : g.oweB = true := by unfold Gt.oweB; rw [ol, ot]; decide
  have hfull : g.full k = false := by unfold Gt.full; rw [hob]; simp
  obtain ⟨r, u, t, gml, gmt, gsl, gst, gol, got, grs⟩ := g
  simp only at rs ml mt sl st ol ot t0
  subst rs ml mt sl st ol ot
  have hadm := ok.admG k n
  have e1 : Gt.admE ⟨r, u, t, 1040, 0, 1, 0, 1, 0, false⟩ k n = (Gt.base ⟨r, u, t, 1040, 0, 1, 0, 1, 0, false⟩ k).inE k n := by unfold Gt.admE; rw [if_neg (by rw [hfull]; decide)]
  have e2 : Gt.admG ⟨r, u, t, 1040, 0, 1, 0, 1, 0, false⟩ k n = (Gt.base ⟨r, u, t, 1040, 0, 1, 0, 1, 0, false⟩ k).inG k n := by unfold Gt.admG; rw [if_neg (by rw [hfull]; decide)]
  have hb : ∃ o, Gt.base ⟨r, u, t, 1040, 0, 1, 0, 1, 0, false⟩ k = ⟨r, u, t, 1040, 0, 1, 0, 1, o, false⟩ ∧ (o = 0 ∨ o = 1) := by
    unfold Gt.base
    by_cases hk : k = 3
    · rw [if_pos hk]; exact ⟨0, rfl, .inl rfl⟩
    · rw [if_neg hk]; exact ⟨1, rfl, .inr rfl⟩
  obtain ⟨o, hb, ho⟩ := hb
  rw [hb] at e1 e2
  have e3 : Gt.inE ⟨r, u, t, 1040, 0, 1, 0, 1, o, false⟩ k n = if t < costN n then 14 else 0 := by
    unfold Gt.inE
    by_cases ha : asksB k = true
    · rw [if_pos ha]
      unfold Gt.waitE
      simp only [Bool.false_eq_true, if_false]
      repeat (first | rfl | (rw [if_neg (by omega)]))
    · rw [if_neg ha]; rfl
  have e4 : ∃ m s, Gt.inG ⟨r, u, t, 1040, 0, 1, 0, 1, o, false⟩ k n = ⟨r, u, (if t < costN n then t else t - costN n), 1040, m, 1, s, 1, o, false⟩ ∧ (m = 0 ∧ s = 0 ∨ m = costN n ∧ s = 1) := by
    unfold Gt.inG
    by_cases ha : asksB k = true
    · have e5 : Gt.waitE ⟨r, u, t, 1040, 0, 1, 0, 1, o, false⟩ (costN n) = if t < costN n then 14 else 0 := by
        rw [← e3]; unfold Gt.inE; rw [if_pos ha]
      rw [if_pos ha]
      unfold Gt.waited
      by_cases hc : t < costN n
      · rw [e5, if_pos hc, if_neg (by decide), if_pos hc]
        exact ⟨0, 0, rfl, .inl ⟨rfl, rfl⟩⟩
      · rw [e5, if_neg hc, if_pos rfl, if_neg hc]
        exact ⟨costN n, 1, by simp, .inr ⟨rfl, rfl⟩⟩
    · rw [if_neg ha]
      unfold Gt.toked
      by_cases hc : t < costN n
      · rw [if_pos hc]; exact ⟨0, 0, by simp [hc], .inl ⟨rfl, rfl⟩⟩
      · rw [if_neg hc]; exact ⟨0, 0, by simp [hc], .inl ⟨rfl, rfl⟩⟩
  obtain ⟨m, s, e4, hms⟩ := e4
  rw [e4] at e2
  rw [e3] at e1
  have e6 : (Gt.admG ⟨r, u, t, 1040, 0, 1, 0, 1, 0, false⟩ k n).deliv = ⟨r, u, (if t < costN n then t else t - costN n), 1040, m, 1, s, 1, 0, false⟩ := by
    rw [e2]; unfold Gt.deliv
    rcases ho with rfl | rfl
    · rw [if_pos (by show (0 : Int) < 1; decide)]
    · rw [if_neg (by show ¬ (1 : Int) < 1; decide)]; rfl
  have e7 : Gt.pass ⟨r, u, t, 1040, 0, 1, 0, 1, 0, false⟩ k n = ⟨r, u, (if t < costN n then t else t - costN n), 1040, 0, 1, 0, 1, 0, false⟩ := by
    unfold Gt.pass
    rw [e6]; unfold Gt.serv
    rcases hms with ⟨rfl, rfl⟩ | ⟨rfl, rfl⟩
    · rw [if_pos (.inr (by show (0 : Int) < 1; decide))]
    · rw [if_neg (by simp)]; simp
  have ht : 0 ≤ (if t < costN n then t else t - costN n) ∧ (if t < costN n then t else t - costN n) ≤ u := by split <;> omega
  refine ⟨e1, hadm, ?_, ?_, ?_, ?_, ?_⟩
  · rw [e6]
    refine ⟨ok.r0, ok.u0, ht, ok.ml0, ?_, ok.sl0, ?_, ok.ol0, (by show (0 : Int) ≤ 0 ∧ (0 : Int) ≤ 1048576; decide)⟩
    · show 0 ≤ m ∧ m ≤ 1048576; omega
    · show 0 ≤ s ∧ s ≤ 1048576; omega
  · rw [e7]
    exact ⟨⟨ok.r0, ok.u0, ht, ok.ml0, (by show (0 : Int) ≤ 0 ∧ (0 : Int) ≤ 1048576; decide), ok.sl0, (by show (0 : Int) ≤ 0 ∧ (0 : Int) ≤ 1048576; decide), ok.ol0, (by show (0 : Int) ≤ 0 ∧ (0 : Int) ≤ 1048576; decide)⟩, rfl, rfl, rfl, rfl, rfl, rfl, rfl⟩
  · rw [e7]
  · rw [e7]
  · rw [e7]
end Go.Proofs.Ytnhanldefebjbaa
