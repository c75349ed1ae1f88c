/-
  The contracts of the gate's functions (chapter 39), but Admit. Conditions: the gate's numbers are within the bounds that every gate keeps.
-/
import Derived.Test.YtnhanldefebjbaaBucket
import Derived.Test.YtnhanldefebjbaaAccount
import Derived.Deep.RegionHeld3
import Derived.Outline
namespace Go.Proofs.Ytnhanldefebjbaa
open Go Go.RowKit

/-- a gate: rate, burst and tokens; limit and what is taken of memory, slots and replies; whether it rests -/
structure Gt where
  r : Int
  u : Int
  t : Int
  ml : Int
  mt : Int
  sl : Int
  st : Int
  ol : Int
  ot : Int
  rests : Bool
abbrev Gt.cells (g : Gt) : Array Value := #[i64 g.r, i64 g.u, i64 g.t, i64 g.ml, i64 g.mt, i64 g.sl, i64 g.st, i64 g.ol, i64 g.ot, .bool g.rests]
structure Gt.ok (g : Gt) : Prop where
  r0 : 0 ≤ g.r ∧ g.r ≤ 1048576
  u0 : 0 ≤ g.u ∧ g.u ≤ 1048576
  t0 : 0 ≤ g.t ∧ g.t ≤ g.u
  ml0 : 0 ≤ g.ml ∧ g.ml ≤ 1048576
  mt0 : 0 ≤ g.mt ∧ g.mt ≤ 1048576
  sl0 : 0 ≤ g.sl ∧ g.sl ≤ 1048576
  st0 : 0 ≤ g.st ∧ g.st ≤ 1048576
  ol0 : 0 ≤ g.ol ∧ g.ol ≤ 1048576
  ot0 : 0 ≤ g.ot ∧ g.ot ≤ 1048576

abbrev GtAt (w : World) (b : Nat) (g : Gt) : Prop := w.heap[b]? = some (.cells g.cells 92 (0, 0))

/-- one more reply is owed -/
def Gt.oweB (g : Gt) : Bool := decide (g.ot < g.ol)
def Gt.owed (g : Gt) : Gt := if g.ot < g.ol then { g with ot := g.ot + 1 } else g

set_option maxHeartbeats 400000 in
theorem owe_c {w : World} {b : Nat} {g : Gt} (h : GtAt w b g) (ok : g.ok) :
    Calls Try.prog 49 #[.pointer (some ⟨b, 0, none⟩)] w fun e w' => e = .returned (.bool g.oweB) ∧ Upd [b] w w' ∧ GtAt w' b g.owed := by
  have ht := atake_c (off := 7) ⟨h, rfl, rfl⟩ 1 ok.ol0 ok.ot0
  by_cases hc : g.ot < g.ol
  · rw [show moveErr (max (g.ol - g.ot) 0) 1 13 = 0 from by unfold moveErr; rw [if_neg (by omega), if_neg (by omega)], if_pos rfl] at ht
    have e1 : g.oweB = true := by unfold Gt.oweB; simpa using hc
    have e2 : g.owed = { g with ot := g.ot + 1 } := by unfold Gt.owed; rw [if_pos hc]
    have HT := Lib.hid ht
    have E2 := Lib.hid e2
    rw [e1]
    clear ht e1 e2 hc
    refine post fun R hR => ?_
    go_enter Try.func49, Try.ntmps49
    go_wp2_with fail
    refine HT.out.mono ?_
    rintro e w2 ⟨rfl, hu, hh⟩
    go_wp2_with fail
    exact hR.out _ _ ⟨rfl, hu, by rw [E2.out]; exact hh⟩
  · rw [show moveErr (max (g.ol - g.ot) 0) 1 13 = 13 from by unfold moveErr; rw [if_neg (by omega), if_pos (by omega)], if_neg (by decide)] at ht
    have e1 : g.oweB = false := by unfold Gt.oweB; simpa using hc
    have e2 : g.owed = g := by unfold Gt.owed; rw [if_neg hc]
    have HT := Lib.hid ht
    have E2 := Lib.hid e2
    rw [e1]
    clear ht e1 e2 hc
    refine post fun R hR => ?_
    go_enter Try.func49, Try.ntmps49
    go_wp2_with fail
    refine HT.out.mono ?_
    rintro e w2 ⟨rfl, hu, hh⟩
    go_wp2_with fail
    exact hR.out _ _ ⟨rfl, hu, by rw [E2.out]; exact hh⟩
theorem oweNil_c (w : World) : Calls Try.prog 49 #[.pointer none] w fun e w' => e = .returned (.bool false) ∧ w = w' := by
  refine post fun R hR => ?_
  go_enter Try.func49, Try.ntmps49
  go_wp2_with fail
  exact hR.out _ _ ⟨rfl, rfl⟩

/-- what a frame costs -/
def costN (n : Int) : Int := 16 + min (max n 0) 1024
theorem cost_c (n : Int) (w : World) : Calls Try.prog 56 #[i64 n] w fun e w' => e = .returned (i64 (costN n)) ∧ w = w' := by
  have h : ∀ x : Int, x = costN n → i64 x = i64 (costN n) := fun x e => by rw [e]
  refine post fun R hR => ?_
  go_enter Try.func56, Try.ntmps56
  go_wp2
  all_goals exact hR.out _ _ ⟨ret_i (by unfold costN; omega), rfl⟩
def asksB (k : Int) : Bool := decide (k = 2 ∨ k = 3 ∨ k = 4 ∨ k = 6 ∨ k = 7)
theorem asks_c (k : Int) (w : World) : Calls Try.prog 57 #[i64 k] w fun e w' => e = .returned (.bool (asksB k)) ∧ w = w' := by
  by_cases h : k = 2 ∨ k = 3 ∨ k = 4 ∨ k = 6 ∨ k = 7
  · have e1 : asksB k = true := by unfold asksB; simpa using h
    rw [e1]
    rcases h with rfl | rfl | rfl | rfl | rfl
    all_goals
      refine post fun R hR => ?_
      go_enter Try.func57, Try.ntmps57
      go_wp2
      exact hR.out _ _ ⟨rfl, rfl⟩
  · have e1 : asksB k = false := by unfold asksB; simpa using h
    rw [e1]
    have h2 : (k == 2) = false := by simp; omega
    have h3 : (k == 3) = false := by simp; omega
    have h4 : (k == 4) = false := by simp; omega
    have h6 : (k == 6) = false := by simp; omega
    have h7 : (k == 7) = false := by simp; omega
    clear h e1
    refine post fun R hR => ?_
    go_enter Try.func57, Try.ntmps57
    go_wp2
    exact hR.out _ _ ⟨rfl, rfl⟩

/-- a reply is owed no more -/
def Gt.delivE (g : Gt) : Int := if g.ot < 1 then 1 else 0
def Gt.deliv (g : Gt) : Gt := if g.ot < 1 then g else { g with ot := g.ot - 1 }
set_option maxHeartbeats 400000 in
theorem gdeliver_c {w : World} {b : Nat} {g : Gt} (h : GtAt w b g) (ok : g.ok) :
    Calls Try.prog 40 #[.pointer (some ⟨b, 0, none⟩)] w fun e w' => e = .returned (i64 g.delivE) ∧ Upd [b] w w' ∧ GtAt w' b g.deliv := by
  have ht := agive_c (off := 7) ⟨h, rfl, rfl⟩ 1 ok.ot0
  have e1 : moveErr g.ot 1 1 = g.delivE := by unfold moveErr Gt.delivE; rw [if_neg (by omega)]
  have hfin : ∀ w' : World, w'.heap[b]? = some (.cells (if moveErr g.ot 1 1 = 0 then g.cells.setIfInBounds (7 + 1) (i64 (g.ot - 1)) else g.cells) 92 (0, 0)) → GtAt w' b g.deliv := by
    intro w' hh
    unfold Gt.deliv
    by_cases hc : g.ot < 1
    · rw [if_pos hc]
      rw [e1, show g.delivE = 1 from by unfold Gt.delivE; rw [if_pos hc], if_neg (by decide)] at hh
      exact hh
    · rw [if_neg hc]
      rw [e1, show g.delivE = 0 from by unfold Gt.delivE; rw [if_neg hc], if_pos rfl] at hh
      exact hh
  have HFIN := Lib.hid hfin
  have HT := Lib.hid (ht.mono fun _ _ ⟨h1, h2, h3⟩ => (⟨h1, h2, HFIN.out _ h3⟩ : _ ∧ _ ∧ _))
  rw [e1] at HT
  clear ht hfin e1
  refine post fun R hR => ?_
  go_enter Try.func40, Try.ntmps40
  go_wp2_with fail
  refine HT.out.mono ?_
  rintro e w2 ⟨rfl, hu, hh⟩
  go_wp2_with fail
  exact hR.out _ _ ⟨rfl, hu, hh⟩
theorem gdeliverNil_c (w : World) : Calls Try.prog 40 #[.pointer none] w fun e w' => e = .returned (i64 17) ∧ w = w' := by
  refine post fun R hR => ?_
  go_enter Try.func40, Try.ntmps40
  go_wp2_with fail
  exact hR.out _ _ ⟨rfl, rfl⟩

def Gt.tick (g : Gt) : Gt := { g with t := min (g.t + g.r) g.u }
set_option maxHeartbeats 400000 in
theorem gtick_c {w : World} {b : Nat} {g : Gt} (h : GtAt w b g) (ok : g.ok) :
    Calls Try.prog 37 #[.pointer (some ⟨b, 0, none⟩)] w fun e w' => e = .returned (.tuple #[]) ∧ Upd [b] w w' ∧ GtAt w' b g.tick := by
  have hu0 := ok.u0
  have ht0 := ok.t0
  have ht := tick_c (off := 0) ⟨h, rfl, rfl, rfl⟩ ok.r0 (by omega)
  have HT := Lib.hid ht
  clear ht
  refine post fun R hR => ?_
  go_enter Try.func37, Try.ntmps37
  go_wp2_with fail
  refine HT.out.mono ?_
  rintro e w2 ⟨rfl, hu, hh⟩
  go_wp2_with fail
  (try go_returns)
  exact hR.out _ _ ⟨rfl, hu, hh⟩
theorem gtickNil_c (w : World) : Calls Try.prog 37 #[.pointer none] w fun e w' => e = .returned (.tuple #[]) ∧ w = w' := by
  refine post fun R hR => ?_
  go_enter Try.func37, Try.ntmps37
  go_wp2_with fail
  (try go_returns)
  exact hR.out _ _ ⟨rfl, rfl⟩

def Gt.rest (g : Gt) (x : Bool) : Gt := { g with rests := x }
set_option maxHeartbeats 400000 in
theorem grest_c {w : World} {b : Nat} {g : Gt} (h : GtAt w b g) (x : Bool) :
    Calls Try.prog 43 #[.pointer (some ⟨b, 0, none⟩), .bool x] w fun e w' => e = .returned (.tuple #[]) ∧ Upd [b] w w' ∧ GtAt w' b (g.rest x) := by
  have c9 : w.cell? ⟨b, 9, none⟩ = some (.bool g.rests) := cellOf h 9
  have f9 := frzOf h 9
  refine post fun R hR => ?_
  go_enter Try.func43, Try.ntmps43
  go_wp2_with fail
  (try go_returns)
  refine hR.out _ _ ⟨rfl, ?_, heap_setCell h 9 _⟩
  (repeat' (first | (with_reducible exact Upd.refl _ _) | (with_reducible assumption) | (with_reducible apply Upd.drew) | (with_reducible apply Upd.drewN) | (with_reducible apply Upd.alloc) | (with_reducible refine Upd.setCell ?_ (by simp) _) | (with_reducible refine Upd.setCell ?_ (by simp; omega) _)))
theorem grestNil_c (x : Bool) (w : World) : Calls Try.prog 43 #[.pointer none, .bool x] w fun e w' => e = .returned (.tuple #[]) ∧ w = w' := by
  refine post fun R hR => ?_
  go_enter Try.func43, Try.ntmps43
  go_wp2_with fail
  (try go_returns)
  exact hR.out _ _ ⟨rfl, rfl⟩

/-- one frame of length n waits no more -/
def Gt.servE (g : Gt) (n : Int) : Int := if g.mt < costN n ∨ g.st < 1 then 1 else 0
def Gt.serv (g : Gt) (n : Int) : Gt := if g.mt < costN n ∨ g.st < 1 then g else { g with mt := g.mt - costN n, st := g.st - 1 }
theorem costN_bd (n : Int) : 16 ≤ costN n ∧ costN n ≤ 1040 := by unfold costN; omega

set_option maxHeartbeats 1000000 in
theorem gserve_c {w : World} {b : Nat} {g : Gt} (h : GtAt w b g) (ok : g.ok) (n : Int) :
    Calls Try.prog 41 #[.pointer (some ⟨b, 0, none⟩), i64 n] w fun e w' => e = .returned (i64 (g.servE n)) ∧ Upd [b] w w' ∧ GtAt w' b (g.serv n) := by
  have hc := cost_c n
  have hcb := costN_bd n
  have hk1 := fun (w' : World) (hu : Upd [] w w') => taken_c (off := 3) (l := g.ml) (t := g.mt) ⟨hu.keep0 h, rfl, rfl⟩
  have hk2 := fun (w' : World) (hu : Upd [] w w') => taken_c (off := 5) (l := g.sl) (t := g.st) ⟨hu.keep0 h, rfl, rfl⟩
  have e1 : g.servE n = if g.mt < costN n ∨ g.st < 1 then 1 else 0 := rfl
  have e2 : g.serv n = if g.mt < costN n ∨ g.st < 1 then g else { g with mt := g.mt - costN n, st := g.st - 1 } := rfl
  generalize costN n = C at *
  have HC := Lib.hid hc
  have HK1 := Lib.hid hk1
  have HK2 := Lib.hid hk2
  clear hc hk1 hk2
  by_cases h1 : g.mt < C
  · rw [e1, e2, if_pos (.inl h1), if_pos (.inl h1)]
    clear e1 e2
    refine post fun R hR => ?_
    go_enter Try.func41, Try.ntmps41
    go_wp2_with fail
    refine (HC.out _).mono ?_
    rintro e w2 ⟨rfl, rfl⟩
    go_wp2_with fail
    refine (HK1.out _ (Upd.refl _ _)).mono ?_
    rintro e w2 ⟨rfl, hu2⟩
    go_wp2_with fail
    exact hR.out _ _ ⟨rfl, hu2.mono (by simp), hu2.keep0 h⟩
  · by_cases h2 : g.st < 1
    · rw [e1, e2, if_pos (.inr h2), if_pos (.inr h2)]
      clear e1 e2
      refine post fun R hR => ?_
      go_enter Try.func41, Try.ntmps41
      go_wp2_with fail
      refine (HC.out _).mono ?_
      rintro e w2 ⟨rfl, rfl⟩
      go_wp2_with fail
      refine (HK1.out _ (Upd.refl _ _)).mono ?_
      rintro e w2 ⟨rfl, hu2⟩
      go_wp2_with fail
      refine (HK2.out _ hu2).mono ?_
      rintro e w3 ⟨rfl, hu3⟩
      go_wp2_with fail
      exact hR.out _ _ ⟨rfl, (hu2.trans' hu3).mono (by simp), (hu2.trans' hu3).keep0 h⟩
    · rw [e1, e2, if_neg (by omega), if_neg (by omega)]
      have hg1 := fun (w' : World) (hu : Upd [] w w') => agive_c (off := 5) (l := g.sl) (t := g.st) ⟨hu.keep0 h, rfl, rfl⟩ 1 ok.st0
      rw [show moveErr g.st 1 1 = 0 from by unfold moveErr; rw [if_neg (by omega), if_neg (by omega)], if_pos rfl] at hg1
      have hg2 := fun (w' : World) (hh : w'.heap[b]? = some (.cells (g.cells.setIfInBounds 6 (i64 (g.st - 1))) 92 (0, 0))) => agive_c (off := 3) (l := g.ml) (t := g.mt) ⟨hh, rfl, rfl⟩ C ok.mt0
      rw [show moveErr g.mt C 1 = 0 from by unfold moveErr; rw [if_neg (by omega), if_neg (by omega)], if_pos rfl] at hg2
      have HG1 := Lib.hid hg1
      have HG2 := Lib.hid hg2
      clear e1 e2 hg1 hg2
      refine post fun R hR => ?_
      go_enter Try.func41, Try.ntmps41
      go_wp2_with fail
      refine (HC.out _).mono ?_
      rintro e w2 ⟨rfl, rfl⟩
      go_wp2_with fail
      refine (HK1.out _ (Upd.refl _ _)).mono ?_
      rintro e w2 ⟨rfl, hu2⟩
      go_wp2_with fail
      refine (HK2.out _ hu2).mono ?_
      rintro e w3 ⟨rfl, hu3⟩
      go_wp2_with fail
      refine (HG1.out _ (hu2.trans' hu3)).mono ?_
      rintro e w4 ⟨rfl, hu4, hh4⟩
      go_wp2_with fail
      refine (HG2.out _ hh4).mono ?_
      rintro e w5 ⟨rfl, hu5, hh5⟩
      go_wp2_with fail
      exact hR.out _ _ ⟨rfl, ((hu2.trans' hu3).mono (by simp)).trans' (hu4.trans' hu5), hh5⟩
theorem gserveNil_c (n : Int) (w : World) : Calls Try.prog 41 #[.pointer none, i64 n] w fun e w' => e = .returned (i64 17) ∧ w = w' := by
  have hc := cost_c n
  have HC := Lib.hid hc
  clear hc
  refine post fun R hR => ?_
  go_enter Try.func41, Try.ntmps41
  go_wp2_with fail
  refine (HC.out _).mono ?_
  rintro e w2 ⟨rfl, rfl⟩
  go_wp2_with fail
  exact hR.out _ _ ⟨rfl, rfl⟩

/-- a configuration -/
structure Cf where
  quantum : Int
  rate : Int
  burst : Int
  mem : Int
  slots : Int
  outs : Int
  conns : Int
  state : Int
  decode : Int
abbrev Cf.cells (c : Cf) : Array Value := #[i64 c.quantum, i64 c.rate, i64 c.burst, i64 c.mem, i64 c.slots, i64 c.outs, i64 c.conns, i64 c.state, i64 c.decode]
def lim (n : Int) : Int := max 0 (min n 1048576)
def Gt.set (g : Gt) (c : Cf) : Gt := { g with r := clamp c.rate 1048576, u := clamp c.burst 1048576, t := min g.t (clamp c.burst 1048576), ml := lim c.mem, sl := lim c.slots, ol := lim c.outs }

set_option maxRecDepth 100000 in
set_option maxHeartbeats 1000000 in
theorem gset_c {w : World} {b : Nat} {g : Gt} (h : GtAt w b g) (c : Cf) :
    Calls Try.prog 51 #[.pointer (some ⟨b, 0, none⟩), .agg c.cells] w fun e w' => e = .returned (.tuple #[]) ∧ Upd [b] w w' ∧ GtAt w' b (g.set c) := by
  have hlt := lt_of_heap h
  refine post fun R hR => ?_
  go_enter Try.func51, Try.ntmps51
  have hC : ∀ w', Upd [b] (w.alloc (.cells c.cells 60)) w' → w'.heap[w.heap.size]? = some (.cells c.cells 60 (0, 0)) := fun w' hu => hu.keep (heap_alloc_new _ _) (by simp; omega)
  have HCF := Lib.hid hC
  clear hC
  obtain ⟨c0, c1, c2, c3, c4, c5, -⟩ := cells9 (HCF.out _ (Upd.refl _ _))
  have hb1 := set_c (off := 0) (r := g.r) (u := g.u) (t := g.t) (w := (w.alloc (.cells c.cells 60)).drew) ⟨heap_drew (heap_alloc_old h _), rfl, rfl, rfl⟩ c.rate c.burst
  have HB1 := Lib.hid hb1
  clear hb1
  go_wp2_with fail
  go_region_held3 (fun w' => w'.cell? ⟨w.heap.size, 1, none⟩ = some (i64 c.rate) ∧ w'.cell? ⟨w.heap.size, 2, none⟩ = some (i64 c.burst))
    ((first | exact ⟨c1, c2⟩ | exact ⟨cellOf (HCF.out _ ((Upd.refl _ _).drew.trans' hu2)) 1, cellOf (HCF.out _ ((Upd.refl _ _).drew.trans' hu2)) 2⟩))
    ((first
      | (go_at_call 31; (with_reducible refine Calls.mono (HB1.out) ?_); rintro e w2 ⟨rfl, hu2, hh2⟩)))
  have hvw2 : Upd [b] (w.alloc (.cells c.cells 60)) w2 := (Upd.refl _ _).drew.trans' hu2
  have hCw2 := HCF.out _ hvw2
  have cw2 := cellOf hCw2 3
  have hbw2 := aset_c (off := 3) (l := g.ml) (t := g.mt) (w := w2.drew) ⟨heap_drew hh2, rfl, rfl⟩ c.mem
  have HBw2 := Lib.hid hbw2
  clear hbw2
  go_wp2_with fail
  go_region_held3 (fun w' => w'.cell? ⟨w.heap.size, 3, none⟩ = some (i64 c.mem))
    ((first | exact cw2 | exact cellOf (HCF.out _ (hvw2.trans' ((Upd.refl _ _).drew.trans' huw2))) 3))
    ((first
      | (go_at_call 21; (with_reducible refine Calls.mono (HBw2.out) ?_); rintro e xw2 ⟨rfl, huw2, hhw2⟩)))
  have hvxw2 : Upd [b] (w.alloc (.cells c.cells 60)) xw2 := hvw2.trans' ((Upd.refl _ _).drew.trans' huw2)
  have hCxw2 := HCF.out _ hvxw2
  have cxw2 := cellOf hCxw2 4
  have hbxw2 := aset_c (off := 5) (l := g.sl) (t := g.st) (w := xw2.drew) ⟨heap_drew hhw2, rfl, rfl⟩ c.slots
  have HBxw2 := Lib.hid hbxw2
  clear hbxw2
  go_wp2_with fail
  go_region_held3 (fun w' => w'.cell? ⟨w.heap.size, 4, none⟩ = some (i64 c.slots))
    ((first | exact cxw2 | exact cellOf (HCF.out _ (hvxw2.trans' ((Upd.refl _ _).drew.trans' huxw2))) 4))
    ((first
      | (go_at_call 21; (with_reducible refine Calls.mono (HBxw2.out) ?_); rintro e xxw2 ⟨rfl, huxw2, hhxw2⟩)))
  have hvxxw2 : Upd [b] (w.alloc (.cells c.cells 60)) xxw2 := hvxw2.trans' ((Upd.refl _ _).drew.trans' huxw2)
  have hCxxw2 := HCF.out _ hvxxw2
  have cxxw2 := cellOf hCxxw2 5
  have hbxxw2 := aset_c (off := 7) (l := g.ol) (t := g.ot) (w := xxw2.drew) ⟨heap_drew hhxw2, rfl, rfl⟩ c.outs
  have HBxxw2 := Lib.hid hbxxw2
  clear hbxxw2
  go_wp2_with fail
  go_region_held3 (fun w' => w'.cell? ⟨w.heap.size, 5, none⟩ = some (i64 c.outs))
    ((first | exact cxxw2 | exact cellOf (HCF.out _ (hvxxw2.trans' ((Upd.refl _ _).drew.trans' huxxw2))) 5))
    ((first
      | (go_at_call 21; (with_reducible refine Calls.mono (HBxxw2.out) ?_); rintro e xxxw2 ⟨rfl, huxxw2, hhxxw2⟩)))
  go_wp2_with fail
  (try go_returns)
  refine hR.out _ _ ⟨rfl, ?_, hhxxw2⟩
  exact ((Upd.refl _ _).alloc _).trans (hvxxw2.trans' ((Upd.refl _ _).drew.trans' huxxw2)) (by simp)
theorem gsetNil_c (c : Cf) (w : World) : Calls Try.prog 51 #[.pointer none, .agg c.cells] w fun e w' => e = .returned (.tuple #[]) ∧ Upd [] w w' := by
  refine post fun R hR => ?_
  go_enter Try.func51, Try.ntmps51
  go_wp2_with fail
  (try go_returns)
  exact hR.out _ _ ⟨rfl, (Upd.refl _ _).alloc _⟩

theorem taken_s {w : World} {b off : Nat} {cs : Array Value} {ty : TypeId} {l t : Int} (hb : AcAt w b off cs ty l t) :
    Calls Try.prog 22 #[.pointer (some ⟨b, off, none⟩)] w fun e w' => e = .returned (i64 t) ∧ w = w' := by
  have c1 := (cellOf hb.heap (off + 1)).trans hb.c1
  refine post fun R hR => ?_
  go_enter Try.func22, Try.ntmps22
  go_wp2
  exact hR.out _ _ ⟨rfl, rfl⟩

abbrev Gt.load (g : Gt) : Array Value := #[i64 g.t, i64 g.mt, i64 g.st, i64 g.ot]
set_option maxRecDepth 100000 in
set_option maxHeartbeats 1000000 in
theorem gload_c {w : World} {b : Nat} {g : Gt} (h : GtAt w b g) :
    Calls Try.prog 42 #[.pointer (some ⟨b, 0, none⟩)] w fun e w' => e = .returned (.agg g.load) ∧ Upd [] w w' := by
  have hz := heap_alloc_old h (.cells #[i64 0, i64 0, i64 0, i64 0] 75)
  have hL := heap_alloc_new w (.cells #[i64 0, i64 0, i64 0, i64 0] 75)
  have hu1 := (Upd.refl [] w).alloc (.cells #[i64 0, i64 0, i64 0, i64 0] 75)
  refine post fun R hR => ?_
  go_enter Try.func42, Try.ntmps42
  go_wp2_with fail
  obtain ⟨B, hB⟩ : ∃ B, B = w.heap.size := ⟨_, rfl⟩
  obtain ⟨w1, hw1⟩ : ∃ w1, w1 = w.alloc (.cells #[i64 0, i64 0, i64 0, i64 0] 75) := ⟨_, rfl⟩
  rw [← hB] at hL ⊢
  rw [← hw1] at hz hL hu1 ⊢
  have hBl : w.heap.size ≤ B := by omega
  have ht := tokens_c (w := w1.drew) (off := 0) (r := g.r) (u := g.u) (t := g.t) ⟨heap_drew hz, rfl, rfl, rfl⟩
  have hk1 := taken_s (w := w1.drew) (off := 3) (l := g.ml) (t := g.mt) ⟨heap_drew hz, rfl, rfl⟩
  have hk2 := taken_s (w := w1.drew) (off := 5) (l := g.sl) (t := g.st) ⟨heap_drew hz, rfl, rfl⟩
  have hk3 := taken_s (w := w1.drew) (off := 7) (l := g.ol) (t := g.ot) ⟨heap_drew hz, rfl, rfl⟩
  have HT := Lib.hid ht
  have HK1 := Lib.hid hk1
  have HK2 := Lib.hid hk2
  have HK3 := Lib.hid hk3
  obtain ⟨d0, d1, d2, d3, f0, f1, f2, f3⟩ := cells4 hL
  clear ht hk1 hk2 hk3 hw1 hB
  go_region_held3 (fun _ => True) (trivial)
    ((first
      | (go_at_call 33; (with_reducible refine Calls.mono (HT.out) ?_); rintro e w2 ⟨rfl, rfl⟩)
      | (go_at_call 22; (with_reducible refine Calls.mono (HK1.out) ?_); rintro e w2 ⟨rfl, rfl⟩)
      | (go_at_call 22; (with_reducible refine Calls.mono (HK2.out) ?_); rintro e w2 ⟨rfl, rfl⟩)
      | (go_at_call 22; (with_reducible refine Calls.mono (HK3.out) ?_); rintro e w2 ⟨rfl, rfl⟩)))
  all_goals
    go_wp2_with fail
    refine bodyPost_ret (v := .agg g.load) (by simp [results, Try.results42, go_sem, *]) rfl ?_
    refine hR.out _ _ ?_
    refine ⟨rfl, hu1.trans (S' := [B]) ?_ (by simp; omega)⟩
    exact Upd.drew (((((Upd.refl [B] w1).setCell (by simp) _).setCell (by simp) _).setCell (by simp) _).setCell (by simp) _)
theorem gloadNil_c (w : World) : Calls Try.prog 42 #[.pointer none] w fun e w' => e = .returned (.agg #[i64 0, i64 0, i64 0, i64 0]) ∧ Upd [] w w' := by
  refine post fun R hR => ?_
  go_enter Try.func42, Try.ntmps42
  go_wp2_with fail
  refine bodyPost_ret (v := .agg #[i64 0, i64 0, i64 0, i64 0]) (by simp [results, Try.results42, go_sem, *]) rfl ?_
  refine hR.out _ _ ?_
  exact ⟨rfl, (Upd.refl _ _).alloc _⟩
end Go.Proofs.Ytnhanldefebjbaa
