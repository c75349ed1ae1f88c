/-
  The contracts of the gate's wait and Admit. Conditions: the gate's numbers are within the bounds that every gate keeps.
-/
import Derived.Test.YtnhanldefebjbaaGateNew
import Derived.Defers
namespace Go.Proofs.Ytnhanldefebjbaa
open Go Go.RowKit

/-- what comes out of a frame that waits, and what is taken then -/
def Gt.waitE (g : Gt) (c : Int) : Int := if g.rests = true then 20 else if max (g.sl - g.st) 0 < 1 then 15 else if max (g.ml - g.mt) 0 < c then 13 else if g.t < c then 14 else 0
def Gt.waited (g : Gt) (c : Int) : Gt := if g.waitE c = 0 then { g with t := g.t - c, mt := g.mt + c, st := g.st + 1 } else g

/-- the deferred closure: nothing went wrong -/
theorem waitF0_d {w : World} {E X : Nat} (hE : w.heap[E]? = some (.cells #[i64 0] 29 (0, 0))) (u : FrameMode) :
    CallsD Try.prog 63 #[.pointer (some ⟨E, 0, none⟩), .pointer (some ⟨X, 0, none⟩)] u w fun e u' w' => u' = u ∧ (e = .returned (.tuple #[]) ∧ w = w') := by
  obtain ⟨e0, -⟩ := cells1 hE
  go_enter_d Try.func63, Try.ntmps63
  go_wp2_with fail
  go_end0
  exact ⟨rfl, rfl⟩

/-- .. something went wrong: the slot is given back -/
theorem waitF1_d {w : World} {E X b : Nat} {x : Int} {g : Gt} (hx : x ≠ 0) (hE : w.heap[E]? = some (.cells #[i64 x] 29 (0, 0))) (hX : w.heap[X]? = some (.cells #[.pointer (some ⟨b, 0, none⟩)] 62 (0, 0)))
    (hb : GtAt w b { g with st := g.st + 1 }) (ok : g.ok) (hs : g.st < g.sl) (u : FrameMode) :
    CallsD Try.prog 63 #[.pointer (some ⟨E, 0, none⟩), .pointer (some ⟨X, 0, none⟩)] u w fun e u' w' => u' = u ∧ (e = .returned (.tuple #[]) ∧ Upd [b] w w' ∧ GtAt w' b g) := by
  obtain ⟨e0, -⟩ := cells1 hE
  obtain ⟨x0, -⟩ := cells1 hX
  have hq : (x != 0) = true := by simpa using hx
  have hst := ok.st0
  have hsl := ok.sl0
  have hg := agive_c (off := 5) (l := g.sl) (t := g.st + 1) ⟨hb, rfl, rfl⟩ 1 (by omega)
  rw [show moveErr (g.st + 1) 1 1 = 0 from by unfold moveErr; rw [if_neg (by omega), if_neg (by omega)], if_pos rfl, show g.st + 1 - 1 = g.st by omega] at hg
  have HG := Lib.hid hg
  clear hg hx
  go_enter_d Try.func63, Try.ntmps63
  go_wp2_with fail
  refine HG.out.mono ?_
  rintro e w2 ⟨rfl, hu2, hh2⟩
  go_wp2_with fail
  go_end0
  exact ⟨rfl, hu2, hh2⟩

set_option maxHeartbeats 1000000 in
theorem wait_c1 {w : World} {b : Nat} {g : Gt} (h : GtAt w b g) (ok : g.ok) (c : Int) (hc : 0 ≤ c ∧ c ≤ 1048576) :
    Calls Try.prog 58 #[.pointer (some ⟨b, 0, none⟩), i64 c] w fun e w' => e = .returned (i64 (g.waitE c)) ∧ Upd [b] w w' ∧ GtAt w' b (g.waited c) := by
  have hmf : ∀ (fn : Fn) (first cap : Array Value) (w : World), (Instr.makeFunc fn first cap).run Try.prog w = .ok (.func fn first cap) w := fun _ _ _ _ => rfl
  have c9 : w.cell? ⟨b, 9, none⟩ = some (.bool g.rests) := cellOf h 9
  by_cases h1 : g.rests = true
  · have e1 : g.waitE c = 20 := by unfold Gt.waitE; rw [if_pos h1]
    have e2 : g.waited c = g := by unfold Gt.waited; rw [e1, if_neg (by decide)]
    rw [e1, e2]
    rw [h1] at c9
    have hlt := lt_of_heap h
    clear e1 e2 h1
    go_enter_defers Try.func58, Try.ntmps58
    go_wp2_with fail
    refine ⟨i64 20, by simp [results, Try.results58, go_sem], rfl, ((Upd.refl _ _).alloc _).alloc _, heap_alloc_old (heap_alloc_old h _) _⟩
  · have h1' : g.rests = false := by simpa using h1
    have hst := ok.st0
    have hsl := ok.sl0
    have hml := ok.ml0
    have hmt := ok.mt0
    have ht0 := ok.t0
    have hu0 := ok.u0
    rw [h1'] at c9
    have hlt := lt_of_heap h
    -- the world behind the two new variables
    have hg0 : ∀ o1 o2, GtAt ((w.alloc o1).alloc o2) b g := fun o1 o2 => heap_alloc_old (heap_alloc_old h _) _
    by_cases h2 : max (g.sl - g.st) 0 < 1
    · have e1 : g.waitE c = 15 := by unfold Gt.waitE; rw [if_neg h1, if_pos h2]
      have e2 : g.waited c = g := by unfold Gt.waited; rw [e1, if_neg (by decide)]
      rw [e1, e2]
      have ht := fun w' (hh : GtAt w' b g) => atake_c (w := w') (b := b) (off := 5) (l := g.sl) (t := g.st) ⟨hh, rfl, rfl⟩ 1 hsl hst
      rw [show moveErr (max (g.sl - g.st) 0) 1 13 = 13 from by unfold moveErr; rw [if_neg (by omega), if_pos h2], if_neg (by decide)] at ht
      have HT := Lib.hid ht
      clear e1 e2 h1 h1' ht h2
      go_enter_defers Try.func58, Try.ntmps58
      go_wp2_with fail
      refine (HT.out _ (hg0 _ _)).mono ?_
      rintro e w2 ⟨rfl, hu2, hh2⟩
      have hE := hu2.keep (heap_new2 w (.cells #[.pointer (some ⟨b, 0, none⟩)] 62) (.cells #[i64 0] 29)) (by simp; omega)
      obtain ⟨e0, f0⟩ := cells1 hE
      have hlt2 := lt_of_heap hE
      go_wp2_with fail
      have hE2 := heap_setCell hE 0 (i64 15)
      obtain ⟨e1, -⟩ := cells1 (v0 := i64 15) hE2
      refine ⟨i64 15, by simp [results, Try.results58, go_sem, e1], rfl, ?_, heap_setCell_ne hh2 (by omega) _ _⟩
      exact ((((Upd.refl [b] w).alloc _).alloc _).trans' hu2).setCell (.inr (by simp)) _
    · have h2' : g.st < g.sl := by omega
      have ht := fun w' (hh : GtAt w' b g) => atake_c (w := w') (b := b) (off := 5) (l := g.sl) (t := g.st) ⟨hh, rfl, rfl⟩ 1 hsl hst
      rw [show moveErr (max (g.sl - g.st) 0) 1 13 = 0 from by unfold moveErr; rw [if_neg (by omega), if_neg h2], if_pos rfl] at ht
      have hr := fun w' (hh : GtAt w' b { g with st := g.st + 1 }) => room_c (w := w') (b := b) (off := 3) (l := g.ml) (t := g.mt) ⟨hh, rfl, rfl⟩ hml hmt
      have HT := Lib.hid ht
      have HRM := Lib.hid hr
      clear ht hr
      by_cases h3 : max (g.ml - g.mt) 0 < c
      · have e1 : g.waitE c = 13 := by unfold Gt.waitE; rw [if_neg h1, if_neg h2, if_pos h3]
        have e2 : g.waited c = g := by unfold Gt.waited; rw [e1, if_neg (by decide)]
        rw [e1, e2]
        clear e1 e2 h1 h1' h2
        go_enter_defers Try.func58, Try.ntmps58
        go_wp2_with fail
        refine (HT.out _ (hg0 _ _)).mono ?_
        rintro e w2 ⟨rfl, hu2, hh2⟩
        have hE := hu2.keep (heap_new2 w (.cells #[.pointer (some ⟨b, 0, none⟩)] 62) (.cells #[i64 0] 29)) (by simp; omega)
        have hX := hu2.keep (heap_alloc_old (heap_alloc_new w (.cells #[.pointer (some ⟨b, 0, none⟩)] 62)) (.cells #[i64 0] 29)) (by simp; omega)
        have hw2 := (((Upd.refl [b] w).alloc (.cells #[.pointer (some ⟨b, 0, none⟩)] 62)).alloc (.cells #[i64 0] 29)).trans' hu2
        obtain ⟨x0, -⟩ := cells1 hX
        go_wp2_with fail
        refine (HRM.out _ hh2).mono ?_
        rintro e w3 ⟨rfl, hu3⟩
        have hE3 := hu3.keep0 hE
        have hX3 := hu3.keep0 hX
        have hh3 := hu3.keep0 hh2
        obtain ⟨e0, f0⟩ := cells1 hE3
        obtain ⟨x1, -⟩ := cells1 hX3
        go_wp2_with fail
        have hE4 := heap_setCell hE3 0 (i64 13)
        have hX4 := heap_setCell_ne (c := w.heap.size + 1) hX3 (by omega) 0 (i64 13)
        have hh4 := heap_setCell_ne (c := w.heap.size + 1) hh3 (by omega) 0 (i64 13)
        refine leaves_cons (f := 63) (args := #[.pointer (some ⟨w.heap.size + 1, 0, none⟩), .pointer (some ⟨w.heap.size, 0, none⟩)]) (by simp) (by simp [go_sem]) ?_
        refine (waitF1_d (x := 13) (by decide) hE4 hX4 hh4 ok h2' .returning).mono ?_
        rintro e u' w5 ⟨rfl, rfl, hu5, hh5⟩
        have hE5 := hu5.keep hE4 (by simp; omega)
        obtain ⟨e5, -⟩ := cells1 (v0 := i64 13) hE5
        refine ⟨i64 13, by simp [results, Try.results58, go_sem, e5], rfl, ?_, hh5⟩
        exact ((hw2.trans hu3 (by simp)).setCell (.inr (by simp)) _).trans' hu5
      · have hk := fun w' (hh : GtAt w' b { g with st := g.st + 1 }) => take_c (w := w') (b := b) (off := 0) (r := g.r) (u := g.u) (t := g.t) ⟨hh, rfl, rfl, rfl⟩ c (by omega)
        by_cases h4 : g.t < c
        · have e1 : g.waitE c = 14 := by unfold Gt.waitE; rw [if_neg h1, if_neg h2, if_neg h3, if_pos h4]
          have e2 : g.waited c = g := by unfold Gt.waited; rw [e1, if_neg (by decide)]
          rw [e1, e2]
          rw [show takeErr g.t c = 14 from by unfold takeErr; rw [if_neg (by omega), if_pos h4], if_neg (by decide)] at hk
          have HK := Lib.hid hk
          clear e1 e2 h1 h1' h2 hk
          go_enter_defers Try.func58, Try.ntmps58
          go_wp2_with fail
          refine (HT.out _ (hg0 _ _)).mono ?_
          rintro e w2 ⟨rfl, hu2, hh2⟩
          have hE := hu2.keep (heap_new2 w (.cells #[.pointer (some ⟨b, 0, none⟩)] 62) (.cells #[i64 0] 29)) (by simp; omega)
          have hX := hu2.keep (heap_alloc_old (heap_alloc_new w (.cells #[.pointer (some ⟨b, 0, none⟩)] 62)) (.cells #[i64 0] 29)) (by simp; omega)
          have hw2 := (((Upd.refl [b] w).alloc (.cells #[.pointer (some ⟨b, 0, none⟩)] 62)).alloc (.cells #[i64 0] 29)).trans' hu2
          obtain ⟨x0, -⟩ := cells1 hX
          go_wp2_with fail
          refine (HRM.out _ hh2).mono ?_
          rintro e w3 ⟨rfl, hu3⟩
          have hE3 := hu3.keep0 hE
          have hX3 := hu3.keep0 hX
          have hh3 := hu3.keep0 hh2
          obtain ⟨x1, -⟩ := cells1 hX3
          go_wp2_with fail
          refine (HK.out _ hh3).mono ?_
          rintro e w6 ⟨rfl, hu6, hh6⟩
          have hE6 := hu6.keep hE3 (by simp; omega)
          have hX6 := hu6.keep hX3 (by simp; omega)
          obtain ⟨e0, f0⟩ := cells1 hE6
          go_wp2_with fail
          have hE4 := heap_setCell hE6 0 (i64 14)
          have hX4 := heap_setCell_ne (c := w.heap.size + 1) hX6 (by omega) 0 (i64 14)
          have hh4 := heap_setCell_ne (c := w.heap.size + 1) hh6 (by omega) 0 (i64 14)
          refine leaves_cons (f := 63) (args := #[.pointer (some ⟨w.heap.size + 1, 0, none⟩), .pointer (some ⟨w.heap.size, 0, none⟩)]) (by simp) (by simp [go_sem]) ?_
          refine (waitF1_d (x := 14) (by decide) hE4 hX4 hh4 ok h2' .returning).mono ?_
          rintro e u' w5 ⟨rfl, rfl, hu5, hh5⟩
          have hE5 := hu5.keep hE4 (by simp; omega)
          obtain ⟨e5, -⟩ := cells1 (v0 := i64 14) hE5
          refine ⟨i64 14, by simp [results, Try.results58, go_sem, e5], rfl, ?_, hh5⟩
          exact (((hw2.trans hu3 (by simp)).trans' hu6).setCell (.inr (by simp)) _).trans' hu5
        · have e1 : g.waitE c = 0 := by unfold Gt.waitE; rw [if_neg h1, if_neg h2, if_neg h3, if_neg h4]
          have e2 : g.waited c = { g with t := g.t - c, mt := g.mt + c, st := g.st + 1 } := by unfold Gt.waited; rw [e1, if_pos rfl]
          rw [e1, e2]
          rw [show takeErr g.t c = 0 from by unfold takeErr; rw [if_neg (by omega), if_neg h4], if_pos rfl] at hk
          have hm := fun w' (hh : GtAt w' b { g with st := g.st + 1, t := g.t - c }) => atake_c (w := w') (b := b) (off := 3) (l := g.ml) (t := g.mt) ⟨hh, rfl, rfl⟩ c hml hmt
          rw [show moveErr (max (g.ml - g.mt) 0) c 13 = 0 from by unfold moveErr; rw [if_neg (by omega), if_neg h3], if_pos rfl] at hm
          have HK := Lib.hid hk
          have HM := Lib.hid hm
          clear e1 e2 h1 h1' h2 hk hm
          go_enter_defers Try.func58, Try.ntmps58
          go_wp2_with fail
          refine (HT.out _ (hg0 _ _)).mono ?_
          rintro e w2 ⟨rfl, hu2, hh2⟩
          have hE := hu2.keep (heap_new2 w (.cells #[.pointer (some ⟨b, 0, none⟩)] 62) (.cells #[i64 0] 29)) (by simp; omega)
          have hX := hu2.keep (heap_alloc_old (heap_alloc_new w (.cells #[.pointer (some ⟨b, 0, none⟩)] 62)) (.cells #[i64 0] 29)) (by simp; omega)
          have hw2 := (((Upd.refl [b] w).alloc (.cells #[.pointer (some ⟨b, 0, none⟩)] 62)).alloc (.cells #[i64 0] 29)).trans' hu2
          obtain ⟨x0, -⟩ := cells1 hX
          go_wp2_with fail
          refine (HRM.out _ hh2).mono ?_
          rintro e w3 ⟨rfl, hu3⟩
          have hE3 := hu3.keep0 hE
          have hX3 := hu3.keep0 hX
          have hh3 := hu3.keep0 hh2
          obtain ⟨x1, -⟩ := cells1 hX3
          go_wp2_with fail
          refine (HK.out _ hh3).mono ?_
          rintro e w6 ⟨rfl, hu6, hh6⟩
          have hE6 := hu6.keep hE3 (by simp; omega)
          have hX6 := hu6.keep hX3 (by simp; omega)
          obtain ⟨x6, -⟩ := cells1 hX6
          go_wp2_with fail
          refine (HM.out _ hh6).mono ?_
          rintro e w7 ⟨rfl, hu7, hh7⟩
          have hE7 := hu7.keep hE6 (by simp; omega)
          obtain ⟨e0, f0⟩ := cells1 hE7
          go_wp2_with fail
          have hE4 := heap_setCell hE7 0 (i64 0)
          have hh4 := heap_setCell_ne (c := w.heap.size + 1) hh7 (by omega) 0 (i64 0)
          refine leaves_cons (f := 63) (args := #[.pointer (some ⟨w.heap.size + 1, 0, none⟩), .pointer (some ⟨w.heap.size, 0, none⟩)]) (by simp) (by simp [go_sem]) ?_
          refine (waitF0_d hE4 .returning).mono ?_
          rintro e u' w5 ⟨rfl, rfl, rfl⟩
          obtain ⟨e5, -⟩ := cells1 (v0 := i64 0) hE4
          refine ⟨i64 0, by simp [results, Try.results58, go_sem, e5], rfl, ?_, hh4⟩
          exact (((hw2.trans hu3 (by simp)).trans' hu6).trans' hu7).setCell (.inr (by simp)) _
end Go.Proofs.Ytnhanldefebjbaa
