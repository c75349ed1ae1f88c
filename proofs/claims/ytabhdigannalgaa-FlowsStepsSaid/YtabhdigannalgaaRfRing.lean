/-
  The document's ring (concourseref25) in memory: its nine flows and its row, and the contracts of with, There, New, without. Condition: rows of some hundred numbers at most.
-/
import Derived.Test.YtabhdigannalgaaRingRead
import Derived.Deep.RegionHeld3
namespace Go.Proofs.Ytabhdigannalgaa
open Go Go.RowKit

/-- the document's flow -/
structure F6 where
  th : Bool
  q : Int
  d : Int
  cs : List Int
  rs : Bool
  an : Bool
def F6.zero : F6 := ⟨false, 0, 0, [], false, false⟩
def F6.of : Option Fl → F6
  | none => F6.zero
  | some f => ⟨true, f.q, f.d, f.cs, f.rs, f.an⟩
def F6.cells (f : F6) (c : Value) : List Value := [.bool f.th, i64 f.q, i64 f.d, c, .bool f.rs, .bool f.an]
def fcells (G : Nat → F6) (cv : Nat → Value) : List Value :=
  [.bool (G 0).th, i64 (G 0).q, i64 (G 0).d, cv 0, .bool (G 0).rs, .bool (G 0).an, .bool (G 1).th, i64 (G 1).q, i64 (G 1).d, cv 1, .bool (G 1).rs, .bool (G 1).an, .bool (G 2).th, i64 (G 2).q, i64 (G 2).d, cv 2, .bool (G 2).rs, .bool (G 2).an, .bool (G 3).th, i64 (G 3).q, i64 (G 3).d, cv 3, .bool (G 3).rs, .bool (G 3).an, .bool (G 4).th, i64 (G 4).q, i64 (G 4).d, cv 4, .bool (G 4).rs, .bool (G 4).an, .bool (G 5).th, i64 (G 5).q, i64 (G 5).d, cv 5, .bool (G 5).rs, .bool (G 5).an, .bool (G 6).th, i64 (G 6).q, i64 (G 6).d, cv 6, .bool (G 6).rs, .bool (G 6).an, .bool (G 7).th, i64 (G 7).q, i64 (G 7).d, cv 7, .bool (G 7).rs, .bool (G 7).an, .bool (G 8).th, i64 (G 8).q, i64 (G 8).d, cv 8, .bool (G 8).rs, .bool (G 8).an]
theorem fcells_len (G : Nat → F6) (cv : Nat → Value) : (fcells G cv).length = 9 * 6 := rfl
set_option maxHeartbeats 2000000 in
theorem fcells_get (G : Nat → F6) (cv : Nat → Value) {n : Nat} (hn : n < 9) :
    (fcells G cv)[n * 6]? = some (.bool (G n).th) ∧ (fcells G cv)[n * 6 + 1]? = some (i64 (G n).q) ∧ (fcells G cv)[n * 6 + 2]? = some (i64 (G n).d) ∧ (fcells G cv)[n * 6 + 3]? = some (cv n) ∧ (fcells G cv)[n * 6 + 4]? = some (.bool (G n).rs) ∧ (fcells G cv)[n * 6 + 5]? = some (.bool (G n).an) := by
  match n, hn with
  | 0, _ => exact ⟨rfl, rfl, rfl, rfl, rfl, rfl⟩
  | 1, _ => exact ⟨rfl, rfl, rfl, rfl, rfl, rfl⟩
  | 2, _ => exact ⟨rfl, rfl, rfl, rfl, rfl, rfl⟩
  | 3, _ => exact ⟨rfl, rfl, rfl, rfl, rfl, rfl⟩
  | 4, _ => exact ⟨rfl, rfl, rfl, rfl, rfl, rfl⟩
  | 5, _ => exact ⟨rfl, rfl, rfl, rfl, rfl, rfl⟩
  | 6, _ => exact ⟨rfl, rfl, rfl, rfl, rfl, rfl⟩
  | 7, _ => exact ⟨rfl, rfl, rfl, rfl, rfl, rfl⟩
  | 8, _ => exact ⟨rfl, rfl, rfl, rfl, rfl, rfl⟩
def updN {α : Type} (G : Nat → α) (n : Nat) (f : α) : Nat → α := fun j => if j = n then f else G j
theorem updN_same {α : Type} (G : Nat → α) (n : Nat) (f : α) : updN G n f n = f := by unfold updN; rw [if_pos rfl]
theorem updN_other {α : Type} (G : Nat → α) {n j : Nat} (f : α) (h : j ≠ n) : updN G n f j = G j := by unfold updN; rw [if_neg h]
set_option maxHeartbeats 2000000 in
theorem fcells_set (G : Nat → F6) (cv : Nat → Value) {n : Nat} (hn : n < 9) (f : F6) (c : Value) :
    ((((((fcells G cv).set (n * 6) (.bool f.th)).set (n * 6 + 1) (i64 f.q)).set (n * 6 + 2) (i64 f.d)).set (n * 6 + 3) c).set (n * 6 + 4) (.bool f.rs)).set (n * 6 + 5) (.bool f.an) = fcells (updN G n f) (updN cv n c) := by
  match n, hn with
  | 0, _ => rfl
  | 1, _ => rfl
  | 2, _ => rfl
  | 3, _ => rfl
  | 4, _ => rfl
  | 5, _ => rfl
  | 6, _ => rfl
  | 7, _ => rfl
  | 8, _ => rfl

/-- nine flows lie behind the slice fv; cv are their rows of costs -/
def FlsAt (w : World) (fv : Value) (G : Nat → F6) (cv : Nat → Value) : Prop :=
  Sub w 0 103 6 fv 9 (fcells G cv) ∧ ∀ j, j < 9 → Sub w 0 3 1 (cv j) (G j).cs.length ((G j).cs.map i64)
theorem FlsAt.upd0 {w w' : World} {fv : Value} {G : Nat → F6} {cv : Nat → Value} (h : FlsAt w fv G cv) (hu : Upd [] w w') : FlsAt w' fv G cv := ⟨h.1.upd0 hu, fun j hj => (h.2 j hj).upd0 hu⟩
theorem FlsAt.form {w : World} {fv : Value} {G : Nat → F6} {cv : Nat → Value} (h : FlsAt w fv G cv) : ∃ g off cap, fv = .slice (some ⟨g, off, none⟩) 9 cap ∧ g < w.heap.size ∧ 9 ≤ cap := by
  obtain ⟨ao, cap, rfl, h1, h2⟩ := h.1.form
  obtain ⟨g, off, rfl, -, h3, -⟩ := h2 (by omega)
  exact ⟨g, off, cap, rfl, h3, h1⟩
theorem FlsAt.get {w : World} {g off cap : Nat} {G : Nat → F6} {cv : Nat → Value} (h : FlsAt w (.slice (some ⟨g, off, none⟩) 9 cap) G cv) {n : Nat} (hn : n < 9) :
    w.cell? ⟨g, off + n * 6, none⟩ = some (.bool (G n).th) ∧ w.cell? ⟨g, off + n * 6 + 1, none⟩ = some (i64 (G n).q) ∧ w.cell? ⟨g, off + n * 6 + 2, none⟩ = some (i64 (G n).d) ∧ w.cell? ⟨g, off + n * 6 + 3, none⟩ = some (cv n) ∧
    w.cell? ⟨g, off + n * 6 + 4, none⟩ = some (.bool (G n).rs) ∧ w.cell? ⟨g, off + n * 6 + 5, none⟩ = some (.bool (G n).an) := by
  obtain ⟨ao, cap', he, h1, h2⟩ := h.1.form
  obtain ⟨g', off', e1, -, -, h3⟩ := h2 (by omega)
  injection he with e2 e3 e4
  rw [e1] at e2
  injection e2 with e2
  injection e2 with e5 e6
  subst e5; subst e6
  obtain ⟨k0, k1, k2, k3, k4, k5⟩ := fcells_get G cv hn
  exact ⟨h3 _ _ k0, h3 _ _ k1, h3 _ _ k2, h3 _ _ k3, h3 _ _ k4, h3 _ _ k5⟩
/-- a row of costs -/
theorem FlsAt.row {w : World} {fv : Value} {G : Nat → F6} {cv : Nat → Value} (h : FlsAt w fv G cv) {n : Nat} (hn : n < 9) : ∃ ao cap, cv n = .slice ao (G n).cs.length cap := by
  obtain ⟨ao, cap, h1, -⟩ := (h.2 n hn).form
  exact ⟨ao, cap, h1⟩

theorem fcells_one (G : Nat → F6) (cv : Nat → Value) (h : ∀ j, j < 9 → (cv j).oneCell' = true) : ∀ u ∈ fcells G cv, u.oneCell' = true := by
  have h0 := h 0 (by omega)
  have h1 := h 1 (by omega)
  have h2 := h 2 (by omega)
  have h3 := h 3 (by omega)
  have h4 := h 4 (by omega)
  have h5 := h 5 (by omega)
  have h6 := h 6 (by omega)
  have h7 := h 7 (by omega)
  have h8 := h 8 (by omega)
  unfold fcells
  repeat (first | exact List.forall_mem_nil _ | refine List.forall_mem_cons.2 ⟨by first | assumption | rfl, ?_⟩)

theorem Sub.frz6 {w : World} {e : TypeId} {g off cap n k : Nat} {xs : List Value} (h : Sub w 0 e 6 (.slice (some ⟨g, off, none⟩) n cap) n xs) (_hk : k < n) :
    w.frozen? ⟨g, off + k * 6, none⟩ = false ∧ w.frozen? ⟨g, off + k * 6 + 1, none⟩ = false ∧ w.frozen? ⟨g, off + k * 6 + 2, none⟩ = false ∧ w.frozen? ⟨g, off + k * 6 + 3, none⟩ = false ∧ w.frozen? ⟨g, off + k * 6 + 4, none⟩ = false ∧ w.frozen? ⟨g, off + k * 6 + 5, none⟩ = false := by
  obtain ⟨cs, hc⟩ := h.ty g (by simp [blkL])
  exact ⟨frzOf hc _, frzOf hc _, frzOf hc _, frzOf hc _, frzOf hc _, frzOf hc _⟩
/-- blocks of other types change -/
theorem FlsAt.off {S : List Nat} {w w' : World} {fv : Value} {G : Nat → F6} {cv : Nat → Value} (h : FlsAt w fv G cv) (hu : Upd S w w') (hS : ∀ x ∈ S, ∃ cs t, w.heap[x]? = some (.cells cs t (0, 0)) ∧ t ≠ 103 ∧ t ≠ 3) : FlsAt w' fv G cv := by
  refine ⟨h.1.upd hu fun x hx hm => ?_, fun j hj => (h.2 j hj).upd hu fun x hx hm => ?_⟩
  · obtain ⟨cs, t, h1, h2, -⟩ := hS x hm
    obtain ⟨cs2, h3⟩ := h.1.ty x hx
    exact cells_ne h1 h3 h2 rfl
  · obtain ⟨cs, t, h1, -, h2⟩ := hS x hm
    obtain ⟨cs2, h3⟩ := (h.2 j hj).ty x hx
    exact cells_ne h1 h3 h2 rfl

theorem info_rfl : (Try.prog.info? 103).map (fun i => (i.zero, i.size, i.bytes)) = some (some (.agg #[.bool false, i64 0, i64 0, .slice none 0 0, .bool false, .bool false]), 6, 56) := by kernel_rfl

theorem Sub.set6 {w : World} {e : TypeId} {g off cap n k : Nat} {xs : List Value} (h : Sub w 0 e 6 (.slice (some ⟨g, off, none⟩) n cap) n xs) (hk : k < n) (v0 v1 v2 v3 v4 v5 : Value) :
    Sub ((((((w.setCell ⟨g, off + k * 6, none⟩ v0).setCell ⟨g, off + k * 6 + 1, none⟩ v1).setCell ⟨g, off + k * 6 + 2, none⟩ v2).setCell ⟨g, off + k * 6 + 3, none⟩ v3).setCell ⟨g, off + k * 6 + 4, none⟩ v4).setCell ⟨g, off + k * 6 + 5, none⟩ v5) 0 e 6 (.slice (some ⟨g, off, none⟩) n cap) n
      ((((((xs.set (k * 6) v0).set (k * 6 + 1) v1).set (k * 6 + 2) v2).set (k * 6 + 3) v3).set (k * 6 + 4) v4).set (k * 6 + 5) v5) :=
  (((((h.set (j := k * 6) (by omega) v0).set (j := k * 6 + 1) (by omega) v1).set (j := k * 6 + 2) (by omega) v2).set (j := k * 6 + 3) (by omega) v3).set (j := k * 6 + 4) (by omega) v4).set (j := k * 6 + 5) (by omega) v5

set_option maxRecDepth 100000 in
set_option maxHeartbeats 2000000 in
theorem rwith_c {w : World} {fv : Value} {G : Nat → F6} {cv : Nat → Value} (h : FlsAt w fv G cv) (n : Nat) (hn : n < 9) (f : F6) {ca : Option Addr} {cn cc : Nat} (hc : Sub w 0 3 1 (.slice ca cn cc) f.cs.length (f.cs.map i64)) (ra : Option Addr) (rn rc : Nat) :
    Calls Try.prog 54 #[.agg #[fv, .slice ra rn rc], i64 n, .agg #[.bool f.th, i64 f.q, i64 f.d, .slice ca cn cc, .bool f.rs, .bool f.an]] w fun e w' =>
      ∃ fv', e = .returned (.agg #[fv', .slice ra rn rc]) ∧ FlsAt w' fv' (updN G n f) (updN cv n (.slice ca cn cc)) ∧ Upd [] w w' ∧ ∀ x ∈ blkL fv', w.heap.size ≤ x := by
  obtain ⟨i0, hi, hz0, hz1, hz2⟩ := info_parts info_rfl
  obtain ⟨g, off, cap, rfl, hg, hcap⟩ := h.form
  have HF := Lib.hid h
  have HC := Lib.hid hc
  have hn8 : (n : Int) < 9 := by omega
  clear h hc
  refine post fun R hR => ?_
  go_enter Try.func54, Try.ntmps54
  go_upto_region 1 with (fail)
  obtain ⟨A, hA⟩ : ∃ A, A = w.heap.size := ⟨_, rfl⟩
  have hAw : w.heap.size ≤ A := by omega
  have hA1 := heap_alloc_old (heap_alloc_old (heap_alloc_new w (.cells #[.slice (some ⟨g, off, none⟩) 9 cap, .slice ra rn rc] 46)) (.cells #[.bool f.th, i64 f.q, i64 f.d, .slice ca cn cc, .bool f.rs, .bool f.an] 103)) (.cells #[.slice none 0 0, .slice none 0 0] 46)
  have hA2 := heap_alloc_old (heap_new2 w (.cells #[.slice (some ⟨g, off, none⟩) 9 cap, .slice ra rn rc] 46) (.cells #[.bool f.th, i64 f.q, i64 f.d, .slice ca cn cc, .bool f.rs, .bool f.an] 103)) (.cells #[.slice none 0 0, .slice none 0 0] 46)
  have hA3 : ((((w.alloc (.cells #[.slice (some ⟨g, off, none⟩) 9 cap, .slice ra rn rc] 46)).alloc (.cells #[.bool f.th, i64 f.q, i64 f.d, .slice ca cn cc, .bool f.rs, .bool f.an] 103)).alloc (.cells #[.slice none 0 0, .slice none 0 0] 46)).heap)[w.heap.size + 1 + 1]? = _ := heap_new3 _ _ _ _
  have hu0 := (((Upd.refl [] w).alloc (.cells #[.slice (some ⟨g, off, none⟩) 9 cap, .slice ra rn rc] 46)).alloc (.cells #[.bool f.th, i64 f.q, i64 f.d, .slice ca cn cc, .bool f.rs, .bool f.an] 103)).alloc (.cells #[.slice none 0 0, .slice none 0 0] 46)
  rw [← hA] at hA1 hA2 hA3 ⊢
  generalize ((w.alloc (.cells #[.slice (some ⟨g, off, none⟩) 9 cap, .slice ra rn rc] 46)).alloc (.cells #[.bool f.th, i64 f.q, i64 f.d, .slice ca cn cc, .bool f.rs, .bool f.an] 103)).alloc (.cells #[.slice none 0 0, .slice none 0 0] 46) = w1 at *
  have hs1 := lt_of_heap hA1
  have hs2 := lt_of_heap hA2
  have hs3 := lt_of_heap hA3
  have hF1 := HF.out.upd0 hu0
  have hsrc := Sub.src (hF1.1.upd0 ((Upd.refl [] w1).alloc (.cells #[] 103)))
  have hnew : Sub (w1.alloc (.cells #[] 103)) w1.heap.size 103 6 (.slice (some ⟨w1.heap.size, 0, none⟩) 0 0) 0 [] :=
    ⟨rfl, .inr ⟨w1.heap.size, 0, 0, #[], rfl, Nat.le_refl _, heap_alloc_new _ _, Nat.le_refl _, by unfold maxLen; omega, by simp, fun j hj => by omega⟩⟩
  have hone : ∀ u ∈ fcells G cv, u.oneCell' = true := fcells_one G cv fun j hj => by
    obtain ⟨ao, c, e⟩ := hF1.row hj
    rw [e]; rfl
  have HSRC := Lib.hid hsrc
  have HNEW := Lib.hid hnew
  have HONE := Lib.hid hone
  have HU0 := Lib.hid hu0
  obtain ⟨a0, a1, -⟩ := cells2 hA1
  clear hsrc hnew hone hF1 hA hu0
  go_upto_region 2 with (at_builtin; refine wpList_append_sub _ rfl _ _ 44 rfl w1.heap.size 103 i0 _ 6 56 Try.underlying44 hi hz0 hz1 hz2 rfl (by decide) (.slice (some ⟨w1.heap.size, 0, none⟩) 0 0) 0 [] rfl HNEW.out _ 9 cap (fcells G cv) rfl HSRC.out rfl HONE.out (by unfold maxLen; omega) (by omega) (by simp) ?_; intro ao' cap2 w2 hs2 hu2 hb2; rw [Nat.zero_add, List.nil_append] at hs2; have hu3 : Upd [] w1 w2 := ((Upd.refl [] w1).alloc _).trans hu2 (by intro x hx; have hx2 : x = w1.heap.size := (by simpa [blkL] using hx); exact .inr (Nat.le_of_eq hx2.symm)); have HS2 := Lib.hid hs2; have HU3 := Lib.hid hu3; clear hs2 hu2 hb2 hu3)
  obtain ⟨ao3, cap3, he3, -, hr3⟩ := HS2.out.form
  obtain ⟨g3, off3, rfl, hg3, hg3', -⟩ := hr3 (by omega)
  injection he3 with hx3 _ he3
  subst hx3; subst he3
  clear hr3
  have hF2 : FlsAt w2 (.slice (some ⟨g3, off3, none⟩) 9 cap2) G cv := ⟨HS2.out.mono (Nat.zero_le _), fun j hj => ((HF.out.2 j hj).upd0 HU0.out).upd0 HU3.out⟩
  obtain ⟨d0, d1, d2, d3, d4, d5⟩ := hF2.get hn
  obtain ⟨z0, z1, z2, z3, z4, z5⟩ := hF2.1.frz6 (k := n) (n := 9) (by omega)
  have hB1 := HU3.out.keep0 hA1
  have hB2 := HU3.out.keep0 hA2
  have hB3 := HU3.out.keep0 hA3
  have ht1 := lt_of_heap hB1
  have ht2 := lt_of_heap hB2
  have ht3 := lt_of_heap hB3
  clear hA1 hA2 hA3 a0 a1
  obtain ⟨a0, a1, -⟩ := cells2 hB1
  obtain ⟨b0, b1, b2, b3, b4, b5, -⟩ := cells6 hB2
  obtain ⟨c0, c1, y0, y1⟩ := cells2 hB3
  go_upto_region 3 with (fail)
  have hput := hF2.1.set6 hn (.bool f.th) (i64 f.q) (i64 f.d) (.slice ca cn cc) (.bool f.rs) (.bool f.an)
  rw [fcells_set G cv hn f (.slice ca cn cc)] at hput
  have hu5 := ((((((Upd.refl [g3] w2).setCell (p := ⟨g3, off3 + n * 6, none⟩) (by simp) (.bool f.th)).setCell (p := ⟨g3, off3 + n * 6 + 1, none⟩) (by simp) (i64 f.q)).setCell (p := ⟨g3, off3 + n * 6 + 2, none⟩) (by simp) (i64 f.d)).setCell (p := ⟨g3, off3 + n * 6 + 3, none⟩) (by simp) (.slice ca cn cc)).setCell (p := ⟨g3, off3 + n * 6 + 4, none⟩) (by simp) (.bool f.rs)).setCell (p := ⟨g3, off3 + n * 6 + 5, none⟩) (by simp) (.bool f.an)
  generalize (((((w2.setCell ⟨g3, off3 + n * 6, none⟩ (.bool f.th)).setCell ⟨g3, off3 + n * 6 + 1, none⟩ (i64 f.q)).setCell ⟨g3, off3 + n * 6 + 2, none⟩ (i64 f.d)).setCell ⟨g3, off3 + n * 6 + 3, none⟩ (.slice ca cn cc)).setCell ⟨g3, off3 + n * 6 + 4, none⟩ (.bool f.rs)).setCell ⟨g3, off3 + n * 6 + 5, none⟩ (.bool f.an) = w3 at *
  have hD1 := hu5.keep hB1 (by simp; omega)
  have hD3 := hu5.keep hB3 (by simp; omega)
  have hX3 : Upd [] w w3 := (HU0.out.trans' HU3.out).trans hu5 (fun x hx => .inr (by simp at hx; have := HU0.out.size; omega))
  have hF3 : FlsAt w3 (.slice (some ⟨g3, off3, none⟩) 9 cap2) (updN G n f) (updN cv n (.slice ca cn cc)) := ⟨hput, fun j hj => by
    by_cases e : j = n
    · subst e; rw [updN_same, updN_same]; exact HC.out.upd0 hX3
    · rw [updN_other _ _ e, updN_other _ _ e]; exact (HF.out.2 j hj).upd0 hX3⟩
  have HF3 := Lib.hid hF3
  have HX3 := Lib.hid hX3
  clear hput hu5 hB1 hB2 hB3 a0 a1 b0 b1 b2 b3 b4 b5 c0 c1 y0 y1 d0 d1 d2 d3 d4 d5 z0 z1 z2 z3 z4 z5 hF2 hF3 hX3
  obtain ⟨a0, a1, -⟩ := cells2 hD1
  obtain ⟨c0, c1, y0, y1⟩ := cells2 hD3
  go_wp2_with (fail)
  have hE3 := hset2_1 (v := .slice ra rn rc) (hset2_0 (v := .slice (some ⟨g3, off3, none⟩) 9 cap2) hD3)
  obtain ⟨k0, k1, -⟩ := cells2 hE3
  refine bodyPost_ret (v := .agg #[.slice (some ⟨g3, off3, none⟩) 9 cap2, .slice ra rn rc]) (by simp [results, Try.results54, go_sem, *]) rfl ?_
  refine hR.out _ _ ?_
  have hu6 : Upd [A + 1 + 1] w3 ((w3.setCell ⟨A + 1 + 1, 0, none⟩ (.slice (some ⟨g3, off3, none⟩) 9 cap2)).setCell ⟨A + 1 + 1, 1, none⟩ (.slice ra rn rc)) := ((Upd.refl _ _).setCell (by simp) _).setCell (by simp) _
  exact ⟨_, rfl, HF3.out.off hu6 (fun x hx => by simp at hx; subst hx; exact ⟨_, _, hD3, by decide, by decide⟩), HX3.out.trans hu6 (fun x hx => .inr (by simp at hx; omega)), fun x hx => by simp [blkL] at hx; have := HU0.out.size; omega⟩
end Go.Proofs.Ytabhdigannalgaa
