/-
  The document's table of connections (concourseref38) in memory, and the contracts of There and With. Condition: some hundred connections and texts at most.
-/
import Derived.Test.YtagadbgbicebaaaConnPush
import Derived.Test.YtagadbgbicebaaaFeedAll
import Derived.Deep.DeepCutAuto
import Derived.Deep.CutBlock
namespace Go.Proofs.Ytagadbgbicebaaa
open Go Go.RowKit

/-- a connection's cells: the connection, and its row of texts -/
def cnc (p : Ln × Value) : List Value := [i64 (p.1.st + 1), i64 p.1.ow, .string p.1.r, i64 p.1.e, p.2]
def ccs (ps : List (Ln × Value)) : List Value := ps.flatMap cnc
theorem ccs_len (ps : List (Ln × Value)) : (ccs ps).length = ps.length * 5 := by
  unfold ccs
  induction ps with
  | nil => rfl
  | cons p r ih => simp only [List.flatMap_cons, List.length_append, ih, List.length_cons]; show 5 + _ = _; omega
theorem ccs_append (a b : List (Ln × Value)) : ccs (a ++ b) = ccs a ++ ccs b := by simp [ccs]
theorem ccs_get : ∀ (ps : List (Ln × Value)) (k i : Nat), i < 5 → (ccs ps)[k * 5 + i]? = (ps[k]?).bind fun p => (cnc p)[i]?
  | [], k, i, _ => by simp [ccs]
  | p :: r, 0, i, hi => by
    show ((cnc p) ++ ccs r)[0 * 5 + i]? = _
    rw [Nat.zero_mul, Nat.zero_add, List.getElem?_append_left (by show i < 5; exact hi)]
    rfl
  | p :: r, k + 1, i, hi => by
    show ((cnc p) ++ ccs r)[(k + 1) * 5 + i]? = _
    rw [List.getElem?_append_right (by show 5 ≤ _; omega), show (k + 1) * 5 + i - (cnc p).length = k * 5 + i from by show _ - 5 = _; omega, ccs_get r k i hi]
    rfl
theorem ccs_set : ∀ (ps : List (Ln × Value)) (k : Nat) (p : Ln × Value), k < ps.length →
    (((((ccs ps).set (k * 5) (i64 (p.1.st + 1))).set (k * 5 + 1) (i64 p.1.ow)).set (k * 5 + 2) (.string p.1.r)).set (k * 5 + 3) (i64 p.1.e)).set (k * 5 + 4) p.2 = ccs (ps.set k p)
  | [], k, p, h => by simp at h
  | q :: r, 0, p, _ => rfl
  | q :: r, k + 1, p, h => by
    have ih := ccs_set r k p (by simpa using h)
    have e : ∀ (xs : List Value) (j : Nat) (v : Value), (cnc q ++ xs).set ((k + 1) * 5 + j) v = cnc q ++ xs.set (k * 5 + j) v := fun xs j v => by
      rw [List.set_append_right _ _ (by show 5 ≤ _; omega)]
      rw [show (k + 1) * 5 + j - (cnc q).length = k * 5 + j from by show _ - 5 = _; omega]
    have e0 : ∀ (xs : List Value) (v : Value), (cnc q ++ xs).set ((k + 1) * 5) v = cnc q ++ xs.set (k * 5) v := fun xs v => e xs 0 v
    show (((((cnc q ++ ccs r).set _ _).set _ _).set _ _).set _ _).set _ _ = cnc q ++ ccs (r.set k p)
    rw [e0, e, e, e, e, ih]

structure RcX (w : World) (Y : Nat → Prop) (v : Value) (ps : List (Ln × Value)) : Prop where
  row : Sub w 0 103 5 v ps.length (ccs ps)
  out : ∀ p ∈ ps, Sub w 0 9 1 p.2 p.1.out.length (strs p.1.out)
  yv : ∀ x ∈ blkL v, Y x
  yo : ∀ p ∈ ps, ∀ x ∈ blkL p.2, Y x
section
variable {w w' : World} {Y Z : Nat → Prop} {v : Value} {ps : List (Ln × Value)}
theorem RcX.upd (h : RcX w Y v ps) {S : List Nat} (hu : Upd S w w') (hS : ∀ x ∈ S, ¬ Y x) : RcX w' Y v ps :=
  ⟨h.row.upd hu fun x hx hm => hS x hm (h.yv x hx), fun p hp => (h.out p hp).upd hu fun x hx hm => hS x hm (h.yo p hp x hx), h.yv, h.yo⟩
theorem RcX.upd0 (h : RcX w Y v ps) (hu : Upd [] w w') : RcX w' Y v ps := h.upd hu (by simp)
theorem RcX.more (h : RcX w Y v ps) (hy : ∀ x, Y x → Z x) : RcX w Z v ps := ⟨h.row, h.out, fun x hx => hy x (h.yv x hx), fun p hp x hx => hy x (h.yo p hp x hx)⟩
theorem RcX.cut (h : RcX w Y v ps) : RcX w (cutZ Y w) v ps := ⟨h.row, h.out, fun x hx => ⟨h.yv x hx, (h.row.lt x hx).2⟩, fun p hp x hx => ⟨h.yo p hp x hx, ((h.out p hp).lt x hx).2⟩⟩
/-- blocks of other types change -/
theorem RcX.off {S : List Nat} (h : RcX w Y v ps) (hu : Upd S w w') (hS : ∀ x ∈ S, ∃ cs t, w.heap[x]? = some (.cells cs t (0, 0)) ∧ t ≠ 103 ∧ t ≠ 9) : RcX w' Y v ps := by
  refine ⟨h.row.upd hu fun x hx hm => ?_, fun p hp => (h.out p hp).upd hu fun x hx hm => ?_, h.yv, h.yo⟩
  · obtain ⟨cs, t, h1, h2, -⟩ := hS x hm
    obtain ⟨cs2, h3⟩ := h.row.ty x hx
    exact cells_ne h1 h3 h2 rfl
  · obtain ⟨cs, t, h1, -, h2⟩ := hS x hm
    obtain ⟨cs2, h3⟩ := (h.out p hp).ty x hx
    exact cells_ne h1 h3 h2 rfl
theorem RcX.form (h : RcX w Y v ps) : ∃ ao cap, v = .slice ao ps.length cap ∧ ps.length ≤ cap ∧ (0 < ps.length → ∃ g off, ao = some ⟨g, off, none⟩ ∧ g < w.heap.size) := by
  obtain ⟨ao, cap, rfl, h1, h2⟩ := h.row.form
  exact ⟨ao, cap, rfl, h1, fun hp => by obtain ⟨g, off, e, -, h3, -⟩ := h2 hp; exact ⟨g, off, e, h3⟩⟩
theorem RcX.get {g off cap : Nat} (h : RcX w Y (.slice (some ⟨g, off, none⟩) ps.length cap) ps) {k : Nat} (hk : k < ps.length) :
    w.cell? ⟨g, off + k * 5, none⟩ = some (i64 (ps[k].1.st + 1)) ∧ w.cell? ⟨g, off + k * 5 + 1, none⟩ = some (i64 ps[k].1.ow) ∧ w.cell? ⟨g, off + k * 5 + 2, none⟩ = some (.string ps[k].1.r) ∧ w.cell? ⟨g, off + k * 5 + 3, none⟩ = some (i64 ps[k].1.e) ∧ w.cell? ⟨g, off + k * 5 + 4, none⟩ = some ps[k].2 := by
  obtain ⟨ao, cap', he, h1, h2⟩ := h.row.form
  obtain ⟨g', off', e1, -, -, h3⟩ := h2 (by omega)
  injection he with e2 e3 e4
  rw [e1] at e2
  injection e2 with e2
  injection e2 with e5 e6
  subst e5; subst e6
  have hc : ∀ i, i < 5 → (ccs ps)[k * 5 + i]? = (cnc ps[k])[i]? := fun i hi => by rw [ccs_get _ _ _ hi, List.getElem?_eq_getElem hk]; rfl
  exact ⟨h3 _ _ (hc 0 (by omega)), h3 _ _ (hc 1 (by omega)), h3 _ _ (hc 2 (by omega)), h3 _ _ (hc 3 (by omega)), h3 _ _ (hc 4 (by omega))⟩
end
theorem sub_set5 {w : World} {e : TypeId} {g off cap n k : Nat} {xs : List Value} (h : Sub w 0 e 5 (.slice (some ⟨g, off, none⟩) n cap) n xs) (hk : k < n) (v0 v1 v2 v3 v4 : Value) :
    Sub (((((w.setCell ⟨g, off + k * 5, none⟩ v0).setCell ⟨g, off + k * 5 + 1, none⟩ v1).setCell ⟨g, off + k * 5 + 2, none⟩ v2).setCell ⟨g, off + k * 5 + 3, none⟩ v3).setCell ⟨g, off + k * 5 + 4, none⟩ v4) 0 e 5 (.slice (some ⟨g, off, none⟩) n cap) n
      (((((xs.set (k * 5) v0).set (k * 5 + 1) v1).set (k * 5 + 2) v2).set (k * 5 + 3) v3).set (k * 5 + 4) v4) :=
  ((((h.set (j := k * 5) (by omega) v0).set (j := k * 5 + 1) (by omega) v1).set (j := k * 5 + 2) (by omega) v2).set (j := k * 5 + 3) (by omega) v3).set (j := k * 5 + 4) (by omega) v4
theorem sub_frz5 {w : World} {e : TypeId} {g off cap n k : Nat} {xs : List Value} (h : Sub w 0 e 5 (.slice (some ⟨g, off, none⟩) n cap) n xs) (_hk : k < n) :
    w.frozen? ⟨g, off + k * 5, none⟩ = false ∧ w.frozen? ⟨g, off + k * 5 + 1, none⟩ = false ∧ w.frozen? ⟨g, off + k * 5 + 2, none⟩ = false ∧ w.frozen? ⟨g, off + k * 5 + 3, none⟩ = false ∧ w.frozen? ⟨g, off + k * 5 + 4, none⟩ = false := by
  obtain ⟨cs, hc⟩ := h.ty g (by simp [blkL])
  exact ⟨frzOf hc _, frzOf hc _, frzOf hc _, frzOf hc _, frzOf hc _⟩

theorem info_rcn : (Try.prog.info? 103).map (fun i => (i.zero, i.size, i.bytes)) = some (some (.agg #[i64 0, i64 0, .string ⟨#[]⟩, i64 0, .slice none 0 0]), 5, 64) := by kernel_rfl
theorem ccs_one {ps : List (Ln × Value)} (h : ∀ p ∈ ps, ∃ ao n cap, p.2 = .slice ao n cap) : ∀ u ∈ ccs ps, u.oneCell' = true := by
  intro u hu
  unfold ccs at hu
  obtain ⟨p, hp, hu⟩ := List.mem_flatMap.1 hu
  obtain ⟨ao, n, cap, e⟩ := h p hp
  unfold cnc at hu
  rw [e] at hu
  simp only [List.mem_cons, List.not_mem_nil, or_false] at hu
  rcases hu with h | h | h | h | h
  all_goals (rw [h]; rfl)
theorem RcX.one {w : World} {Y : Nat → Prop} {v : Value} {ps : List (Ln × Value)} (h : RcX w Y v ps) : ∀ u ∈ ccs ps, u.oneCell' = true := ccs_one fun p hp => by
  obtain ⟨ao, cap, e, -⟩ := (h.out p hp).form
  exact ⟨ao, _, cap, e⟩

/-- append([]Conn{}, l...) -/
theorem run_copy_cn {w : World} {Y : Nat → Prop} {ra : Option Addr} {rc : Nat} {ps : List (Ln × Value)} (h : RcX w Y (.slice ra ps.length rc) ps) (hlen : ps.length ≤ 2000) :
    ∃ ao cap w', (Builtin.append_ #[73, 73] 73 #[.slice (some ⟨w.heap.size, 0, none⟩) 0 0, .slice ra ps.length rc]).run Try.prog (w.alloc (.cells #[] 103)) = .ok (.slice ao ps.length cap) w' ∧
      Sub w' w.heap.size 103 5 (.slice ao ps.length cap) ps.length (ccs ps) ∧ Upd [] w w' := by
  obtain ⟨i0, hi, hz0, hz1, hz2⟩ := info_parts info_rcn
  have hnew : Sub (w.alloc (.cells #[] 103)) w.heap.size 103 5 (.slice (some ⟨w.heap.size, 0, none⟩) 0 0) 0 [] :=
    ⟨rfl, .inr ⟨w.heap.size, 0, 0, #[], rfl, Nat.le_refl _, heap_alloc_new _ _, Nat.le_refl _, by unfold maxLen; omega, by simp, fun j hj => by omega⟩⟩
  obtain ⟨ao1, cap1, w1, hrun1, hs1, hu1, hb1⟩ := run_append_sl (P := Try.prog) (w := w.alloc (.cells #[] 103)) w.heap.size 73 73 103 i0 _ 5 64 Try.underlying73 hi hz0 hz1 hz2 rfl (by decide) hnew (Sub.src (h.row.upd0 ((Upd.refl [] w).alloc _))) (ccs_len ps) h.one (by unfold maxLen; omega) (by omega) (by simp)
  rw [List.nil_append] at hs1
  simp only [Nat.zero_add] at hrun1 hs1
  exact ⟨ao1, cap1, w1, hrun1, hs1, ((Upd.refl [] w).alloc _).trans hu1 (by intro g hg; simp [blkL] at hg; exact .inr (by omega))⟩

theorem wpList_append_run {P : Program} (w : World) {ops : Array Oper} {rest : List Oper} {o : Oper} {a : Act} {Q : Exit → Act → World → Prop}
    (hg : o.guard = none) (s x : Operand) (t : TypeId) (hop : o.op = Op.call { callee := Callee.builtin Builtin.append, args := #[s, x], argTypes := #[t, t] })
    {v vx v' : Value} {w' : World} (hs : a.eval s = v) (hx : a.eval x = vx) (hrun : (Builtin.append_ #[t, t] o.type #[v, vx]).run P w = .ok v' w') (h : wpList P ops Q rest (a.put o.dst v') w') :
    wpList P ops Q (o :: rest) a w :=
  wpList_plain hg fun _ hK' => wp_append_run s x t hop hs hx hrun (hK' _ _ h)

section
variable {w : World} {Y : Nat → Prop} {v : Value} {ps : List (Ln × Value)}

def thereN (n : Int) (len : Nat) : Bool := decide (0 ≤ n ∧ n < len)
theorem cthere_c (ao : Option Addr) (len cap : Nat) (n : Int) (w : World) : Calls Try.prog 61 #[.slice ao len cap, i64 n] w fun e w' => e = .returned (.bool (thereN n len)) ∧ w = w' := by
  by_cases h1 : n < 0
  · have e : thereN n len = false := decide_eq_false (by omega)
    rw [e]
    refine post fun R hR => ?_
    go_enter Try.func61, Try.ntmps61
    go_wp2_with (fail)
    exact hR.out _ _ ⟨rfl, rfl⟩
  · by_cases h2 : n < len
    · have e : thereN n len = true := decide_eq_true (by omega)
      rw [e]
      refine post fun R hR => ?_
      go_enter Try.func61, Try.ntmps61
      go_wp2_with (fail)
      exact hR.out _ _ ⟨rfl, rfl⟩
    · have e : thereN n len = false := decide_eq_false (by omega)
      rw [e]
      refine post fun R hR => ?_
      go_enter Try.func61, Try.ntmps61
      go_wp2_with (fail)
      exact hR.out _ _ ⟨rfl, rfl⟩

set_option maxRecDepth 100000 in
set_option maxHeartbeats 2000000 in
theorem cwith_c (h : RcX w Y v ps) (hlen : ps.length ≤ 16) (k : Nat) (hk : k < ps.length) (m : Ln) {ca : Option Addr} {cc : Nat} (hc : Sub w 0 9 1 (.slice ca m.out.length cc) m.out.length (strs m.out)) (hy : ∀ x ∈ blkL (.slice ca m.out.length cc), Y x) (s1 : Int) (hs1 : s1 = m.st + 1) :
    Calls Try.prog 66 #[v, i64 k, .agg #[i64 s1, i64 m.ow, .string m.r, i64 m.e, .slice ca m.out.length cc]] w fun e w' =>
      ∃ ao cap, e = .returned (.slice ao ps.length cap) ∧ RcX w' (grow Y w) (.slice ao ps.length cap) (ps.set k (m, .slice ca m.out.length cc)) ∧ Upd [] w w' := by
  subst hs1
  obtain ⟨ao, cap, rfl, hcap, -⟩ := h.form
  have hA := heap_alloc_new w (.cells #[i64 (m.st + 1), i64 m.ow, .string m.r, i64 m.e, .slice ca m.out.length cc] 103)
  have hu := (Upd.refl [] w).alloc (.cells #[i64 (m.st + 1), i64 m.ow, .string m.r, i64 m.e, .slice ca m.out.length cc] 103)
  obtain ⟨A, hAe⟩ : ∃ A, A = w.heap.size := ⟨_, rfl⟩
  rw [← hAe] at hA
  have hAw : w.heap.size ≤ A := by omega
  have H := Lib.hid h
  have HC := Lib.hid hc
  have HY := Lib.hid hy
  have HA := Lib.hid hA
  have HU := Lib.hid hu
  have hkl : (k : Int) < ps.length := by omega
  clear h hc hy hA hu
  refine post fun R hR => ?_
  go_enter Try.func66, Try.ntmps66
  go_upto_region 1 with (fail)
  rw [← hAe]
  clear hAe
  have hu := HU.out
  have hA := HA.out
  clear HU HA
  generalize w.alloc (.cells #[i64 (m.st + 1), i64 m.ow, .string m.r, i64 m.e, .slice ca m.out.length cc] 103) = w1 at *
  obtain ⟨ao2, cap2, w2, hr2, hs2, hu2⟩ := run_copy_cn (H.out.upd0 hu) (by omega)
  have HR2 := Lib.hid hr2
  have hA2 := hu2.keep0 hA
  have hx2 := hu.trans' hu2
  obtain ⟨ao3, cap3, he3, hc3, hr3⟩ := hs2.form
  obtain ⟨g, off, rfl, hg1, hg2, hcell⟩ := hr3 (by omega)
  injection he3 with e1 _ e3
  subst e1; subst e3
  have t1 := lt_of_heap hA
  have t2 := lt_of_heap hA2
  have hgA : g ≠ A := by omega
  obtain ⟨a0, a1, a2, a3, a4, -⟩ := cells5 hA2
  have hs0 := hs2.mono (Nat.zero_le _)
  have hcc : ∀ i, i < 5 → (ccs ps)[k * 5 + i]? = (cnc ps[k])[i]? := fun i hi => by rw [ccs_get _ _ _ hi, List.getElem?_eq_getElem hk]; rfl
  have d0 := hcell _ _ (hcc 0 (by omega))
  have d1 := hcell _ _ (hcc 1 (by omega))
  have d2 := hcell _ _ (hcc 2 (by omega))
  have d3 := hcell _ _ (hcc 3 (by omega))
  have d4 := hcell _ _ (hcc 4 (by omega))
  obtain ⟨z0, z1, z2, z3, z4⟩ := sub_frz5 hs0 hk
  have HS := Lib.hid hs0
  have HX := Lib.hid hx2
  have hgw : w.heap.size ≤ g := by have := hu.size; omega
  clear hr3 hcell hcc hs2 hs0 hu hu2 hr2 hx2
  rw [Nat.add_zero] at d0
  simp only [← Nat.add_assoc] at d0 d1 d2 d3 d4
  go_wp2_with (at_builtin; (refine wpList_append_run _ rfl _ _ 73 rfl rfl rfl HR2.out ?_; clear HR2))
  have hput := sub_set5 HS.out hk (i64 (m.st + 1)) (i64 m.ow) (.string m.r) (i64 m.e) (.slice ca m.out.length cc)
  rw [ccs_set ps k (m, .slice ca m.out.length cc) hk] at hput
  have hu5 := (((((Upd.refl [g] w2).setCell (p := ⟨g, off + k * 5, none⟩) (by simp) (i64 (m.st + 1))).setCell (p := ⟨g, off + k * 5 + 1, none⟩) (by simp) (i64 m.ow)).setCell (p := ⟨g, off + k * 5 + 2, none⟩) (by simp) (.string m.r)).setCell (p := ⟨g, off + k * 5 + 3, none⟩) (by simp) (i64 m.e)).setCell (p := ⟨g, off + k * 5 + 4, none⟩) (by simp) (.slice ca m.out.length cc)
  have hx5 : Upd [] w _ := HX.out.trans hu5 (fun x hx => .inr (by have := List.mem_singleton.1 hx; omega))
  refine hR.out _ _ ⟨_, _, rfl, ⟨by rw [List.length_set]; exact hput, fun p hp => ?_, fun x hx => .inr (by simp [blkL] at hx; omega), fun p hp x hx => ?_⟩, hx5⟩
  · rcases List.mem_or_eq_of_mem_set hp with q | q
    · exact (H.out.out p q).upd0 hx5
    · subst q; exact HC.out.upd0 hx5
  · rcases List.mem_or_eq_of_mem_set hp with q | q
    · exact .inl (H.out.yo p q x hx)
    · subst q; exact .inl (HY.out x hx)
end
end Go.Proofs.Ytagadbgbicebaaa
