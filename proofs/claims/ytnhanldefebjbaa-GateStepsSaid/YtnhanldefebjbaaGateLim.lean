/-
  The plain law of chapter 39's limits. No condition.
-/
import Derived.Test.YtnhanldefebjbaaGateArg
namespace Go.Proofs.Ytnhanldefebjbaa
open Go Go.RowKit

theorem maxR {P : Program} (ats : Array TypeId) (ty : TypeId) (x y : Int) (w : World) : (Builtin.max_ ats ty #[i64 x, i64 y]).run P w = .ok (i64 (max x y)) w := by
  rw [run_max_int2]
  congr 2
  split <;> omega
theorem minR {P : Program} (ats : Array TypeId) (ty : TypeId) (x y : Int) (w : World) : (Builtin.min_ ats ty #[i64 x, i64 y]).run P w = .ok (i64 (min x y)) w := by
  rw [run_min_int2]
  congr 2
  split <;> omega

theorem load_field (a b c d : Int) (w : World) : (Instr.field 75 (.agg #[i64 a, i64 b, i64 c, i64 d]) 0).run Try.prog w = .ok (i64 a) w := by kernel_rfl

theorem gload2_c {w : World} {b : Nat} {g : Gt} (h : GtAt w b g) :
    Calls Try.prog 42 #[.pointer (some ⟨b, 0, none⟩)] w fun e w' => e = .returned (.agg #[i64 g.t, i64 g.mt, i64 g.st, i64 g.ot]) ∧ Upd [] w w' := gload_c h

/-- a gate of the configuration c, nothing above its limit -/
structure GLim (c : Cf) (g : Gt) : Prop where
  ok : g.ok
  m : g.mt ≤ g.ml
  s : g.st ≤ g.sl
  o : g.ot ≤ g.ol
  eu : g.u = clamp c.burst 1048576
  em : g.ml = lim c.mem
  es : g.sl = lim c.slots
  eo : g.ol = lim c.outs

theorem glim_new (c : Cf) : GLim c (Gt.new c) := by
  refine ⟨⟨?_, ?_, ?_, ?_, ?_, ?_, ?_, ?_, ?_⟩, ?_, ?_, ?_, rfl, rfl, rfl, rfl⟩ <;> simp only [Gt.new, clamp, lim] <;> omega

/-- what the law asks at the end of each round -/
theorem glim_end {c : Cf} {g : Gt} (h : GLim c g) : g.mt ≤ max 0 c.mem ∧ g.st ≤ max 0 c.slots ∧ g.ot ≤ max 0 c.outs ∧ 0 ≤ g.t ∧ g.t ≤ max 0 c.burst := by
  have h1 := h.m
  have h2 := h.s
  have h3 := h.o
  have h4 := h.ok.t0
  rw [h.em] at h1
  rw [h.es] at h2
  rw [h.eo] at h3
  rw [h.eu] at h4
  unfold lim at *
  unfold clamp at *
  omega

theorem glim_tick {c : Cf} {g : Gt} (h : GLim c g) : GLim c g.tick := by
  have h1 := h.ok.t0
  have h2 := h.ok.r0
  exact ⟨⟨h.ok.r0, h.ok.u0, by show 0 ≤ min (g.t + g.r) g.u ∧ min (g.t + g.r) g.u ≤ g.u; omega, h.ok.ml0, h.ok.mt0, h.ok.sl0, h.ok.st0, h.ok.ol0, h.ok.ot0⟩, h.m, h.s, h.o, h.eu, h.em, h.es, h.eo⟩
theorem glim_rest {c : Cf} {g : Gt} (h : GLim c g) (x : Bool) : GLim c (g.rest x) :=
  ⟨⟨h.ok.r0, h.ok.u0, h.ok.t0, h.ok.ml0, h.ok.mt0, h.ok.sl0, h.ok.st0, h.ok.ol0, h.ok.ot0⟩, h.m, h.s, h.o, h.eu, h.em, h.es, h.eo⟩
theorem glim_deliv {c : Cf} {g : Gt} (h : GLim c g) : GLim c g.deliv ∧ g.deliv.mt = g.mt ∧ g.deliv.st = g.st ∧ g.deliv.ot = max 0 (g.ot - 1) ∧ (g.delivE == 0) = decide (0 < g.ot) := by
  have h1 := h.ok.ot0
  have h2 := h.o
  unfold Gt.deliv Gt.delivE
  by_cases hc : g.ot < 1
  · rw [if_pos hc, if_pos hc]
    exact ⟨h, rfl, rfl, by omega, by rw [decide_eq_false (by omega : ¬ 0 < g.ot)]; rfl⟩
  · rw [if_neg hc, if_neg hc]
    exact ⟨⟨⟨h.ok.r0, h.ok.u0, h.ok.t0, h.ok.ml0, h.ok.mt0, h.ok.sl0, h.ok.st0, h.ok.ol0, by show 0 ≤ g.ot - 1 ∧ g.ot - 1 ≤ 1048576; omega⟩, h.m, h.s, by show g.ot - 1 ≤ g.ol; omega, h.eu, h.em, h.es, h.eo⟩, rfl, rfl, by show g.ot - 1 = _; omega, by rw [decide_eq_true (by omega : 0 < g.ot)]; rfl⟩
theorem glim_serv {c : Cf} {g : Gt} (h : GLim c g) (n : Int) : GLim c (g.serv n) ∧ (g.serv n).ot = g.ot ∧ (g.servE n = 0 ∧ (g.serv n).mt = g.mt - costN n ∧ (g.serv n).st = g.st - 1 ∨ g.servE n = 1 ∧ (g.serv n).mt = g.mt ∧ (g.serv n).st = g.st) := by
  have h1 := h.ok.mt0
  have h2 := h.ok.st0
  have hm := h.m
  have hs := h.s
  have hc := costN_bd n
  unfold Gt.serv Gt.servE
  by_cases hx : g.mt < costN n ∨ g.st < 1
  · rw [if_pos hx, if_pos hx]
    exact ⟨h, rfl, .inr ⟨rfl, rfl, rfl⟩⟩
  · rw [if_neg hx, if_neg hx]
    exact ⟨⟨⟨h.ok.r0, h.ok.u0, h.ok.t0, h.ok.ml0, by show 0 ≤ g.mt - costN n ∧ _; exact ⟨by omega, by show g.mt - costN n ≤ 1048576; omega⟩, h.ok.sl0, by show 0 ≤ g.st - 1 ∧ g.st - 1 ≤ 1048576; omega, h.ok.ol0, h.ok.ot0⟩, by show g.mt - costN n ≤ g.ml; omega, by show g.st - 1 ≤ g.sl; omega, h.o, h.eu, h.em, h.es, h.eo⟩, rfl, .inl ⟨rfl, rfl, rfl⟩⟩

/-- what comes out of Admit, case by case -/
inductive AdmC (c : Cf) (g : Gt) (k n : Int) : Prop where
  | full (h : k ≠ 3) (e : g.admE k n = 13) (o : g.admO k = false) (g' : g.admG k n = g)
  | bad (e : g.admE k n ≠ 0) (o : g.admO k = decide (k ≠ 3)) (l : GLim c (g.admG k n)) (t : (g.admG k n).t = g.t) (m : (g.admG k n).mt = g.mt) (s : (g.admG k n).st = g.st) (ot : (g.admG k n).ot = if k = 3 then g.ot else g.ot + 1)
  | wait (a : asksB k = true) (e : g.admE k n = 0) (o : g.admO k = decide (k ≠ 3)) (l : GLim c (g.admG k n)) (t : (g.admG k n).t = g.t - costN n) (m : (g.admG k n).mt = g.mt + costN n) (s : (g.admG k n).st = g.st + 1) (ot : (g.admG k n).ot = if k = 3 then g.ot else g.ot + 1)
  | pass (a : asksB k = false) (e : g.admE k n = 0) (o : g.admO k = decide (k ≠ 3)) (l : GLim c (g.admG k n)) (t : (g.admG k n).t = g.t - costN n) (m : (g.admG k n).mt = g.mt) (s : (g.admG k n).st = g.st) (ot : (g.admG k n).ot = if k = 3 then g.ot else g.ot + 1)

theorem glim_base {c : Cf} {g : Gt} (h : GLim c g) {k : Int} (hf : g.full k = false) : GLim c (g.base k) ∧ (g.base k).t = g.t ∧ (g.base k).mt = g.mt ∧ (g.base k).st = g.st ∧ (g.base k).ot = if k = 3 then g.ot else g.ot + 1 := by
  unfold Gt.base
  by_cases hk : k = 3
  · rw [if_pos hk, if_pos hk]; exact ⟨h, rfl, rfl, rfl, rfl⟩
  · rw [if_neg hk, if_neg hk]
    have hob : g.ot < g.ol := by
      unfold Gt.full Gt.oweB at hf
      simpa [hk] using hf
    have h1 := h.ok.ot0
    have h2 := h.ok.ol0
    unfold Gt.owed
    rw [if_pos hob]
    exact ⟨⟨⟨h.ok.r0, h.ok.u0, h.ok.t0, h.ok.ml0, h.ok.mt0, h.ok.sl0, h.ok.st0, h.ok.ol0, by show 0 ≤ g.ot + 1 ∧ g.ot + 1 ≤ 1048576; omega⟩, h.m, h.s, by show g.ot + 1 ≤ g.ol; omega, h.eu, h.em, h.es, h.eo⟩, rfl, rfl, rfl, rfl⟩

theorem adm_cases {c : Cf} {g : Gt} (h : GLim c g) (k n : Int) : AdmC c g k n := by
  have hcb := costN_bd n
  by_cases hf : g.full k = true
  · have hk : k ≠ 3 := fun e => by subst e; simp [Gt.full] at hf
    exact .full hk (by unfold Gt.admE; rw [if_pos hf]) (by unfold Gt.admO; rw [if_pos hf]) (by unfold Gt.admG; rw [if_pos hf])
  · have hf' : g.full k = false := by simpa using hf
    obtain ⟨hb, b1, b2, b3, b4⟩ := glim_base h hf'
    have e1 : g.admE k n = (g.base k).inE k n := by unfold Gt.admE; rw [if_neg hf]
    have e2 : g.admG k n = (g.base k).inG k n := by unfold Gt.admG; rw [if_neg hf]
    have e3 : g.admO k = decide (k ≠ 3) := by unfold Gt.admO; rw [if_neg hf]
    have q1 := hb.ok.t0
    have q2 := hb.ok.mt0
    have q3 := hb.ok.st0
    have q4 := hb.m
    have q5 := hb.s
    have q6 := hb.ok.ml0
    have q7 := hb.ok.sl0
    by_cases ha : asksB k = true
    · have f1 : (g.base k).inE k n = (g.base k).waitE (costN n) := by unfold Gt.inE; rw [if_pos ha]
      have f2 : (g.base k).inG k n = (g.base k).waited (costN n) := by unfold Gt.inG; rw [if_pos ha]
      rw [f1] at e1
      rw [f2] at e2
      by_cases h0 : (g.base k).waitE (costN n) = 0
      · have f3 : (g.base k).waited (costN n) = { (g.base k) with t := (g.base k).t - costN n, mt := (g.base k).mt + costN n, st := (g.base k).st + 1 } := by unfold Gt.waited; rw [if_pos h0]
        have hw : max ((g.base k).sl - (g.base k).st) 0 ≥ 1 ∧ max ((g.base k).ml - (g.base k).mt) 0 ≥ costN n ∧ (g.base k).t ≥ costN n := by
          unfold Gt.waitE at h0
          split at h0
          · cases h0
          · split at h0
            · cases h0
            · split at h0
              · cases h0
              · split at h0
                · cases h0
                · omega
        rw [f3] at e2
        refine .wait ha (e1.trans h0) e3 ?_ ?_ ?_ ?_ ?_
        · rw [e2]
          exact ⟨⟨hb.ok.r0, hb.ok.u0, by show 0 ≤ (g.base k).t - costN n ∧ (g.base k).t - costN n ≤ (g.base k).u; omega, hb.ok.ml0, by show 0 ≤ (g.base k).mt + costN n ∧ (g.base k).mt + costN n ≤ 1048576; omega, hb.ok.sl0, by show 0 ≤ (g.base k).st + 1 ∧ (g.base k).st + 1 ≤ 1048576; omega, hb.ok.ol0, hb.ok.ot0⟩, by show (g.base k).mt + costN n ≤ (g.base k).ml; omega, by show (g.base k).st + 1 ≤ (g.base k).sl; omega, hb.o, hb.eu, hb.em, hb.es, hb.eo⟩
        · rw [e2]; show (g.base k).t - costN n = _; rw [b1]
        · rw [e2]; show (g.base k).mt + costN n = _; rw [b2]
        · rw [e2]; show (g.base k).st + 1 = _; rw [b3]
        · rw [e2]; exact b4
      · have f3 : (g.base k).waited (costN n) = g.base k := by unfold Gt.waited; rw [if_neg h0]
        rw [f3] at e2
        exact .bad (by rw [e1]; exact h0) e3 (by rw [e2]; exact hb) (by rw [e2]; exact b1) (by rw [e2]; exact b2) (by rw [e2]; exact b3) (by rw [e2]; exact b4)
    · have f1 : (g.base k).inE k n = (g.base k).tokE (costN n) := by unfold Gt.inE; rw [if_neg ha]
      have f2 : (g.base k).inG k n = (g.base k).toked (costN n) := by unfold Gt.inG; rw [if_neg ha]
      rw [f1] at e1
      rw [f2] at e2
      by_cases h0 : (g.base k).t < costN n
      · have f3 : (g.base k).toked (costN n) = g.base k := by unfold Gt.toked; rw [if_pos h0]
        rw [f3] at e2
        exact .bad (by rw [e1]; unfold Gt.tokE; rw [if_pos h0]; decide) e3 (by rw [e2]; exact hb) (by rw [e2]; exact b1) (by rw [e2]; exact b2) (by rw [e2]; exact b3) (by rw [e2]; exact b4)
      · have f3 : (g.base k).toked (costN n) = { (g.base k) with t := (g.base k).t - costN n } := by unfold Gt.toked; rw [if_neg h0]
        rw [f3] at e2
        refine .pass (by simpa using ha) (by rw [e1]; unfold Gt.tokE; rw [if_neg h0]) e3 ?_ ?_ ?_ ?_ ?_
        · rw [e2]
          exact ⟨⟨hb.ok.r0, hb.ok.u0, by show 0 ≤ (g.base k).t - costN n ∧ (g.base k).t - costN n ≤ (g.base k).u; omega, hb.ok.ml0, hb.ok.mt0, hb.ok.sl0, hb.ok.st0, hb.ok.ol0, hb.ok.ot0⟩, hb.m, hb.s, hb.o, hb.eu, hb.em, hb.es, hb.eo⟩
        · rw [e2]; show (g.base k).t - costN n = _; rw [b1]
        · rw [e2]; exact b2
        · rw [e2]; exact b3
        · rw [e2]; exact b4
end Go.Proofs.Ytnhanldefebjbaa
