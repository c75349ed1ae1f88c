/-
  The contract of the document's flows' Push (concourseref40). Condition: rows of some hundred items at most.
-/
import Derived.Test.YtabhdigannalgaaR4Put
namespace Go.Proofs.Ytabhdigannalgaa
open Go Go.RowKit Go.Maps

theorem sub_fresh {w : World} {base B : Nat} {e : TypeId} {size : Nat} (h : w.heap[B]? = some (.cells #[] e (0, 0))) (hb : base ≤ B) : Sub w base e size (.slice (some ⟨B, 0, none⟩) 0 0) 0 [] :=
  ⟨by simp, .inr ⟨B, 0, 0, #[], rfl, hb, h, Nat.le_refl _, by unfold maxLen; omega, by simp, fun j hj => by omega⟩⟩
/-- append([]Item{}, row...) -/
theorem ap1_40 {w4 u : World} {B0 L lc : Nat} {la : Option Addr} {l : List It} (hu : Upd [] w4 u) (hB : u.heap[B0]? = some (.cells #[] 68 (0, 0))) (hb : w4.heap.size ≤ B0) (hrow : Sub w4 0 68 5 (.slice la L lc) L (ics l)) (hl : L ≤ 900) :
    ∃ ao cap u', (Builtin.append_ #[85, 85] 85 #[.slice (some ⟨B0, 0, none⟩) 0 0, .slice la L lc]).run Try.prog u = .ok (.slice ao L cap) u' ∧
      Sub u' w4.heap.size 68 5 (.slice ao L cap) L (ics l) ∧ Upd [] w4 u' ∧ ∀ b o, b ≠ B0 → u.heap[b]? = some o → u'.heap[b]? = some o := by
  obtain ⟨i0, hi, hz0, hz1, hz2⟩ := info_parts info_item40
  obtain ⟨ao, cap, u', h1, h2, h3, h4⟩ := run_append_sl (P := Try.prog) (w := u) w4.heap.size 85 85 68 i0 _ 5 48 Try.underlying85 hi hz0 hz1 hz2 rfl (by decide) (sub_fresh hB hb) (Sub.src (hrow.upd0 hu)) hrow.len (ics_one l) (by unfold maxLen; omega) (by omega) hu.size
  rw [List.nil_append] at h2
  simp only [Nat.zero_add] at h1 h2
  refine ⟨ao, cap, u', h1, h2, hu.trans h3 (fun x hx => ?_), fun b o hne h => h3.keep h (by simp [blkL]; exact hne)⟩
  simp [blkL] at hx; subst hx; exact .inr hb
/-- append(row, x) -/
theorem ap2_40 {w4 u : World} {B1 L cap : Nat} {ao : Option Addr} {l : List It} {x : It} (hu : Upd [] w4 u) (hs : Sub u w4.heap.size 68 5 (.slice ao L cap) L (ics l)) (hB : u.heap[B1]? = some (.cells #[i64 x.c, i64 x.k, i64 x.f, .string x.b, i64 x.a] 68 (0, 0))) (hl : L ≤ 900) :
    ∃ ao2 cap2 u', (Builtin.append_ #[85, 85] 85 #[.slice ao L cap, .slice (some ⟨B1, 0, none⟩) 1 1]).run Try.prog u = .ok (.slice ao2 (L + 1) cap2) u' ∧
      Sub u' w4.heap.size 68 5 (.slice ao2 (L + 1) cap2) (L + 1) (ics (l ++ [x])) ∧ Upd [] w4 u' := by
  obtain ⟨i0, hi, hz0, hz1, hz2⟩ := info_parts info_item40
  obtain ⟨ao2, cap2, u', h1, h2, h3, h4⟩ := run_append_sl (P := Try.prog) (w := u) w4.heap.size 85 85 68 i0 _ 5 48 Try.underlying85 hi hz0 hz1 hz2 rfl (by decide) hs (src_block hB 1 1) rfl (by intro u hu; simp at hu; rcases hu with rfl | rfl | rfl | rfl | rfl <;> rfl) (by unfold maxLen; omega) (by omega) hu.size
  rw [show ics l ++ [i64 x.c, i64 x.k, i64 x.f, .string x.b, i64 x.a] = ics (l ++ [x]) from by rw [ics_append]; rfl] at h2
  exact ⟨ao2, cap2, u', h1, h2, hu.trans h3 (fun y hy => .inr (hs.lt y hy).1)⟩

theorem step_ap1 {w4 u : World} {ops : Array Oper} {o : Oper} {a : Act} {K : Act → World → Prop} {Q : Exit → Act → World → Prop} {E : Prop} (s x : Operand) (hgd : o.guard = none) (ho : o.op = .call { callee := .builtin .append, args := #[s, x], argTypes := #[85, 85] }) (hty : o.type = 85)
    {B0 L lc : Nat} {la : Option Addr} {l : List It} (hs : a.eval s = .slice (some ⟨B0, 0, none⟩) 0 0) (hx : a.eval x = .slice la L lc) (hrow : Sub w4 0 68 5 (.slice la L lc) L (ics l)) (hl : L ≤ 900) (hu : Upd [] w4 u) (hb : w4.heap.size ≤ B0) (hB : u.heap[B0]? = some (.cells #[] 68 (0, 0)))
    (hK : ∀ ao cap u', Sub u' w4.heap.size 68 5 (.slice ao L cap) L (ics l) → Upd [] w4 u' → (∀ b o, b ≠ B0 → u.heap[b]? = some o → u'.heap[b]? = some o) → K (a.put o.dst (.slice ao L cap)) u') : if Region.wanted o (yielded ops a.tmps) = true then Oper.wp Try.prog o a u K Q else E := by
  obtain ⟨ao, cap, u', h1, h2, h3, h4⟩ := ap1_40 hu hB hb hrow hl
  rw [← hs, ← hx] at h1
  exact step_plain hgd (wp_append_run s x _ ho rfl rfl (by rw [hty]; exact h1) (hK _ _ _ h2 h3 h4))
theorem step_ap2 {w4 u : World} {ops : Array Oper} {o : Oper} {a : Act} {K : Act → World → Prop} {Q : Exit → Act → World → Prop} {E : Prop} (s x : Operand) (hgd : o.guard = none) (ho : o.op = .call { callee := .builtin .append, args := #[s, x], argTypes := #[85, 85] }) (hty : o.type = 85)
    {B1 L cap : Nat} {ao : Option Addr} {l : List It} {y : It} (hs : a.eval s = .slice ao L cap) (hx : a.eval x = .slice (some ⟨B1, 0, none⟩) 1 1) (hl : L ≤ 900) (hu : Upd [] w4 u) (hsub : Sub u w4.heap.size 68 5 (.slice ao L cap) L (ics l)) (hB : u.heap[B1]? = some (.cells #[i64 y.c, i64 y.k, i64 y.f, .string y.b, i64 y.a] 68 (0, 0)))
    (hK : ∀ ao2 cap2 u', Sub u' w4.heap.size 68 5 (.slice ao2 (L + 1) cap2) (L + 1) (ics (l ++ [y])) → Upd [] w4 u' → K (a.put o.dst (.slice ao2 (L + 1) cap2)) u') : if Region.wanted o (yielded ops a.tmps) = true then Oper.wp Try.prog o a u K Q else E := by
  obtain ⟨ao2, cap2, u', h1, h2, h3⟩ := ap2_40 hu hsub hB hl
  rw [← hs, ← hx] at h1
  exact step_plain hgd (wp_append_run s x _ ho rfl rfl (by rw [hty]; exact h1) (hK _ _ _ h2 h3))

section
variable {w : World} {Y : Nat → Prop} {fv rv xv : Value} {r : Rg} {its : Nat → List It}

set_option maxRecDepth 100000 in
set_option maxHeartbeats 4000000 in
theorem r4push_c (h : R4 w Y fv rv xv r its) (hok : r.ok) {K : Nat} (hsm : r.small K) (hK : K ≤ 900) (hlen : ∀ j, j < 9 → (its j).length ≤ K) (n : Int) (x : It) (_hxb : x.b.size ≤ maxLen) :
    Calls Try.prog 43 #[.agg #[fv, rv, xv], i64 n, iv x] w fun e w' => ∃ fv' rv' xv', e = .returned (.tuple #[.agg #[fv', rv', xv'], i64 (r.pushE n x.cost)]) ∧ R4 w' (grow Y w) fv' rv' xv' (r.push n x.cost) (pushI r its n x) ∧ Upd [] w w' := by
  obtain ⟨i0, hi, hz0, hz1, hz2⟩ := info_parts info_item40
  have HOK := Lib.hid hok
  have HLEN := Lib.hid hlen
  have hcb := x.cost_bd
  have hpe : r.pushE n x.cost = if r.fl n = none then 12 else 0 := by unfold Rg.pushE; rw [if_neg (by omega)]
  have hco : costN x.b.size = x.cost := rfl
  generalize x.cost = xc' at *
  have HCB := Lib.hid hcb
  clear hlen hcb
  obtain ⟨fa, fc, ra, rn, rc, xa, xc, rfl, rfl, rfl⟩ := h.shape
  have HF := Lib.hid h.1.cut
  have HX := Lib.hid h.2.cut
  clear h
  refine post fun R hR => ?_
  go_enter Try.func43, Try.ntmps43
  go_upto_region 1 with (fail)
  obtain ⟨A, hA⟩ : ∃ A, A = w.heap.size := ⟨_, rfl⟩
  have hAw : w.heap.size ≤ A := by omega
  have hA1 := heap_alloc_old (heap_alloc_old (heap_alloc_new w (.cells #[.slice fa 9 fc, .slice ra rn rc, .slice xa 9 xc] 81)) (.cells #[i64 x.c, i64 x.k, i64 x.f, .string x.b, i64 x.a] 68)) (.cells #[.slice none 0 0, .slice none 0 0, .slice none 0 0] 81)
  have hA2 := heap_alloc_old (heap_new2 w (.cells #[.slice fa 9 fc, .slice ra rn rc, .slice xa 9 xc] 81) (.cells #[i64 x.c, i64 x.k, i64 x.f, .string x.b, i64 x.a] 68)) (.cells #[.slice none 0 0, .slice none 0 0, .slice none 0 0] 81)
  have hA3 : ((((w.alloc (.cells #[.slice fa 9 fc, .slice ra rn rc, .slice xa 9 xc] 81)).alloc (.cells #[i64 x.c, i64 x.k, i64 x.f, .string x.b, i64 x.a] 68)).alloc (.cells #[.slice none 0 0, .slice none 0 0, .slice none 0 0] 81)).heap)[w.heap.size + 1 + 1]? = _ := heap_new3 w (.cells #[.slice fa 9 fc, .slice ra rn rc, .slice xa 9 xc] 81) (.cells #[i64 x.c, i64 x.k, i64 x.f, .string x.b, i64 x.a] 68) (.cells #[.slice none 0 0, .slice none 0 0, .slice none 0 0] 81)
  have hu0 := (((Upd.refl [] w).alloc (.cells #[.slice fa 9 fc, .slice ra rn rc, .slice xa 9 xc] 81)).alloc (.cells #[i64 x.c, i64 x.k, i64 x.f, .string x.b, i64 x.a] 68)).alloc (.cells #[.slice none 0 0, .slice none 0 0, .slice none 0 0] 81)
  rw [← hA] at hA1 hA2 hA3 ⊢
  have hYA : ¬ cutZ Y w A := fun q => by have := q.2; omega
  have hYA1 : ¬ cutZ Y w (A + 1 + 1) := fun q => by have := q.2; omega
  clear hA
  generalize ((w.alloc (.cells #[.slice fa 9 fc, .slice ra rn rc, .slice xa 9 xc] 81)).alloc (.cells #[i64 x.c, i64 x.k, i64 x.f, .string x.b, i64 x.a] 68)).alloc (.cells #[.slice none 0 0, .slice none 0 0, .slice none 0 0] 81) = w1 at *
  have hAz := lt_of_heap hA3
  have HGA : Hid (¬ grow (cutZ Y w) w1 A ∧ ¬ grow (cutZ Y w) w1 (A + 1 + 1) ∧ ∀ x, grow (cutZ Y w) w1 x → grow Y w x) := Lib.hid ⟨fun q => q.elim hYA (fun q => by omega), fun q => q.elim hYA1 (fun q => by omega), fun x q => q.imp (fun q => q.1) (Nat.le_trans hu0.size)⟩
  have HU0 := Lib.hid hu0
  obtain ⟨E, hE⟩ : ∃ E, E = r.pushE n xc' := ⟨_, rfl⟩
  have hps : ∀ w', Upd [] w1 w' → Calls Try.prog 21 #[.agg #[.slice fa 9 fc, .slice ra rn rc], i64 n, i64 xc'] w' fun e w'' => ∃ fa2 fc2 ra2 rn2 rc2, e = .returned (.tuple #[.agg #[.slice fa2 9 fc2, .slice ra2 rn2 rc2], i64 E]) ∧ RfAt w'' (grow (cutZ Y w) w') (.slice fa2 9 fc2) (.slice ra2 rn2 rc2) (r.push n xc') ∧ Upd [] w1 w'' ∧ Upd [] w' w'' := fun w' hu => by
    refine (rpush25_c ((HF.out.upd0 HU0.out).upd0 hu) hok hsm hK n xc').mono ?_
    rintro e w'' ⟨fv2, rv2, rfl, hR2, hu2⟩
    obtain ⟨fa2, fc2, ra2, rn2, rc2, rfl, rfl⟩ := hR2.shape2
    have h3 := hu.trans' hu2
    exact ⟨_, _, _, _, _, by rw [hE], hR2, h3, hu2⟩
  have hkeep : ∀ w', Upd [] w1 w' → w'.cell? ⟨A, 0, none⟩ = some (.slice fa 9 fc) ∧ w'.cell? ⟨A, 1, none⟩ = some (.slice ra rn rc) ∧ w'.cell? ⟨A + 1, 3, none⟩ = some (.string x.b) := fun w' h3 => by
    obtain ⟨k0, k1, -⟩ := cells3 (h3.keep0 hA1)
    obtain ⟨-, -, -, k3, -⟩ := cells5 (h3.keep0 hA2)
    exact ⟨k0, k1, k3⟩
  have HKEEP := Lib.hid hkeep
  have HPS := Lib.hid hps
  have HHA := Lib.hid (And.intro hA1 (And.intro hA2 hA3))
  have HCO := Lib.hid (fun w' => (rcost05_c x.b.size w').mono fun e w'' h => (by rw [hco] at h; exact h) : ∀ w', Calls Try.prog 65 #[i64 x.b.size] w' fun e w'' => e = .returned (i64 xc') ∧ w' = w'')
  obtain ⟨a0, a1, -⟩ := cells3 hA1
  obtain ⟨-, -, -, e3, -⟩ := cells5 hA2
  have HPE := Lib.hid hpe
  have HE := Lib.hid hE
  unfold maxLen at _hxb
  clear hkeep hps hco hA1 hA2 hA3 hu0 hYA hYA1 hpe hE
  go_region_held3 (fun w' => w'.cell? ⟨A, 0, none⟩ = some (.slice fa 9 fc) ∧ w'.cell? ⟨A, 1, none⟩ = some (.slice ra rn rc) ∧ w'.cell? ⟨A + 1, 3, none⟩ = some (.string x.b))
    (exact HKEEP.out _ (by (repeat' (first | (with_reducible exact Upd.refl _ _) | (with_reducible exact hu2) | (with_reducible apply Upd.drew) | (with_reducible apply Upd.alloc) | (with_reducible refine Upd.setCell ?_ (.inr (by simp; omega)) _) | (with_reducible refine Upd.setCell ?_ (.inr (by simp)) _)))))
    ((first
      | (go_at_call 65; (with_reducible refine Calls.mono (HCO.out _) ?_); rintro e w9 ⟨rfl, rfl⟩)
      | (go_at_call 21; (with_reducible refine Calls.mono (HPS.out _ (by (repeat' (first | (with_reducible exact Upd.refl _ _) | (with_reducible exact hu2) | (with_reducible apply Upd.drew) | (with_reducible apply Upd.alloc) | (with_reducible refine Upd.setCell ?_ (.inr (by simp; omega)) _) | (with_reducible refine Upd.setCell ?_ (.inr (by simp)) _))))) ?_); rintro e w2 ⟨fa2, fc2, ra2, rn2, rc2, rfl, hR2, hu2, huc⟩; have hsz2 := hu2.size; (try (have hXX := huc.keep0 (by first | exact heap_drew (heap_alloc_new _ _) | exact heap_alloc_new _ _); obtain ⟨x0, x1, y0, y1⟩ := cells2 hXX; have hXl := lt_of_heap hXX)))))
  all_goals (rename_i hHeld; clear hHeld)
  all_goals first
    | (obtain ⟨X, hX⟩ : ∃ X, X = w2.heap.size := ⟨_, rfl⟩
       have hC3 := heap_alloc_new w2 (.cells #[.slice fa2 9 fc2, .slice ra2 rn2 rc2] 46)
       have hux := (Upd.refl [] w2).alloc (.cells #[.slice fa2 9 fc2, .slice ra2 rn2 rc2] 46)
       have hAX : A + 1 + 1 < X := by omega
       rw [← hX] at hC3 ⊢
       generalize w2.alloc (.cells #[.slice fa2 9 fc2, .slice ra2 rn2 rc2] 46) = w3 at *
       have HU13 := Lib.hid (hu2.trans' hux)
       have HR3 := Lib.hid ((hR2.upd0 hux).more (fun x q => q.imp id (Nat.le_trans (Nat.le_of_eq (rfl : w1.heap.size = w1.drew.heap.size)))) : RfAt w3 (grow (cutZ Y w) w1) (.slice fa2 9 fc2) (.slice ra2 rn2 rc2) (r.push n xc'))
       clear hux hX hR2 hu2 huc hsz2 a0 a1 e3 HKEEP HPS HCO)
    | (obtain ⟨X, hX⟩ : ∃ X, X = w1.heap.size := ⟨_, rfl⟩
       have hC3 := hset2_1 (v := .slice ra2 rn2 rc2) (hset2_0 (v := .slice fa2 9 fc2) hXX)
       have hux : Upd [X] w2 ((w2.setCell ⟨w1.heap.size, 0, none⟩ (.slice fa2 9 fc2)).setCell ⟨w1.heap.size, 1, none⟩ (.slice ra2 rn2 rc2)) := ((Upd.refl _ _).setCell (p := ⟨w1.heap.size, 0, none⟩) (by simp [hX]) _).setCell (p := ⟨w1.heap.size, 1, none⟩) (by simp [hX]) _
       have hAX : A + 1 + 1 < X := by omega
       rw [← hX] at hC3 hux ⊢
       generalize (w2.setCell ⟨X, 0, none⟩ (.slice fa2 9 fc2)).setCell ⟨X, 1, none⟩ (.slice ra2 rn2 rc2) = w3 at *
       have hza : (w1.alloc (.cells #[.slice none 0 0, .slice none 0 0] 46)).drew.heap.size = w1.heap.size + 1 := Array.size_push _
       have HU13 := Lib.hid (hu2.trans hux (fun x hx => .inr (by have := List.mem_singleton.1 hx; omega)))
       have HR3 := Lib.hid ((hR2.upd hux (fun x hx q => by
         have := List.mem_singleton.1 hx; subst this
         rcases q with q | q
         · have := q.2; have := HU0.out.size; omega
         · omega)).more (fun x q => q.imp id (fun q => by omega)) : RfAt w3 (grow (cutZ Y w) w1) (.slice fa2 9 fc2) (.slice ra2 rn2 rc2) (r.push n xc'))
       clear hux hX hza hR2 hu2 huc hsz2 hXX x0 x1 y0 y1 hXl a0 a1 e3 HKEEP HPS HCO)
  all_goals (
    have hA1 := HU13.out.keep0 HHA.out.1
    have hA3 := HU13.out.keep0 HHA.out.2.2
    have hs1 := lt_of_heap hA1
    have hs2 := lt_of_heap hA3
    obtain ⟨a0, a1, a2, p0, p1, p2⟩ := cells3 hA1
    obtain ⟨b0, b1, b2, q0, q1, q2⟩ := cells3 hA3
    have hw13 := HU13.out.size
    have HU3 := Lib.hid (HU0.out.trans' HU13.out)
    cases hf : r.fl n with
    | none =>
      have hE := HE.out
      rw [HPE.out, if_pos hf] at hE
      have hq : (E != 0) = true := by rw [hE]; rfl
      have HD := Lib.hid (show r.push n xc' = r from by unfold Rg.push; rw [if_neg (by have := HCB.out; omega), hf])
      have HI := Lib.hid (show pushI r its n x = its from by unfold pushI; rw [if_pos hf])
      clear hf hE
      go_wp2_with (fail)
      have hE2 := hset3_2 (v := .slice xa 9 xc) (hset3_1 (v := .slice ra rn rc) (hset3_0 (v := .slice fa 9 fc) hA3))
      obtain ⟨k0, k1, k2, -⟩ := cells3 hE2
      have hu5 : Upd [A + 1 + 1] w3 (((w3.setCell ⟨A + 1 + 1, 0, none⟩ (.slice fa 9 fc)).setCell ⟨A + 1 + 1, 1, none⟩ (.slice ra rn rc)).setCell ⟨A + 1 + 1, 2, none⟩ (.slice xa 9 xc)) := (((Upd.refl _ _).setCell (p := ⟨A + 1 + 1, 0, none⟩) (by simp) _).setCell (p := ⟨A + 1 + 1, 1, none⟩) (by simp) _).setCell (p := ⟨A + 1 + 1, 2, none⟩) (by simp) _
      clear a0 a1 a2 p0 p1 p2 b0 b1 b2 q0 q1 q2
      refine bodyPost_ret (v := .tuple #[.agg #[.slice fa 9 fc, .slice ra rn rc, .slice xa 9 xc], i64 E]) (by simp [results, Try.results43, go_sem, *]) rfl ?_
      refine hR.out _ _ ?_
      have hno : ∀ x ∈ [A + 1 + 1], ¬ grow (cutZ Y w) w1 x := fun x hx => by have := List.mem_singleton.1 hx; subst this; exact HGA.out.2.1
      have hu6 := HU3.out.trans hu5 (fun x hx => .inr (by have := List.mem_singleton.1 hx; omega))
      refine ⟨_, _, _, by rw [HE.out], ?_, hu6⟩
      rw [HD.out, HI.out]
      exact ⟨((HF.out.upd0 HU3.out).upd hu5 (fun x hx q => hno x hx (.inl q))).more (fun x q => .inl q.1), ((HX.out.upd0 HU3.out).upd hu5 (fun x hx q => hno x hx (.inl q))).more (fun x q => .inl q.1)⟩
    | some f =>
      have hE := HE.out
      rw [HPE.out, if_neg (by rw [hf]; exact fun e => by cases e)] at hE
      have hq : (E != 0) = false := by rw [hE]; rfl
      have hnr := HOK.out.rng n f hf
      have hfn : r.fl n ≠ none := by rw [hf]; exact fun e => by cases e
      obtain ⟨m, rfl⟩ : ∃ m : Nat, n = m := ⟨n.toNat, by omega⟩
      have hm : m < 9 := by omega
      have hm8 : (m : Int) < 9 := by omega
      have HI := Lib.hid (show pushI r its m x = updN its m (its m ++ [x]) from by unfold pushI; rw [if_neg hfn]; rfl)
      have hlm := HLEN.out m hm
      have HE0 := Lib.hid hE
      obtain ⟨tv, ht1, ht2, ht3⟩ := HX.out
      obtain ⟨hrow, hrowY⟩ := ht3 m hm
      obtain ⟨la, lc, hv, hlc, -⟩ := hrow.form
      obtain ⟨xa', xc2, hxv, -, hxx⟩ := ht1.form
      obtain ⟨g, off, rfl, -, hg, hcx⟩ := hxx (by omega)
      injection hxv with hxv _ hxv2
      subst hxv; subst hxv2
      have hc0 := hcx m _ (tvl_get tv hm)
      rw [hv] at hc0 hrow hrowY
      have HA2 := Lib.hid (HU13.out.keep0 HHA.out.2.1)
      have HROW := Lib.hid hrow
      have HC0 := Lib.hid hc0
      clear hf hE hnr hfn ht1 ht2 ht3 hrow hv hxx hcx hc0 HHA
      obtain ⟨c0, c1, -⟩ := cells2 hC3
      have hs3 := lt_of_heap hC3
      go_upto_region 5 with (fail)
      have hD1 := hset3_1 (v := .slice ra2 rn2 rc2) (hset3_0 (v := .slice fa2 9 fc2) hA1)
      have hD2 := heap_setCell_ne (c := A) (heap_setCell_ne (c := A) HA2.out (by omega) 0 (.slice fa2 9 fc2)) (by omega) 1 (.slice ra2 rn2 rc2)
      have hD3 := heap_setCell_ne (c := A) (heap_setCell_ne (c := A) hA3 (by omega) 0 (.slice fa2 9 fc2)) (by omega) 1 (.slice ra2 rn2 rc2)
      have hu4 : Upd [A] w3 ((w3.setCell ⟨A, 0, none⟩ (.slice fa2 9 fc2)).setCell ⟨A, 1, none⟩ (.slice ra2 rn2 rc2)) := ((Upd.refl _ _).setCell (p := ⟨A, 0, none⟩) (by simp) _).setCell (p := ⟨A, 1, none⟩) (by simp) _
      clear a0 a1 a2 p0 p1 p2 b0 b1 b2 q0 q1 q2 c0 c1 hs1 hs2 hs3 hA1 hA3 hC3 HA2
      generalize (w3.setCell ⟨A, 0, none⟩ (.slice fa2 9 fc2)).setCell ⟨A, 1, none⟩ (.slice ra2 rn2 rc2) = w4 at *
      have HR4 := Lib.hid (HR3.out.upd hu4 (fun x hx => by have := List.mem_singleton.1 hx; subst this; exact HGA.out.1))
      have hw34 := hu4.size
      have HU4 := Lib.hid (HU3.out.trans hu4 (fun x hx => .inr (by have := List.mem_singleton.1 hx; omega)))
      have hc4 := (HU4.out.below.cell (p := ⟨g, off + m, none⟩) hg).trans HC0.out
      have HD3 := Lib.hid hD3
      have hg4 : g < w4.heap.size := by have := HU4.out.size; omega
      have hw04 := HU4.out.size
      have hz4 := lt_of_heap hD3
      have hkeep : ∀ w', Upd [A + 1 + 1] w4 w' → w'.cell? ⟨A, 0, none⟩ = some (.slice fa2 9 fc2) ∧ w'.cell? ⟨A, 1, none⟩ = some (.slice ra2 rn2 rc2) ∧ w'.cell? ⟨A, 2, none⟩ = some (.slice (some ⟨g, off, none⟩) 9 xc) ∧ w'.cell? ⟨g, off + m, none⟩ = some (.slice la (its m).length lc) ∧
          w'.cell? ⟨A + 1, 0, none⟩ = some (i64 x.c) ∧ w'.cell? ⟨A + 1, 1, none⟩ = some (i64 x.k) ∧ w'.cell? ⟨A + 1, 2, none⟩ = some (i64 x.f) ∧ w'.cell? ⟨A + 1, 3, none⟩ = some (.string x.b) ∧ w'.cell? ⟨A + 1, 4, none⟩ = some (i64 x.a) := fun w' hu => by
        obtain ⟨k0, k1, k2, -⟩ := cells3 (hu.keep hD1 (by simp; omega))
        obtain ⟨e0, e1, e2, e3, e4, -⟩ := cells5 (hu.keep hD2 (by simp))
        exact ⟨k0, k1, k2, (World.cell?_of_block (a := ⟨g, off + m, none⟩) (hu.block g hg4 (by simp; omega))).trans hc4, e0, e1, e2, e3, e4⟩
      have HKEEP := Lib.hid hkeep
      have hwi : ∀ w' (la2 : Option Addr) (lc2 : Nat), Upd [] w4 w' → Sub w' w4.heap.size 68 5 (.slice la2 ((its m).length + 1) lc2) ((its m).length + 1) (ics (its m ++ [x])) → Calls Try.prog 64 #[.agg #[.slice fa2 9 fc2, .slice ra2 rn2 rc2, .slice (some ⟨g, off, none⟩) 9 xc], i64 m, .slice la2 ((its m).length + 1) lc2] w' fun e w'' =>
          ∃ xa3 xc3, e = .returned (.agg #[.slice fa2 9 fc2, .slice ra2 rn2 rc2, .slice xa3 9 xc3]) ∧ Rw40 w'' (grow (cutZ Y w) w4) (.slice xa3 9 xc3) (updN its m (its m ++ [x])) ∧ Upd [] w4 w'' := fun w' la2 lc2 hu hs => by
        have hsz := hu.size
        have hX' : Rw40 w' (grow (cutZ Y w) w4) (.slice (some ⟨g, off, none⟩) 9 xc) its := (HX.out.upd0 (HU4.out.trans' hu)).more (fun x q => .inl q)
        refine (r4withR_c hX' m hm (l := its m ++ [x]) (by rw [List.length_append]; exact hs.mono (Nat.zero_le _)) (fun y hy => .inr (hs.lt y hy).1) fa2 ra2 9 fc2 rn2 rc2).mono ?_
        rintro e w'' ⟨xa3, xc3, rfl, h1, h2⟩
        exact ⟨_, _, rfl, h1.more (fun y q => q.elim id (fun q => .inr (by omega))), hu.trans' h2⟩
      have HWI := Lib.hid hwi
      have hrow4 := HROW.out.upd0 HU4.out
      have hLK : (its m).length ≤ 900 := by omega
      clear hkeep hwi hD3 hc4 hrowY HROW HC0
      have HROW4 := Lib.hid hrow4
      have HLK := Lib.hid hLK
      clear hrow4 hLK
      generalize hL : (its m).length = L at *
      have HL := Lib.hid hL
      clear hL
      obtain ⟨a0, a1, a2, -⟩ := cells3 hD1
      have hc4 := (HKEEP.out _ (Upd.refl _ _)).2.2.2.1
      obtain ⟨e0, e1, e2, e3, e4, -⟩ := cells5 hD2
      go_wp2_with (fail)
      go_region_held3 (fun w' => w'.cell? ⟨A, 0, none⟩ = some (.slice fa2 9 fc2) ∧ w'.cell? ⟨A, 1, none⟩ = some (.slice ra2 rn2 rc2) ∧ w'.cell? ⟨A, 2, none⟩ = some (.slice (some ⟨g, off, none⟩) 9 xc) ∧ w'.cell? ⟨g, off + m, none⟩ = some (.slice la L lc) ∧
          w'.cell? ⟨A + 1, 0, none⟩ = some (i64 x.c) ∧ w'.cell? ⟨A + 1, 1, none⟩ = some (i64 x.k) ∧ w'.cell? ⟨A + 1, 2, none⟩ = some (i64 x.f) ∧ w'.cell? ⟨A + 1, 3, none⟩ = some (.string x.b) ∧ w'.cell? ⟨A + 1, 4, none⟩ = some (i64 x.a))
        (exact HKEEP.out _ (by (repeat' (first | (with_reducible exact Upd.refl _ _) | (with_reducible exact hu7.mono (by simp)) | (with_reducible exact HU6.out.mono (by simp)) | (with_reducible exact HU5.out.mono (by simp)) | (with_reducible apply Upd.drew) | (with_reducible apply Upd.alloc) | (with_reducible refine Upd.setCell ?_ (.inl (by simp)) _)))))
        ((first
          | (with_reducible refine step_ap1 (w4 := w4) _ _ (by with_unfolding_all rfl) (by with_unfolding_all rfl) (by with_unfolding_all rfl) (by with_unfolding_all rfl) (by with_unfolding_all rfl) HROW4.out HLK.out (by (repeat' (first | (with_reducible exact Upd.refl _ _) | (with_reducible exact hu7) | (with_reducible exact HU6.out) | (with_reducible exact HU5.out) | (with_reducible apply Upd.drew) | (with_reducible apply Upd.alloc) | (with_reducible refine Upd.setCell ?_ (.inr (by simp; omega)) _) | (with_reducible refine Upd.setCell ?_ (.inr (by simp)) _)))) (by first | exact Nat.le_refl _ | exact Nat.le_succ _) (by (first | (with_reducible exact heap_drew (heap_alloc_new _ _)) | (with_reducible exact heap_drew (heap_alloc_old (heap_alloc_new _ _) _)) | (with_reducible exact heap_drew (heap_new2 _ _ _)) | (with_reducible exact heap_alloc_new _ _) | (with_reducible exact heap_alloc_old (heap_drew (heap_alloc_new _ _)) _))) ?_; intro ao5 cap5 w5 hs5 hu5 hk5; have HS5 := Lib.hid hs5; have HU5 := Lib.hid hu5; have HK5 := Lib.hid hk5; clear hs5 hu5 hk5)
          | (with_reducible refine step_ap2 (w4 := w4) (y := x) _ _ (by with_unfolding_all rfl) (by with_unfolding_all rfl) (by with_unfolding_all rfl) (by with_unfolding_all rfl) (by with_unfolding_all rfl) HLK.out (by (repeat' (first | (with_reducible exact Upd.refl _ _) | (with_reducible exact hu7) | (with_reducible exact HU6.out) | (with_reducible exact HU5.out) | (with_reducible apply Upd.drew) | (with_reducible apply Upd.alloc) | (with_reducible refine Upd.setCell ?_ (.inr (by simp; omega)) _) | (with_reducible refine Upd.setCell ?_ (.inr (by simp)) _)))) (HS5.out.upd0 (by (repeat' (first | (with_reducible exact Upd.refl _ _) | (with_reducible exact Upd.refl _ _) | (with_reducible apply Upd.drew) | (with_reducible apply Upd.alloc) | (with_reducible refine Upd.setCell ?_ (.inr (by simp; omega)) _) | (with_reducible refine Upd.setCell ?_ (.inr (by simp)) _))))) (by first | (first | (with_reducible exact heap_alloc_new _ _) | (with_reducible exact heap_drew (heap_alloc_new _ _)) | (with_reducible exact heap_drew (heap_alloc_old (heap_alloc_new _ _) _)) | (with_reducible exact heap_drew (heap_new2 _ _ _))) | exact HK5.out _ _ (by omega) (by (first | (with_reducible exact heap_alloc_new _ _) | (with_reducible exact heap_drew (heap_alloc_new _ _)) | (with_reducible exact heap_drew (heap_alloc_old (heap_alloc_new _ _) _)) | (with_reducible exact heap_drew (heap_new2 _ _ _))))) ?_; intro ao6 cap6 w6 hs6 hu6; have HS6 := Lib.hid hs6; have HU6 := Lib.hid hu6; clear hs6 hu6)
          | (go_at_call 64; (with_reducible refine Calls.mono (HWI.out _ _ _ HU6.out HS6.out) ?_); rintro e w7 ⟨xa3, xc3, rfl, hX7, hu7⟩; have HX7 := Lib.hid hX7; have hE3 := hu7.keep0 HD3.out; have hsE3 := lt_of_heap hE3; obtain ⟨b0, b1, b2, q0, q1, q2⟩ := cells3 hE3)))
      all_goals (
        have hE4 := hset3_2 (v := .slice xa3 9 xc3) (hset3_1 (v := .slice ra2 rn2 rc2) (hset3_0 (v := .slice fa2 9 fc2) hE3))
        have hu8 : Upd [A + 1 + 1] w7 (((w7.setCell ⟨A + 1 + 1, 0, none⟩ (.slice fa2 9 fc2)).setCell ⟨A + 1 + 1, 1, none⟩ (.slice ra2 rn2 rc2)).setCell ⟨A + 1 + 1, 2, none⟩ (.slice xa3 9 xc3)) := (((Upd.refl _ _).setCell (p := ⟨A + 1 + 1, 0, none⟩) (by simp) _).setCell (p := ⟨A + 1 + 1, 1, none⟩) (by simp) _).setCell (p := ⟨A + 1 + 1, 2, none⟩) (by simp) _
        rename_i hHeld
        clear hHeld hX7 b0 b1 b2 q0 q1 q2 hE3 a0 a1 a2 hc4 e0 e1 e2 e3 e4 HKEEP HWI HU5 HU6 HS5 HS6 HK5
        generalize ((w7.setCell ⟨A + 1 + 1, 0, none⟩ (.slice fa2 9 fc2)).setCell ⟨A + 1 + 1, 1, none⟩ (.slice ra2 rn2 rc2)).setCell ⟨A + 1 + 1, 2, none⟩ (.slice xa3 9 xc3) = w8 at *
        obtain ⟨k0, k1, k2, -⟩ := cells3 hE4
        go_wp2_with (fail)
        refine bodyPost_ret (v := .tuple #[.agg #[.slice fa2 9 fc2, .slice ra2 rn2 rc2, .slice xa3 9 xc3], i64 0]) (by simp [results, Try.results43, go_sem, *]) rfl ?_
        refine hR.out _ _ ?_
        have hno : ∀ x ∈ [A + 1 + 1], ¬ grow (cutZ Y w) w1 x := fun x hx => by have := List.mem_singleton.1 hx; subst this; exact HGA.out.2.1
        refine ⟨_, _, _, by rw [← HE.out, HE0.out], ⟨((HR4.out.upd0 hu7).upd hu8 hno).more HGA.out.2.2, ?_⟩, (HU4.out.trans' hu7).trans hu8 (fun x hx => .inr (by have := List.mem_singleton.1 hx; omega))⟩
        rw [HI.out]
        exact (HX7.out.upd hu8 (fun x hx q => by have := List.mem_singleton.1 hx; subst this; exact q.elim (fun q => hno _ (by simp) (.inl q)) (fun q => by omega))).more (fun x q => q.elim (fun q => .inl q.1) (fun q => .inr (by omega)))))
end
end Go.Proofs.Ytabhdigannalgaa
