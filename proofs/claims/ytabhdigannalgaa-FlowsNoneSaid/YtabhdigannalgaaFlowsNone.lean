/-
  FlowsNone: flows that are not there take nothing. No condition.
-/
import Derived.Test.YtabhdigannalgaaFlwNone
import Derived.Deep.RegionHeld3
namespace Go.Proofs.Ytabhdigannalgaa
open Go Go.RowKit Go.ChangeShapes Go.WideShapes Go.ChangeAt

set_option maxRecDepth 100000 in
set_option maxHeartbeats 2000000 in
theorem fnone_c (k o n : Int) (x : It) (w : World) : Trues 9 #[.agg #[i64 k, i64 o, i64 n, i64 x.c, i64 x.k, i64 x.f, .string x.b, i64 x.a]] w := by
  unfold Trues
  have ho := fun w => ours_c x w
  have hp := fun w => fpushNil_c o x w
  unfold iv at ho hp
  refine post fun R hR => ?_
  go_enter Try.func9, Try.ntmps9
  have hA := heap_alloc_new w (.cells #[i64 k, i64 o, i64 n, i64 x.c, i64 x.k, i64 x.f, .string x.b, i64 x.a] 70)
  have hu := (Upd.refl [] w).alloc (.cells #[i64 k, i64 o, i64 n, i64 x.c, i64 x.k, i64 x.f, .string x.b, i64 x.a] 70)
  have HA := Lib.hid hA
  have HU := Lib.hid hu
  have HO := Lib.hid ho
  have HP := Lib.hid hp
  clear hA hu ho hp
  go_upto_region 2 with (fail)
  have hA := HA.out
  have hu := HU.out
  clear HA HU
  generalize w.alloc (.cells #[i64 k, i64 o, i64 n, i64 x.c, i64 x.k, i64 x.f, .string x.b, i64 x.a] 70) = w1 at *
  generalize w.heap.size = A at *
  have hlA := lt_of_heap hA
  go_upto_region 3 with (go_at_call 36; (with_reducible refine Calls.mono (fnextNil_c _) ?_); rintro e w2 ⟨rfl, hu2⟩)
  have hu3 := (hu.trans' hu2).alloc (.cells #[i64 0, i64 0, i64 0, .string ⟨#[]⟩, i64 0] 74)
  have hA3 := heap_alloc_old (hu2.keep0 hA) (.cells #[i64 0, i64 0, i64 0, .string ⟨#[]⟩, i64 0] 74)
  have hB3 := heap_alloc_new w2 (.cells #[i64 0, i64 0, i64 0, .string ⟨#[]⟩, i64 0] 74)
  clear hA hu hlA hu2
  generalize w2.alloc (.cells #[i64 0, i64 0, i64 0, .string ⟨#[]⟩, i64 0] 74) = w3 at *
  generalize w2.heap.size = B at *
  have hc : ∀ w', Upd [] w3 w' → (w'.cell? ⟨A, 1, none⟩ = some (i64 o) ∧ w'.cell? ⟨A, 2, none⟩ = some (i64 n) ∧ w'.cell? ⟨A, 3, none⟩ = some (i64 x.c) ∧ w'.cell? ⟨A, 4, none⟩ = some (i64 x.k) ∧ w'.cell? ⟨A, 5, none⟩ = some (i64 x.f) ∧ w'.cell? ⟨A, 6, none⟩ = some (.string x.b) ∧ w'.cell? ⟨A, 7, none⟩ = some (i64 x.a) ∧ w'.cell? ⟨B, 0, none⟩ = some (i64 0) ∧ w'.cell? ⟨B, 1, none⟩ = some (i64 0) ∧ w'.cell? ⟨B, 2, none⟩ = some (i64 0) ∧ w'.cell? ⟨B, 3, none⟩ = some (.string ⟨#[]⟩) ∧ w'.cell? ⟨B, 4, none⟩ = some (i64 0) ∧ Upd [] w3 w') := fun w' hw => ⟨cellOf (hw.keep0 hA3) 1, cellOf (hw.keep0 hA3) 2, cellOf (hw.keep0 hA3) 3, cellOf (hw.keep0 hA3) 4, cellOf (hw.keep0 hA3) 5, cellOf (hw.keep0 hA3) 6, cellOf (hw.keep0 hA3) 7, cellOf (hw.keep0 hB3) 0, cellOf (hw.keep0 hB3) 1, cellOf (hw.keep0 hB3) 2, cellOf (hw.keep0 hB3) 3, cellOf (hw.keep0 hB3) 4, hw⟩
  have HC := Lib.hid hc
  have HU3 := Lib.hid hu3
  clear hc hA3 hB3 hu3
  go_wp2_with (fail)
  simp only [List.append_eq, List.cons_append, List.nil_append]
  go_region_held3 (fun w' => w'.cell? ⟨A, 1, none⟩ = some (i64 o) ∧ w'.cell? ⟨A, 2, none⟩ = some (i64 n) ∧ w'.cell? ⟨A, 3, none⟩ = some (i64 x.c) ∧ w'.cell? ⟨A, 4, none⟩ = some (i64 x.k) ∧ w'.cell? ⟨A, 5, none⟩ = some (i64 x.f) ∧ w'.cell? ⟨A, 6, none⟩ = some (.string x.b) ∧ w'.cell? ⟨A, 7, none⟩ = some (i64 x.a) ∧ w'.cell? ⟨B, 0, none⟩ = some (i64 0) ∧ w'.cell? ⟨B, 1, none⟩ = some (i64 0) ∧ w'.cell? ⟨B, 2, none⟩ = some (i64 0) ∧ w'.cell? ⟨B, 3, none⟩ = some (.string ⟨#[]⟩) ∧ w'.cell? ⟨B, 4, none⟩ = some (i64 0) ∧ Upd [] w3 w')
    ((first | exact HC.out _ (Upd.refl _ _) | exact HC.out _ (Upd.refl _ _).drew | exact HC.out _ hu4 | exact HC.out _ hu5 | exact HC.out _ hu6 | exact HC.out _ hu7))
    ((first
      | (go_at_call 30; (with_reducible refine Calls.mono (fsetNil_c _ _ _) ?_); rintro e w9 ⟨rfl, rfl⟩)
      | (go_at_call 32; (with_reducible refine Calls.mono (fdropNil_c _ _) ?_); rintro e w9 ⟨rfl, rfl⟩)
      | (go_at_call 33; (with_reducible refine Calls.mono (frestNil_c _ _ _) ?_); rintro e w9 ⟨rfl, rfl⟩)
      | (go_at_call 35; (with_reducible refine Calls.mono (HO.out _) ?_); rintro e w4 ⟨rfl, huu⟩; have hu4 := (by first | exact (Upd.refl _ _).drew.trans' huu | exact (Upd.refl _ _).trans' huu : Upd [] w3 w4); clear huu)
      | (go_at_call 34; (with_reducible refine Calls.mono (HP.out _) ?_); rintro e w5 ⟨rfl, huu⟩; have hu5 := hu4.trans' huu; clear huu)
      | (go_at_call 46; (with_reducible refine Calls.mono (fwaitsNil_c _ _) ?_); rintro e w9 ⟨rfl, rfl⟩)
      | (go_at_call 47; (with_reducible refine Calls.mono (fcostNil_c _ _) ?_); rintro e w9 ⟨rfl, rfl⟩)
      | (go_at_call 48; (with_reducible refine Calls.mono (factiveNil_c _) ?_); rintro e w9 ⟨rfl, rfl⟩)
      | (go_at_call 49; (with_reducible refine Calls.mono (fitemsNil_c _ _) ?_); rintro e w6 ⟨v, rfl, hs, huu⟩; have hu6 := hu5.trans' huu; obtain ⟨ao, cap, rfl, -⟩ := hs.form; clear hs huu)
      | (go_at_call 29; (with_reducible refine Calls.mono (flwAwake_c _) ?_); rintro e w7 ⟨rfl, huu⟩; have hu7 := hu6.trans' huu; clear huu)))
  go_wp2_with (fail)
  exact hR.out _ _ ⟨rfl, HU3.out.trans' hu7⟩

theorem flat_fstep : flat Try.prog 6 70 = some [.int .i64, .int .i64, .int .i64, .int .i64, .int .i64, .int .i64, .string, .int .i64] := by kernel_rfl

set_option maxRecDepth 100000 in
theorem flowsNone_walk {H : Type} {enc : TypeId × Value → H} {W : World} {base : Nat} {args : Array Value} {ds gs : List (DataW H)} {before : List MemPlace}
    (hval : ∀ (j : Nat) t v, Try.f9.params[j]? = some t → args[j]? = some v → Value.okWide Try.prog W .any base t v)
    (hW : DataW.Whole enc Try.prog Try.f9.params.toList [] false W args.toList ds gs before) : Trues 9 args W := by
  obtain ⟨p, q, hA, -, rfl, -, -⟩ := hW
  rw [Try.params9] at hA hval
  obtain ⟨v0, d0, rfl, rfl, h0⟩ := trodAll_one hA
  obtain ⟨vs, rfl, h⟩ := open_struct Try.underlying70 flat_fstep (hval 0 70 v0 rfl rfl) h0
  obtain ⟨k, r, rfl, -, h⟩ := h.i64
  obtain ⟨o, r, rfl, -, h⟩ := h.i64
  obtain ⟨n, r, rfl, -, h⟩ := h.i64
  obtain ⟨xc, r, rfl, -, h⟩ := h.i64
  obtain ⟨xk, r, rfl, -, h⟩ := h.i64
  obtain ⟨xf, r, rfl, -, h⟩ := h.i64
  obtain ⟨xb, r, rfl, -, h⟩ := h.str
  obtain ⟨xa, r, rfl, -, h⟩ := h.i64
  obtain rfl := h.none
  exact fnone_c k o n ⟨xc, xk, xf, xb, xa⟩ W

set_option maxRecDepth 100000 in
theorem flowsNone_lifted (os : Os) (started : os.Started) (H : Type) (enc : TypeId × Value → H) :
    ReturnsInHanded {} Try.checked os 9 .any (Rows.flowsNoneSpec.pre6 enc Try.prog Try.f9 Rows.flowsNoneRow.domain false) (Rows.flowsNoneSpec.post enc Try.prog Try.f9 false true false false) := by
  refine returnsInHanded_of_change (C := Try.checked) own started (by kernel_rfl) Try.func9
    (ChangeSpec.witness6 (enc := enc) (C := Try.checked) false ⟨#[], #[.agg #[.int .i64 0, .int .i64 0, .int .i64 0, .int .i64 0, .int .i64 0, .int .i64 0, .string .empty, .int .i64 0]], []⟩ 8 (by kernel_rfl) (by kernel_rfl) (by kernel_rfl) (by kernel_rfl)) ?_
  intro W base args ds gs before hval hW hcnd _
  refine Calls.mono (flowsNone_walk hval hW) fun e W' ⟨he, hu⟩ => ?_
  exact ⟨_, he, law_post rfl rfl (by kernel_rfl) hW (fun ds h => by match ds, h with | [_], _ => rfl) hu⟩

set_option maxRecDepth 100000 in
theorem flowsNone_over : Rows.flowsNoneRow.holds Try.pinned (OpenSpec.ofChange Rows.flowsNoneSpec) :=
  OpenClaim.holds_of_wide 9 Try.f9 rfl rfl rfl rfl rfl rfl rfl ⟨rfl, rfl, rfl, rfl, rfl⟩ rfl rfl rfl rfl rfl (by kernel_rfl) Try.func9 (by kernel_rfl)
    (of_decide_eq_true (by kernel_rfl)) (by unfold Func.isWrapper; first | (rw [if_pos (by decide +kernel)]; kernel_rfl) | (rw [if_neg (by decide +kernel)]; exact ⟨rfl, rfl⟩))
    (fun os started H enc _ => flowsNone_lifted os started H enc)

theorem flowsNone_proved : Rows.FlowsNoneSaid := flowsNone_over
end Go.Proofs.Ytabhdigannalgaa
