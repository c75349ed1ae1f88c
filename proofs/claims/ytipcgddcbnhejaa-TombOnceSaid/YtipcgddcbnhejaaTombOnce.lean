/-
  TombOnce: what was put is taken once, others' staying, and a yard that is not there keeps nothing. For all ids. No condition.
-/
import Derived.Test.YtipcgddcbnhejaaFrame
import Derived.Test.YtipcgddcbnhejaaTomb
namespace Go.Proofs.Ytipcgddcbnhejaa
open Go Go.RowKit Go.ChangeShapes Go.WideShapes Go.ChangeAt

/-- a yard that is the call's own, and keeps l -/
def Yd (w0 w : World) (b : Nat) (l : List Int) : Prop := ∃ v, YdAt w b v w0.heap.size l ∧ w0.heap.size ≤ b ∧ Upd [] w0 w

theorem Yd.keep0 {w0 w w' : World} {b : Nat} {l : List Int} (h : Yd w0 w b l) (hu : Upd [] w w') : Yd w0 w' b l := by
  obtain ⟨v, h1, h2, h3⟩ := h
  exact ⟨v, h1.keep0 hu, h2, h3.trans' hu⟩

theorem put_y {w0 w : World} {b : Nat} {l : List Int} (h : Yd w0 w b l) (x : Int) :
    Calls Try.prog 23 #[.pointer (some ⟨b, 0, none⟩), .int .u64 x] w fun e w' => e = .returned (.bool (!hasB x l)) ∧ Yd w0 w' b (yput l x) := by
  obtain ⟨v, h1, h2, h3⟩ := h
  refine Calls.mono (yput_c h1 h3.size x) ?_
  rintro e w' ⟨v', rfl, h4, h5, h6⟩
  exact ⟨rfl, v', h4, h2, h3.trans h5 (by intro g hg; rcases List.mem_cons.1 hg with h | h; exact .inr (h ▸ h2); exact .inr (h1.sub.lt g h).1)⟩

theorem take_y {w0 w : World} {b : Nat} {l : List Int} (h : Yd w0 w b l) (x : Int) :
    Calls Try.prog 21 #[.pointer (some ⟨b, 0, none⟩), .int .u64 x] w fun e w' => e = .returned (.bool (hasB x l)) ∧ Yd w0 w' b (ytake l x) := by
  obtain ⟨v, h1, h2, h3⟩ := h
  refine Calls.mono (ytake_c h1 x) ?_
  rintro e w' ⟨v', rfl, h4, h5, h6⟩
  exact ⟨rfl, v', h4, h2, h3.trans h5 (by intro g hg; rcases List.mem_cons.1 hg with h | h; exact .inr (h ▸ h2); exact .inr (h1.sub.lt g h).1)⟩

theorem ids_y {w0 w : World} {b : Nat} {l : List Int} (h : Yd w0 w b l) :
    Calls Try.prog 25 #[.pointer (some ⟨b, 0, none⟩)] w fun e w' => ∃ ao cap, e = .returned (.slice ao l.length cap) ∧ Sub w' w.heap.size 22 1 (.slice ao l.length cap) l.length (evs l) ∧ Yd w0 w' b l ∧ Upd [] w w' := by
  obtain ⟨v, h1, h2, h3⟩ := h
  refine Calls.mono (yids_c h1) ?_
  rintro e w' ⟨v', rfl, h4, h5⟩
  obtain ⟨ao, cap, rfl, -, -⟩ := h4.form
  exact ⟨ao, cap, rfl, h4, ⟨v, h1.keep0 h5, h2, h3.trans' h5⟩, h5⟩

theorem hasB_nil (x : Int) : hasB x [] = false := by simp [hasB]
theorem hasB_self (x : Int) : hasB x [x] = true := by simp [hasB]
theorem hasB_ne {x y : Int} (h : ¬ x = y) : hasB x [y] = false := by simp [hasB, h]

set_option maxHeartbeats 1000000 in
theorem yawake_c (w : World) : Calls Try.prog 18 #[] w fun e w' => e = .returned (.bool true) ∧ Upd [] w w' := by
  have e1 : yput [] 3 = [3] := by decide
  have e2 : ytake [3] 3 = [] := by decide
  have b1 : hasB 3 [] = false := by decide
  have b2 : hasB 3 [3] = true := by decide
  have hp := fun b w' (h : Yd w w' b []) => put_y h 3
  have ht := fun b w' (h : Yd w w' b [3]) => take_y h 3
  have ht2 := fun b w' (h : Yd w w' b []) => take_y h 3
  rw [e1, b1] at hp
  rw [e2, b2] at ht
  rw [b1] at ht2
  have HP := Lib.hid hp
  have HT := Lib.hid ht
  have HT2 := Lib.hid ht2
  clear hp ht ht2 e1 e2 b1 b2
  refine post fun R hR => ?_
  go_enter Try.func18, Try.ntmps18
  go_wp2_with (fail)
  refine Calls.mono (ynew_c _) ?_
  rintro e w1 ⟨rfl, hu1, hy1⟩
  have h1 : Yd w w1 w.heap.size [] := ⟨_, hy1, Nat.le_refl _, hu1⟩
  clear hy1 hu1
  go_wp2_with (fail)
  refine Calls.mono (HP.out _ _ h1) ?_
  rintro e w2 ⟨rfl, h2⟩
  go_wp2_with (fail)
  refine Calls.mono (HT.out _ _ h2) ?_
  rintro e w3 ⟨rfl, h3⟩
  go_wp2_with (fail)
  refine Calls.mono (HT2.out _ _ h3) ?_
  rintro e w4 ⟨rfl, h4⟩
  go_wp2_with (fail)
  exact hR.out _ _ ⟨rfl, h4.choose_spec.2.2⟩

set_option maxRecDepth 100000 in
set_option maxHeartbeats 2000000 in
theorem tonce_c (a b : Int) (w : World) : Trues 7 #[.int .u64 a, .int .u64 b] w := by
  unfold Trues
  by_cases hab : a = b
  · subst hab
    refine post fun R hR => ?_
    go_enter Try.func7, Try.ntmps7
    go_wp2_with (fail)
    refine Calls.mono (yputNil_c _ _) ?_
    rintro e w2 ⟨rfl, rfl⟩
    go_wp2_with (fail)
    refine Calls.mono (ytakeNil_c _ _) ?_
    rintro e w2 ⟨rfl, hu2⟩
    go_wp2_with (fail)
    refine Calls.mono (yidsNil_c _) ?_
    rintro e w3 ⟨rfl, rfl⟩
    go_wp2_with (fail)
    refine Calls.mono (yawake_c _) ?_
    rintro e w3 ⟨rfl, hu3⟩
    go_wp2_with (fail)
    exact hR.out _ _ ⟨rfl, hu2.trans' hu3⟩
  · have hq : (a == b) = false := by simpa using hab
    have hba : ¬ b = a := fun e => hab e.symm
    have HAB := Lib.hid hab
    have HBA := Lib.hid hba
    clear hab hba
    refine post fun R hR => ?_
    go_enter Try.func7, Try.ntmps7
    go_wp2_with (fail)
    refine Calls.mono (yputNil_c _ _) ?_
    rintro e w2 ⟨rfl, rfl⟩
    go_wp2_with (fail)
    refine Calls.mono (ytakeNil_c _ _) ?_
    rintro e w2 ⟨rfl, hu2⟩
    go_wp2_with (fail)
    refine Calls.mono (yidsNil_c _) ?_
    rintro e w3 ⟨rfl, rfl⟩
    go_wp2_with (fail)
    have h1 : Yd w2 (w2.alloc (.cells #[.slice none 0 0] 58)) w2.heap.size [] := ⟨_, ⟨heap_alloc_new _ _, sub_nil _ _ _ _, by simp⟩, Nat.le_refl _, (Upd.refl _ _).alloc _⟩
    have hp := put_y h1 a
    rw [hasB_nil, show yput [] a = [a] by simp [yput, hasB]] at hp
    refine Calls.mono hp ?_
    rintro e w3 ⟨rfl, h3⟩
    clear hp h1
    go_wp2_with (fail)
    have hp := put_y h3 a
    rw [hasB_self, show yput [a] a = [a] by simp [yput, hasB]] at hp
    refine Calls.mono hp ?_
    rintro e w4 ⟨rfl, h4⟩
    clear hp h3
    go_wp2_with (fail)
    have hp := put_y h4 b
    rw [hasB_ne HBA.out, show yput [a] b = [a, b] by simp [yput, hasB, HBA.out]] at hp
    refine Calls.mono hp ?_
    rintro e w5 ⟨rfl, h5⟩
    clear hp h4
    go_wp2_with (fail)
    have hp := take_y h5 a
    rw [show hasB a [a, b] = true by simp [hasB], show ytake [a, b] a = [b] by simp [ytake, rmv, HBA.out]] at hp
    refine Calls.mono hp ?_
    rintro e w6 ⟨rfl, h6⟩
    clear hp h5
    go_wp2_with (fail)
    have hp := take_y h6 a
    rw [hasB_ne HAB.out, show ytake [b] a = [b] by simp [ytake, rmv, HBA.out]] at hp
    refine Calls.mono hp ?_
    rintro e w7 ⟨rfl, h7⟩
    clear hp h6
    go_wp2_with (fail)
    refine Calls.mono (ids_y h7) ?_
    rintro e w8 ⟨ao8, cap8, rfl, -, h8, -⟩
    clear h7
    go_wp2_with (fail)
    have hp := take_y h8 b
    rw [hasB_self, show ytake [b] b = [] by simp [ytake, rmv]] at hp
    refine Calls.mono hp ?_
    rintro e w9 ⟨rfl, h9⟩
    clear hp h8
    go_wp2_with (fail)
    refine Calls.mono (ids_y h9) ?_
    rintro e w10 ⟨ao10, cap10, rfl, -, h10, -⟩
    clear h9
    go_wp2_with (fail)
    have hp := put_y h10 a
    rw [hasB_nil, show yput [] a = [a] by simp [yput, hasB]] at hp
    refine Calls.mono hp ?_
    rintro e w11 ⟨rfl, h11⟩
    clear hp h10
    go_wp2_with (fail)
    refine Calls.mono (yawake_c _) ?_
    rintro e w12 ⟨rfl, hu12⟩
    go_wp2_with (fail)
    exact hR.out _ _ ⟨rfl, (hu2.trans' h11.choose_spec.2.2).trans' hu12⟩

set_option maxRecDepth 100000 in
theorem tombOnce_walk {H : Type} {enc : TypeId × Value → H} {W : World} {base : Nat} {args : Array Value} {ds gs : List (DataW H)} {before : List MemPlace}
    (hval : ∀ (j : Nat) t v, Try.f7.params[j]? = some t → args[j]? = some v → Value.okWide Try.prog W .any base t v)
    (hW : DataW.Whole enc Try.prog Try.f7.params.toList [] false W args.toList ds gs before) : Trues 7 args W := by
  obtain ⟨p, q, hA, -, rfl, -, -⟩ := hW
  rw [Try.params7] at hA hval
  obtain ⟨v0, v1, d0, d1, p0, p1, rfl, rfl, rfl, h0, h1⟩ := trodAll_two hA
  obtain ⟨a, rfl, rfl, rfl, wa⟩ := open_int Try.underlying22 (hval 0 22 v0 rfl rfl) h0
  obtain ⟨b, rfl, rfl, rfl, wb⟩ := open_int Try.underlying22 (hval 1 22 v1 rfl rfl) h1
  exact tonce_c a b W

set_option maxRecDepth 100000 in
theorem tombOnce_lifted (os : Os) (started : os.Started) (H : Type) (enc : TypeId × Value → H) :
    ReturnsInHanded {} Try.checked os 7 .any (Rows.tombOnceSpec.pre6 enc Try.prog Try.f7 Rows.tombOnceRow.domain false) (Rows.tombOnceSpec.post enc Try.prog Try.f7 false true false false) := by
  refine returnsInHanded_of_change (C := Try.checked) own started (by kernel_rfl) Try.func7
    (ChangeSpec.witness6 (enc := enc) (C := Try.checked) false ⟨#[], #[.int .u64 0, .int .u64 0], []⟩ 8 (by kernel_rfl) (by kernel_rfl) (by kernel_rfl) (by kernel_rfl)) ?_
  intro W base args ds gs before hval hW hcnd _
  refine Calls.mono (tombOnce_walk hval hW) fun e W' ⟨he, hu⟩ => ?_
  exact ⟨_, he, law_post rfl rfl (by kernel_rfl) hW (fun ds h => by match ds, h with | [_, _], _ => rfl) hu⟩

set_option maxRecDepth 100000 in
theorem tombOnce_over : Rows.tombOnceRow.holds Try.pinned (OpenSpec.ofChange Rows.tombOnceSpec) :=
  OpenClaim.holds_of_wide 7 Try.f7 rfl rfl rfl rfl rfl rfl rfl ⟨rfl, rfl, rfl, rfl, rfl⟩ rfl rfl rfl rfl rfl (by kernel_rfl) Try.func7 (by kernel_rfl)
    (of_decide_eq_true (by kernel_rfl)) (by unfold Func.isWrapper; first | (rw [if_pos (by decide +kernel)]; kernel_rfl) | (rw [if_neg (by decide +kernel)]; exact ⟨rfl, rfl⟩))
    (fun os started H enc _ => tombOnce_lifted os started H enc)

theorem tombOnce_proved : Rows.TombOnceSaid := tombOnce_over
end Go.Proofs.Ytipcgddcbnhejaa
