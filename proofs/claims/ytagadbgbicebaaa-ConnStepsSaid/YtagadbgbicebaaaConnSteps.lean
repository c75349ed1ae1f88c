/-
  ConnSteps: what any steps do to a table, one behind the other, what they answer, and how each connection is behind each. For every list of steps within the form's reach.
-/
import Derived.Test.YtagadbgbicebaaaConnStep
namespace Go.Proofs.Ytagadbgbicebaaa
open Go Go.RowKit Go.ChangeShapes Go.WideShapes Go.ChangeAt

theorem fine_zero : Fine [] 0 0 := ⟨by simp, fun j m hj => by simp at hj⟩
set_option maxRecDepth 100000 in
set_option maxHeartbeats 4000000 in
theorem connSteps_c (ao : Option Addr) (cap : Nat) (l : List CStp) (w : World) (hcap : l.length ≤ maxLen) (hao : l = [] ∨ ∃ b off, ao = some ⟨b, off, none⟩ ∧ RowsAt w b off 4 CStp.cells l ∧ b < w.heap.size) (_hgood : ∀ x ∈ l, x.good) (hz : ∀ x ∈ l, x.b.size ≤ reachBytes) :
    Trues 11 #[.slice ao l.length cap] w := by
  unfold Trues
  have hmuch := cmuchZ_c ao cap l w hcap hao hz
  have HAO := Lib.hid hao
  have HM := Lib.hid hmuch
  clear hmuch hao hcap hz
  refine post fun R hR => ?_
  go_enter Try.func11, Try.ntmps11
  go_wp2_with (fail)
  refine HM.out.mono ?_
  rintro e wx ⟨x, rfl, hx150, rfl⟩
  cases x with
  | true =>
    go_wp2_with (fail)
    refine Calls.mono (connAwake_c _) ?_
    rintro e w5 ⟨rfl, hu5⟩
    go_wp2_with (fail)
    exact hR.out _ _ ⟨rfl, hu5⟩
  | false =>
    obtain ⟨hlen, htot⟩ := hx150 rfl
    clear hx150 HM
    go_wp2_with (fail)
    refine Calls.mono (cnew_c _) ?_
    rintro e w1 ⟨rfl, hu1, hh1⟩
    obtain ⟨B, hBe⟩ : ∃ B, B = w.heap.size := ⟨_, rfl⟩
    have hX1 : ∃ (tl : List Ln) (ao : Option Addr) (cap : Nat) (Z Y : Nat → Prop), tl = [] ∧ ao = none ∧ cap = 0 ∧ CnX w w1 B tl tl (.slice ao tl.length cap) Z Y := ⟨[], none, 0, fun x => x = w.heap.size, fun _ => False, rfl, rfl, rfl, by rw [hBe]; exact tblAt_new hh1 rfl,
      ⟨[], rfl, ⟨sub_nil _ _ _ _, fun p hp => by simp at hp, fun x hx => by simp [blkL] at hx, fun p hp => by simp at hp⟩⟩, fun x _ => id, fun x hx => Nat.le_of_eq hx.symm, hu1⟩
    rw [← hBe]
    have HX1 := Lib.hid hX1
    clear hX1 hBe hu1 hh1
    go_wp2_with (fail)
    go_loopw [4, 5] (fun v i wr => ∃ (k : Nat) (tl : List Ln) (ao : Option Addr) (cap : Nat) (Z Y : Nat → Prop), i = i64 k ∧ k ≤ l.length ∧ v = .slice ao tl.length cap ∧ CnX w wr B tl tl (.slice ao tl.length cap) Z Y ∧ Fine tl k (ctot (l.take k))) (fun _ i _ => l.length - (intOf i).toNat)
    case atStart =>
      obtain ⟨tl, ao1, cap1, Z, Y, rfl, rfl, rfl, h⟩ := HX1.out
      exact ⟨0, _, _, _, Z, Y, rfl, Nat.zero_le _, rfl, h, fine_zero⟩
    case round =>
      clear HX1
      obtain ⟨k, tl, av, cv, Z, Y, rfl, hk, rfl, hX, hF⟩ := hrel
      by_cases hlt : k < l.length
      · obtain ⟨b, off, rfl, hrows, hb⟩ : ∃ b off, ao = some ⟨b, off, none⟩ ∧ RowsAt w b off 4 CStp.cells l ∧ b < w.heap.size := by
          rcases HAO.out with e | e
          · rw [e] at hlt; simp at hlt
          · exact e
        obtain ⟨c0, c1, c2, c3⟩ := csrow hrows hX.upd hb hlt
        have htk := ctot_snoc l k hlt
        have htk2 := ctot_take l (k + 1)
        generalize l[k].kind = kd at *
        generalize l[k].n = nn at *
        generalize l[k].by' = ow at *
        generalize l[k].b = s at *
        have hstp := cstep38_c hX hF (by omega) kd nn ow s (by omega)
        have hF2 := fine_step hF kd nn ow s (T' := ctot (l.take (k + 1))) (by omega)
        have HS := Lib.hid hstp
        have HF2 := Lib.hid hF2
        clear hrows htk htk2 hstp hF2 hX hF
        go_wp2_with (fail)
        refine HS.out.mono ?_
        rintro e w2 ⟨ao4, cap4, Z4, Y4, rfl, hX4⟩
        have hsm := csame38_c hX4.tbl hX4.ref
        have HSM := Lib.hid hsm
        have HX4 := Lib.hid hX4
        clear hsm hX4 c0 c1 c2 c3 HS
        generalize stepL tl kd nn ow s = tl4 at *
        go_wp2_with (fail)
        refine HSM.out.mono ?_
        rintro e w3 ⟨rfl, hu3⟩
        have HX5 := Lib.hid (HX4.out.same hu3)
        clear hu3 HSM HX4
        go_wp2_with (fail)
        go_roundw
        case rel => exact ⟨k + 1, tl4, ao4, cap4, Z4, Y4, by go_num, by omega, rfl, HX5.out, HF2.out⟩
        case measure => simp [intOf]; omega
      · have hu := hX.upd
        clear hX hF
        go_wp2_with (fail)
        refine Calls.mono (connAwake_c _) ?_
        rintro e w5 ⟨rfl, hu5⟩
        go_wp2_with (fail)
        exact hR.out _ _ ⟨rfl, hu.trans' hu5⟩

set_option maxRecDepth 100000 in
theorem connSteps_walk {H : Type} {enc : TypeId × Value → H} {W : World} {base : Nat} {args : Array Value} {ds gs : List (DataW H)} {before : List MemPlace}
    (hval : ∀ (j : Nat) t v, Try.f11.params[j]? = some t → args[j]? = some v → Value.okWide Try.prog W .any base t v)
    (hW : DataW.Whole enc Try.prog Try.f11.params.toList [] false W args.toList ds gs before)
    (hsz : (DataW.weightsEach Try.prog (Try.f11.params.toList ++ []) (ds ++ gs)).all (· ≤ reachBytes) = true) : Trues 11 args W := by
  obtain ⟨p, q, hA, hV, rfl, -, -⟩ := hW
  obtain ⟨rfl, rfl⟩ := trodVars_none hV
  rw [Try.params11] at hA hval hsz
  obtain ⟨v0, d0, rfl, rfl, h0⟩ := trodAll_one hA
  obtain ⟨ao, cap, l, rfl, hlc, hcap, hg, hl⟩ := open_listZ CStp.parse hsz (j := 0) Try.underlying51 flat_cstp cells_cstp (by decide) rfl rfl (hval 0 51 v0 rfl rfl) h0
  refine connSteps_c ao cap l W (by omega) ?_ (fun x hx => (hg x hx).1) (fun x hx => (hg x hx).2 (.string x.b) (by simp [CStp.cells]))
  rcases hl with rfl | ⟨b, off, rfl, hr⟩
  · exact .inl rfl
  · cases l with
    | nil => exact .inl rfl
    | cons x r => exact .inr ⟨b, off, rfl, hr, World.block_lt_of_cell? W _ (hr 0 x rfl 0 (by decide))⟩

set_option maxRecDepth 100000 in
theorem connSteps_lifted (os : Os) (started : os.Started) (H : Type) (enc : TypeId × Value → H) :
    ReturnsInHanded {} Try.checked os 11 .any (Rows.connStepsSpec.pre6 enc Try.prog Try.f11 Rows.connStepsRow.domain false) (Rows.connStepsSpec.post enc Try.prog Try.f11 false true false false) := by
  refine returnsInHanded_of_change_sized (C := Try.checked) own started (by kernel_rfl) Try.func11
    (ChangeSpec.witness6 (enc := enc) (C := Try.checked) false ⟨#[], #[.slice none 0 0], []⟩ 8 (by kernel_rfl) (by kernel_rfl) (by kernel_rfl) (by kernel_rfl)) ?_
  intro W base args ds gs before hval hW hcnd hsz _
  refine Calls.mono (connSteps_walk hval hW hsz) fun e W' ⟨he, hu⟩ => ?_
  exact ⟨_, he, law_post rfl rfl (by kernel_rfl) hW (fun ds h => by match ds, h with | [_], _ => rfl) hu⟩

set_option maxRecDepth 100000 in
theorem connSteps_over : Rows.connStepsRow.holds Try.pinned (OpenSpec.ofChange Rows.connStepsSpec) :=
  OpenClaim.holds_of_wide 11 Try.f11 rfl rfl rfl rfl rfl rfl rfl ⟨rfl, rfl, rfl, rfl, rfl⟩ rfl rfl rfl rfl rfl (by kernel_rfl) Try.func11 (by kernel_rfl)
    (of_decide_eq_true (by kernel_rfl)) (by unfold Func.isWrapper; first | (rw [if_pos (by decide +kernel)]; kernel_rfl) | (rw [if_neg (by decide +kernel)]; exact ⟨rfl, rfl⟩))
    (fun os started H enc _ => connSteps_lifted os started H enc)

theorem connSteps_proved : Rows.ConnStepsSaid := connSteps_over
end Go.Proofs.Ytagadbgbicebaaa
