/-
  TombSteps: what a yard keeps behind any steps. For every list. No condition.
-/
import Derived.Test.YtipcgddcbnhejaaOpen
import Derived.Test.YtipcgddcbnhejaaTombRef
import Derived.Test.YtipcgddcbnhejaaTombAwake
namespace Go.Proofs.Ytipcgddcbnhejaa
open Go Go.RowKit Go.ChangeShapes Go.WideShapes Go.ChangeAt

/-- a step -/
structure TSt where
  take : Bool
  id : Int
def TSt.cells (s : TSt) : List Value := [.bool s.take, .int .u64 s.id]
theorem TSt.parse (vs : List Value) (h : AllOK [.bool, .int .u64] vs) : ∃ s, TSt.cells s = vs ∧ True := by
  obtain ⟨a, r, rfl, h2⟩ := h.boo
  obtain ⟨b, r, rfl, hb, h3⟩ := h2.u64
  obtain rfl := h3.none
  exact ⟨⟨a, b⟩, rfl, trivial⟩
theorem flat_tst : flat Try.prog 5 53 = some [.bool, .int .u64] := by kernel_rfl
theorem cells_tst : Try.prog.cellsOf 53 = 2 := by kernel_rfl
theorem trow {w wr : World} {b off : Nat} {l : List TSt} (hr : RowsAt w b off 2 TSt.cells l) (hu : Upd [] w wr) (hb : b < w.heap.size) {k : Nat} (hk : k < l.length) :
    wr.cell? ⟨b, off + k * 2, none⟩ = some (.bool (l[k].take)) ∧ wr.cell? ⟨b, off + k * 2 + 1, none⟩ = some (.int .u64 (l[k].id)) := by
  have h0 := hr k l[k] (List.getElem?_eq_getElem hk)
  exact ⟨(hu.below.cell (p := ⟨b, off + k * 2, none⟩) hb).trans (h0 0 (by omega)), (hu.below.cell (p := ⟨b, off + k * 2 + 1, none⟩) hb).trans (h0 1 (by omega))⟩

/-- the yard keeps L, and the document's row r keeps M -/
def YR (w wr : World) (r : Value) (L M : List Int) : Prop :=
  ∃ v, YdAt wr w.heap.size v w.heap.size L ∧ Sub wr w.heap.size 22 1 r M.length (evs M) ∧ M.length ≤ 8 ∧ (∀ g ∈ blkL r, g ∉ blkL v) ∧ Upd [] w wr

theorem YR.upd {w wr : World} {r : Value} {L M : List Int} (h : YR w wr r L M) : Upd [] w wr := h.choose_spec.2.2.2.2
theorem YR.form {w wr : World} {r : Value} {L M : List Int} (h : YR w wr r L M) : ∃ ao cap, r = .slice ao M.length cap := by
  obtain ⟨v, h1, h2, -⟩ := h
  obtain ⟨ao, cap, rfl, -⟩ := h2.form
  exact ⟨ao, cap, rfl⟩

theorem yr_ne {w wr : World} {r v : Value} {L M : List Int} (h1 : YdAt wr w.heap.size v w.heap.size L) (h2 : Sub wr w.heap.size 22 1 r M.length (evs M)) : w.heap.size ∉ blkL r := fun hm => by
  obtain ⟨cs, hc⟩ := h2.ty _ hm
  rw [h1.heap] at hc; injection hc with hc; injection hc with _ hc; cases hc

theorem put_yr {w wr : World} {r : Value} {L M : List Int} (h : YR w wr r L M) (x : Int) :
    Calls Try.prog 23 #[.pointer (some ⟨w.heap.size, 0, none⟩), .int .u64 x] wr fun e w' => e = .returned (.bool (!hasB x L)) ∧ YR w w' r (yput L x) M ∧ Upd [] w w' := by
  obtain ⟨v, h1, h2, h3, h4, h5⟩ := h
  refine Calls.mono (yput_c h1 h5.size x) ?_
  rintro e w' ⟨v', rfl, g1, g2, g3⟩
  have hu : Upd [] w w' := h5.trans g2 (by intro g hg; rcases List.mem_cons.1 hg with h | h; exact .inr (h ▸ Nat.le_refl _); exact .inr (h1.sub.lt g h).1)
  refine ⟨rfl, ⟨v', g1, h2.upd g2 ?_, h3, ?_, hu⟩, hu⟩
  · intro g hg hm
    rcases List.mem_cons.1 hm with h | h
    · exact yr_ne h1 h2 (h ▸ hg)
    · exact h4 g hg h
  · intro g hg hm
    rcases g3 g hm with h | h
    · exact h4 g hg h
    · have := (h2.lt g hg).2; omega

theorem take_yr {w wr : World} {r : Value} {L M : List Int} (h : YR w wr r L M) (x : Int) :
    Calls Try.prog 21 #[.pointer (some ⟨w.heap.size, 0, none⟩), .int .u64 x] wr fun e w' => e = .returned (.bool (hasB x L)) ∧ YR w w' r (ytake L x) M ∧ Upd [] w w' := by
  obtain ⟨v, h1, h2, h3, h4, h5⟩ := h
  refine Calls.mono (ytake_c h1 x) ?_
  rintro e w' ⟨v', rfl, g1, g2, g3⟩
  have hu : Upd [] w w' := h5.trans g2 (by intro g hg; rcases List.mem_cons.1 hg with h | h; exact .inr (h ▸ Nat.le_refl _); exact .inr (h1.sub.lt g h).1)
  refine ⟨rfl, ⟨v', g1, h2.upd g2 ?_, h3, fun g hg hm => h4 g hg (g3 g hm), hu⟩, hu⟩
  intro g hg hm
  rcases List.mem_cons.1 hm with h | h
  · exact yr_ne h1 h2 (h ▸ hg)
  · exact h4 g hg h

theorem rput_yr {w wr : World} {r : Value} {L M : List Int} (h : YR w wr r L M) (x : Int) :
    Calls Try.prog 24 #[r, .int .u64 x] wr fun e w' => ∃ ao cap, e = .returned (.slice ao (yput M x).length cap) ∧ YR w w' (.slice ao (yput M x).length cap) L (yput M x) ∧ Upd [] w w' := by
  obtain ⟨v, h1, h2, h3, h4, h5⟩ := h
  refine Calls.mono (rput33_c h2 h5.size h3 x) ?_
  rintro e w' ⟨r', rfl, g1, g2, g3⟩
  obtain ⟨ao, cap, rfl, -, -⟩ := g1.form
  refine ⟨ao, cap, rfl, ⟨v, h1.keep0 g2, g1, yput_len h3 x, ?_, h5.trans' g2⟩, h5.trans' g2⟩
  intro g hg hm
  rcases g3 g hg with h | h
  · exact h4 g h hm
  · have := (h1.sub.lt g hm).2; omega

theorem rtake_yr {w wr : World} {r : Value} {L M : List Int} (h : YR w wr r L M) (x : Int) :
    Calls Try.prog 22 #[r, .int .u64 x] wr fun e w' => ∃ ao cap, e = .returned (.slice ao (ytake M x).length cap) ∧ YR w w' (.slice ao (ytake M x).length cap) L (ytake M x) ∧ Upd [] w w' := by
  obtain ⟨v, h1, h2, h3, h4, h5⟩ := h
  refine Calls.mono (rtake33_c h2 (by omega) x) ?_
  rintro e w' ⟨r', rfl, g1, g2⟩
  obtain ⟨ao, cap, rfl, -, -⟩ := g1.form
  refine ⟨ao, cap, rfl, ⟨v, h1.keep0 g2, g1.mono h5.size, Nat.le_trans (ytake_len M x) h3, ?_, h5.trans' g2⟩, h5.trans' g2⟩
  intro g hg hm
  have := (h1.sub.lt g hm).2
  have := (g1.lt g hg).1
  omega

theorem rhas_yr {w wr : World} {r : Value} {L M : List Int} (h : YR w wr r L M) (x : Int) :
    Calls Try.prog 20 #[r, .int .u64 x] wr fun e w' => e = .returned (.bool (hasB x M)) ∧ wr = w' := by
  obtain ⟨v, h1, h2, h3, h4, h5⟩ := h
  exact rhas33_c h2 (by omega) x

theorem ids_yr {w wr : World} {r : Value} {L : List Int} (h : YR w wr r L L) :
    Calls Try.prog 25 #[.pointer (some ⟨w.heap.size, 0, none⟩)] wr fun e w' => ∃ ao cap, e = .returned (.slice ao L.length cap) ∧ YR w w' r L L ∧ Upd [] w w' ∧
      Calls Try.prog 15 #[.slice ao L.length cap, r] w' fun e w'' => e = .returned (.bool true) ∧ Upd [] w' w'' := by
  obtain ⟨v, h1, h2, h3, h4, h5⟩ := h
  refine Calls.mono (yids_c h1) ?_
  rintro e w' ⟨v', rfl, g1, g2⟩
  obtain ⟨ao, cap, rfl, -, -⟩ := g1.form
  exact ⟨ao, cap, rfl, ⟨v, h1.keep0 g2, h2.upd0 g2, h3, h4, h5.trans' g2⟩, h5.trans' g2, rsame_c g1 (h2.upd0 g2) (by omega)⟩

theorem YR.keep0 {w wr w' : World} {r : Value} {L M : List Int} (h : YR w wr r L M) (hu : Upd [] wr w') : YR w w' r L M := by
  obtain ⟨v, h1, h2, h3, h4, h5⟩ := h
  exact ⟨v, h1.keep0 hu, h2.upd0 hu, h3, h4, h5.trans' hu⟩

set_option maxRecDepth 100000 in
set_option maxHeartbeats 4000000 in
theorem tsteps_c (b off cap : Nat) (l : List TSt) (w : World) (hlen : l.length ≤ 500) (hrows : RowsAt w b off 2 TSt.cells l) (hb : b < w.heap.size) :
    Trues 6 #[.slice (some ⟨b, off, none⟩) l.length cap] w := by
  unfold Trues
  have HRows := Lib.hid hrows
  clear hrows
  refine post fun R hR => ?_
  go_enter Try.func6, Try.ntmps6
  go_wp2_with (fail)
  refine Calls.mono (ynew_c _) ?_
  rintro e w1 ⟨rfl, hu1, hy1⟩
  have h1 : YR w w1 (.slice none 0 0) [] [] := ⟨_, hy1, sub_nil _ _ _ _, by simp, by simp [blkL], hu1⟩
  clear hy1 hu1
  go_wp2_with (fail)
  go_loopw [4, 5] (fun r i wr => ∃ (k : Nat) (L : List Int), i = i64 k ∧ k ≤ l.length ∧ YR w wr r L L) (fun _ i _ => l.length - (intOf i).toNat)
  case atStart => exact ⟨0, [], rfl, Nat.zero_le _, h1⟩
  case round =>
    clear h1
    obtain ⟨k, L, rfl, hk, hy⟩ := hrel
    by_cases hlt : k < l.length
    · obtain ⟨c0, c1⟩ := trow HRows.out hy.upd hb hlt
      have hC : ∀ w3, Upd [] w w3 → w3.cell? ⟨b, off + k * 2, none⟩ = some (.bool l[k].take) ∧ w3.cell? ⟨b, off + k * 2 + 1, none⟩ = some (.int .u64 l[k].id) := fun w3 hu3 => trow HRows.out hu3 hb hlt
      generalize l[k].id = ix at *
      generalize l[k].take = tk at *
      have HC := Lib.hid hC
      clear hC
      obtain ⟨ao0, cap0, rfl⟩ := hy.form
      have hhas := rhas_yr hy ix
      have htk := take_yr hy ix
      have hpt := put_yr hy ix
      have hb1 : ∀ B : Bool, hasB ix L = B → True := fun _ _ => trivial
      cases tk with
      | true =>
        have HHAS := Lib.hid hhas
        have HTK := Lib.hid htk
        clear hpt hhas htk hb1
        generalize hB : hasB ix L = B at *
        clear hB
        go_wp2_with (fail)
        refine HHAS.out.mono ?_
        rintro e w2 ⟨rfl, rfl⟩
        go_wp2_with (fail)
        refine Calls.mono (HTK.out) ?_
        rintro e w3 ⟨rfl, hy3, hu3⟩
        obtain ⟨d0, d1⟩ := HC.out _ hu3
        clear hy HHAS HTK c0 c1
        go_wp2_with (fail)
        refine Calls.mono (rtake_yr hy3 ix) ?_
        rintro e w4 ⟨ao4, cap4, rfl, hy4, hu4⟩
        clear hy3 hu3 d0 d1
        generalize ytake L ix = L2 at *
        go_wp2_with (fail)
        refine Calls.mono (ids_yr hy4) ?_
        rintro e w5 ⟨ao5, cap5, rfl, hy5, hu5, hsm⟩
        clear hy4 hu4
        have HSM := Lib.hid hsm
        clear hsm
        go_wp2_with (fail)
        refine HSM.out.mono ?_
        rintro e w6 ⟨rfl, hu6⟩
        go_wp2_with (fail)
        go_roundw
        case rel => exact ⟨k + 1, L2, by go_num, by omega, hy5.keep0 hu6⟩
        case measure => simp [intOf]; omega
      | false =>
        have HHAS := Lib.hid hhas
        have HTK := Lib.hid hpt
        clear htk hhas hpt hb1
        generalize hB : hasB ix L = B at *
        clear hB
        cases B with
        | true =>
          go_wp2_with (fail)
          refine HHAS.out.mono ?_
          rintro e w2 ⟨rfl, rfl⟩
          go_wp2_with (fail)
          refine Calls.mono (HTK.out) ?_
          rintro e w3 ⟨rfl, hy3, hu3⟩
          obtain ⟨d0, d1⟩ := HC.out _ hu3
          clear hy HHAS HTK c0 c1
          go_wp2_with (fail)
          refine Calls.mono (rput_yr hy3 ix) ?_
          rintro e w4 ⟨ao4, cap4, rfl, hy4, hu4⟩
          clear hy3 hu3 d0 d1
          generalize yput L ix = L2 at *
          go_wp2_with (fail)
          refine Calls.mono (ids_yr hy4) ?_
          rintro e w5 ⟨ao5, cap5, rfl, hy5, hu5, hsm⟩
          clear hy4 hu4
          have HSM := Lib.hid hsm
          clear hsm
          go_wp2_with (fail)
          refine HSM.out.mono ?_
          rintro e w6 ⟨rfl, hu6⟩
          go_wp2_with (fail)
          go_roundw
          case rel => exact ⟨k + 1, L2, by go_num, by omega, hy5.keep0 hu6⟩
          case measure => simp [intOf]; omega
        | false =>
          go_wp2_with (fail)
          refine HHAS.out.mono ?_
          rintro e w2 ⟨rfl, rfl⟩
          go_wp2_with (fail)
          refine Calls.mono (HTK.out) ?_
          rintro e w3 ⟨rfl, hy3, hu3⟩
          obtain ⟨d0, d1⟩ := HC.out _ hu3
          clear hy HHAS HTK c0 c1
          go_wp2_with (fail)
          refine Calls.mono (rput_yr hy3 ix) ?_
          rintro e w4 ⟨ao4, cap4, rfl, hy4, hu4⟩
          clear hy3 hu3 d0 d1
          generalize yput L ix = L2 at *
          go_wp2_with (fail)
          refine Calls.mono (ids_yr hy4) ?_
          rintro e w5 ⟨ao5, cap5, rfl, hy5, hu5, hsm⟩
          clear hy4 hu4
          have HSM := Lib.hid hsm
          clear hsm
          go_wp2_with (fail)
          refine HSM.out.mono ?_
          rintro e w6 ⟨rfl, hu6⟩
          go_wp2_with (fail)
          go_roundw
          case rel => exact ⟨k + 1, L2, by go_num, by omega, hy5.keep0 hu6⟩
          case measure => simp [intOf]; omega
    · have e : k = l.length := by omega
      have hu := hy.upd
      obtain ⟨ao0, cap0, rfl⟩ := hy.form
      clear hy
      go_wp2_with (fail)
      refine (yawake_c _).mono ?_
      rintro e w5 ⟨rfl, hu5⟩
      go_wp2_with (fail)
      exact hR.out _ _ ⟨rfl, hu.trans' hu5⟩

theorem tsteps0_c (ao : Option Addr) (cap : Nat) (w : World) : Trues 6 #[.slice ao 0 cap] w := by
  unfold Trues
  refine post fun R hR => ?_
  go_enter Try.func6, Try.ntmps6
  go_wp2_with (fail)
  refine Calls.mono (ynew_c _) ?_
  rintro e w1 ⟨rfl, hu1, hd1⟩
  go_wp2_with (fail)
  refine wp_loop_once ?_
  go_wp2_with (fail)
  refine (yawake_c _).mono ?_
  rintro e w5 ⟨rfl, hu5⟩
  go_wp2_with (fail)
  exact hR.out _ _ ⟨rfl, hu1.trans' hu5⟩

theorem tsteps9_c (ao : Option Addr) (n cap : Nat) (w : World) (hn : 500 < n) : Trues 6 #[.slice ao n cap] w := by
  unfold Trues
  refine post fun R hR => ?_
  go_enter Try.func6, Try.ntmps6
  go_wp2_with (fail)
  refine (yawake_c _).mono ?_
  rintro e w5 ⟨rfl, hu5⟩
  go_wp2_with (fail)
  exact hR.out _ _ ⟨rfl, hu5⟩

set_option maxRecDepth 100000 in
theorem tombSteps_walk {H : Type} {enc : TypeId × Value → H} {W : World} {base : Nat} {args : Array Value} {ds gs : List (DataW H)} {before : List MemPlace}
    (hval : ∀ (j : Nat) t v, Try.f6.params[j]? = some t → args[j]? = some v → Value.okWide Try.prog W .any base t v)
    (hW : DataW.Whole enc Try.prog Try.f6.params.toList [] false W args.toList ds gs before) : Trues 6 args W := by
  obtain ⟨p, q, hA, -, rfl, -, -⟩ := hW
  rw [Try.params6] at hA hval
  obtain ⟨v0, d0, rfl, rfl, h0⟩ := trodAll_one hA
  obtain ⟨ao, cap, l, rfl, hlc, hcap, hg, hl⟩ := open_list TSt.parse Try.underlying48 flat_tst cells_tst (by decide) (hval 0 48 v0 rfl rfl) h0
  by_cases hbig : 500 < l.length
  · exact tsteps9_c ao l.length cap W hbig
  · rcases hl with rfl | ⟨b, off, rfl, hr⟩
    · exact tsteps0_c ao cap W
    · cases l with
      | nil => exact tsteps0_c _ cap W
      | cons x r =>
        exact tsteps_c b off cap (x :: r) W (by omega) hr (World.block_lt_of_cell? W _ (hr 0 x rfl 0 (by decide)))

set_option maxRecDepth 100000 in
theorem tombSteps_lifted (os : Os) (started : os.Started) (H : Type) (enc : TypeId × Value → H) :
    ReturnsInHanded {} Try.checked os 6 .any (Rows.tombStepsSpec.pre6 enc Try.prog Try.f6 Rows.tombStepsRow.domain false) (Rows.tombStepsSpec.post enc Try.prog Try.f6 false true false false) := by
  refine returnsInHanded_of_change (C := Try.checked) own started (by kernel_rfl) Try.func6
    (ChangeSpec.witness6 (enc := enc) (C := Try.checked) false ⟨#[], #[.slice none 0 0], []⟩ 8 (by kernel_rfl) (by kernel_rfl) (by kernel_rfl) (by kernel_rfl)) ?_
  intro W base args ds gs before hval hW hcnd _
  refine Calls.mono (tombSteps_walk hval hW) fun e W' ⟨he, hu⟩ => ?_
  exact ⟨_, he, law_post rfl rfl (by kernel_rfl) hW (fun ds h => by match ds, h with | [_], _ => rfl) hu⟩

set_option maxRecDepth 100000 in
theorem tombSteps_over : Rows.tombStepsRow.holds Try.pinned (OpenSpec.ofChange Rows.tombStepsSpec) :=
  OpenClaim.holds_of_wide 6 Try.f6 rfl rfl rfl rfl rfl rfl rfl ⟨rfl, rfl, rfl, rfl, rfl⟩ rfl rfl rfl rfl rfl (by kernel_rfl) Try.func6 (by kernel_rfl)
    (of_decide_eq_true (by kernel_rfl)) (by unfold Func.isWrapper; first | (rw [if_pos (by decide +kernel)]; kernel_rfl) | (rw [if_neg (by decide +kernel)]; exact ⟨rfl, rfl⟩))
    (fun os started H enc _ => tombSteps_lifted os started H enc)

theorem tombSteps_proved : Rows.TombStepsSaid := tombSteps_over
end Go.Proofs.Ytipcgddcbnhejaa
