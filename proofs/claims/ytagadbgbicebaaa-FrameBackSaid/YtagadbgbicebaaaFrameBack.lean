/-
  FrameBack: what is put is taken, whatever stands behind it, and no beginning of it is a frame. For every frame, string and number. No condition.
-/
import Derived.Test.YtagadbgbicebaaaOpen
import Derived.Test.YtagadbgbicebaaaTk
import Derived.SizedLaws
namespace Go.Proofs.Ytagadbgbicebaaa
open Go Go.RowKit Go.ChangeShapes Go.WideShapes Go.ChangeAt
open Go.ChangeMaps (open_string shut_string)

theorem flat_frameB : flat Try.prog 5 23 = some [.int .i64, .int .i64, .string] := by kernel_rfl

/-- a frame's bytes, as a list -/
def ptL (k f : Int) (s : ByteArray) : List UInt8 := UInt8.ofNat k.toNat :: UInt8.ofNat f.toNat :: UInt8.ofNat (s.size / 256) :: UInt8.ofNat (s.size % 256) :: s.data.toList

theorem ptL_eq (k f : Int) (s : ByteArray) (h : ptErr k f s.size = 0) : ptStr k f s = bs (ptL k f s) := by
  unfold ptStr
  rw [if_pos h]
  apply ByteArray.ext
  simp [ptL]

theorem ptErr_ok {k f : Int} {n : Nat} (h : ptErr k f n = 0) : (1 ≤ k ∧ k ≤ 9) ∧ (0 ≤ f ∧ f ≤ 255) ∧ n ≤ 1024 := by
  unfold ptErr at h
  have hk : knownB k = true := by
    cases hk : knownB k with
    | true => rfl
    | false => rw [hk] at h; simp at h
  rw [hk, if_pos rfl] at h
  have h1 : 1 ≤ k ∧ k ≤ 9 := by simpa [knownB] using hk
  by_cases hf : f < 0 ∨ 255 < f
  · rw [if_pos hf] at h; omega
  · rw [if_neg hf] at h
    by_cases hn : 1024 < n
    · rw [if_pos hn] at h; omega
    · exact ⟨h1, by omega, by omega⟩

theorem toNat_ofNat {n : Nat} (h : n < 256) : (UInt8.ofNat n).toNat = n := by simp [UInt8.toNat_ofNat']; omega

theorem tk_put {k f : Int} {s : ByteArray} (h : ptErr k f s.size = 0) (b : List UInt8) : tk (ptL k f s ++ b) = ⟨0, k, f, s.data.toList, 4 + s.size⟩ := by
  obtain ⟨hk, hf, hn⟩ := ptErr_ok h
  unfold ptL
  rw [List.cons_append, List.cons_append, List.cons_append, List.cons_append, tk_eq]
  have e0 : ((UInt8.ofNat k.toNat).toNat : Int) = k := by rw [toNat_ofNat (by omega)]; omega
  have e1 : ((UInt8.ofNat f.toNat).toNat : Int) = f := by rw [toNat_ofNat (by omega)]; omega
  have e2 : (UInt8.ofNat (s.size / 256)).toNat * 256 + (UInt8.ofNat (s.size % 256)).toNat = s.size := by rw [toNat_ofNat (by omega), toNat_ofNat (by omega)]; omega
  have e3 : knownB k = true := by unfold knownB; rw [decide_eq_true hk.1, decide_eq_true hk.2]; rfl
  have e4 : s.data.toList.length = s.size := rfl
  rw [e0, e1, e2, e3, if_pos rfl, if_neg (by omega), if_neg (by rw [List.length_append]; omega), List.take_append_of_le_length (by omega), ← e4, List.take_length]

theorem tk_cut {k f : Int} {s : ByteArray} (h : ptErr k f s.size = 0) (m : Nat) (hm : m < 4 + s.size) : tk ((ptL k f s).take m) = Tk.no 2 := by
  obtain ⟨hk, hf, hn⟩ := ptErr_ok h
  have e4 : s.data.toList.length = s.size := rfl
  by_cases h4 : m < 4
  · exact tk_short _ (by rw [List.length_take]; omega)
  · obtain ⟨j, rfl⟩ : ∃ j, m = j + 4 := ⟨m - 4, by omega⟩
    unfold ptL
    rw [List.take_succ_cons, List.take_succ_cons, List.take_succ_cons, List.take_succ_cons, tk_eq]
    have e0 : ((UInt8.ofNat k.toNat).toNat : Int) = k := by rw [toNat_ofNat (by omega)]; omega
    have e2 : (UInt8.ofNat (s.size / 256)).toNat * 256 + (UInt8.ofNat (s.size % 256)).toNat = s.size := by rw [toNat_ofNat (by omega), toNat_ofNat (by omega)]; omega
    have e3 : knownB k = true := by unfold knownB; rw [decide_eq_true hk.1, decide_eq_true hk.2]; rfl
    rw [e0, e2, e3, if_pos rfl, if_neg (by omega), if_pos (by rw [List.length_take]; omega)]

/-- the frame has no bytes -/
theorem fbackNo (k f cut x : Int) (s b S : ByteArray) (hS : S = ⟨#[]⟩) (hx : (x != 0) = true) (w : World)
    (p1 : ∀ w, Calls Try.prog 13 #[frV k f s] w fun r w' => r = .returned (.tuple #[.string S, i64 x]) ∧ Upd [] w w') :
    Trues 5 #[frV k f s, .string b, i64 cut] w := by
  unfold Trues
  subst hS
  have P1 := Lib.hid p1
  clear p1
  refine post fun R hR => ?_
  go_enter Try.func5, Try.ntmps5
  go_wp2_with (fail)
  refine Calls.mono (P1.out _) ?_
  rintro e w1 ⟨rfl, hu1⟩
  go_wp2_with (fail)
  refine Calls.mono (fawake_c _) ?_
  rintro e w4 ⟨rfl, hu4⟩
  go_wp2_with fail
  exact hR.out _ _ ⟨rfl, ((Upd.refl _ _).alloc _).trans' (hu1.trans' hu4)⟩

set_option maxRecDepth 100000 in
set_option maxHeartbeats 1000000 in
theorem fbackYes (k f cut : Int) (s b S : ByteArray) (w : World) (hn : s.size ≤ 1024) (hS : S.size = 4 + s.size) (hb : b.size ≤ 140737488351232)
    (p1 : ∀ w, Calls Try.prog 13 #[frV k f s] w fun r w' => r = .returned (.tuple #[.string S, i64 0]) ∧ Upd [] w w')
    (p2 : ∀ w, Calls Try.prog 20 #[.string (S ++ b)] w fun r w' => r = .returned (.tuple #[frV k f s, i64 (4 + (s.size : Int)), i64 0]) ∧ Upd [] w w')
    (p3 : ∀ w, Calls Try.prog 15 #[i64 s.size] w fun r w' => r = .returned (i64 (16 + (s.size : Int))) ∧ w = w')
    (p4 : ∀ (m : Nat) w, m < 4 + s.size → Calls Try.prog 20 #[.string (S.extract 0 m)] w fun r w' => r = .returned (.tuple #[frV 0 0 ⟨#[]⟩, i64 0, i64 2]) ∧ Upd [] w w') :
    Trues 5 #[frV k f s, .string b, i64 cut] w := by
  unfold Trues
  have P1 := Lib.hid p1
  have P2 := Lib.hid p2
  have P3 := Lib.hid p3
  have P4 := Lib.hid p4
  clear p1 p2 p3 p4
  have q1 : S.size + b.size ≤ 9223372036854775807 := by omega
  obtain ⟨m, hm, hm0⟩ : ∃ m : Nat, wrap64 ((IntKind.u64.wrap cut).tmod (4 + (s.size : Int))) = (m : Int) ∧ m < 4 + s.size := by
    have h1 : 0 ≤ IntKind.u64.wrap cut := by rw [IntKind.wrap_u64]; omega
    rw [Int.tmod_eq_emod_of_nonneg h1]
    have h2 := Int.emod_nonneg (IntKind.u64.wrap cut) (b := 4 + (s.size : Int)) (by omega)
    have h3 := Int.emod_lt_of_pos (IntKind.u64.wrap cut) (b := 4 + (s.size : Int)) (by omega)
    generalize IntKind.u64.wrap cut % (4 + (s.size : Int)) = y at *
    exact ⟨y.toNat, by rw [IntWalk.wrap64_in _ (by omega)]; omega, by omega⟩
  refine post fun R hR => ?_
  go_enter Try.func5, Try.ntmps5
  go_wp2_with (fail)
  refine Calls.mono (P1.out _) ?_
  rintro e w1 ⟨rfl, hu1⟩
  have a1 := hu1.keep0 (heap_alloc_new w (.cells #[i64 k, i64 f, .string s] 23))
  go_wp2_with (fail)
  refine Calls.mono (P2.out _) ?_
  rintro e w2 ⟨rfl, hu2⟩
  have a2 := hu2.keep0 a1
  obtain ⟨c0, c1, c2, -⟩ := cells3 a2
  have s2 : w.heap.size < w2.heap.size := lt_of_heap a2
  go_wp2_with fail
  refine Calls.mono (P3.out _) ?_
  rintro e w3 ⟨rfl, rfl⟩
  go_wp2_with fail
  refine Calls.mono (P4.out m _ hm0) ?_
  rintro e w4 ⟨rfl, hu4⟩
  go_wp2_with (fail)
  refine Calls.mono (fawake_c _) ?_
  rintro e w5 ⟨rfl, hu5⟩
  go_wp2_with fail
  exact hR.out _ _ ⟨rfl, (((Upd.refl _ _).alloc _).trans' (hu1.trans' hu2)).trans' (((Upd.refl _ _).alloc _).trans' ((hu4.alloc _).trans' hu5))⟩

theorem fback_c (k f cut : Int) (s b : ByteArray) (w : World) (hm : s.size ≤ maxLen) (hb : b.size ≤ 140737488351232) : Trues 5 #[frV k f s, .string b, i64 cut] w := by
  by_cases h : ptErr k f s.size = 0
  · obtain ⟨hk, hf, hn⟩ := ptErr_ok h
    have hS : ptStr k f s = bs (ptL k f s) := ptL_eq k f s h
    have hl : (ptL k f s).length = 4 + s.size := by unfold ptL; simp only [List.length_cons]; show s.data.toList.length + 1 + 1 + 1 + 1 = _; rw [show s.data.toList.length = s.size from rfl]; omega
    have p1 := fun w => put2_c k f s w hm
    rw [h, hS] at p1
    refine fbackYes k f cut s b (bs (ptL k f s)) w hn (by rw [size_bs, hl]) hb p1 (fun w => ?_) (fun w => ?_) (fun m w hm => ?_)
    · have := take3_c (ptL k f s ++ b.data.toList) w (by rw [List.length_append, hl, show b.data.toList.length = b.size from rfl]; unfold maxLen; omega)
      rw [tk_put h, show bs (ptL k f s ++ b.data.toList) = bs (ptL k f s) ++ b from by apply ByteArray.ext; simp] at this
      simpa using this
    · have := cost_c s.size w
      rw [show costN s.size = 16 + (s.size : Int) from by unfold costN; omega] at this
      exact this
    · have := take3_c ((ptL k f s).take m) w (by rw [List.length_take]; unfold maxLen; omega)
      rw [tk_cut h m hm, show bs ((ptL k f s).take m) = (bs (ptL k f s)).extract 0 m from by apply ByteArray.ext; simp [ByteArray.data_extract]] at this
      exact this
  · have p1 := fun w => put2_c k f s w hm
    refine fbackNo k f cut (ptErr k f s.size) s b (ptStr k f s) (by unfold ptStr; rw [if_neg h]) (by simpa using h) w p1

set_option maxRecDepth 100000 in
theorem frameBack_walk {H : Type} {enc : TypeId × Value → H} {W : World} {base : Nat} {args : Array Value} {ds gs : List (DataW H)} {before : List MemPlace}
    (hval : ∀ (j : Nat) t v, Try.f5.params[j]? = some t → args[j]? = some v → Value.okWide Try.prog W .any base t v)
    (hW : DataW.Whole enc Try.prog Try.f5.params.toList [] false W args.toList ds gs before)
    (hsz : (DataW.weightsEach Try.prog (Try.f5.params.toList ++ []) (ds ++ gs)).all (· ≤ reachBytes) = true) : Trues 5 args W := by
  obtain ⟨p, q, hA, hV, rfl, -, -⟩ := hW
  obtain ⟨rfl, rfl⟩ := trodVars_none hV
  rw [Try.params5] at hA hval hsz
  obtain ⟨v0, v1, v2, d0, d1, d2, p0, p1, p2, rfl, rfl, rfl, h0, h1, h2⟩ := trodAll_three hA
  obtain ⟨vs, rfl, hk⟩ := open_struct Try.underlying23 flat_frameB (hval 0 23 v0 rfl rfl) h0
  obtain ⟨a, r, rfl, ha, hk⟩ := hk.i64
  obtain ⟨f, r, rfl, hf, hk⟩ := hk.i64
  obtain ⟨s, r, rfl, hs, hk⟩ := hk.str
  obtain rfl := hk.none
  obtain ⟨b, rfl, rfl, rfl, hb⟩ := open_string Try.underlying9 (hval 1 9 v1 rfl rfl) h1
  obtain ⟨cut, rfl, rfl, rfl, wn⟩ := open_int Try.underlying3 (hval 2 3 v2 rfl rfl) h2
  have hz : b.size ≤ 140737488351232 := by
    have := hsz
    simp only [List.append_nil, DataW.weightsEach, List.all_append, Bool.and_eq_true] at this
    have h3 := this.2.1
    simp only [DataW.weights, List.all_cons, Bool.and_eq_true, reachBytes] at h3
    exact of_decide_eq_true h3.1
  exact fback_c a f cut s b W hs hz

set_option maxRecDepth 100000 in
theorem frameBack_lifted (os : Os) (started : os.Started) (H : Type) (enc : TypeId × Value → H) :
    ReturnsInHanded {} Try.checked os 5 .any (Rows.frameBackSpec.pre6 enc Try.prog Try.f5 Rows.frameBackRow.domain false) (Rows.frameBackSpec.post enc Try.prog Try.f5 false true false false) := by
  refine returnsInHanded_of_change_sized (C := Try.checked) own started (by kernel_rfl) Try.func5
    (ChangeSpec.witness6 (enc := enc) (C := Try.checked) false ⟨#[], #[.agg #[.int .i64 0, .int .i64 0, .string .empty], .string .empty, .int .i64 0], []⟩ 8 (by kernel_rfl) (by kernel_rfl) (by kernel_rfl) (by kernel_rfl)) ?_
  intro W base args ds gs before hval hW hcnd hsz _
  refine Calls.mono (frameBack_walk hval hW hsz) fun e W' ⟨he, hu⟩ => ?_
  exact ⟨_, he, law_post rfl rfl (by kernel_rfl) hW (fun ds h => by match ds, h with | [_, _, _], _ => rfl) hu⟩

set_option maxRecDepth 100000 in
theorem frameBack_over : Rows.frameBackRow.holds Try.pinned (OpenSpec.ofChange Rows.frameBackSpec) :=
  OpenClaim.holds_of_wide 5 Try.f5 rfl rfl rfl rfl rfl rfl rfl ⟨rfl, rfl, rfl, rfl, rfl⟩ rfl rfl rfl rfl rfl (by kernel_rfl) Try.func5 (by kernel_rfl)
    (of_decide_eq_true (by kernel_rfl)) (by unfold Func.isWrapper; first | (rw [if_pos (by decide +kernel)]; kernel_rfl) | (rw [if_neg (by decide +kernel)]; exact ⟨rfl, rfl⟩))
    (fun os started H enc _ => frameBack_lifted os started H enc)

theorem frameBack_proved : Rows.FrameBackSaid := frameBack_over
end Go.Proofs.Ytagadbgbicebaaa
