/-
  The contracts of the document's look-ups (concourseref11) and of chapter 11's example. Condition: lengths within the machine's bounds.
-/
import Derived.Test.YtagnclphmhjoiaaNamOf
namespace Go.Proofs.Ytagnclphmhjoiaa
open Go Go.RowKit Go.Maps

/-- the place of a name; -1: none -/
def fndR (l : List Dc) (s : ByteArray) : Int := if fnd l s < l.length then fnd l s else -1

theorem fnd_hit {l : List Dc} {s : ByteArray} {k : Nat} (hk : k < l.length) (h : l[k].name = s) (hn : ∀ j, j < k → ∀ h : j < l.length, l[j].name ≠ s) : fnd l s = k := by
  unfold fnd
  rw [List.findIdx_eq hk]
  exact ⟨by simpa using h, fun j hj => by simpa using hn j hj (by omega)⟩
theorem fnd_miss {l : List Dc} {s : ByteArray} (hn : ∀ j (h : j < l.length), l[j].name ≠ s) : fnd l s = l.length := by
  unfold fnd
  rw [List.findIdx_eq_length]
  intro x hx
  obtain ⟨i, hi, rfl⟩ := List.getElem_of_mem hx
  simpa using hn i hi

set_option maxRecDepth 100000 in
set_option maxHeartbeats 1000000 in
theorem rfind_c (b off cap : Nat) (l : List Dc) (s : ByteArray) (w : World) (hlen : l.length ≤ 2000000000000) (hrows : DRows w b off l) (hb : b < w.heap.size) :
    Calls Try.prog 10 #[.slice (some ⟨b, off, none⟩) l.length cap, .string s] w fun e w' => e = .returned (i64 (fndR l s)) ∧ w = w' := by
  have HRows := Lib.hid hrows
  clear hrows
  refine post fun R hR => ?_
  go_enter Try.func10, Try.ntmps10
  go_wp2_with (fail)
  go_loop [5] (fun i => ∃ k : Nat, i = i64 k ∧ k ≤ l.length ∧ (∀ j, j < k → ∀ h : j < l.length, l[j].name ≠ s)) (fun i => l.length - (intOf i).toNat)
  case atStart => exact ⟨0, rfl, Nat.zero_le _, fun j hj => by omega⟩
  case round =>
    obtain ⟨k, rfl, hk, hno⟩ := hrel
    have HNO := Lib.hid hno
    clear hno
    by_cases hlt : k < l.length
    · obtain ⟨c0, c1, c2, c3, c4⟩ := drow HRows.out (Upd.refl [] w) hb (by simp) hlt
      by_cases he : l[k].name = s
      · have hf := fnd_hit hlt he HNO.out
        have hf2 : fndR l s = k := by unfold fndR; rw [hf, if_pos hlt]
        have hq := str_eq he
        have HF := Lib.hid hf2
        generalize l[k].name = nm at *
        clear hf hf2 he
        go_wp2_with (fail)
        exact hR.out _ _ ⟨ret_i HF.out.symm, rfl⟩
      · have hq := str_ne he
        have HE := Lib.hid he
        clear he
        generalize hnm : l[k].name = nm at c1 hq
        clear hnm
        go_wp2_with (fail)
        go_round
        case rel =>
          refine ⟨k + 1, by go_num, by omega, fun j hj h => ?_⟩
          by_cases e : j = k
          · subst e; exact HE.out
          · exact HNO.out j (by omega) h
        case measure => simp [intOf]; omega
    · have hf := fnd_miss (l := l) (s := s) (fun j h => HNO.out j (by omega) h)
      have hf2 : fndR l s = -1 := by unfold fndR; rw [hf, if_neg (by omega)]
      have HF := Lib.hid hf2
      clear hf hf2
      go_wp2_with (fail)
      exact hR.out _ _ ⟨ret_i HF.out.symm, rfl⟩

theorem rfind0_c (ao : Option Addr) (cap : Nat) (s : ByteArray) (w : World) :
    Calls Try.prog 10 #[.slice ao 0 cap, .string s] w fun e w' => e = .returned (i64 (-1)) ∧ w = w' := by
  refine post fun R hR => ?_
  go_enter Try.func10, Try.ntmps10
  go_wp2_with (fail)
  refine wp_loop_once ?_
  go_wp2_with (fail)
  exact hR.out _ _ ⟨rfl, rfl⟩

/-- a list of declarations as an argument: its address where it has any -/
def DArg (w : World) (ao : Option Addr) (l : List Dc) : Prop := l = [] ∨ ∃ b off, ao = some ⟨b, off, none⟩ ∧ b < w.heap.size ∧ DRows w b off l
theorem DArg.upd {w w' : World} {ao : Option Addr} {l : List Dc} (h : DArg w ao l) (hu : Upd [] w w') : DArg w' ao l := by
  rcases h with h | ⟨b, off, h1, h2, h3⟩
  · exact .inl h
  · exact .inr ⟨b, off, h1, Nat.lt_of_lt_of_le h2 hu.size, fun i s hs j hj => (World.cell?_of_block (a := ⟨b, off + i * 5 + j, none⟩) (hu.block b h2 (by simp))).trans (h3 i s hs j hj)⟩

theorem rfindA_c {ao : Option Addr} {cap : Nat} {l : List Dc} {w : World} (h : DArg w ao l) (s : ByteArray) (hlen : l.length ≤ 2000000000000) :
    Calls Try.prog 10 #[.slice ao l.length cap, .string s] w fun e w' => e = .returned (i64 (fndR l s)) ∧ w = w' := by
  rcases h with rfl | ⟨b, off, rfl, hb, hr⟩
  · exact rfind0_c ao cap s w
  · exact rfind_c b off cap l s w hlen hr hb

theorem of0_c (ao : Option Addr) (cap : Nat) (w : World) :
    Calls Try.prog 8 #[.slice ao 0 cap] w fun e w' => ∃ T M v n D, e = .returned (.pointer (some ⟨T, 0, none⟩)) ∧ TabAt w' T M v n D [] ∧ Upd [] w w' := by
  have hmm := @run_makeMap Try.prog
  refine post fun R hR => ?_
  go_enter Try.func8, Try.ntmps8
  go_wp2_with (fail)
  refine wp_loop_once ?_
  go_wp2_with (fail)
  exact hR.out _ _ ⟨_, _, _, 0, _, rfl, ⟨heap_new2 _ _ _, (World.ownsMap_made _ _ _ _).alloc _, datOk_nil, by simp, sub_nil _ _ _ _⟩, ((Upd.refl _ _).alloc _).alloc _⟩

theorem ofA_c {ao : Option Addr} {cap : Nat} {l : List Dc} {w : World} (h : DArg w ao l) (hlen : l.length ≤ 2000000000000) (hgood : ∀ x ∈ l, x.name.size ≤ maxLen) :
    Calls Try.prog 8 #[.slice ao l.length cap] w fun e w' => ∃ T M v n D, e = .returned (.pointer (some ⟨T, 0, none⟩)) ∧ TabAt w' T M v n D l ∧ Upd [] w w' := by
  rcases h with rfl | ⟨b, off, rfl, hb, hr⟩
  · exact of0_c ao cap w
  · cases l with
    | nil => exact of0_c _ cap w
    | cons x r => exact of_c b off cap (x :: r) w hlen hr hb hgood (by simp)

theorem rkind_c {ao : Option Addr} {cap : Nat} {l : List Dc} {w : World} (h : DArg w ao l) (s : ByteArray) (hlen : l.length ≤ 2000000000000) :
    Calls Try.prog 12 #[.slice ao l.length cap, .string s] w fun e w' => e = .returned (i64 (kindOf l s)) ∧ w = w' := by
  have hf := rfindA_c (cap := cap) h s hlen
  by_cases hlt : fnd l s < l.length
  · rcases h with rfl | ⟨b, off, rfl, hb, hr⟩
    · simp at hlt
    · obtain ⟨c0, -⟩ := drow hr (Upd.refl [] w) hb (by simp) hlt
      rw [show fndR l s = (fnd l s : Int) from by unfold fndR; rw [if_pos hlt]] at hf
      rw [show kindOf l s = l[fnd l s].kind from by unfold kindOf; rw [List.getElem?_eq_getElem hlt]; rfl]
      generalize l[fnd l s].kind = K at *
      generalize fnd l s = F at *
      have HF := Lib.hid hf
      clear hf hr
      refine post fun R hR => ?_
      go_enter Try.func12, Try.ntmps12
      go_wp2_with (fail)
      refine Calls.mono (HF.out) ?_
      rintro e w2 ⟨rfl, rfl⟩
      go_wp2_with fail
      exact hR.out _ _ ⟨rfl, rfl⟩
  · rw [show fndR l s = -1 from by unfold fndR; rw [if_neg hlt]] at hf
    rw [show kindOf l s = 0 from by unfold kindOf; rw [List.getElem?_eq_none (by omega)]; rfl]
    have HF := Lib.hid hf
    clear hf h
    refine post fun R hR => ?_
    go_enter Try.func12, Try.ntmps12
    go_wp2_with (fail)
    refine Calls.mono (HF.out) ?_
    rintro e w2 ⟨rfl, rfl⟩
    go_wp2_with fail
    exact hR.out _ _ ⟨rfl, rfl⟩

theorem n11awake_c (w : World) : Calls Try.prog 13 #[] w fun e w' => e = .returned (.bool true) ∧ Upd [] w w' := by
  obtain ⟨l, hl⟩ : ∃ l : List Dc, l = [⟨1, ⟨#[80]⟩, none, 0, 0, none, 0, 0, 0⟩, ⟨3, ⟨#[69]⟩, none, 0, 0, none, 0, 0, 0⟩] := ⟨_, rfl⟩
  have hof := fun (w' : World) (hh : w'.heap[w.heap.size]? = some (.cells #[i64 1, .string ⟨#[80]⟩, .slice none 0 0, .slice none 0 0, i64 0, i64 3, .string ⟨#[69]⟩, .slice none 0 0, .slice none 0 0, i64 0] 34 (0, 0))) =>
    ofA_c (ao := some ⟨w.heap.size, 0, none⟩) (cap := 2) (l := l) (w := w') (.inr ⟨_, _, rfl, lt_of_heap hh, by
      subst hl
      intro i s hs j hj
      rw [cellOf hh]
      match i, hs with
      | 0, hs => simp at hs; subst hs; match j, hj with
        | 0, _ => rfl
        | 1, _ => rfl
        | 2, _ => rfl
        | 3, _ => rfl
        | 4, _ => rfl
      | 1, hs => simp at hs; subst hs; match j, hj with
        | 0, _ => rfl
        | 1, _ => rfl
        | 2, _ => rfl
        | 3, _ => rfl
        | 4, _ => rfl
      | i + 2, hs => simp at hs⟩) (by subst hl; decide) (by subst hl; intro x hx; simp at hx; rcases hx with rfl | rfl <;> decide)
  have hl2 : l.length = 2 := by rw [hl]; rfl
  rw [hl2] at hof
  have hi : fndI l ⟨#[69]⟩ = 1 := by rw [hl]; decide
  have hb : fndB l ⟨#[69]⟩ = true := by rw [hl]; decide
  have HI := Lib.hid hi
  have HB := Lib.hid hb
  have HOF := Lib.hid hof
  clear hof hl hl2 hi hb
  refine post fun R hR => ?_
  go_enter Try.func13, Try.ntmps13
  go_wp2_with fail
  refine Calls.mono (HOF.out _ (heap_alloc_new _ _)) ?_
  rintro e w2 ⟨T, M, v, n, D, rfl, hT, hu⟩
  go_wp2_with fail
  refine Calls.mono (find_c hT _ (by decide)) ?_
  rintro e w3 ⟨rfl, rfl⟩
  rw [HI.out, HB.out]
  go_wp2_with fail
  exact hR.out _ _ ⟨rfl, ((Upd.refl _ _).alloc _).trans' hu⟩
end Go.Proofs.Ytagnclphmhjoiaa
