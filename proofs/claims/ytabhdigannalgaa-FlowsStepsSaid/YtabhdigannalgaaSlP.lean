/-
  The contracts of package slices' functions over one-cell elements. Conditions: the slice is the call's own, no longer than a thousand.
-/
import Derived.Test.YtabhdigannalgaaProg
import Derived.Test.YtabhdigannalgaaSub
import Derived.LaidEqlPtr
import Derived.Deep.RegionLaw
import Derived.BigQuiet
namespace Go.Proofs.Ytabhdigannalgaa
open Go Go.RowKit

/-- the elements' cells -/
def evs (l : List Nat) : List Value := l.map fun x => .pointer (some ⟨x, 0, none⟩)
abbrev ev (x : Nat) : Value := (.pointer (some ⟨x, 0, none⟩))
theorem evs_len (l : List Nat) : (evs l).length = l.length := by simp [evs]
theorem evs_get {l : List Nat} {k : Nat} (h : k < l.length) : (evs l)[k]? = some (ev l[k]) := by unfold evs; rw [List.getElem?_map, List.getElem?_eq_getElem h]; rfl
theorem evs_append (a b : List Nat) : evs (a ++ b) = evs a ++ evs b := by simp [evs]
theorem evs_take (l : List Nat) (n : Nat) : evs (l.take n) = (evs l).take n := by simp [evs]
theorem evs_drop (l : List Nat) (n : Nat) : evs (l.drop n) = (evs l).drop n := by simp [evs]
theorem evs_set (l : List Nat) (n : Nat) (x : Nat) : evs (l.set n x) = (evs l).set n (ev x) := by simp [evs]
theorem evs_one (l : List Nat) : ∀ u ∈ evs l, u.oneCell' = true := by
  intro u hu
  unfold evs at hu
  obtain ⟨x, _, rfl⟩ := List.mem_map.1 hu
  rfl

/-- the first place of an element that answers yes; -1: none -/
def ixP (p : Nat → Bool) (l : List Nat) : Int := if l.findIdx p < l.length then l.findIdx p else -1
theorem ixP_hit {p : Nat → Bool} {l : List Nat} {k : Nat} (hk : k < l.length) (h : p l[k] = true) (hn : ∀ j, j < k → ∀ h : j < l.length, p l[j] = false) : ixP p l = k := by
  have : l.findIdx p = k := by
    rw [List.findIdx_eq hk]
    exact ⟨h, fun j hj => hn j hj (by omega)⟩
  unfold ixP; rw [this, if_pos hk]
theorem ixP_miss {p : Nat → Bool} {l : List Nat} (hn : ∀ j (h : j < l.length), p l[j] = false) : ixP p l = -1 := by
  unfold ixP
  rw [if_neg]
  rw [List.findIdx_lt_length]
  rintro ⟨x, hx, hp⟩
  obtain ⟨i, hi, rfl⟩ := List.getElem_of_mem hx
  rw [hn i hi] at hp; cases hp

theorem elem_ne {x y : Nat} (h : ¬ x = y) : (x == y) = false := by simpa using h
/-- a pointer's flow is there -/
def Lv (w : World) (x : Nat) : Prop := ∃ cs, w.heap[x]? = some (.cells cs 98 (0, 0))
theorem Lv.keep {w w' : World} {g : Nat} {cs : Array Value} {x : Nat} (h : Lv w x) (hu : Upd [g] w w') (hg : w.heap[g]? = some (.cells cs 96 (0, 0))) : Lv w' x := by
  obtain ⟨c2, hc⟩ := h
  refine ⟨c2, hu.keep hc ?_⟩
  intro hm
  simp at hm
  subst hm
  rw [hc] at hg; injection hg with hg; injection hg with _ hg; cases hg
theorem info_flow : (Try.prog.info? 98).map (fun i => decide (i.size = 0)) = some false := by kernel_rfl
theorem eql_ev {w : World} {x y : Nat} (hx : Lv w x) (hy : Lv w y) : (binOp .eql 96 (ev x) (ev y)).run Try.prog w = .ok (.bool (x == y)) w := by
  obtain ⟨i, hi, hs⟩ := Option.map_eq_some_iff.1 info_flow
  obtain ⟨c1, h1⟩ := hx
  obtain ⟨c2, h2⟩ := hy
  by_cases h : x = y
  · subst h
    simpa using run_eql_ptr_same (P := Try.prog) w ⟨x, 0, none⟩ Try.underlying96 hi
  · rw [elem_ne h]; exact run_eql_ptr_other (P := Try.prog) w (a := ⟨x, 0, none⟩) (b := ⟨y, 0, none⟩) Try.underlying96 hi (by simpa using hs) (by intro e; injection e with e; exact h e) h1 h2


/-- a part of a slice: its beginning -/
theorem Sub.pre {w : World} {base : Nat} {e : TypeId} {size : Nat} {g off n cap : Nat} {xs : List Value} (h : Sub w base e size (.slice (some ⟨g, off, none⟩) n cap) n xs) {m : Nat} (hm : m ≤ n) :
    Sub w base e size (.slice (some ⟨g, off, none⟩) m cap) m (xs.take (m * size)) := by
  obtain ⟨hl, h⟩ := h
  rcases h with ⟨h, _⟩ | ⟨g', off', cap', cs, he, h2, h3, h4, h5, h6, h7⟩
  · cases h
  · injection he with e1 e2 e3
    injection e1 with e1
    injection e1 with e4 e5
    subst e4; subst e5; subst e3
    have hms : m * size ≤ n * size := Nat.mul_le_mul_right _ hm
    refine ⟨by rw [List.length_take, hl]; omega, .inr ⟨g, off, cap, cs, rfl, h2, h3, by omega, h5, h6, fun j hj => ?_⟩⟩
    rw [List.getElem?_take, if_pos hj]
    exact h7 j (by omega)

/-- writes behind a slice's end do not touch it -/
theorem Sub.behind {w : World} {base : Nat} {e : TypeId} {size : Nat} {g off n cap : Nat} {xs : List Value} (h : Sub w base e size (.slice (some ⟨g, off, none⟩) n cap) n xs) {o : Nat} {zs : List Value} (ho : off + n * size ≤ o) (hz : o + zs.length ≤ off + cap * size) :
    Sub (w.setCells g o zs) base e size (.slice (some ⟨g, off, none⟩) n cap) n xs ∧ Upd [g] w (w.setCells g o zs) := by
  obtain ⟨hl, h⟩ := h
  rcases h with ⟨h, _⟩ | ⟨g', off', cap', cs, he, h2, h3, h4, h5, h6, h7⟩
  · cases h
  · injection he with e1 e2 e3
    injection e1 with e1
    injection e1 with e4 e5
    subst e4; subst e5; subst e3
    obtain ⟨cs', q1, q2, q3, q4, q5⟩ := heap_setCells w g o zs h3 (by omega)
    exact ⟨⟨hl, .inr ⟨g, off, cap, cs', rfl, h2, q1, h4, h5, by omega, fun j hj => (q3 _ (by omega)).trans (h7 j hj)⟩⟩, q5⟩

set_option maxRecDepth 100000 in
set_option maxHeartbeats 1000000 in
theorem sidx_c {w : World} {base : Nat} {v : Value} {l : List Nat} (h : Sub w base 96 1 v l.length (evs l)) (hlen : l.length ≤ 1000) {x : Nat} (hx : Lv w x) (hL : ∀ y ∈ l, Lv w y) :
    Calls Try.prog 75 #[v, ev x] w fun e w' => e = .returned (i64 (ixP (fun y => decide (x = y)) l)) ∧ w = w' := by
  obtain ⟨ao, cap, rfl, hcap, hrow⟩ := h.form
  by_cases h0 : 0 < l.length
  · obtain ⟨g, off, rfl, -, -, hcs⟩ := hrow h0
    have HCS := Lib.hid hcs
    have HX := Lib.hid hx
    have HLV := Lib.hid hL
    clear hcs hrow h hx hL
    refine post fun R hR => ?_
    go_enter Try.func75, Try.ntmps75
    go_wp2_with fail
    go_loop [5, 8] (fun _ i => ∃ k : Nat, i = i64 k ∧ k ≤ l.length ∧ (∀ j, j < k → ∀ h : j < l.length, decide (x = l[j]) = false)) (fun _ i => l.length - (intOf i).toNat)
    case atStart => exact ⟨0, rfl, Nat.zero_le _, fun j hj => by omega⟩
    case round =>
      obtain ⟨k, rfl, hk, hno⟩ := hrel
      have HNO := Lib.hid hno
      clear hno
      by_cases hlt : k < l.length
      · have c1 := HCS.out k _ (evs_get hlt)
        have hq := eql_ev HX.out (HLV.out _ (List.getElem_mem hlt))
        by_cases he : x = l[k]
        · have hf := ixP_hit (p := fun y => decide (x = y)) hlt (by simpa using he) HNO.out
          have HF := Lib.hid hf
          rw [← he] at c1 hq
          rw [beq_self_eq_true] at hq
          clear hf he
          go_wp2_with fail
          exact hR.out _ _ ⟨ret_i HF.out.symm, rfl⟩
        · have HE := Lib.hid he
          have hne := elem_ne he
          rw [hne] at hq
          generalize hy : l[k] = y at c1 hq hne
          clear hy he
          go_wp2_with fail
          go_round
          case rel =>
            refine ⟨k + 1, by go_num, by omega, fun j hj h => ?_⟩
            by_cases e : j = k
            · subst e; simpa using HE.out
            · exact HNO.out j (by omega) h
          case measure => simp [intOf]; omega
      · have hf := ixP_miss (p := fun y => decide (x = y)) (l := l) (fun j h => HNO.out j (by omega) h)
        have HF := Lib.hid hf
        clear hf
        go_wp2_with fail
        exact hR.out _ _ ⟨ret_i HF.out.symm, rfl⟩
  · obtain rfl : l = [] := List.eq_nil_of_length_eq_zero (by omega)
    clear h hrow
    refine post fun R hR => ?_
    go_enter Try.func75, Try.ntmps75
    go_wp2_with fail
    refine wp_loop_once ?_
    go_wp2_with fail
    exact hR.out _ _ ⟨rfl, rfl⟩

def hasB (x : Nat) (l : List Nat) : Bool := decide (x ∈ l)
theorem hasB_ix (x : Nat) (l : List Nat) : decide (0 ≤ ixP (fun y => decide (x = y)) l) = hasB x l := by
  unfold hasB ixP
  rw [decide_eq_decide]
  split
  · rename_i h
    rw [List.findIdx_lt_length] at h
    obtain ⟨y, hy, e⟩ := h
    have : x = y := by simpa using e
    subst this
    exact ⟨fun _ => hy, fun _ => by omega⟩
  · rename_i h
    refine ⟨fun h => by omega, fun hx => ?_⟩
    apply (h _).elim
    rw [List.findIdx_lt_length]
    exact ⟨x, hx, by simp⟩

set_option maxHeartbeats 400000 in
theorem shas_c {w : World} {base : Nat} {v : Value} {l : List Nat} (h : Sub w base 96 1 v l.length (evs l)) (hlen : l.length ≤ 1000) {x : Nat} (hx : Lv w x) (hL : ∀ y ∈ l, Lv w y) :
    Calls Try.prog 73 #[v, ev x] w fun e w' => e = .returned (.bool (hasB x l)) ∧ w = w' := by
  have hi := sidx_c h hlen hx hL
  have hh := hasB_ix x l
  generalize ixP (fun y => decide (x = y)) l = X at *
  have HI := Lib.hid hi
  have HH := Lib.hid hh
  clear hi hh h hx hL
  refine post fun R hR => ?_
  go_enter Try.func73, Try.ntmps73
  go_wp2_with fail
  refine HI.out.mono ?_
  rintro e w2 ⟨rfl, rfl⟩
  go_wp2_with fail
  exact hR.out _ _ ⟨by (rw [← HH.out]; try rfl), rfl⟩

theorem info_el : (Try.prog.info? 96).map (fun i => (i.zero, i.size, i.bytes)) = some (some (.pointer none), 1, 8) := by kernel_rfl

/-- the closure that asks for x -/
theorem sclo_c {w : World} {c : Nat} {x : Nat} (hc : w.heap[c]? = some (.cells #[ev x] 96 (0, 0))) {y : Nat} (hx : Lv w x) (hy : Lv w y) :
    Calls Try.prog 71 #[ev y, .pointer (some ⟨c, 0, none⟩)] w fun e w' => e = .returned (.bool (decide (y = x))) ∧ w = w' := by
  obtain ⟨c0, f0⟩ := cells1 hc
  clear hc
  have hq := eql_ev hy hx
  clear hx hy
  by_cases h : y = x
  · subst h
    rw [beq_self_eq_true] at hq
    refine post fun R hR => ?_
    go_enter Try.func71, Try.ntmps71
    go_wp2_with fail
    exact hR.out _ _ ⟨by (first | rfl | simp), rfl⟩
  · have hq := elem_ne h
    have H := Lib.hid (decide_eq_false h)
    clear h
    refine post fun R hR => ?_
    go_enter Try.func71, Try.ntmps71
    go_wp2_with fail
    exact hR.out _ _ ⟨by (rw [H.out]; try rfl), rfl⟩

set_option maxRecDepth 100000 in
set_option maxHeartbeats 1000000 in
theorem sixf_c {w : World} {base : Nat} {v : Value} {l : List Nat} (h : Sub w base 96 1 v l.length (evs l)) (hlen : l.length ≤ 1000) {c : Nat} {x : Nat} (hc : w.heap[c]? = some (.cells #[ev x] 96 (0, 0))) (hx : Lv w x) (hL : ∀ y ∈ l, Lv w y) :
    Calls Try.prog 74 #[v, .func (.func 71) #[] #[.pointer (some ⟨c, 0, none⟩)]] w fun e w' => e = .returned (i64 (ixP (fun y => decide (y = x)) l)) ∧ w = w' := by
  obtain ⟨ao, cap, rfl, hcap, hrow⟩ := h.form
  have HCL := Lib.hid (fun y (hy : y ∈ l) => sclo_c hc hx (hL y hy))
  clear hc hx hL
  by_cases h0 : 0 < l.length
  · obtain ⟨g, off, rfl, -, -, hcs⟩ := hrow h0
    have HCS := Lib.hid hcs
    clear hcs hrow h
    refine post fun R hR => ?_
    go_enter Try.func74, Try.ntmps74
    go_wp2_with fail
    go_loop [5, 8] (fun _ i => ∃ k : Nat, i = i64 k ∧ k ≤ l.length ∧ (∀ j, j < k → ∀ h : j < l.length, decide (l[j] = x) = false)) (fun _ i => l.length - (intOf i).toNat)
    case atStart => exact ⟨0, rfl, Nat.zero_le _, fun j hj => by omega⟩
    case round =>
      obtain ⟨k, rfl, hk, hno⟩ := hrel
      have HNO := Lib.hid hno
      clear hno
      by_cases hlt : k < l.length
      · have c1 := HCS.out k _ (evs_get hlt)
        have hcl := HCL.out l[k] (List.getElem_mem hlt)
        by_cases he : l[k] = x
        · have hf := ixP_hit (p := fun y => decide (y = x)) hlt (by simpa using he) HNO.out
          have HF := Lib.hid hf
          rw [decide_eq_true he] at hcl
          have HC := Lib.hid hcl
          clear hf he hcl
          generalize l[k] = y at c1 HC
          go_wp2_with (fail)
          refine HC.out.mono ?_
          rintro e w2 ⟨rfl, rfl⟩
          go_wp2_with fail
          exact hR.out _ _ ⟨ret_i HF.out.symm, rfl⟩
        · have HE := Lib.hid he
          rw [decide_eq_false he] at hcl
          have HC := Lib.hid hcl
          clear hcl
          generalize hy : l[k] = y at c1 HC
          clear hy he
          go_wp2_with (fail)
          refine HC.out.mono ?_
          rintro e w2 ⟨rfl, rfl⟩
          go_wp2_with fail
          go_round
          case rel =>
            refine ⟨k + 1, by go_num, by omega, fun j hj h => ?_⟩
            by_cases e : j = k
            · subst e; simpa using HE.out
            · exact HNO.out j (by omega) h
          case measure => simp [intOf]; omega
      · have hf := ixP_miss (p := fun y => decide (y = x)) (l := l) (fun j h => HNO.out j (by omega) h)
        have HF := Lib.hid hf
        clear hf
        go_wp2_with fail
        exact hR.out _ _ ⟨ret_i HF.out.symm, rfl⟩
  · obtain rfl : l = [] := List.eq_nil_of_length_eq_zero (by omega)
    clear h hrow
    refine post fun R hR => ?_
    go_enter Try.func74, Try.ntmps74
    go_wp2_with fail
    refine wp_loop_once ?_
    go_wp2_with fail
    exact hR.out _ _ ⟨rfl, rfl⟩
end Go.Proofs.Ytabhdigannalgaa
