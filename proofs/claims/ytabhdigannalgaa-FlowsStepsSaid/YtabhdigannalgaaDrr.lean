/-
  Chapter 25's ring: its map of flows, and the contracts that look into it. Condition: the map is the call's own.
-/
import Derived.Test.YtabhdigannalgaaSlDP
import Derived.Maps.OwnSet
import Derived.Maps.OwnOps
namespace Go.Proofs.Ytabhdigannalgaa
open Go Go.RowKit Go.Maps

/-- how a pointer reads: by its block -/
def pR : Value → Option (DataW Unit × List MemPlace)
  | .pointer none => some (.nil, [])
  | .pointer (some ⟨b, 0, none⟩) => some (.lit (.int .i64 b), [])
  | _ => none
def ptrO : Option Nat → Value
  | none => .pointer none
  | some b => .pointer (some ⟨b, 0, none⟩)
def fdat : Option Nat → DataW Unit
  | none => .nil
  | some b => .lit (.int .i64 b)
theorem pR_inv {v : Value} {o : Option Nat} {ps : List MemPlace} (h : pR v = some (fdat o, ps)) : v = ptrO o := by
  unfold pR at h
  split at h
  · cases o with
    | none => rfl
    | some b => simp [fdat] at h
  · cases o with
    | none => simp [fdat] at h
    | some b =>
      simp [fdat] at h
      have : ∀ c : Nat, ((c : Int) = b) → c = b := fun c hc => by omega
      rw [this _ h.1]; rfl
  · cases h

theorem ikey : Keyed Try.prog 3 := int_keyed Try.underlying3
theorem ikey_of {k : Int} (h : (Lit.int .i64 k).wf = true) : keyOf Try.prog 3 (i64 k) = some (.int .i64 k) := keyOf_int_mk Try.underlying3 h
theorem iwf {k : Int} (h : -9223372036854775808 ≤ k ∧ k ≤ 9223372036854775807) : (Lit.int .i64 k).wf = true := by
  simp only [Lit.wf, Bool.and_eq_true, decide_eq_true_eq]
  rw [show IntKind.i64.min = -9223372036854775808 from rfl, show IntKind.i64.max = 9223372036854775807 from rfl]
  exact h
theorem zero_ptr (w : World) : (zeroValue 96).run Try.prog w = .ok (.pointer none) w := zero_el w

/-- block M is a map whose entries are f -/
def FlMap (w : World) (M n : Nat) (f : Int → Option Nat) : Prop :=
  ∃ D, w.ownsMap Try.prog 3 pR M n D ∧ ∀ k, D.atKey (.int .i64 k) .nil = fdat (f k)

theorem FlMap.upd {S : List Nat} {w w' : World} {M n : Nat} {f : Int → Option Nat} (h : FlMap w M n f) (hu : Upd S w w') (hM : M ∉ S) : FlMap w' M n f := by
  obtain ⟨D, h1, h2⟩ := h
  have hlt := h1.lt
  obtain ⟨es, clock, hb', F, hs, hD⟩ := h1
  exact ⟨D, ⟨es, clock, (hu.block M hlt hM).trans hb', F, hs, hD⟩, h2⟩

theorem flMap_new (w : World) : FlMap (w.alloc (.map #[] 0)) w.heap.size 0 fun _ => none :=
  ⟨_, World.ownsMap_made _ _ _ _, fun _ => rfl⟩

theorem FlMap.look {w : World} {M n : Nat} {f : Int → Option Nat} (h : FlMap w M n f) {k : Int} (hk : (Lit.int .i64 k).wf = true) :
    (Instr.lookup 25 (.map (some M)) (i64 k) false).run Try.prog w = .ok (ptrO (f k)) w := by
  obtain ⟨D, h1, h2⟩ := h
  obtain ⟨v, ps, hrun, hv⟩ := h1.lookup ikey Try.underlying25 (zero_ptr w) (zd := .nil) (zp := []) rfl (ikey_of hk)
  rw [h2] at hv
  rw [hrun, pR_inv hv]
theorem look_none (w : World) {k : Int} (hk : (Lit.int .i64 k).wf = true) :
    (Instr.lookup 25 (.map none) (i64 k) false).run Try.prog w = .ok (.pointer none) w := Maps.look_nil false ikey Try.underlying25 (zero_ptr w) (ikey_of hk)

theorem FlMap.put {w : World} {M n : Nat} {f : Int → Option Nat} (h : FlMap w M n f) (hn : n < maxLen) {k : Int} (hk : (Lit.int .i64 k).wf = true) (b : Nat) :
    ∃ w', (Instr.mapUpdate 25 (.map (some M)) (i64 k) (.pointer (some ⟨b, 0, none⟩))).run Try.prog w = .ok () w' ∧ FlMap w' M (n + 1) (fun j => if j = k then some b else f j) ∧ Upd [M] w w' := by
  obtain ⟨D, h1, h2⟩ := h
  obtain ⟨w', hrun, h3, h4⟩ := h1.update ikey Try.underlying25 hn (ikey_of hk) (val := .pointer (some ⟨b, 0, none⟩)) (d := .lit (.int .i64 b)) (ps := []) rfl
  refine ⟨w', hrun, ⟨_, h3, fun j => ?_⟩, Upd.of_grown h4 (by simp)⟩
  show _ = fdat (if j = k then some b else f j)
  by_cases e : j = k
  · subst e
    rw [if_pos rfl]
    exact atKey_put_same h1.isMap (by simp [WideAt.IsKeyLit]) _ _
  · rw [if_neg e, atKey_put_other (by intro h; injection h with _ h; exact e h)]
    exact h2 j

theorem FlMap.del {w : World} {M n : Nat} {f : Int → Option Nat} (h : FlMap w M n f) {k : Int} (hk : (Lit.int .i64 k).wf = true) (ty : TypeId) :
    ∃ w', (Builtin.delete_ #[25, 3] ty #[.map (some M), i64 k]).run Try.prog w = .ok (.tuple #[]) w' ∧ FlMap w' M n (fun j => if j = k then none else f j) ∧ Upd [M] w w' := by
  obtain ⟨D, h1, h2⟩ := h
  obtain ⟨w', hrun, h3, h4⟩ := h1.drop ikey Try.underlying25 (ikey_of hk) ty
  refine ⟨w', hrun, ⟨_, h3, fun j => ?_⟩, Upd.of_grown h4.grown (by simp)⟩
  show _ = fdat (if j = k then none else f j)
  by_cases e : j = k
  · subst e
    rw [if_pos rfl]
    exact atKey_del_same _
  · rw [if_neg e, atKey_del_other (by intro h; injection h with _ h; exact e h)]
    exact h2 j

/-! ### a ring that is not there -/
theorem dfindNil_c (n : Int) (w : World) : Calls Try.prog 51 #[.pointer none, i64 n] w fun e w' => e = .returned (.pointer none) ∧ w = w' := by
  refine post fun R hR => ?_
  go_enter Try.func51, Try.ntmps51
  go_wp2_with fail
  exact hR.out _ _ ⟨rfl, rfl⟩
theorem dsetNil_c (n m : Int) (w : World) : Calls Try.prog 11 #[.pointer none, i64 n, i64 m] w fun e w' => e = .returned (i64 17) ∧ w = w' := by
  refine post fun R hR => ?_
  go_enter Try.func11, Try.ntmps11
  go_wp2_with fail
  exact hR.out _ _ ⟨rfl, rfl⟩
theorem ddropNil_c (n : Int) (w : World) : Calls Try.prog 24 #[.pointer none, i64 n] w fun e w' => e = .returned (i64 0) ∧ w = w' := by
  refine post fun R hR => ?_
  go_enter Try.func24, Try.ntmps24
  go_wp2_with (fail)
  refine Calls.mono (dfindNil_c _ _) ?_
  rintro e w2 ⟨rfl, rfl⟩
  go_wp2_with fail
  exact hR.out _ _ ⟨rfl, rfl⟩
theorem dpushNil_c (n m : Int) (w : World) : Calls Try.prog 12 #[.pointer none, i64 n, i64 m] w fun e w' => e = .returned (i64 17) ∧ w = w' := by
  refine post fun R hR => ?_
  go_enter Try.func12, Try.ntmps12
  go_wp2_with (fail)
  refine Calls.mono (dfindNil_c _ _) ?_
  rintro e w2 ⟨rfl, rfl⟩
  go_wp2_with fail
  exact hR.out _ _ ⟨rfl, rfl⟩
theorem drestNil_c (n : Int) (b : Bool) (w : World) : Calls Try.prog 13 #[.pointer none, i64 n, .bool b] w fun e w' => e = .returned (i64 17) ∧ w = w' := by
  refine post fun R hR => ?_
  go_enter Try.func13, Try.ntmps13
  go_wp2_with (fail)
  refine Calls.mono (dfindNil_c _ _) ?_
  rintro e w2 ⟨rfl, rfl⟩
  go_wp2_with fail
  exact hR.out _ _ ⟨rfl, rfl⟩
theorem dturnNil_c (w : World) : Calls Try.prog 14 #[.pointer none] w fun e w' => e = .returned (.tuple #[i64 0, i64 0, .bool false]) ∧ w = w' := by
  refine post fun R hR => ?_
  go_enter Try.func14, Try.ntmps14
  go_wp2_with fail
  exact hR.out _ _ ⟨rfl, rfl⟩
theorem dwaitsNil_c (n : Int) (w : World) : Calls Try.prog 18 #[.pointer none, i64 n] w fun e w' => e = .returned (i64 0) ∧ w = w' := by
  refine post fun R hR => ?_
  go_enter Try.func18, Try.ntmps18
  go_wp2_with (fail)
  refine Calls.mono (dfindNil_c _ _) ?_
  rintro e w2 ⟨rfl, rfl⟩
  go_wp2_with fail
  exact hR.out _ _ ⟨rfl, rfl⟩
theorem dcostNil_c (n : Int) (w : World) : Calls Try.prog 27 #[.pointer none, i64 n] w fun e w' => e = .returned (i64 0) ∧ w = w' := by
  refine post fun R hR => ?_
  go_enter Try.func27, Try.ntmps27
  go_wp2_with (fail)
  refine Calls.mono (dfindNil_c _ _) ?_
  rintro e w2 ⟨rfl, rfl⟩
  go_wp2_with fail
  exact hR.out _ _ ⟨rfl, rfl⟩
theorem dactiveNil_c (w : World) : Calls Try.prog 16 #[.pointer none] w fun e w' => e = .returned (.slice none 0 0) ∧ w = w' := by
  refine post fun R hR => ?_
  go_enter Try.func16, Try.ntmps16
  go_wp2_with fail
  exact hR.out _ _ ⟨rfl, rfl⟩
theorem ddeficitNil_c (n : Int) (w : World) : Calls Try.prog 17 #[.pointer none, i64 n] w fun e w' => e = .returned (i64 0) ∧ w = w' := by
  refine post fun R hR => ?_
  go_enter Try.func17, Try.ntmps17
  go_wp2_with (fail)
  refine Calls.mono (dfindNil_c _ _) ?_
  rintro e w2 ⟨rfl, rfl⟩
  go_wp2_with fail
  exact hR.out _ _ ⟨rfl, rfl⟩
theorem dnew_c (w : World) : Calls Try.prog 15 #[] w fun e w' => e = .returned (.pointer (some ⟨w.heap.size, 0, none⟩)) ∧ Upd [] w w' ∧ w'.heap[w.heap.size]? = some (.cells #[.map none, .slice none 0 0] 28 (0, 0)) := by
  refine post fun R hR => ?_
  go_enter Try.func15, Try.ntmps15
  go_wp2_with fail
  exact hR.out _ _ ⟨rfl, (Upd.refl _ _).alloc _, heap_alloc_new _ _⟩
theorem dturnEmpty_c {w : World} {b off : Nat} {cs : Array Value} {ty : TypeId} (hb : w.heap[b]? = some (.cells cs ty (0, 0))) (h1 : cs[off + 1]? = some (.slice none 0 0)) :
    Calls Try.prog 14 #[.pointer (some ⟨b, off, none⟩)] w fun e w' => e = .returned (.tuple #[i64 0, i64 0, .bool false]) ∧ w = w' := by
  have c1 := (cellOf hb (off + 1)).trans h1
  clear hb h1
  refine post fun R hR => ?_
  go_enter Try.func14, Try.ntmps14
  go_wp2_with fail
  refine wp_loop_once ?_
  go_wp2_with fail
  exact hR.out _ _ ⟨rfl, rfl⟩
end Go.Proofs.Ytabhdigannalgaa
