/-
  How arguments that are slices of flat structs (numbers, bools, strings) read: each element's cells. No condition.
-/
import Derived.Test.YtabhdigannalgaaFrame
import Derived.Deep.Slices
namespace Go.Proofs.Ytabhdigannalgaa
open Go Go.RowKit Go.ChangeShapes Go.WideShapes Go.ChangeAt

def flatFields (P : Program) (fl : TypeId → Option (List TypeDesc)) : List Field → Nat → Option (List TypeDesc)
  | [], _ => some []
  | g :: gs, off => if g.offset = off then (fl g.type).bind fun a => if a.length = P.cellsOf g.type then (flatFields P fl gs (off + P.cellsOf g.type)).map (a ++ ·) else none else none

/-- the kinds of a flat type's cells -/
def flat (P : Program) : Nat → TypeId → Option (List TypeDesc)
  | 0, _ => none
  | f + 1, t => match P.underlying t with
    | some .bool => some [.bool]
    | some (.int k) => some [.int k]
    | some .string => some [.string]
    | some (.struct fs) => (flatFields P (flat P f) fs.toList 0).bind fun ks => if ks.length = P.cellsOf t then some ks else none
    | _ => none

def OKv : TypeDesc → Value → Prop
  | .bool, v => ∃ b, v = .bool b
  | .int k, v => ∃ n, v = .int k n ∧ (Lit.int k n).wf = true
  | .string, v => ∃ s, v = .string s ∧ s.size ≤ maxLen
  | _, _ => False

def AllOK : List TypeDesc → List Value → Prop
  | [], [] => True
  | k :: ks, v :: vs => OKv k v ∧ AllOK ks vs
  | _, _ => False

theorem AllOK.len : ∀ {ks : List TypeDesc} {vs : List Value}, AllOK ks vs → vs.length = ks.length
  | [], [], _ => rfl
  | _ :: _, _ :: _, h => by simp [AllOK.len h.2]
theorem AllOK.append : ∀ {ks ks' : List TypeDesc} {vs vs' : List Value}, AllOK ks vs → AllOK ks' vs' → AllOK (ks ++ ks') (vs ++ vs')
  | [], _, [], _, _, h => h
  | _ :: _, _, _ :: _, _, h, h' => ⟨h.1, AllOK.append h.2 h'⟩

theorem wf_i64 {n : Int} (h : (Lit.int .i64 n).wf = true) : -9223372036854775808 ≤ n ∧ n ≤ 9223372036854775807 := by
  simp only [Lit.wf, IntKind.min, IntKind.max, IntKind.signed, IntKind.bits, Bool.and_eq_true, decide_eq_true_eq, if_true] at h
  omega
theorem wf_u64 {n : Int} (h : (Lit.int .u64 n).wf = true) : 0 ≤ n ∧ n ≤ 18446744073709551615 := by
  simp only [Lit.wf, IntKind.min, IntKind.max, IntKind.signed, IntKind.bits, Bool.and_eq_true] at h
  simp at h
  omega
theorem AllOK.none {vs : List Value} (h : AllOK [] vs) : vs = [] := by cases vs with | nil => rfl | cons => exact h.elim
theorem AllOK.i64 {ks : List TypeDesc} {vs : List Value} (h : AllOK (.int .i64 :: ks) vs) : ∃ n r, vs = i64 n :: r ∧ (-9223372036854775808 ≤ n ∧ n ≤ 9223372036854775807) ∧ AllOK ks r := by
  cases vs with
  | nil => exact h.elim
  | cons v r =>
    obtain ⟨⟨n, rfl, hw⟩, h2⟩ := h
    exact ⟨n, r, rfl, wf_i64 hw, h2⟩
theorem AllOK.u64 {ks : List TypeDesc} {vs : List Value} (h : AllOK (.int .u64 :: ks) vs) : ∃ n r, vs = .int .u64 n :: r ∧ (0 ≤ n ∧ n ≤ 18446744073709551615) ∧ AllOK ks r := by
  cases vs with
  | nil => exact h.elim
  | cons v r =>
    obtain ⟨⟨n, rfl, hw⟩, h2⟩ := h
    exact ⟨n, r, rfl, wf_u64 hw, h2⟩
theorem AllOK.str {ks : List TypeDesc} {vs : List Value} (h : AllOK (.string :: ks) vs) : ∃ s r, vs = .string s :: r ∧ s.size ≤ maxLen ∧ AllOK ks r := by
  cases vs with
  | nil => exact h.elim
  | cons v r =>
    obtain ⟨⟨n, rfl, hw⟩, h2⟩ := h
    exact ⟨n, r, rfl, hw, h2⟩
theorem AllOK.boo {ks : List TypeDesc} {vs : List Value} (h : AllOK (.bool :: ks) vs) : ∃ b r, vs = .bool b :: r ∧ AllOK ks r := by
  cases vs with
  | nil => exact h.elim
  | cons v r =>
    obtain ⟨⟨n, rfl⟩, h2⟩ := h
    exact ⟨n, r, rfl, h2⟩

theorem flatFields_ok {H : Type} {enc : TypeId × Value → H} {P : Program} {w : World} {base : Nat} {sp : Nat → Bool} {held : Bool} {f : Nat}
    (ih : ∀ t ks, flat P f t = some ks → ∀ fuel cs x, DataW.trod enc P w base sp held fuel t cs = some x → AllOK ks cs) (fuel : Nat) (cs : List Value) :
    ∀ (gs : List Field) (off : Nat) (ks : List TypeDesc) (xs : List (DataW H × List MemPlace)), flatFields P (flat P f) gs off = some ks →
      (gs.mapM fun g => DataW.trod enc P w base sp held fuel g.type ((cs.drop g.offset).take (P.cellsOf g.type))) = some xs → AllOK ks ((cs.drop off).take ks.length)
  | [], off, ks, xs, h, _ => by
    simp only [flatFields, Option.some.injEq] at h
    subst h; simp [AllOK]
  | g :: gs, off, ks, xs, h, hx => by
    simp only [flatFields] at h
    split at h
    · rename_i hoff
      subst hoff
      cases ha : flat P f g.type with
      | none => simp [ha] at h
      | some a =>
        simp only [ha, Option.bind_some] at h
        split at h
        · rename_i hlen
          cases hr : flatFields P (flat P f) gs (g.offset + P.cellsOf g.type) with
          | none => simp [hr] at h
          | some r =>
            simp only [hr, Option.map_some, Option.some.injEq] at h
            subst h
            simp only [List.mapM_cons, bind, Option.bind_eq_some_iff, pure] at hx
            obtain ⟨y, hy, ys, hys, _⟩ := hx
            have h1 := ih _ _ ha _ _ _ hy
            have h2 := flatFields_ok ih fuel cs gs _ _ _ hr hys
            have e : (cs.drop g.offset).take (a ++ r).length = (cs.drop g.offset).take (P.cellsOf g.type) ++ (cs.drop (g.offset + P.cellsOf g.type)).take r.length := by
              rw [List.length_append, hlen, List.take_add, List.drop_drop]
            rw [e]
            exact h1.append h2
        · simp at h
    · simp at h

theorem flat_ok {H : Type} {enc : TypeId × Value → H} {P : Program} {w : World} {base : Nat} {sp : Nat → Bool} {held : Bool} :
    ∀ (f : Nat) (t : TypeId) (ks : List TypeDesc), flat P f t = some ks → ∀ (fuel : Nat) (cs : List Value) (x : DataW H × List MemPlace), DataW.trod enc P w base sp held fuel t cs = some x → AllOK ks cs
  | 0, _, _, h => by simp [flat] at h
  | f + 1, t, ks, h => fun fuel cs x hx => by
    unfold flat at h
    split at h
    · rename_i hu
      obtain ⟨b, rfl, _⟩ := DataW.trod_bool hu hx
      simp only [Option.some.injEq] at h; subst h
      exact ⟨⟨b, rfl⟩, trivial⟩
    · rename_i k hu
      obtain ⟨n, rfl, _, hw⟩ := DataW.trod_int hu hx
      simp only [Option.some.injEq] at h; subst h
      exact ⟨⟨n, rfl, hw⟩, trivial⟩
    · rename_i hu
      obtain ⟨s, rfl, _, hs⟩ := DataW.trod_string hu hx
      simp only [Option.some.injEq] at h; subst h
      exact ⟨⟨s, rfl, hs⟩, trivial⟩
    · rename_i fs hu
      cases hf : flatFields P (flat P f) fs.toList 0 with
      | none => simp [hf] at h
      | some ks' =>
        simp only [hf, Option.bind_some] at h
        split at h
        · rename_i hl
          simp only [Option.some.injEq] at h; subst h
          obtain ⟨fuel', xs, hc, hm⟩ : ∃ fuel' xs, cs.length = P.cellsOf t ∧ (fs.toList.mapM fun g => DataW.trod enc P w base sp held fuel' g.type ((cs.drop g.offset).take (P.cellsOf g.type))) = some xs := by
            cases fuel with
            | zero => simp [DataW.trod] at hx
            | succ n =>
              simp only [DataW.trod, hu] at hx
              split at hx
              · rename_i hc
                cases hm : (fs.toList.mapM fun g => DataW.trod enc P w base sp held n g.type ((cs.drop g.offset).take (P.cellsOf g.type))) with
                | none => simp [hm] at hx
                | some xs => exact ⟨n, xs, hc, hm⟩
              · simp at hx
          have := flatFields_ok (flat_ok f) fuel' cs fs.toList 0 ks' xs hf hm
          rw [List.drop_zero, List.take_of_length_le (by omega)] at this
          exact this
        · simp at h
    · simp at h

theorem open_struct {H : Type} {enc : TypeId × Value → H} {P : Program} {W : World} {r : Reach} {base b0 : Nat} {t : TypeId} {f : Nat} {fs : Array Field} {ks : List TypeDesc}
    (hs : P.underlying t = some (.struct fs)) (hf : flat P f t = some ks) {sp : Nat → Bool} {held : Bool} {v : Value} {d : DataW H} {ps : List MemPlace}
    (hval : Value.okWide P W r b0 t v) (h : DataW.Trod enc P W base sp held t v d ps) : ∃ vs : List Value, v = .agg vs.toArray ∧ AllOK ks vs := by
  obtain ⟨cs, rfl, _⟩ := okWide_struct hs hval
  obtain ⟨fuel, hx⟩ := h
  exact ⟨cs.toList, rfl, flat_ok f t ks hf fuel _ _ hx⟩

/-- the rows of a list lie in a block, c cells each -/
def RowsAt {α : Type} (w : World) (b off c : Nat) (toC : α → List Value) (l : List α) : Prop :=
  ∀ (i : Nat) (s : α), l[i]? = some s → ∀ j, j < c → w.cell? ⟨b, off + i * c + j, none⟩ = (toC s)[j]?

theorem cell_spot {w : World} {a : Addr} {v : Value} (h : w.cell? a = some v) : a = ⟨a.block, a.off, none⟩ := by
  cases a with
  | mk b o s =>
    cases s with
    | none => rfl
    | some x =>
      simp only [World.cell?] at h
      split at h <;> simp at h

theorem open_list {α : Type} {toC : α → List Value} {Good : α → Prop} {ks : List TypeDesc} (hparse : ∀ vs, AllOK ks vs → ∃ s, toC s = vs ∧ Good s) {H : Type} {enc : TypeId × Value → H} {P : Program} {W : World} {r : Reach} {base b0 : Nat}
    {t e : TypeId} {f : Nat} (ht : P.underlying t = some (.slice e)) (hf : flat P f e = some ks) (hk : P.cellsOf e = ks.length) (hpos : 0 < ks.length) {v : Value} {d : DataW H} {ps : List MemPlace}
    (hval : Value.okWide P W r b0 t v) (h : DataW.Trod enc P W base (fun _ => true) true t v d ps) :
    ∃ (ao : Option Addr) (cap : Nat) (l : List α), v = .slice ao l.length cap ∧ l.length ≤ cap ∧ cap ≤ maxLen ∧ (∀ x ∈ l, Good x) ∧
      (l = [] ∨ ∃ b off, ao = some ⟨b, off, none⟩ ∧ RowsAt W b off ks.length toC l) := by
  obtain ⟨ao, len, cap, rfl⟩ := okWide_slice ht hval
  obtain ⟨fuel, hx⟩ := h
  rcases DataW.trod_slice ht hx with ⟨hcs, _⟩ | ⟨a, len', cap', elems, rest, n, _, hcs, _, _, hl, hc, hlen, hel, _⟩
  · simp only [Value.cells] at hcs
    injection hcs with h1
    injection h1 with h1 h2 h3
    subst h1; subst h2; subst h3
    exact ⟨none, 0, [], rfl, Nat.le_refl _, by unfold maxLen; omega, by simp, .inl rfl⟩
  · simp only [Value.cells] at hcs
    injection hcs with h1
    injection h1 with h1 h2 h3
    subst h1; subst h2; subst h3
    have hrow : ∀ i, i < len → ∃ s : α, Good s ∧ ∀ j, j < ks.length → W.cell? ((a.add (i * ks.length)).add j) = (toC s)[j]? := by
      intro i hi
      have h1 := hel i hi
      rw [List.getElem?_eq_getElem (by omega), hk, Option.bind_eq_some_iff] at h1
      obtain ⟨cs, h1, h2⟩ := h1
      have h3 := flat_ok f e ks hf _ _ _ h2
      obtain ⟨s, rfl, hg⟩ := hparse cs h3
      exact ⟨s, hg, (World.cells?_some h1).2.2⟩
    by_cases h0 : len = 0
    · subst h0
      exact ⟨some a, cap, [], rfl, Nat.zero_le _, hc, by simp, .inl rfl⟩
    · obtain ⟨s0, _, hs0⟩ := hrow 0 (by omega)
      have hlen0 : ∃ v, W.cell? a = some v := by
        obtain ⟨s, hg, hs⟩ := hrow 0 (by omega)
        have h1 := hel 0 (by omega)
        rw [List.getElem?_eq_getElem (by omega), hk, Option.bind_eq_some_iff] at h1
        obtain ⟨cs, h1, _⟩ := h1
        obtain ⟨_, hl1, h1⟩ := World.cells?_some h1
        have h2 := h1 0 hpos
        have e0 : ((a.add (0 * ks.length)).add 0) = a := by simp [Addr.add]
        rw [e0] at h2
        exact ⟨cs[0], h2.trans (List.getElem?_eq_getElem (by omega))⟩
      obtain ⟨v0, hv0⟩ := hlen0
      have ha := cell_spot hv0
      have : Inhabited α := ⟨s0⟩
      obtain ⟨F, hF⟩ := Deep.choose_lt hrow
      refine ⟨some a, cap, (List.range len).map F, by simp, by simpa using hl, hc, ?_, .inr ⟨a.block, a.off, congrArg some ha, ?_⟩⟩
      · intro x hx
        simp only [List.mem_map, List.mem_range] at hx
        obtain ⟨i, hi, rfl⟩ := hx
        exact (hF i hi).1
      · intro i s hs j hj
        have hi : i < len := by
          rcases Nat.lt_or_ge i len with g | g
          · exact g
          · rw [List.getElem?_eq_none (by simpa using g)] at hs; cases hs
        rw [List.getElem?_map, List.getElem?_range hi] at hs
        simp only [Option.map_some, Option.some.injEq] at hs
        subst hs
        rw [← (hF i hi).2 j hj]
        generalize a.block = ab at *
        generalize a.off = ao at *
        subst ha
        simp only [Addr.add]
        by_cases g1 : i * ks.length = 0
        · rw [if_pos g1]
          by_cases g2 : j = 0
          · rw [if_pos g2, g1, g2]; simp only [Nat.add_zero]
          · rw [if_neg g2, g1]; simp only [Nat.add_zero]
        · rw [if_neg g1]
          by_cases g2 : j = 0
          · rw [if_pos g2, g2]; simp only [Nat.add_zero]
          · rw [if_neg g2]

end Go.Proofs.Ytabhdigannalgaa
