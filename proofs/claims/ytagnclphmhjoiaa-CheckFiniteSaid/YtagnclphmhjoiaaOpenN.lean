/-
  How arguments that are slices of structs read (numbers, bools, strings, and slices within): each element's cells, and how each inner slice reads. No condition.
-/
import Derived.Test.YtagnclphmhjoiaaFrame
import Derived.Deep.Slices
import Derived.SizedLaws
namespace Go.Proofs.Ytagnclphmhjoiaa
open Go Go.RowKit Go.ChangeShapes Go.WideShapes Go.ChangeAt

def flatFieldsN (P : Program) (fl : TypeId → Option (List TypeDesc)) : List Field → Nat → Option (List TypeDesc)
  | [], _ => some []
  | g :: gs, off => if g.offset = off then (fl g.type).bind fun a => if a.length = P.cellsOf g.type then (flatFieldsN P fl gs (off + P.cellsOf g.type)).map (a ++ ·) else none else none

/-- the kinds of a flatN type's cells -/
def flatN (P : Program) : Nat → TypeId → Option (List TypeDesc)
  | 0, _ => none
  | f + 1, t => match P.underlying t with
    | some .bool => some [.bool]
    | some (.int k) => some [.int k]
    | some .string => some [.string]
    | some (.slice e) => some [.slice e]
    | some (.struct fs) => (flatFieldsN P (flatN P f) fs.toList 0).bind fun ks => if ks.length = P.cellsOf t then some ks else none
    | _ => none

def OKN (Sl : TypeId → Value → Prop) : TypeDesc → Value → Prop
  | .bool, v => ∃ b, v = .bool b
  | .int k, v => ∃ n, v = .int k n ∧ (Lit.int k n).wf = true
  | .string, v => ∃ s, v = .string s ∧ s.size ≤ maxLen
  | .slice e, v => (∃ ao n c, v = .slice ao n c) ∧ Sl e v
  | _, _ => False

def AllOKN (Sl : TypeId → Value → Prop) : List TypeDesc → List Value → Prop
  | [], [] => True
  | k :: ks, v :: vs => OKN Sl k v ∧ AllOKN Sl ks vs
  | _, _ => False

theorem AllOKN.len {Sl : TypeId → Value → Prop} : ∀ {ks : List TypeDesc} {vs : List Value}, AllOKN Sl ks vs → vs.length = ks.length
  | [], [], _ => rfl
  | _ :: _, _ :: _, h => by simp [AllOKN.len h.2]
theorem AllOKN.append {Sl : TypeId → Value → Prop} : ∀ {ks ks' : List TypeDesc} {vs vs' : List Value}, AllOKN Sl ks vs → AllOKN Sl ks' vs' → AllOKN Sl (ks ++ ks') (vs ++ vs')
  | [], _, [], _, _, h => h
  | _ :: _, _, _ :: _, _, h, h' => ⟨h.1, AllOKN.append h.2 h'⟩

theorem wfN_i64 {n : Int} (h : (Lit.int .i64 n).wf = true) : -9223372036854775808 ≤ n ∧ n ≤ 9223372036854775807 := by
  simp only [Lit.wf, IntKind.min, IntKind.max, IntKind.signed, IntKind.bits, Bool.and_eq_true, decide_eq_true_eq, if_true] at h
  omega
theorem wfN_u64 {n : Int} (h : (Lit.int .u64 n).wf = true) : 0 ≤ n ∧ n ≤ 18446744073709551615 := by
  simp only [Lit.wf, IntKind.min, IntKind.max, IntKind.signed, IntKind.bits, Bool.and_eq_true] at h
  simp at h
  omega
theorem AllOKN.none {Sl : TypeId → Value → Prop} {vs : List Value} (h : AllOKN Sl [] vs) : vs = [] := by cases vs with | nil => rfl | cons => exact h.elim
theorem AllOKN.i64 {Sl : TypeId → Value → Prop} {ks : List TypeDesc} {vs : List Value} (h : AllOKN Sl (.int .i64 :: ks) vs) : ∃ n r, vs = i64 n :: r ∧ (-9223372036854775808 ≤ n ∧ n ≤ 9223372036854775807) ∧ AllOKN Sl ks r := by
  cases vs with
  | nil => exact h.elim
  | cons v r =>
    obtain ⟨⟨n, rfl, hw⟩, h2⟩ := h
    exact ⟨n, r, rfl, wfN_i64 hw, h2⟩
theorem AllOKN.u64 {Sl : TypeId → Value → Prop} {ks : List TypeDesc} {vs : List Value} (h : AllOKN Sl (.int .u64 :: ks) vs) : ∃ n r, vs = .int .u64 n :: r ∧ (0 ≤ n ∧ n ≤ 18446744073709551615) ∧ AllOKN Sl ks r := by
  cases vs with
  | nil => exact h.elim
  | cons v r =>
    obtain ⟨⟨n, rfl, hw⟩, h2⟩ := h
    exact ⟨n, r, rfl, wfN_u64 hw, h2⟩
theorem AllOKN.str {Sl : TypeId → Value → Prop} {ks : List TypeDesc} {vs : List Value} (h : AllOKN Sl (.string :: ks) vs) : ∃ s r, vs = .string s :: r ∧ s.size ≤ maxLen ∧ AllOKN Sl ks r := by
  cases vs with
  | nil => exact h.elim
  | cons v r =>
    obtain ⟨⟨n, rfl, hw⟩, h2⟩ := h
    exact ⟨n, r, rfl, hw, h2⟩
theorem AllOKN.boo {Sl : TypeId → Value → Prop} {ks : List TypeDesc} {vs : List Value} (h : AllOKN Sl (.bool :: ks) vs) : ∃ b r, vs = .bool b :: r ∧ AllOKN Sl ks r := by
  cases vs with
  | nil => exact h.elim
  | cons v r =>
    obtain ⟨⟨n, rfl⟩, h2⟩ := h
    exact ⟨n, r, rfl, h2⟩

theorem AllOKN.sl {Sl : TypeId → Value → Prop} {e : TypeId} {ks : List TypeDesc} {vs : List Value} (h : AllOKN Sl (.slice e :: ks) vs) : ∃ ao n c r, vs = .slice ao n c :: r ∧ Sl e (.slice ao n c) ∧ AllOKN Sl ks r := by
  cases vs with
  | nil => exact h.elim
  | cons v r =>
    obtain ⟨⟨⟨ao, n, c, rfl⟩, hs⟩, h2⟩ := h
    exact ⟨ao, n, c, r, rfl, hs, h2⟩

/-- how an inner slice reads -/
def SlOK {H : Type} (enc : TypeId × Value → H) (P : Program) (w : World) (base : Nat) (sp : Nat → Bool) (held : Bool) (e : TypeId) (v : Value) : Prop :=
  ∃ (t : TypeId) (fuel : Nat) (x : DataW H × List MemPlace), P.underlying t = some (.slice e) ∧ DataW.trod enc P w base sp held fuel t [v] = some x

theorem flatFieldsN_ok {H : Type} {enc : TypeId × Value → H} {P : Program} {w : World} {base : Nat} {sp : Nat → Bool} {held : Bool} {f : Nat}
    (ih : ∀ t ks, flatN P f t = some ks → ∀ fuel cs x, DataW.trod enc P w base sp held fuel t cs = some x → AllOKN (SlOK enc P w base sp held) ks cs) (fuel : Nat) (cs : List Value) :
    ∀ (gs : List Field) (off : Nat) (ks : List TypeDesc) (xs : List (DataW H × List MemPlace)), flatFieldsN P (flatN P f) gs off = some ks →
      (gs.mapM fun g => DataW.trod enc P w base sp held fuel g.type ((cs.drop g.offset).take (P.cellsOf g.type))) = some xs → AllOKN (SlOK enc P w base sp held) ks ((cs.drop off).take ks.length)
  | [], off, ks, xs, h, _ => by
    simp only [flatFieldsN, Option.some.injEq] at h
    subst h; simp [AllOKN]
  | g :: gs, off, ks, xs, h, hx => by
    simp only [flatFieldsN] at h
    split at h
    · rename_i hoff
      subst hoff
      cases ha : flatN P f g.type with
      | none => simp [ha] at h
      | some a =>
        simp only [ha, Option.bind_some] at h
        split at h
        · rename_i hlen
          cases hr : flatFieldsN P (flatN P f) gs (g.offset + P.cellsOf g.type) with
          | none => simp [hr] at h
          | some r =>
            simp only [hr, Option.map_some, Option.some.injEq] at h
            subst h
            simp only [List.mapM_cons, bind, Option.bind_eq_some_iff, pure] at hx
            obtain ⟨y, hy, ys, hys, _⟩ := hx
            have h1 := ih _ _ ha _ _ _ hy
            have h2 := flatFieldsN_ok ih fuel cs gs _ _ _ hr hys
            have e : (cs.drop g.offset).take (a ++ r).length = (cs.drop g.offset).take (P.cellsOf g.type) ++ (cs.drop (g.offset + P.cellsOf g.type)).take r.length := by
              rw [List.length_append, hlen, List.take_add, List.drop_drop]
            rw [e]
            exact h1.append h2
        · simp at h
    · simp at h

theorem flatN_ok {H : Type} {enc : TypeId × Value → H} {P : Program} {w : World} {base : Nat} {sp : Nat → Bool} {held : Bool} :
    ∀ (f : Nat) (t : TypeId) (ks : List TypeDesc), flatN P f t = some ks → ∀ (fuel : Nat) (cs : List Value) (x : DataW H × List MemPlace), DataW.trod enc P w base sp held fuel t cs = some x → AllOKN (SlOK enc P w base sp held) ks cs
  | 0, _, _, h => by simp [flatN] at h
  | f + 1, t, ks, h => fun fuel cs x hx => by
    unfold flatN at h
    split at h
    · rename_i hu
      obtain ⟨b, rfl, _⟩ := DataW.trod_bool hu hx
      simp only [Option.some.injEq] at h; subst h
      exact ⟨⟨b, rfl⟩, trivial⟩
    · rename_i k hu
      obtain ⟨n, rfl, _, hw⟩ := DataW.trod_int hu hx
      simp only [Option.some.injEq] at h; subst h
      exact ⟨⟨n, rfl, hw⟩, trivial⟩
    · rename_i hu
      obtain ⟨s, rfl, _, hs⟩ := DataW.trod_string hu hx
      simp only [Option.some.injEq] at h; subst h
      exact ⟨⟨s, rfl, hs⟩, trivial⟩
    · rename_i e hu
      simp only [Option.some.injEq] at h; subst h
      have hx0 := hx
      rcases DataW.trod_slice hu hx with ⟨rfl, _⟩ | ⟨a, len', cap', elems, rest, n, _, rfl, _⟩
      · exact ⟨⟨⟨_, _, _, rfl⟩, ⟨t, fuel, x, hu, hx0⟩⟩, trivial⟩
      · exact ⟨⟨⟨_, _, _, rfl⟩, ⟨t, fuel, x, hu, hx0⟩⟩, trivial⟩
    · rename_i fs hu
      cases hf : flatFieldsN P (flatN P f) fs.toList 0 with
      | none => simp [hf] at h
      | some ks' =>
        simp only [hf, Option.bind_some] at h
        split at h
        · rename_i hl
          simp only [Option.some.injEq] at h; subst h
          obtain ⟨fuel', xs, hc, hm⟩ : ∃ fuel' xs, cs.length = P.cellsOf t ∧ (fs.toList.mapM fun g => DataW.trod enc P w base sp held fuel' g.type ((cs.drop g.offset).take (P.cellsOf g.type))) = some xs := by
            cases fuel with
            | zero => simp [DataW.trod] at hx
            | succ n =>
              simp only [DataW.trod, hu] at hx
              split at hx
              · rename_i hc
                cases hm : (fs.toList.mapM fun g => DataW.trod enc P w base sp held n g.type ((cs.drop g.offset).take (P.cellsOf g.type))) with
                | none => simp [hm] at hx
                | some xs => exact ⟨n, xs, hc, hm⟩
              · simp at hx
          have := flatFieldsN_ok (flatN_ok f) fuel' cs fs.toList 0 ks' xs hf hm
          rw [List.drop_zero, List.take_of_length_le (by omega)] at this
          exact this
        · simp at h
    · simp at h

theorem open_structN {H : Type} {enc : TypeId × Value → H} {P : Program} {W : World} {r : Reach} {base b0 : Nat} {t : TypeId} {f : Nat} {fs : Array Field} {ks : List TypeDesc}
    (hs : P.underlying t = some (.struct fs)) (hf : flatN P f t = some ks) {sp : Nat → Bool} {held : Bool} {v : Value} {d : DataW H} {ps : List MemPlace}
    (hval : Value.okWide P W r b0 t v) (h : DataW.Trod enc P W base sp held t v d ps) : ∃ vs : List Value, v = .agg vs.toArray ∧ AllOKN (SlOK enc P W base sp held) ks vs := by
  obtain ⟨cs, rfl, _⟩ := okWide_struct hs hval
  obtain ⟨fuel, hx⟩ := h
  exact ⟨cs.toList, rfl, flatN_ok f t ks hf fuel _ _ hx⟩

/-- the rows of a list lie in a block, c cells each -/
def RowsN {α : Type} (w : World) (b off c : Nat) (toC : α → List Value) (l : List α) : Prop :=
  ∀ (i : Nat) (s : α), l[i]? = some s → ∀ j, j < c → w.cell? ⟨b, off + i * c + j, none⟩ = (toC s)[j]?

theorem cellN_spot {w : World} {a : Addr} {v : Value} (h : w.cell? a = some v) : a = ⟨a.block, a.off, none⟩ := by
  cases a with
  | mk b o s =>
    cases s with
    | none => rfl
    | some x =>
      simp only [World.cell?] at h
      split at h <;> simp at h

theorem open_inner {α : Type} {toC : α → List Value} {Good : α → Prop} {ks : List TypeDesc} {H : Type} {enc : TypeId × Value → H} {P : Program} {W : World} {base : Nat} (hparse : ∀ vs, AllOKN (SlOK enc P W base (fun _ => true) true) ks vs → ∃ s, toC s = vs ∧ Good s)
    {t e : TypeId} {f : Nat} (ht : P.underlying t = some (.slice e)) (hf : flatN P f e = some ks) (hk : P.cellsOf e = ks.length) (hpos : 0 < ks.length) {ao : Option Addr} {len cap fuel : Nat} {x : DataW H × List MemPlace}
    (hx : DataW.trod enc P W base (fun _ => true) true fuel t [.slice ao len cap] = some x) :
    ∃ (l : List α), l.length = len ∧ l.length ≤ cap ∧ cap ≤ maxLen ∧ (∀ x ∈ l, Good x) ∧
      (l = [] ∨ ∃ b off, ao = some ⟨b, off, none⟩ ∧ RowsN W b off ks.length toC l) := by
  rcases DataW.trod_slice ht hx with ⟨hcs, _⟩ | ⟨a, len', cap', elems, rest, n, _, hcs, _, _, hl, hc, hlen, hel, _⟩
  · injection hcs with h1
    injection h1 with h1 h2 h3
    subst h1; subst h2; subst h3
    exact ⟨[], rfl, Nat.le_refl _, by unfold maxLen; omega, by simp, .inl rfl⟩
  · injection hcs with h1
    injection h1 with h1 h2 h3
    subst h1; subst h2; subst h3
    have hrow : ∀ i, i < len → ∃ s : α, Good s ∧ ∀ j, j < ks.length → W.cell? ((a.add (i * ks.length)).add j) = (toC s)[j]? := by
      intro i hi
      have h1 := hel i hi
      rw [List.getElem?_eq_getElem (by omega), hk, Option.bind_eq_some_iff] at h1
      obtain ⟨cs, h1, h2⟩ := h1
      have h3 := flatN_ok f e ks hf _ _ _ h2
      obtain ⟨s, rfl, hg⟩ := hparse cs h3
      exact ⟨s, hg, (World.cells?_some h1).2.2⟩
    by_cases h0 : len = 0
    · subst h0
      exact ⟨[], rfl, Nat.zero_le _, hc, by simp, .inl rfl⟩
    · obtain ⟨s0, _, hs0⟩ := hrow 0 (by omega)
      have hlen0 : ∃ v, W.cell? a = some v := by
        obtain ⟨s, hg, hs⟩ := hrow 0 (by omega)
        have h1 := hel 0 (by omega)
        rw [List.getElem?_eq_getElem (by omega), hk, Option.bind_eq_some_iff] at h1
        obtain ⟨cs, h1, _⟩ := h1
        obtain ⟨_, hl1, h1⟩ := World.cells?_some h1
        have h2 := h1 0 hpos
        have e0 : ((a.add (0 * ks.length)).add 0) = a := by simp [Addr.add]
        rw [e0] at h2
        exact ⟨cs[0], h2.trans (List.getElem?_eq_getElem (by omega))⟩
      obtain ⟨v0, hv0⟩ := hlen0
      have ha := cellN_spot hv0
      have : Inhabited α := ⟨s0⟩
      obtain ⟨F, hF⟩ := Deep.choose_lt hrow
      refine ⟨(List.range len).map F, by simp, by simpa using hl, hc, ?_, .inr ⟨a.block, a.off, congrArg some ha, ?_⟩⟩
      · intro x hx
        simp only [List.mem_map, List.mem_range] at hx
        obtain ⟨i, hi, rfl⟩ := hx
        exact (hF i hi).1
      · intro i s hs j hj
        have hi : i < len := by
          rcases Nat.lt_or_ge i len with g | g
          · exact g
          · rw [List.getElem?_eq_none (by simpa using g)] at hs; cases hs
        rw [List.getElem?_map, List.getElem?_range hi] at hs
        simp only [Option.map_some, Option.some.injEq] at hs
        subst hs
        rw [← (hF i hi).2 j hj]
        generalize a.block = ab at *
        generalize a.off = ao at *
        subst ha
        simp only [Addr.add]
        by_cases g1 : i * ks.length = 0
        · rw [if_pos g1]
          by_cases g2 : j = 0
          · rw [if_pos g2, g1, g2]; simp only [Nat.add_zero]
          · rw [if_neg g2, g1]; simp only [Nat.add_zero]
        · rw [if_neg g1]
          by_cases g2 : j = 0
          · rw [if_pos g2, g2]; simp only [Nat.add_zero]
          · rw [if_neg g2]

/-- a slice's capacity, out of the form's reach -/
theorem cap_reach {H : Type} {enc : TypeId × Value → H} {P : Program} {W : World} {ts : List TypeId} {ds : List (DataW H)} (hsz : (DataW.weightsEach P ts ds).all (· ≤ reachBytes) = true) {j : Nat} {t e : TypeId} {d : DataW H} {base : Nat} {ps : List MemPlace} {ao : Option Addr} {n cap : Nat}
    (ht : ts[j]? = some t) (hd : ds[j]? = some d) (hu : P.underlying t = some (.slice e)) (h : DataW.Trod enc P W base (fun _ => true) true t (.slice ao n cap) d ps) : cap * P.bytesOf e ≤ reachBytes := by
  obtain ⟨fuel, hx⟩ := h
  rcases DataW.trod_slice hu hx with ⟨hcs, _⟩ | ⟨a, len', cap', elems, rest, m, _, hcs, hx2, _, hle, _, hl, _, hr, _⟩
  · simp only [Value.cells] at hcs
    injection hcs with h1
    injection h1 with _ _ h3
    subst h3; simp
  · simp only [Value.cells] at hcs
    injection hcs with h1
    injection h1 with _ _ h3
    subst h3
    injection hx2 with hd2
    subst hd2
    have := sized_slice hsz ht hd hu
    simp only [List.length_map] at this
    rw [hl, (hr rfl).1, Nat.add_sub_cancel' hle] at this
    exact this

theorem open_listN {α : Type} {toC : α → List Value} {Good : α → Prop} {ks : List TypeDesc} {H : Type} {enc : TypeId × Value → H} {P : Program} {W : World} {r : Reach} {base b0 : Nat} (hparse : ∀ vs, AllOKN (SlOK enc P W base (fun _ => true) true) ks vs → ∃ s, toC s = vs ∧ Good s)
    {t e : TypeId} {f : Nat} (ht : P.underlying t = some (.slice e)) (hf : flatN P f e = some ks) (hk : P.cellsOf e = ks.length) (hpos : 0 < ks.length) {v : Value} {d : DataW H} {ps : List MemPlace}
    (hval : Value.okWide P W r b0 t v) (h : DataW.Trod enc P W base (fun _ => true) true t v d ps) :
    ∃ (ao : Option Addr) (cap : Nat) (l : List α), v = .slice ao l.length cap ∧ l.length ≤ cap ∧ cap ≤ maxLen ∧ (∀ x ∈ l, Good x) ∧
      (l = [] ∨ ∃ b off, ao = some ⟨b, off, none⟩ ∧ RowsN W b off ks.length toC l) := by
  obtain ⟨ao, len, cap, rfl⟩ := okWide_slice ht hval
  obtain ⟨fuel, hx⟩ := h
  obtain ⟨l, rfl, h1, h2, h3, h4⟩ := open_inner hparse ht hf hk hpos hx
  exact ⟨ao, cap, l, rfl, h1, h2, h3, h4⟩

end Go.Proofs.Ytagnclphmhjoiaa
