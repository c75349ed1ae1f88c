/-
  Lists of flat structs as arguments, with the sizes of their texts, out of the form's reach. No condition.
-/
import Derived.Test.YtagadbgbicebaaaOpen
import Derived.SizedLaws
namespace Go.Proofs.Ytagadbgbicebaaa
open Go Go.RowKit Go.ChangeShapes Go.WideShapes Go.ChangeAt

/-- a text within the form's reach -/
def OKz : Value → Prop
  | .string s => s.size ≤ reachBytes
  | _ => True
def AllZ (vs : List Value) : Prop := ∀ v ∈ vs, OKz v

theorem AllZ.append {a b : List Value} (h : AllZ a) (k : AllZ b) : AllZ (a ++ b) := fun v hv => (List.mem_append.1 hv).elim (h v) (k v)
theorem AllZ.one {v : Value} (h : OKz v) : AllZ [v] := fun u hu => by simp at hu; subst hu; exact h

theorem flatFields_z {H : Type} {enc : TypeId × Value → H} {P : Program} {w : World} {base : Nat} {sp : Nat → Bool} {held : Bool} {f : Nat}
    (ih : ∀ t ks, flat P f t = some ks → ∀ fuel cs (x : DataW H × List MemPlace), DataW.trod enc P w base sp held fuel t cs = some x → (∀ n ∈ x.1.weights P t, n ≤ reachBytes) → AllZ cs) (fuel : Nat) (cs : List Value) :
    ∀ (gs : List Field) (off : Nat) (ks : List TypeDesc) (xs : List (DataW H × List MemPlace)), flatFields P (flat P f) gs off = some ks →
      (gs.mapM fun g => DataW.trod enc P w base sp held fuel g.type ((cs.drop g.offset).take (P.cellsOf g.type))) = some xs →
      (∀ n ∈ DataW.weightsEach P (gs.map (·.type)) (xs.map (·.1)), n ≤ reachBytes) → AllZ ((cs.drop off).take ks.length)
  | [], off, ks, xs, h, _, _ => by
    simp only [flatFields, Option.some.injEq] at h
    subst h; intro v hv; simp at hv
  | g :: gs, off, ks, xs, h, hx, hw => by
    simp only [flatFields] at h
    split at h
    · rename_i hoff
      subst hoff
      cases ha : flat P f g.type with
      | none => simp [ha] at h
      | some a =>
        simp only [ha, Option.bind_some] at h
        split at h
        · rename_i hlen
          cases hr : flatFields P (flat P f) gs (g.offset + P.cellsOf g.type) with
          | none => simp [hr] at h
          | some r =>
            simp only [hr, Option.map_some, Option.some.injEq] at h
            subst h
            simp only [List.mapM_cons, bind, Option.bind_eq_some_iff, pure] at hx
            obtain ⟨y, hy, ys, hys, hxs⟩ := hx
            simp only [Option.some.injEq] at hxs
            subst hxs
            simp only [List.map_cons, DataW.weightsEach, List.mem_append] at hw
            have h1 := ih _ _ ha _ _ _ hy (fun n hn => hw n (.inl hn))
            have h2 := flatFields_z ih fuel cs gs _ _ _ hr hys (fun n hn => hw n (.inr hn))
            have e : (cs.drop g.offset).take (a ++ r).length = (cs.drop g.offset).take (P.cellsOf g.type) ++ (cs.drop (g.offset + P.cellsOf g.type)).take r.length := by
              rw [List.length_append, hlen, List.take_add, List.drop_drop]
            rw [e]
            exact h1.append h2
        · simp at h
    · simp at h

theorem flat_z {H : Type} {enc : TypeId × Value → H} {P : Program} {w : World} {base : Nat} {sp : Nat → Bool} {held : Bool} :
    ∀ (f : Nat) (t : TypeId) (ks : List TypeDesc), flat P f t = some ks → ∀ (fuel : Nat) (cs : List Value) (x : DataW H × List MemPlace), DataW.trod enc P w base sp held fuel t cs = some x → (∀ n ∈ x.1.weights P t, n ≤ reachBytes) → AllZ cs
  | 0, _, _, h => by simp [flat] at h
  | f + 1, t, ks, h => fun fuel cs x hx hw => by
    unfold flat at h
    split at h
    · rename_i hu
      obtain ⟨b, rfl, _⟩ := DataW.trod_bool hu hx
      exact AllZ.one trivial
    · rename_i k hu
      obtain ⟨n, rfl, _, _⟩ := DataW.trod_int hu hx
      exact AllZ.one trivial
    · rename_i hu
      obtain ⟨s, rfl, rfl, hs⟩ := DataW.trod_string hu hx
      simp only [DataW.weights, List.mem_singleton, forall_eq] at hw
      exact AllZ.one hw
    · rename_i fs hu
      cases hf : flatFields P (flat P f) fs.toList 0 with
      | none => simp [hf] at h
      | some ks' =>
        simp only [hf, Option.bind_some] at h
        split at h
        · rename_i hl
          simp only [Option.some.injEq] at h; subst h
          obtain ⟨fuel', xs, hc, hm, hxe⟩ : ∃ fuel' xs, cs.length = P.cellsOf t ∧ (fs.toList.mapM fun g => DataW.trod enc P w base sp held fuel' g.type ((cs.drop g.offset).take (P.cellsOf g.type))) = some xs ∧ x.1 = .agg (xs.map (·.1)) := by
            cases fuel with
            | zero => simp [DataW.trod] at hx
            | succ n =>
              simp only [DataW.trod, hu] at hx
              split at hx
              · rename_i hc
                cases hm : (fs.toList.mapM fun g => DataW.trod enc P w base sp held n g.type ((cs.drop g.offset).take (P.cellsOf g.type))) with
                | none => simp [hm] at hx
                | some xs =>
                  simp only [hm, Option.map_some, Option.some.injEq] at hx
                  exact ⟨n, xs, hc, hm, by rw [← hx]⟩
              · simp at hx
          rw [hxe] at hw
          simp only [DataW.weights, hu] at hw
          have := flatFields_z (flat_z f) fuel' cs fs.toList 0 ks' xs hf hm hw
          rw [List.drop_zero, List.take_of_length_le (by omega)] at this
          exact this
        · simp at h
    · simp at h

theorem weightsAll_mem {H : Type} {P : Program} {e : TypeId} : ∀ {ds : List (DataW H)} {i : Nat} {d : DataW H}, ds[i]? = some d → ∀ n ∈ d.weights P e, n ∈ DataW.weightsAll P e ds
  | [], _, _, h, _, _ => by simp at h
  | x :: r, 0, d, h, n, hn => by
    simp only [List.getElem?_cons_zero, Option.some.injEq] at h
    subst h
    simp only [DataW.weightsAll, List.mem_append]
    exact .inl hn
  | x :: r, i + 1, d, h, n, hn => by
    simp only [List.getElem?_cons_succ] at h
    simp only [DataW.weightsAll, List.mem_append]
    exact .inr (weightsAll_mem h n hn)

theorem open_listZ {α : Type} {toC : α → List Value} {Good : α → Prop} {ks : List TypeDesc} (hparse : ∀ vs, AllOK ks vs → ∃ s, toC s = vs ∧ Good s) {H : Type} {enc : TypeId × Value → H} {P : Program} {W : World} {r : Reach} {base b0 : Nat}
    {ts : List TypeId} {ds : List (DataW H)} (hsz : (DataW.weightsEach P ts ds).all (· ≤ reachBytes) = true) {j : Nat}
    {t e : TypeId} {f : Nat} (ht : P.underlying t = some (.slice e)) (hf : flat P f e = some ks) (hk : P.cellsOf e = ks.length) (hpos : 0 < ks.length) {v : Value} {d : DataW H} {ps : List MemPlace}
    (htj : ts[j]? = some t) (hdj : ds[j]? = some d)
    (hval : Value.okWide P W r b0 t v) (h : DataW.Trod enc P W base (fun _ => true) true t v d ps) :
    ∃ (ao : Option Addr) (cap : Nat) (l : List α), v = .slice ao l.length cap ∧ l.length ≤ cap ∧ cap ≤ maxLen ∧ (∀ x ∈ l, Good x ∧ AllZ (toC x)) ∧
      (l = [] ∨ ∃ b off, ao = some ⟨b, off, none⟩ ∧ RowsAt W b off ks.length toC l) := by
  obtain ⟨ao, len, cap, rfl⟩ := okWide_slice ht hval
  obtain ⟨fuel, hx⟩ := h
  rcases DataW.trod_slice ht hx with ⟨hcs, _⟩ | ⟨a, len', cap', elems, rest, n, _, hcs, hx2, _, hl, hc, hlen, hel, _⟩
  · simp only [Value.cells] at hcs
    injection hcs with h1
    injection h1 with h1 h2 h3
    subst h1; subst h2; subst h3
    exact ⟨none, 0, [], rfl, Nat.le_refl _, by unfold maxLen; omega, by simp, .inl rfl⟩
  · simp only [Value.cells] at hcs
    injection hcs with h1
    injection h1 with h1 h2 h3
    subst h1; subst h2; subst h3
    injection hx2 with hd2
    have hwt : ∀ (i : Nat) (y : DataW H × List MemPlace), elems[i]? = some y → ∀ n ∈ y.1.weights P e, n ≤ reachBytes := fun i y hy n hn => by
      have h2 := List.all_eq_true.1 hsz n (DataW.weights_mem_each htj hdj n (by
        rw [hd2]
        simp only [DataW.weights, ht]
        exact List.mem_cons_of_mem _ (List.mem_append_left _ (weightsAll_mem (i := i) (d := y.1) (by rw [List.getElem?_map, hy]; rfl) n hn))))
      simpa using h2
    have hrow : ∀ i, i < len → ∃ s : α, (Good s ∧ AllZ (toC s)) ∧ ∀ j, j < ks.length → W.cell? ((a.add (i * ks.length)).add j) = (toC s)[j]? := by
      intro i hi
      have h1 := hel i hi
      rw [List.getElem?_eq_getElem (by omega), hk, Option.bind_eq_some_iff] at h1
      obtain ⟨cs, h1, h2⟩ := h1
      have h3 := flat_ok f e ks hf _ _ _ h2
      have h4 := flat_z f e ks hf _ _ _ h2 (hwt i _ (List.getElem?_eq_getElem (by omega)))
      obtain ⟨s, rfl, hg⟩ := hparse cs h3
      exact ⟨s, ⟨hg, h4⟩, (World.cells?_some h1).2.2⟩
    by_cases h0 : len = 0
    · subst h0
      exact ⟨some a, cap, [], rfl, Nat.zero_le _, hc, by simp, .inl rfl⟩
    · obtain ⟨s0, _, hs0⟩ := hrow 0 (by omega)
      have hlen0 : ∃ v, W.cell? a = some v := by
        obtain ⟨s, hg, hs⟩ := hrow 0 (by omega)
        have h1 := hel 0 (by omega)
        rw [List.getElem?_eq_getElem (by omega), hk, Option.bind_eq_some_iff] at h1
        obtain ⟨cs, h1, _⟩ := h1
        obtain ⟨_, hl1, h1⟩ := World.cells?_some h1
        have h2 := h1 0 hpos
        have e0 : ((a.add (0 * ks.length)).add 0) = a := by simp [Addr.add]
        rw [e0] at h2
        exact ⟨cs[0], h2.trans (List.getElem?_eq_getElem (by omega))⟩
      obtain ⟨v0, hv0⟩ := hlen0
      have ha := cell_spot hv0
      have : Inhabited α := ⟨s0⟩
      obtain ⟨F, hF⟩ := Deep.choose_lt hrow
      refine ⟨some a, cap, (List.range len).map F, by simp, by simpa using hl, hc, ?_, .inr ⟨a.block, a.off, congrArg some ha, ?_⟩⟩
      · intro x hx
        simp only [List.mem_map, List.mem_range] at hx
        obtain ⟨i, hi, rfl⟩ := hx
        exact (hF i hi).1
      · intro i s hs j hj
        have hi : i < len := by
          rcases Nat.lt_or_ge i len with g | g
          · exact g
          · rw [List.getElem?_eq_none (by simpa using g)] at hs; cases hs
        rw [List.getElem?_map, List.getElem?_range hi] at hs
        simp only [Option.map_some, Option.some.injEq] at hs
        subst hs
        rw [← (hF i hi).2 j hj]
        generalize a.block = ab at *
        generalize a.off = ao at *
        subst ha
        simp only [Addr.add]
        by_cases g1 : i * ks.length = 0
        · rw [if_pos g1]
          by_cases g2 : j = 0
          · rw [if_pos g2, g1, g2]; simp only [Nat.add_zero]
          · rw [if_neg g2, g1]; simp only [Nat.add_zero]
        · rw [if_neg g1]
          by_cases g2 : j = 0
          · rw [if_pos g2, g2]; simp only [Nat.add_zero]
          · rw [if_neg g2]
end Go.Proofs.Ytagadbgbicebaaa
