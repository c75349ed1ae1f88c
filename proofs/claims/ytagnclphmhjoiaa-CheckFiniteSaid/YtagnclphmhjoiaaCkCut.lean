/-
  The plain law behind CheckLess (chapter 12): without its last declaration a schema that may be has no fault but a name that is missing, or a map's key. No condition.
-/
import Derived.Test.YtagnclphmhjoiaaCkIter
namespace Go.Proofs.Ytagnclphmhjoiaa
open Go Go.RowKit

/-- what is wrong with the i-th declaration -/
def dErr (qs : List Dq) (i : Nat) : Int := match qs[i]? with | none => 0 | some q => declE (qs.map Dq.d) i q
/-- what is wrong first -/
def checkE (qs : List Dq) : Int := if firstE (dErr qs) qs.length ≠ 0 then firstE (dErr qs) qs.length else if (finE qs).all id = true then 0 else 10

/-- the faults that may come -/
def Mild (zk e : Int) : Prop := e = 0 ∨ e = 6 ∨ e = 8 ∧ zk = 3
theorem firstE_mild {zk : Int} {err : Nat → Int} : ∀ {n : Nat}, (∀ j, j < n → Mild zk (err j)) → Mild zk (firstE err n)
  | 0, _ => .inl rfl
  | n + 1, h => by
    rw [firstE]
    split
    · exact firstE_mild fun j hj => h j (by omega)
    · exact h n (by omega)

theorem fnd_snoc_lt {l : List Dc} {z : Dc} {s : ByteArray} (h : fnd l s < l.length) : fnd (l ++ [z]) s = fnd l s := by rw [fnd_snoc, if_pos h]
theorem kindOf_snoc_lt {l : List Dc} {z : Dc} {s : ByteArray} (h : fnd l s < l.length) : kindOf (l ++ [z]) s = kindOf l s := by
  unfold kindOf
  rw [fnd_snoc_lt h, List.getElem?_append_left h]
theorem kindOf_miss {l : List Dc} {s : ByteArray} (h : ¬ fnd l s < l.length) : kindOf l s = 0 := by
  unfold kindOf
  rw [List.getElem?_eq_none (by omega)]; rfl
theorem kindOf_snoc_z {l : List Dc} {z : Dc} {s : ByteArray} (h : ¬ fnd l s < l.length) (hk : kindOf (l ++ [z]) s ≠ 0) : kindOf (l ++ [z]) s = z.kind := by
  unfold kindOf at *
  rw [fnd_snoc, if_neg h] at *
  by_cases e : z.name = s
  · rw [if_pos e, List.getElem?_append_right (Nat.le_refl _)]; simp
  · rw [if_neg e, List.getElem?_eq_none (by simp)] at hk; exact (hk rfl).elim

theorem keyL_cut {l : List Dc} {z : Dc} : ∀ (o : List Ty), keyL (l ++ [z]) o = true → keyL l o = true ∨ z.kind = 3
  | [], h => by rw [keyL] at h; cases h
  | .mk k nm _ :: _, h => by
    rw [keyL] at h
    rw [keyL]
    unfold keyedF at *
    by_cases h1 : 1 ≤ k ∧ k ≤ 4
    · left; rw [decide_eq_true h1]; rfl
    · rw [decide_eq_false h1, Bool.false_or, Bool.and_eq_true, decide_eq_true_eq, decide_eq_true_eq] at h
      obtain ⟨h6, h3⟩ := h
      by_cases hf : fnd l nm < l.length
      · left
        rw [kindOf_snoc_lt hf] at h3
        rw [decide_eq_true h6, decide_eq_true h3]; simp
      · right
        rw [← kindOf_snoc_z hf (by rw [h3]; simp)]; exact h3

mutual
theorem typE_cut {l : List Dc} {z : Dc} : ∀ (t : Ty) (inner : Bool), typE (l ++ [z]) t inner = 0 → Mild z.kind (typE l t inner)
  | .mk k nm o, inner, h => by
    rw [typE] at h
    rw [typE]
    split at h
    · cases h
    · rename_i c1
      rw [if_neg c1]
      split at h
      · rename_i c2
        rw [if_pos c2]
        split at h
        · rename_i c3
          by_cases hf : fnd l nm < l.length
          · rw [kindOf_snoc_lt hf] at c3
            rw [if_pos c3]; exact .inl rfl
          · rw [kindOf_miss hf, if_neg (by simp), if_neg hf]; exact .inr (.inl rfl)
        · split at h <;> cases h
      · rename_i c2
        rw [if_neg c2]
        split at h
        · cases h
        · rename_i c3
          rw [if_neg c3]
          split at h
          · cases h
          · rename_i c4
            split
            · rename_i c5
              have : keyL (l ++ [z]) o = true := by
                cases hx : keyL (l ++ [z]) o with
                | true => rfl
                | false => exact (c4 ⟨c5.1, hx⟩).elim
              rcases keyL_cut o this with g | g
              · rw [c5.2] at g; cases g
              · exact .inr (.inr ⟨rfl, g⟩)
            · exact typsE_cut o h
theorem typsE_cut {l : List Dc} {z : Dc} : ∀ (o : List Ty), typsE (l ++ [z]) o = 0 → Mild z.kind (typsE l o)
  | [], _ => by rw [typsE]; exact .inl rfl
  | t :: r, h => by
    rw [typsE] at h
    rw [typsE]
    by_cases e : typE (l ++ [z]) t true = 0
    · rw [if_neg (by rw [e]; simp)] at h
      split
      · exact typE_cut t true e
      · exact typsE_cut r h
    · rw [if_pos e] at h; exact (e h).elim
end

theorem ite_zero {a b : Int} (h : (if a ≠ 0 then a else b) = 0) : a = 0 ∧ b = 0 := by
  by_cases e : a = 0
  · rw [if_neg (by rw [e]; simp)] at h; exact ⟨e, h⟩
  · rw [if_pos e] at h; exact (e h).elim
theorem ite_mild {zk a b : Int} (h1 : Mild zk a) (h2 : Mild zk b) : Mild zk (if a ≠ 0 then a else b) := by split <;> assumption
theorem fieldE_cut {l : List Dc} {z : Dc} {k : Int} {f : Fd × Ty} (h : fieldE (l ++ [z]) k f = 0) : Mild z.kind (fieldE l k f) := by
  unfold fieldE at *
  split
  · exact .inl rfl
  · rename_i c
    rw [if_neg c] at h
    obtain ⟨h1, h2⟩ := ite_zero h
    exact ite_mild (typE_cut _ _ h1) (.inl h2)
theorem nameE_cut {l : List Dc} {z : Dc} {s : ByteArray} (h : nameE (l ++ [z]) s = 0) : Mild z.kind (nameE l s) := by
  unfold nameE at *
  by_cases hf : fnd l s < l.length
  · rw [if_pos hf]
    have h1 : fnd (l ++ [z]) s < (l ++ [z]).length := by rw [fnd_snoc_lt hf]; simp; omega
    rw [if_pos h1, kindOf_snoc_lt hf] at h
    exact .inl h
  · rw [if_neg hf]; exact .inr (.inl rfl)
theorem methodE_cut {l : List Dc} {z : Dc} {m : Mt} (h : methodE (l ++ [z]) m = 0) : Mild z.kind (methodE l m) := by
  unfold methodE at *
  obtain ⟨h1, h2⟩ := ite_zero h
  exact ite_mild (nameE_cut h1) (nameE_cut h2)
theorem fErr_cut {l : List Dc} {z : Dc} {q : Dq} {k : Nat} (h : fErr (l ++ [z]) q k = 0) : Mild z.kind (fErr l q k) := by
  unfold fErr at *
  cases hf : q.fs[k]? with
  | none => exact .inl rfl
  | some f =>
    rw [hf] at h
    simp only at h ⊢
    obtain ⟨h1, h2⟩ := ite_zero h
    exact ite_mild (.inl h1) (fieldE_cut h2)
theorem mErr_cut {l : List Dc} {z : Dc} {q : Dq} {k : Nat} (h : mErr (l ++ [z]) q k = 0) : Mild z.kind (mErr l q k) := by
  unfold mErr at *
  cases hf : q.ms[k]? with
  | none => exact .inl rfl
  | some f =>
    rw [hf] at h
    simp only at h ⊢
    obtain ⟨h1, h2⟩ := ite_zero h
    exact ite_mild (.inl h1) (methodE_cut h2)
/-- the parts of a declaration that may be -/
theorem declE_zero {ds : List Dc} {i : Nat} {q : Dq} (h : declE ds i q = 0) : fndI ds q.d.name = i ∧ (1 ≤ q.d.kind ∧ q.d.kind ≤ 4) ∧ firstE (fErr ds q) q.fs.length = 0 ∧ firstE (mErr ds q) q.ms.length = 0 ∧ (if (q.d.kind = 2 ∨ q.d.kind = 3) ∧ q.fs.length = 0 then (12 : Int) else 0) = 0 := by
  unfold declE at h
  split at h
  · cases h
  · rename_i c1
    split at h
    · cases h
    · rename_i c2
      obtain ⟨h1, h2⟩ := ite_zero h
      obtain ⟨h2, h3⟩ := ite_zero h2
      exact ⟨Decidable.of_not_not c1, Decidable.of_not_not c2, h1, h2, h3⟩
theorem fndI_cut {l : List Dc} {z : Dc} {s : ByteArray} {i : Nat} (hi : i < l.length) (h : fndI (l ++ [z]) s = i) : fndI l s = i := by
  unfold fndI at *
  by_cases hf : fnd l s < l.length
  · rw [if_pos hf]
    rw [fnd_snoc_lt hf, if_pos (by simp; omega)] at h
    exact h
  · rw [if_neg hf]
    rw [fnd_snoc, if_neg hf] at h
    by_cases e : z.name = s
    · rw [if_pos e, if_pos (by simp)] at h; omega
    · rw [if_neg e, if_neg (by simp)] at h; exact h
theorem declE_cut {l : List Dc} {z : Dc} {i : Nat} {q : Dq} (hi : i < l.length) (h : declE (l ++ [z]) i q = 0) : Mild z.kind (declE l i q) := by
  obtain ⟨h1, h2, h3, h4, h5⟩ := declE_zero h
  unfold declE
  rw [if_neg (fun e => e (fndI_cut hi h1)), if_neg (fun e => e h2)]
  exact ite_mild (firstE_mild fun j hj => fErr_cut (firstE_zero h3 j hj)) (ite_mild (firstE_mild fun j hj => mErr_cut (firstE_zero h4 j hj)) (.inl h5))

/-- no more is found than Finite finds -/
theorem Kn.top {qs : List Dq} {c : Nat} {ks : List Bool} (h : Kn qs c ks) (hend : ∀ i (h1 : i < ks.length) (h2 : i < qs.length), ks[i] = false → finD (qs.map Dq.d) ks qs[i] = false) : ∀ k, LeB (iterF qs k) ks := by
  have h2 : LeB (stepF qs ks) ks := by
    intro j e
    unfold stepF at e
    rw [List.getElem?_map] at e
    by_cases hj : j < qs.length
    · rw [List.getElem?_eq_getElem hj, Option.map_some, Option.some.injEq] at e
      have hj2 : j < ks.length := by rw [h.len]; exact hj
      rw [List.getElem?_eq_getElem hj2]
      cases hx : ks[j] with
      | true => rfl
      | false => rw [hend j hj2 hj hx] at e; cases e
    · rw [List.getElem?_eq_none (by omega)] at e; cases e
  intro k
  induction k with
  | zero => exact rep_le _ _
  | succ k ih => exact (stepF_mono ih).trans h2
theorem Kn.ends (qs : List Dq) : ∀ (m c : Nat) (ks : List Bool), Kn qs c ks → qs.length - c ≤ m → ∃ c ks, Kn qs c ks ∧ ∀ i (h1 : i < ks.length) (h2 : i < qs.length), ks[i] = false → finD (qs.map Dq.d) ks qs[i] = false
  | m, c, ks, h, hm => by
    by_cases e : ∃ i, ∃ (h1 : i < ks.length) (h2 : i < qs.length), ks[i] = false ∧ finD (qs.map Dq.d) ks qs[i] = true
    · obtain ⟨i, h1, h2, h3, h4⟩ := e
      have hk := h.more h1 h2 h3 h4
      have := hk.bound
      match m with
      | 0 => omega
      | m + 1 => exact Kn.ends qs m (c + 1) _ hk (by omega)
    · refine ⟨c, ks, h, fun i h1 h2 h3 => ?_⟩
      cases hx : finD (qs.map Dq.d) ks qs[i] with
      | false => rfl
      | true => exact (e ⟨i, h1, h2, h3, hx⟩).elim
theorem fin_top (qs : List Dq) (k : Nat) : LeB (iterF qs k) (finE qs) := by
  obtain ⟨c, ks, h, hend⟩ := Kn.ends qs qs.length 0 _ (Kn.start qs) (by omega)
  rw [← h.done hend]
  exact h.top hend k

theorem fine_cut {l : List Dc} {z : Dc} {a b : List Bool} (hab : ∀ j, j < l.length → a[j]? = some true → b[j]? = some true) {k : Int} {nm : ByteArray} (hk : k = 6 → fnd l nm < l.length) (h : fine1 (l ++ [z]) a k nm = true) : fine1 l b k nm = true := by
  unfold fine1 at *
  by_cases e : k = 6
  · rw [if_pos e] at h ⊢
    rw [fnd_snoc_lt (hk e)] at h
    cases hx : a[fnd l nm]? with
    | none => rw [hx] at h; cases h
    | some v =>
      rw [hx] at h
      have hv : v = true := h
      subst hv
      rw [hab _ (hk e) hx]; rfl
  · rw [if_neg e]
theorem typE_named {l : List Dc} {t : Ty} {inner : Bool} (h : typE l t inner = 0) (hk : t.kind = 6) : fnd l t.name < l.length := by
  obtain ⟨k, nm, o⟩ := t
  have hk' : k = 6 := hk
  show fnd l nm < l.length
  rw [typE] at h
  split at h
  · cases h
  · split at h
    · rename_i c
      exact kindOf_lt (by omega)
    · split at h <;> cases h
theorem fields_named {l : List Dc} {i : Nat} {q : Dq} (h : declE l i q = 0) (h3 : q.d.kind ≠ 3) : ∀ f ∈ q.fs, f.2.kind = 6 → fnd l f.2.name < l.length := by
  intro f hf hk
  obtain ⟨-, -, h1, -, -⟩ := declE_zero h
  obtain ⟨j, hj, rfl⟩ := List.getElem_of_mem hf
  have e := firstE_zero h1 j hj
  unfold fErr at e
  rw [List.getElem?_eq_getElem hj] at e
  simp only at e
  obtain ⟨-, e⟩ := ite_zero e
  unfold fieldE at e
  rw [if_neg h3] at e
  exact typE_named (ite_zero e).1 hk
theorem finD_cut {l : List Dc} {z : Dc} {a b : List Bool} (hab : ∀ j, j < l.length → a[j]? = some true → b[j]? = some true) {i : Nat} {q : Dq} (hd : declE l i q = 0) (h : finD (l ++ [z]) a q = true) : finD l b q = true := by
  unfold finD at *
  split
  · rfl
  · rename_i c1
    have hn := fields_named hd (fun e => c1 (.inl e))
    rw [if_neg c1] at h
    split
    · rw [if_pos ‹_›, List.all_eq_true] at h
      rw [List.all_eq_true]
      exact fun f hf => fine_cut hab (hn f hf) (h f hf)
    · rw [if_neg ‹_›] at h
      split
      · rw [if_pos ‹_›, List.any_eq_true] at h
        rw [List.any_eq_true]
        obtain ⟨f, hf, h⟩ := h
        exact ⟨f, hf, fine_cut hab (hn f hf) h⟩
      · rw [if_neg ‹_›] at h; exact h
theorem iter_cut {qs : List Dq} {z : Dq} (hd : ∀ i (h : i < qs.length), declE (qs.map Dq.d) i qs[i] = 0) : ∀ k j, j < qs.length → (iterF (qs ++ [z]) k)[j]? = some true → (iterF qs k)[j]? = some true
  | 0, j, hj, h => by
    simp only [iterF] at h
    rw [List.getElem?_replicate] at h
    split at h <;> simp at h
  | k + 1, j, hj, h => by
    simp only [iterF, stepF] at h ⊢
    rw [List.getElem?_map, List.getElem?_append_left hj, List.getElem?_eq_getElem hj, Option.map_some, Option.some.injEq, List.map_append] at h
    rw [List.getElem?_map, List.getElem?_eq_getElem hj, Option.map_some, Option.some.injEq]
    exact finD_cut (fun j hj => iter_cut hd k j (by simpa using hj)) (hd j hj) h
/-- without its last declaration .. -/
theorem check_cut {qs : List Dq} {z : Dq} (h : checkE (qs ++ [z]) = 0) : Mild z.d.kind (checkE qs) := by
  unfold checkE at h
  obtain ⟨h1, h2⟩ := ite_zero h
  have hfin : (finE (qs ++ [z])).all id = true := by
    cases hx : (finE (qs ++ [z])).all id with
    | true => rfl
    | false => rw [hx] at h2; cases h2
  have hde : ∀ j (_ : j < qs.length), declE (qs.map Dq.d ++ [z.d]) j qs[j] = 0 := by
    intro j hj
    have := firstE_zero h1 j (by simp; omega)
    unfold dErr at this
    rw [List.getElem?_append_left hj, List.getElem?_eq_getElem hj, List.map_append] at this
    exact this
  have hm : ∀ j, j < qs.length → Mild z.d.kind (dErr qs j) := by
    intro j hj
    unfold dErr
    rw [List.getElem?_eq_getElem hj]
    exact declE_cut (by simpa using hj) (hde j hj)
  unfold checkE
  split
  · exact firstE_mild hm
  · rename_i c
    have c0 : firstE (dErr qs) qs.length = 0 := Decidable.of_not_not c
    have hd : ∀ i (h : i < qs.length), declE (qs.map Dq.d) i qs[i] = 0 := by
      intro i hi
      have := firstE_zero c0 i hi
      unfold dErr at this
      rw [List.getElem?_eq_getElem hi] at this
      exact this
    rw [if_pos]
    · exact .inl rfl
    · rw [List.all_eq_true]
      intro x hx
      obtain ⟨j, hj, rfl⟩ := List.getElem_of_mem hx
      rw [finE_len] at hj
      have hj2 : j < (finE (qs ++ [z])).length := by rw [finE_len]; simp; omega
      have h3 : (finE (qs ++ [z]))[j]? = some true := by
        rw [List.getElem?_eq_getElem hj2]
        rw [List.all_eq_true] at hfin
        exact congrArg some (hfin _ (List.getElem_mem hj2))
      have h4 := fin_top qs _ j (iter_cut hd _ j hj h3)
      rw [List.getElem?_eq_getElem (by rw [finE_len]; exact hj), Option.some.injEq] at h4
      exact h4
end Go.Proofs.Ytagnclphmhjoiaa
