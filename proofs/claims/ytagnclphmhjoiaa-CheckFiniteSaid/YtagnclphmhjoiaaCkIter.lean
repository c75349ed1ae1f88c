/-
  The plain law behind Finite (chapter 12): one at a time or all at once, the same are found finite. No condition.
-/
import Derived.Test.YtagnclphmhjoiaaCkFin
namespace Go.Proofs.Ytagnclphmhjoiaa
open Go Go.RowKit

/-- all that is known in a is known in b -/
def LeB (a b : List Bool) : Prop := ∀ j : Nat, a[j]? = some true → b[j]? = some true
theorem LeB.refl (a : List Bool) : LeB a a := fun _ h => h
theorem LeB.trans {a b c : List Bool} (h : LeB a b) (k : LeB b c) : LeB a c := fun j h1 => k j (h j h1)
theorem fine1_mono {ds : List Dc} {a b : List Bool} (h : LeB a b) {k : Int} {nm : ByteArray} (e : fine1 ds a k nm = true) : fine1 ds b k nm = true := by
  unfold fine1 at *
  split at e
  · rw [if_pos ‹_›]
    cases hx : a[fnd ds nm]? with
    | none => rw [hx] at e; cases e
    | some v =>
      rw [hx] at e
      have hv : v = true := e
      subst hv
      rw [h _ hx]; rfl
  · rw [if_neg ‹_›]
theorem finD_mono {ds : List Dc} {a b : List Bool} (h : LeB a b) {q : Dq} (e : finD ds a q = true) : finD ds b q = true := by
  unfold finD at *
  split
  · rfl
  · rw [if_neg ‹_›] at e
    split
    · rw [if_pos ‹_›] at e
      rw [List.all_eq_true] at *
      exact fun f hf => fine1_mono h (e f hf)
    · rw [if_neg ‹_›] at e
      split
      · rw [if_pos ‹_›] at e
        rw [List.any_eq_true] at *
        obtain ⟨f, hf, e⟩ := e
        exact ⟨f, hf, fine1_mono h e⟩
      · rw [if_neg ‹_›] at e; exact e
/-- a round -/
def stepF (qs : List Dq) (ks : List Bool) : List Bool := qs.map (finD (qs.map Dq.d) ks)
/-- so many rounds -/
def iterF (qs : List Dq) : Nat → List Bool
  | 0 => List.replicate qs.length false
  | k + 1 => stepF qs (iterF qs k)
/-- which are finite -/
def finE (qs : List Dq) : List Bool := iterF qs qs.length
theorem stepF_len (qs : List Dq) (ks : List Bool) : (stepF qs ks).length = qs.length := by unfold stepF; simp
theorem iterF_len (qs : List Dq) : ∀ k, (iterF qs k).length = qs.length
  | 0 => by simp [iterF]
  | k + 1 => by simp only [iterF]; exact stepF_len _ _
theorem finE_len (qs : List Dq) : (finE qs).length = qs.length := iterF_len _ _
theorem stepF_mono {qs : List Dq} {a b : List Bool} (h : LeB a b) : LeB (stepF qs a) (stepF qs b) := by
  intro j e
  unfold stepF at *
  rw [List.getElem?_map] at *
  cases hq : qs[j]? with
  | none => rw [hq] at e; cases e
  | some q =>
    rw [hq] at e
    have e' : finD (qs.map Dq.d) a q = true := by simpa using e
    rw [Option.map_some, finD_mono h e']
theorem rep_le (n : Nat) (b : List Bool) : LeB (List.replicate n false) b := by
  intro j e
  rw [List.getElem?_replicate] at e
  split at e <;> simp at e
theorem iterF_up (qs : List Dq) : ∀ k, LeB (iterF qs k) (iterF qs (k + 1))
  | 0 => rep_le _ _
  | k + 1 => stepF_mono (iterF_up qs k)
theorem iterF_le (qs : List Dq) {i j : Nat} (h : i ≤ j) : LeB (iterF qs i) (iterF qs j) := by
  induction h with
  | refl => exact LeB.refl _
  | step _ ih => exact ih.trans (iterF_up qs _)
/-- what the program knows at a time -/
structure Kn (qs : List Dq) (c : Nat) (ks : List Bool) : Prop where
  len : ks.length = qs.length
  cnt : ks.count true = c
  le : LeB ks (iterF qs c)
theorem Kn.start (qs : List Dq) : Kn qs 0 (List.replicate qs.length false) := ⟨by simp, by rw [List.count_replicate]; simp, rep_le _ _⟩
theorem Kn.bound {qs : List Dq} {c : Nat} {ks : List Bool} (h : Kn qs c ks) : c ≤ qs.length := by rw [← h.cnt, ← h.len]; exact List.count_le_length
theorem Kn.more {qs : List Dq} {c : Nat} {ks : List Bool} (h : Kn qs c ks) {i : Nat} (hi : i < ks.length) (hi2 : i < qs.length) (h0 : ks[i] = false) (h1 : finD (qs.map Dq.d) ks qs[i] = true) : Kn qs (c + 1) (ks.set i true) := by
  refine ⟨by rw [List.length_set]; exact h.len, ?_, ?_⟩
  · rw [List.count_set hi, h0, h.cnt]; simp
  · intro j e
    by_cases hj : j = i
    · subst hj
      show (stepF qs (iterF qs c))[j]? = some true
      unfold stepF
      rw [List.getElem?_map, List.getElem?_eq_getElem hi2, Option.map_some, finD_mono h.le h1]
    · rw [List.getElem?_set_ne (by omega)] at e
      exact iterF_up qs c j (h.le j e)
theorem Kn.done {qs : List Dq} {c : Nat} {ks : List Bool} (h : Kn qs c ks) (hend : ∀ i (h1 : i < ks.length) (h2 : i < qs.length), ks[i] = false → finD (qs.map Dq.d) ks qs[i] = false) : ks = finE qs := by
  have h1 : LeB ks (finE qs) := h.le.trans (iterF_le qs h.bound)
  have h2 : LeB (stepF qs ks) ks := by
    intro j e
    unfold stepF at e
    rw [List.getElem?_map] at e
    by_cases hj : j < qs.length
    · rw [List.getElem?_eq_getElem hj, Option.map_some, Option.some.injEq] at e
      have hj2 : j < ks.length := by rw [h.len]; exact hj
      rw [List.getElem?_eq_getElem hj2]
      cases hx : ks[j] with
      | true => rfl
      | false => rw [hend j hj2 hj hx] at e; cases e
    · rw [List.getElem?_eq_none (by omega)] at e; cases e
  have h3 : ∀ k, LeB (iterF qs k) ks := by
    intro k
    induction k with
    | zero => exact rep_le _ _
    | succ k ih => exact (stepF_mono ih).trans h2
  have h4 := h3 qs.length
  apply List.ext_getElem (by rw [finE_len, h.len])
  intro i g1 g2
  have a1 := h1 i
  have a2 := h4 i
  rw [List.getElem?_eq_getElem g1, List.getElem?_eq_getElem g2] at a1
  rw [List.getElem?_eq_getElem g1, show iterF qs qs.length = finE qs from rfl, List.getElem?_eq_getElem g2] at a2
  simp only [Option.some.injEq] at a1 a2
  cases hx : ks[i] <;> cases hy : (finE qs)[i] <;> simp_all
end Go.Proofs.Ytagnclphmhjoiaa
