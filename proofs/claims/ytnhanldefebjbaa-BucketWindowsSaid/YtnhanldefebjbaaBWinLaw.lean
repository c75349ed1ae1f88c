/-
  The plain law of chapter 23's windows: the tokens are the least, over all times that ended, of burst and rate times ticks, less what was taken since. No condition.
-/
import Derived.Test.YtnhanldefebjbaaIRow
namespace Go.Proofs.Ytnhanldefebjbaa
open Go Go.RowKit

/-- what a window from step k to step i leaves -/
def leaves (rate burst : Int) (tk ti : List Int) (i k : Nat) : Int := burst + rate * (nth ti i - nth ti k) - (nth tk i - nth tk k)

structure WinInv (rate burst T : Int) (tk ti : List Int) (i : Nat) : Prop where
  le : ∀ k, k ≤ i → T ≤ leaves rate burst tk ti i k
  ex : ∃ k, k ≤ i ∧ T = leaves rate burst tk ti i k
  tk0 : ∀ k, k ≤ i → 0 ≤ nth tk k ∧ nth tk k ≤ (k : Int) * 1073741824 ∧ nth tk k ≤ nth tk i
  ti0 : ∀ k, k ≤ i → 0 ≤ nth ti k ∧ nth ti k ≤ (k : Int) ∧ nth ti k ≤ nth ti i

theorem leaves_self (rate burst : Int) (tk ti : List Int) (i : Nat) : leaves rate burst tk ti i i = burst := by
  unfold leaves; rw [Int.sub_self, Int.sub_self, Int.mul_zero]; omega

theorem win_start (rate burst : Int) (n : Nat) : WinInv rate burst burst (List.replicate n 0) (List.replicate n 0) 0 := by
  refine ⟨fun k hk => ?_, ⟨0, Nat.le_refl _, (leaves_self _ _ _ _ _).symm⟩, fun k hk => ?_, fun k hk => ?_⟩
  · obtain rfl : k = 0 := by omega
    rw [leaves_self]; exact Int.le_refl _
  · rw [getD_replicate, getD_replicate]; omega
  · rw [getD_replicate, getD_replicate]; omega

theorem WinInv.burst {rate burst T : Int} {tk ti : List Int} {i : Nat} (h : WinInv rate burst T tk ti i) : T ≤ burst := by
  have := h.le i (Nat.le_refl _); rw [leaves_self] at this; exact this

/-- the next step: a more is taken, d ticks go by -/
theorem win_next {rate burst T T' : Int} {tk ti : List Int} {i : Nat} (h : WinInv rate burst T tk ti i) (a d : Int) (hlk : i + 1 < tk.length) (hli : i + 1 < ti.length)
    (hd : d = 0 ∧ T' = T - a ∧ 0 ≤ a ∧ a ≤ 1073741824 ∨ d = 1 ∧ a = 0 ∧ T' = min (T + rate) burst) :
    WinInv rate burst T' (tk.set (i + 1) (nth tk i + a)) (ti.set (i + 1) (nth ti i + d)) (i + 1) := by
  have e1 : nth (tk.set (i + 1) (nth tk i + a)) (i + 1) = nth tk i + a := getD_set_self hlk
  have e2 : nth (ti.set (i + 1) (nth ti i + d)) (i + 1) = nth ti i + d := getD_set_self hli
  have o1 : ∀ k, k ≤ i → nth (tk.set (i + 1) (nth tk i + a)) k = nth tk k := fun k hk => getD_set_ne (by omega)
  have o2 : ∀ k, k ≤ i → nth (ti.set (i + 1) (nth ti i + d)) k = nth ti k := fun k hk => getD_set_ne (by omega)
  have hl : ∀ k, k ≤ i → leaves rate burst (tk.set (i + 1) (nth tk i + a)) (ti.set (i + 1) (nth ti i + d)) (i + 1) k = leaves rate burst tk ti i k + rate * d - a := by
    intro k hk
    unfold leaves
    rw [e1, e2, o1 k hk, o2 k hk, show nth ti i + d - nth ti k = (nth ti i - nth ti k) + d by omega, Int.mul_add]
    omega
  have hb := h.burst
  obtain ⟨k0, hk0, hk1⟩ := h.ex
  have hi := h.tk0 i (Nat.le_refl _)
  have hi2 := h.ti0 i (Nat.le_refl _)
  refine ⟨fun k hk => ?_, ?_, fun k hk => ?_, fun k hk => ?_⟩
  · by_cases e : k = i + 1
    · subst e; rw [leaves_self]; omega
    · rw [hl k (by omega)]
      have := h.le k (by omega)
      rcases hd with ⟨rfl, rfl, _, _⟩ | ⟨rfl, rfl, rfl⟩
      · rw [Int.mul_zero]; omega
      · rw [Int.mul_one]; omega
  · rcases hd with ⟨rfl, rfl, _, _⟩ | ⟨rfl, rfl, rfl⟩
    · exact ⟨k0, by omega, by rw [hl k0 hk0, Int.mul_zero, ← hk1]; omega⟩
    · by_cases hm : T + rate ≤ burst
      · exact ⟨k0, by omega, by rw [hl k0 hk0, Int.mul_one, ← hk1]; omega⟩
      · exact ⟨i + 1, Nat.le_refl _, by rw [leaves_self]; omega⟩
  · by_cases e : k = i + 1
    · subst e; rw [e1]; omega
    · rw [o1 k (by omega), e1]
      have := h.tk0 k (by omega); omega
  · by_cases e : k = i + 1
    · subst e; rw [e2]; omega
    · rw [o2 k (by omega), e2]
      have := h.ti0 k (by omega); omega

/-- a take fits each window just if there are enough tokens -/
theorem win_fits {rate burst T : Int} {tk ti : List Int} {i : Nat} (h : WinInv rate burst T tk ti i) (n : Int) : (∀ k, k ≤ i → n ≤ leaves rate burst tk ti i k) ↔ n ≤ T := by
  constructor
  · intro hk
    obtain ⟨k, hk0, hk1⟩ := h.ex
    rw [hk1]; exact hk k hk0
  · intro hn k hk
    have := h.le k hk; omega

/-- do the first j windows let n more be taken? -/
def fitsB (rate burst n : Int) (tk ti : List Int) (i j : Nat) : Bool := decide (∀ k, k < j → nth tk i - nth tk k + n ≤ burst + rate * (nth ti i - nth ti k))
theorem fitsB_zero (rate burst n : Int) (tk ti : List Int) (i : Nat) : fitsB rate burst n tk ti i 0 = true := by
  unfold fitsB; simp
theorem fitsB_yes {rate burst n : Int} {tk ti : List Int} {i j : Nat} (h : fitsB rate burst n tk ti i j = true) (h2 : nth tk i - nth tk j + n ≤ burst + rate * (nth ti i - nth ti j)) : fitsB rate burst n tk ti i (j + 1) = true := by
  unfold fitsB at *
  simp only [decide_eq_true_eq] at *
  intro k hk
  by_cases e : k = j
  · subst e; exact h2
  · exact h k (by omega)
theorem fitsB_no {rate burst n : Int} {tk ti : List Int} {i j : Nat} (h2 : ¬ nth tk i - nth tk j + n ≤ burst + rate * (nth ti i - nth ti j)) : fitsB rate burst n tk ti i (j + 1) = false := by
  unfold fitsB at *
  simp only [decide_eq_false_iff_not]
  intro h
  exact h2 (h j (by omega))
theorem fitsB_stays {rate burst n : Int} {tk ti : List Int} {i j : Nat} (h : fitsB rate burst n tk ti i j = false) : fitsB rate burst n tk ti i (j + 1) = false := by
  unfold fitsB at *
  simp only [decide_eq_false_iff_not] at *
  intro h2
  exact h fun k hk => h2 k (by omega)
theorem fitsB_all {rate burst n T : Int} {tk ti : List Int} {i : Nat} (h : WinInv rate burst T tk ti i) : fitsB rate burst n tk ti i (i + 1) = decide (n ≤ T) := by
  have hf := win_fits h n
  unfold fitsB
  rw [decide_eq_decide]
  refine Iff.trans ⟨fun g k hk => ?_, fun g k hk => ?_⟩ hf
  · have := g k (by omega); unfold leaves; omega
  · have := g k (by omega); unfold leaves at this; omega
end Go.Proofs.Ytnhanldefebjbaa
