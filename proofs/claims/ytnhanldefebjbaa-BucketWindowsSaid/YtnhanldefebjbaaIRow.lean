/-
  Rows of numbers as lists. No condition.
-/
import Derived.Test.YtnhanldefebjbaaSub
namespace Go.Proofs.Ytnhanldefebjbaa
open Go Go.RowKit

/-- the cells of a row of numbers -/
def irow (l : List Int) : Array Value := (l.map i64).toArray
/-- the j-th number -/
def nth (l : List Int) (j : Nat) : Int := l.getD j 0
theorem irow_size (l : List Int) : (irow l).size = l.length := by simp [irow]
theorem irow_get {l : List Int} {j : Nat} (h : j < l.length) : (irow l)[j]? = some (i64 (nth l j)) := by
  unfold irow nth
  rw [List.getElem?_toArray, List.getElem?_map, List.getElem?_eq_getElem h, List.getD_eq_getElem?_getD, List.getElem?_eq_getElem h]
  rfl
theorem irow_set (l : List Int) (j : Nat) (x : Int) : (irow l).setIfInBounds j (i64 x) = irow (l.set j x) := by
  unfold irow
  rw [List.setIfInBounds_toArray, List.map_set]
theorem getD_set_self {l : List Int} {j : Nat} {x : Int} (h : j < l.length) : nth (l.set j x) j = x := by
  unfold nth; rw [List.getD_eq_getElem?_getD, List.getElem?_set_self h]; rfl
theorem getD_set_ne {l : List Int} {i j : Nat} {x : Int} (h : i ≠ j) : nth (l.set i x) j = nth l j := by
  unfold nth; rw [List.getD_eq_getElem?_getD, List.getElem?_set_ne h, List.getD_eq_getElem?_getD]
theorem madeCells_irow (n : Nat) : madeCells #[i64 0] n = irow (List.replicate n 0) := by
  have h1 : madeCells #[i64 0] n = (Array.range n).map (fun _ => i64 0) := by
    unfold madeCells
    congr 1
    funext i
    have : i % 1 = 0 := by omega
    simp [this]
  rw [h1]
  unfold irow
  rw [List.map_replicate]
  apply Array.ext
  · simp
  · intro i h1 h2
    simp
theorem getD_replicate (n j : Nat) : nth (List.replicate n (0 : Int)) j = 0 := by
  unfold nth; rw [List.getD_eq_getElem?_getD, List.getElem?_replicate]; split <;> rfl
end Go.Proofs.Ytnhanldefebjbaa
