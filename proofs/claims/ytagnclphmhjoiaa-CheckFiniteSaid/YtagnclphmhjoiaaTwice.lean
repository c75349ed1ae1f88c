/-
  The contract of names.Twice. Condition: lengths within the machine's bounds.
-/
import Derived.Test.YtagnclphmhjoiaaNamRef
namespace Go.Proofs.Ytagnclphmhjoiaa
open Go Go.RowKit

def nameAt (l : List Dc) (i : Nat) : ByteArray := ((l[i]?).map Dc.name).getD ⟨#[]⟩
theorem nameAt_eq {l : List Dc} {i : Nat} (h : i < l.length) : nameAt l i = l[i].name := by unfold nameAt; rw [List.getElem?_eq_getElem h]; rfl
/-- the first place whose name stood ahead; -1: none -/
def twiceN (l : List Dc) : Nat := (List.range l.length).findIdx (fun i => decide (fnd l (nameAt l i) ≠ i))
def twice (l : List Dc) : Int := if twiceN l < l.length then twiceN l else -1

theorem fnd_own {l : List Dc} {i : Nat} (h : i < l.length) : fnd l (nameAt l i) ≤ i := by
  rw [nameAt_eq h]
  unfold fnd
  rcases Nat.lt_or_ge i (List.findIdx (fun d => decide (d.name = l[i].name)) l) with g | g
  · have := List.not_of_lt_findIdx g
    simp at this
  · exact g
theorem twice_hit {l : List Dc} {k : Nat} (hk : k < l.length) (h : fnd l (nameAt l k) ≠ k) (hn : ∀ j, j < k → fnd l (nameAt l j) = j) : twice l = k := by
  have : twiceN l = k := by
    unfold twiceN
    rw [List.findIdx_eq (by simpa using hk)]
    refine ⟨by simpa using h, fun j hj => ?_⟩
    simpa using hn j hj
  unfold twice
  rw [this, if_pos hk]
theorem twice_miss {l : List Dc} (hn : ∀ j, j < l.length → fnd l (nameAt l j) = j) : twice l = -1 := by
  unfold twice
  rw [if_neg]
  unfold twiceN
  intro h
  have h2 : List.findIdx (fun i => decide (fnd l (nameAt l i) ≠ i)) (List.range l.length) < (List.range l.length).length := by rw [List.length_range]; exact h
  rw [List.findIdx_lt_length] at h2
  obtain ⟨x, hx, hp⟩ := h2
  simp at hx hp
  exact hp (hn x hx)

set_option maxRecDepth 100000 in
set_option maxHeartbeats 2000000 in
theorem twice_c {ao : Option Addr} {cap : Nat} {l : List Dc} {w : World} (h : DArg w ao l) (hlen : l.length ≤ 2000000000000) (hgood : ∀ x ∈ l, x.name.size ≤ maxLen) :
    Calls Try.prog 14 #[.slice ao l.length cap] w fun e w' => e = .returned (i64 (twice l)) ∧ Upd [] w w' := by
  have hof := ofA_c (cap := cap) h hlen hgood
  rcases h with rfl | ⟨b, off, rfl, hb, hr⟩
  · have HOF := Lib.hid hof
    clear hof
    refine post fun R hR => ?_
    go_enter Try.func14, Try.ntmps14
    go_wp2_with fail
    refine Calls.mono HOF.out ?_
    rintro e w2 ⟨T, M, v, n, D, rfl, hT, hu⟩
    go_wp2_with fail
    refine wp_loop_once ?_
    go_wp2_with fail
    exact hR.out _ _ ⟨rfl, hu⟩
  · have HRows := Lib.hid hr
    have HGood := Lib.hid hgood
    have HOF := Lib.hid hof
    clear hof hr hgood
    refine post fun R hR => ?_
    go_enter Try.func14, Try.ntmps14
    go_wp2_with fail
    refine Calls.mono HOF.out ?_
    rintro e w2 ⟨T, M, v, n, D, rfl, hT, hu⟩
    go_wp2_with fail
    go_loopw [12] (fun i wr => ∃ k : Nat, i = i64 k ∧ k ≤ l.length ∧ (∀ j, j < k → fnd l (nameAt l j) = j) ∧ Upd [] w2 wr) (fun i _ => l.length - (intOf i).toNat)
    case atStart => exact ⟨0, rfl, Nat.zero_le _, fun j hj => by omega, Upd.refl _ _⟩
    case round =>
      obtain ⟨k, rfl, hk, hno, hur⟩ := hrel
      have HNO := Lib.hid hno
      clear hno
      by_cases hlt : k < l.length
      · obtain ⟨c0, c1, c2, c3, c4⟩ := drow HRows.out (hu.trans' hur) hb (by simp) hlt
        have hnm := HGood.out l[k] (List.getElem_mem hlt)
        have hna := nameAt_eq hlt
        have hfo := fnd_own hlt
        rw [← hna] at c1 hnm
        clear hna
        have hfi : fndI l (nameAt l k) = (fnd l (nameAt l k) : Int) := by unfold fndI; rw [if_pos (by omega)]
        have hfind := fun (w3 : World) (hu3 : Upd [] wr w3) => find_c (hT.upd (hur.trans' hu3)) (nameAt l k) hnm
        rw [hfi] at hfind
        have HFIND := Lib.hid hfind
        generalize l[k] = d at *
        obtain ⟨kd, nm, fa, fn, fc, ma, mn, mc, at_⟩ := d
        simp only at c0 c1 c2 c3 c4 hnm
        clear hfi hfind
        by_cases hown : fnd l (nameAt l k) = k
        · have hx : ∀ j, j = k → fnd l (nameAt l j) = j := fun j e => by subst e; exact hown
          have HOWN := Lib.hid hx
          rw [hown] at HFIND
          clear hx
          clear hown hfo
          generalize nameAt l k = nk at *
          go_wp2_with fail
          refine Calls.mono (HFIND.out _ ((Upd.refl _ _).alloc _)) ?_
          rintro e w3 ⟨rfl, rfl⟩
          go_wp2_with fail
          go_roundw
          case rel =>
            refine ⟨k + 1, by go_num, by omega, fun j hj => ?_, hur.alloc _⟩
            by_cases e : j = k
            · exact HOWN.out j e
            · exact HNO.out j (by omega)
          case measure => simp [intOf]; omega
        · have ht := twice_hit hlt hown HNO.out
          have hne : ((fnd l (nameAt l k) : Int) != (k : Int)) = true := by simpa using fun e => hown (by omega)
          have HT := Lib.hid ht
          clear ht hown
          generalize nameAt l k = nk at *
          generalize fnd l nk = F at *
          go_wp2_with fail
          refine Calls.mono (HFIND.out _ ((Upd.refl _ _).alloc _)) ?_
          rintro e w3 ⟨rfl, rfl⟩
          go_wp2_with fail
          exact hR.out _ _ ⟨ret_i HT.out.symm, hu.trans' (hur.alloc _)⟩
      · have ht := twice_miss (l := l) (fun j h => HNO.out j (by omega))
        have HT := Lib.hid ht
        clear ht
        go_wp2_with fail
        exact hR.out _ _ ⟨ret_i HT.out.symm, hu.trans' hur⟩
end Go.Proofs.Ytagnclphmhjoiaa
