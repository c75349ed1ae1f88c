/-
  What goes out on connections: the plain law; and sixteen connections opened. No condition.
-/
import Derived.Test.YtagadbgbicebaaaSents
namespace Go.Proofs.Ytagadbgbicebaaa
open Go Go.RowKit

structure Ord (tl : List Ln) (F : Nat → List ByteArray) (G : Nat → Bool) : Prop where
  len : tl.length = 16
  at' : ∀ j, j < 16 → ∃ m : Ln, tl[j]? = some m ∧ m.out = F j ∧ G j = decide (m.st = 3) ∧ 0 ≤ m.st ∧ m.st ≤ 3

theorem Ord.set {tl : List Ln} {F : Nat → List ByteArray} {G : Nat → Bool} (h : Ord tl F G) {n : Nat} (hn : n < 16) {m : Ln} (hm : 0 ≤ m.st ∧ m.st ≤ 3) :
    Ord (tl.set n m) (fun j => if j = n then m.out else F j) (fun j => if j = n then decide (m.st = 3) else G j) := by
  refine ⟨by rw [List.length_set]; exact h.len, fun j hj => ?_⟩
  by_cases e : j = n
  · subst e
    refine ⟨m, List.getElem?_set_self (by rw [h.len]; exact hn), ?_, ?_, hm⟩ <;> simp
  · obtain ⟨m2, h1, h2, h3, h4⟩ := h.at' j hj
    refine ⟨m2, by rw [List.getElem?_set_ne (by omega)]; exact h1, ?_, ?_, h4⟩
    · simp only [if_neg e]; exact h2
    · simp only [if_neg e]; exact h3
theorem if_same {α : Type} (f : Nat → α) (n : Nat) {x : α} (h : x = f n) : (fun j => if j = n then x else f j) = f := by
  funext j
  split
  · rename_i e; rw [e, h]
  · rfl
/-- a connection that has changed in nothing that the law looks at -/
theorem Ord.set0 {tl : List Ln} {F : Nat → List ByteArray} {G : Nat → Bool} (h : Ord tl F G) {n : Nat} (hn : n < 16) {m : Ln} (hm : 0 ≤ m.st ∧ m.st ≤ 3) (h1 : m.out = F n) (h2 : decide (m.st = 3) = G n) : Ord (tl.set n m) F G := by
  have := h.set hn hm
  rw [if_same F n h1, if_same G n h2] at this
  exact this
theorem setL_nat (l : List Ln) (n : Nat) (m : Ln) : setL l (n : Int) m = l.set n m := by unfold setL; simp

section
variable {tl : List Ln} {F : Nat → List ByteArray} {G : Nat → Bool}

theorem ord_bind (h : Ord tl F G) {n : Nat} (hn : n < 16) (o : Int) : Ord (tbiL tl n o) F G := by
  obtain ⟨m, h1, h2, h3, h4⟩ := h.at' n hn
  unfold tbiL
  rw [lnAt_nat, h1]
  simp only
  split
  · exact h
  · split
    · rename_i hs
      rw [setL_nat]
      exact h.set0 hn (by show (0 : Int) ≤ 1 ∧ (1 : Int) ≤ 3; omega) h2 (by rw [h3, hs]; rfl)
    · exact h
theorem ord_shut (h : Ord tl F G) {n : Nat} (hn : n < 16) : Ord (tshL tl n) F G := by
  obtain ⟨m, h1, h2, h3, h4⟩ := h.at' n hn
  unfold tshL
  rw [lnAt_nat, h1]
  simp only
  split
  · rename_i hs
    rw [setL_nat]
    exact h.set0 hn (by show (0 : Int) ≤ 2 ∧ (2 : Int) ≤ 3; omega) h2 (by rw [h3, decide_eq_false (by omega : ¬ m.st = 3)]; rfl)
  · exact h
theorem ord_drop (h : Ord tl F G) {n : Nat} (hn : n < 16) : twaits tl n = (F n).length ∧ Ord (tdrL tl n) (fun j => if j = n then [] else F j) (fun j => if j = n then true else G j) := by
  obtain ⟨m, h1, h2, h3, h4⟩ := h.at' n hn
  unfold twaits tdrL
  rw [lnAt_nat, h1]
  simp only
  refine ⟨by rw [h2], ?_⟩
  rw [setL_nat]
  exact h.set hn (m := { m with st := 3, out := [] }) (by show (0 : Int) ≤ 3 ∧ (3 : Int) ≤ 3; omega)
theorem ord_sendNot (h : Ord tl F G) {n : Nat} (hn : n < 16) (hg : G n = true) (s : ByteArray) : tseE tl n = 17 ∧ tseL tl n s = tl := by
  obtain ⟨m, h1, h2, h3, h4⟩ := h.at' n hn
  rw [hg] at h3
  have hs : m.st = 3 := by simpa using h3.symm
  unfold tseE tseL
  rw [lnAt_nat, h1]
  simp only [if_pos hs]
  exact ⟨trivial, trivial⟩
theorem ord_send (h : Ord tl F G) {n : Nat} (hn : n < 16) (hg : G n = false) (s : ByteArray) : tseE tl n = 0 ∧ Ord (tseL tl n s) (fun j => if j = n then F n ++ [s] else F j) G := by
  obtain ⟨m, h1, h2, h3, h4⟩ := h.at' n hn
  have h3' := h3
  rw [hg] at h3
  have hs : ¬ m.st = 3 := by simpa using h3.symm
  unfold tseE tseL
  rw [lnAt_nat, h1]
  simp only [if_neg hs]
  refine ⟨trivial, ?_⟩
  rw [setL_nat]
  have := h.set hn (m := { m with out := m.out ++ [s] }) h4
  simp only at this
  rw [if_same G n h3'.symm] at this
  rw [← h2]
  exact this
theorem ord_deliverNot (h : Ord tl F G) {n : Nat} (hn : n < 16) (hg : G n = true) : tdv tl n = ⟨⟨#[]⟩, false, 17, tl⟩ := by
  obtain ⟨m, h1, h2, h3, h4⟩ := h.at' n hn
  rw [hg] at h3
  have hs : m.st = 3 := by simpa using h3.symm
  unfold tdv
  rw [lnAt_nat, h1]
  simp only [if_pos hs]
theorem ord_deliver (h : Ord tl F G) {n : Nat} (hn : n < 16) (hg : G n = false) {s : ByteArray} {r : List ByteArray} (hF : F n = s :: r) : ∃ l', tdv tl n = ⟨s, false, 0, l'⟩ ∧ Ord l' (fun j => if j = n then r else F j) G := by
  obtain ⟨m, h1, h2, h3, h4⟩ := h.at' n hn
  have h3' := h3
  rw [hg] at h3
  have hs : ¬ m.st = 3 := by simpa using h3.symm
  unfold tdv
  rw [lnAt_nat, h1]
  simp only [if_neg hs]
  rw [h2, hF]
  refine ⟨_, rfl, ?_⟩
  rw [setL_nat]
  have := h.set hn (m := { m with out := r }) h4
  simp only at this
  rw [if_same G n h3'.symm] at this
  exact this
theorem ord_deliverEnd (h : Ord tl F G) {n : Nat} (hn : n < 16) (hg : G n = false) (hF : F n = []) : ∃ l', tdv tl n = ⟨⟨#[]⟩, !ttakes tl n, 0, l'⟩ ∧ Ord l' F (fun j => if j = n then !ttakes tl n else G j) := by
  obtain ⟨m, h1, h2, h3, h4⟩ := h.at' n hn
  have h3' := h3
  rw [hg] at h3
  have hs : ¬ m.st = 3 := by simpa using h3.symm
  unfold tdv ttakes
  rw [lnAt_nat, h1]
  simp only [if_neg hs]
  rw [h2, hF]
  simp only
  by_cases h5 : m.st = 2
  · rw [if_pos h5, decide_eq_false (by omega : ¬ m.st < 2)]
    refine ⟨_, rfl, ?_⟩
    rw [setL_nat]
    have := h.set hn (m := { m with st := 3, out := [] }) (by show (0 : Int) ≤ 3 ∧ (3 : Int) ≤ 3; omega)
    simp only at this
    rw [if_same F n hF.symm] at this
    exact this
  · rw [if_neg h5, decide_eq_true (by omega : m.st < 2)]
    refine ⟨tl, rfl, ?_⟩
    rw [if_same G n (show (!true) = G n from by rw [hg]; rfl)]
    exact h
theorem ord_outs (h : Ord tl F G) {K : Nat} (hK : ∀ j, (F j).length ≤ K) : outs tl K := fun k n hk => by
  have hl := get_lt hk
  rw [h.len] at hl
  obtain ⟨m, h1, h2, -, -⟩ := h.at' k hl
  rw [h1] at hk; injection hk with hk; subst hk
  rw [h2]; exact hK k
end

theorem ord_new : Ord (List.replicate 16 Ln.new) (fun _ => []) (fun _ => false) :=
  ⟨by simp, fun j hj => ⟨Ln.new, by rw [List.getElem?_replicate, if_pos hj], rfl, rfl, by show (0 : Int) ≤ 0; omega, by show (0 : Int) ≤ 3; omega⟩⟩

theorem grow2 {Z : Nat → Prop} {w w' : World} (h : w.heap.size ≤ w'.heap.size) : ∀ x, grow (grow Z w) w' x → grow Z w x := fun x q => by
  rcases q with q | q
  · exact q
  · exact .inr (Nat.le_trans h q)

set_option maxHeartbeats 1000000 in
theorem opens_c {w : World} {Z : Nat → Prop} {b : Nat} (h : TblAt w Z b []) :
    Calls Try.prog 33 #[.pointer (some ⟨b, 0, none⟩)] w fun e w' => e = .returned (.bool true) ∧ UpdP Z w w' ∧ TblAt w' (grow Z w) b (List.replicate 16 Ln.new) := by
  have H0 := Lib.hid (h.more (grow_sub Z w))
  clear h
  refine post fun R hR => ?_
  go_enter Try.func33, Try.ntmps33
  go_wp2_with (fail)
  go_loopw [3] (fun i wr => ∃ k : Nat, i = i64 k ∧ k ≤ 16 ∧ TblAt wr (grow Z w) b (List.replicate k Ln.new) ∧ UpdP Z w wr) (fun i _ => 16 - (intOf i).toNat)
  case atStart => exact ⟨0, rfl, by omega, H0.out, UpdP.refl _ _⟩
  case round =>
    obtain ⟨k, rfl, hk, hT, hp⟩ := hrel
    have ho := tbl_open_c hT
    by_cases hlt : k < 16
    · rw [show topN (List.replicate k Ln.new) = (k : Int) from by unfold topN; rw [if_neg (by simp; omega)]; simp, show topE (List.replicate k Ln.new) = 0 from by unfold topE; rw [if_neg (by simp; omega)],
        show topL (List.replicate k Ln.new) = List.replicate (k + 1) Ln.new from by unfold topL; rw [if_neg (by simp; omega)]; exact List.replicate_succ'.symm] at ho
      have HO := Lib.hid ho
      have HP := Lib.hid hp
      clear ho hT hp
      go_wp2_with (fail)
      refine HO.out.mono ?_
      rintro e w2 ⟨rfl, hp2, hT2⟩
      have hp3 := HP.out.trans hp2 (fun x hx => hx)
      have hT3 := hT2.more (grow2 HP.out.size)
      clear hp2 hT2
      go_wp2_with (fail)
      go_roundw
      case rel => exact ⟨k + 1, by go_num, by omega, hT3, hp3⟩
      case measure => simp [intOf]; omega
    · have e : k = 16 := by omega
      subst e
      rw [show topN (List.replicate 16 Ln.new) = 0 from by unfold topN; rw [if_pos (by simp)], show topE (List.replicate 16 Ln.new) = 13 from by unfold topE; rw [if_pos (by simp)],
        show topL (List.replicate 16 Ln.new) = List.replicate 16 Ln.new from by unfold topL; rw [if_pos (by simp)]] at ho
      have HO := Lib.hid ho
      have HP := Lib.hid hp
      clear ho hT hp
      rw [show ((16 : Nat) : Int) = 16 from rfl]
      go_wp2_with (fail)
      refine HO.out.mono ?_
      rintro e w2 ⟨rfl, hp2, hT2⟩
      have hp3 := HP.out.trans hp2 (fun x hx => hx)
      have hT3 := hT2.more (grow2 HP.out.size)
      clear hp2 hT2
      go_wp2_with (fail)
      exact hR.out _ _ ⟨rfl, hp3, hT3⟩
end Go.Proofs.Ytagadbgbicebaaa
