/-
  DrrOrder: the costs of each flow go in the order in which they came, as long as it is not dropped, and a turn serves none just if no flow that does not rest has costs. For every list of steps. No condition.
-/
import Derived.Test.YtabhdigannalgaaRgOrder
namespace Go.Proofs.Ytabhdigannalgaa
open Go Go.RowKit Go.ChangeShapes Go.WideShapes Go.ChangeAt

theorem info_ints : (Try.prog.info? 36).map (fun i => (i.zero, i.size, i.bytes)) = some (some (.slice none 0 0), 1, 24) := by kernel_rfl
theorem info_boo : (Try.prog.info? 4).map (fun i => (i.zero, i.size, i.bytes)) = some (some (.bool false), 1, 1) := by kernel_rfl

theorem umod_nat (x : Int) : ∃ m : Nat, wrap64 ((IntKind.u64.wrap x).tmod 9) = (m : Int) ∧ m < 9 := by
  obtain ⟨y, h, h0, h1⟩ := umod_in x 9 (by omega)
  exact ⟨y.toNat, by rw [h]; omega, by omega⟩

def bcells (G : Nat → Bool) : List Value := (List.range 9).map fun j => .bool (G j)
theorem bcells_get (G : Nat → Bool) {j : Nat} (h : j < 9) : (bcells G).toArray[j]? = some (.bool (G j)) := by
  unfold bcells
  rw [List.getElem?_toArray, List.getElem?_map, List.getElem?_range h]; rfl
theorem bcells_set (G : Nat → Bool) {n : Nat} (b : Bool) : (bcells G).toArray.setIfInBounds n (.bool b) = (bcells fun j => if j = n then b else G j).toArray := by
  apply Array.ext_getElem?
  intro j
  rw [Array.getElem?_setIfInBounds, List.getElem?_toArray, List.getElem?_toArray]
  unfold bcells
  rw [List.getElem?_map, List.getElem?_map]
  by_cases hj : j < 9
  · rw [List.getElem?_range hj]
    by_cases e : n = j
    · subst e; simp [hj]
    · rw [if_neg e]; simp [Ne.symm e]
  · rw [List.getElem?_eq_none (by simp; omega)]
    by_cases e : n = j
    · subst e; simp; omega
    · rw [if_neg e]; rfl

/-- rows of costs, and which flows rest, beside a ring whose blocks are Z -/
structure Nines (w : World) (base : Nat) (Z : Nat → Prop) (A R : Nat) (cvs : List Value) (F : Nat → List Int) (G : Nat → Bool) : Prop where
  hA : w.heap[A]? = some (.cells cvs.toArray 36 (0, 0))
  hR : w.heap[R]? = some (.cells (bcells G).toArray 4 (0, 0))
  len : cvs.length = 9
  sub : ∀ (j : Nat) (v : Value), cvs[j]? = some v → Sub w base 3 1 v (F j).length ((F j).map i64)
  sep : ∀ (i j : Nat) (u v : Value), cvs[i]? = some u → cvs[j]? = some v → i ≠ j → ∀ x ∈ blkL u, x ∉ blkL v
  nz : ∀ (j : Nat) (v : Value), cvs[j]? = some v → ∀ x ∈ blkL v, ¬ Z x
  zA : ¬ Z A
  zR : ¬ Z R

theorem Nines.get {w : World} {base : Nat} {Z : Nat → Prop} {A R : Nat} {cvs : List Value} {F : Nat → List Int} {G : Nat → Bool} (h : Nines w base Z A R cvs F G) {j : Nat} (hj : j < 9) :
    ∃ v, cvs[j]? = some v ∧ w.cell? ⟨A, j, none⟩ = some v ∧ w.frozen? ⟨A, j, none⟩ = false ∧ w.cell? ⟨R, j, none⟩ = some (.bool (G j)) ∧ w.frozen? ⟨R, j, none⟩ = false := by
  have e : cvs[j]? = some (cvs[j]'(by rw [h.len]; exact hj)) := List.getElem?_eq_getElem _
  refine ⟨_, e, ?_, frzOf h.hA _, ?_, frzOf h.hR _⟩
  · rw [cellOf h.hA j, List.getElem?_toArray, e]
  · rw [cellOf h.hR j, bcells_get G hj]

/-- the ring changes -/
theorem Nines.ringed {w w' : World} {base : Nat} {Z : Nat → Prop} {A R : Nat} {cvs : List Value} {F : Nat → List Int} {G : Nat → Bool} (h : Nines w base Z A R cvs F G) (hp : UpdP Z w w') : Nines w' base (grow Z w) A R cvs F G := by
  obtain ⟨S, hu, hS⟩ := hp
  refine ⟨(UpdP.keep ⟨S, hu, hS⟩ h.hA h.zA), (UpdP.keep ⟨S, hu, hS⟩ h.hR h.zR), h.len, fun j v hv => ?_, h.sep, fun j v hv x hx hz => ?_, fun hz => ?_, fun hz => ?_⟩
  · refine (h.sub j v hv).upd hu fun x hx hm => ?_
    rcases hS x hm with q | q
    · exact h.nz j v hv x hx q
    · have := ((h.sub j v hv).lt x hx).2; omega
  · rcases hz with q | q
    · exact h.nz j v hv x hx q
    · have := ((h.sub j v hv).lt x hx).2; omega
  · rcases hz with q | q
    · exact h.zA q
    · have := lt_of_heap h.hA; omega
  · rcases hz with q | q
    · exact h.zR q
    · have := lt_of_heap h.hR; omega

/-- one row changes -/
theorem Nines.put {w w5 : World} {base : Nat} {Z : Nat → Prop} {A R : Nat} {cvs : List Value} {F : Nat → List Int} {G : Nat → Bool} (h : Nines w base Z A R cvs F G) {n : Nat} {v v' : Value} (hv : cvs[n]? = some v) {l : List Int}
    (hu : Upd (blkL v) w w5) (hs : Sub w5 base 3 1 v' l.length (l.map i64)) (hb : ∀ x ∈ blkL v', x ∈ blkL v ∨ w.heap.size ≤ x) :
    Nines (w5.setCell ⟨A, n, none⟩ v') base (cutZ Z w) A R (cvs.set n v') (fun j => if j = n then l else F j) G ∧ Upd (A :: blkL v) w (w5.setCell ⟨A, n, none⟩ v') := by
  have hnl : n < cvs.length := by
    rcases Nat.lt_or_ge n cvs.length with q | q
    · exact q
    · rw [List.getElem?_eq_none q] at hv; cases hv
  have tv := (h.sub n v hv).ty
  have hAv : A ∉ blkL v := fun hm => by
    obtain ⟨cs, q⟩ := tv _ hm
    have hx := h.hA.symm.trans q; injection hx with hx; injection hx with _ hx; cases hx
  have hRv : R ∉ blkL v := fun hm => by
    obtain ⟨cs, q⟩ := tv _ hm
    have hx := h.hR.symm.trans q; injection hx with hx; injection hx with _ hx; cases hx
  have hAR : R ≠ A := by
    rintro rfl
    have hx := h.hA.symm.trans h.hR; injection hx with hx; injection hx with _ hx; cases hx
  have hA5 := hu.keep h.hA hAv
  have hR5 := hu.keep h.hR hRv
  have hAv' : A ∉ blkL v' := fun hm => by
    obtain ⟨cs, q⟩ := hs.ty _ hm
    have hx := hA5.symm.trans q; injection hx with hx; injection hx with _ hx; cases hx
  have hset : Upd [A] w5 (w5.setCell ⟨A, n, none⟩ v') := (Upd.refl [A] w5).setCell (by simp) _
  have hget : ∀ (j : Nat) (u : Value), (cvs.set n v')[j]? = some u → (j = n ∧ u = v') ∨ (j ≠ n ∧ cvs[j]? = some u) := fun j u hj => by
    by_cases e : j = n
    · subst e
      rw [List.getElem?_set_self hnl] at hj
      injection hj with hj
      exact .inl ⟨rfl, hj.symm⟩
    · rw [List.getElem?_set_ne (by omega)] at hj
      exact .inr ⟨e, hj⟩
  refine ⟨⟨?_, heap_setCell_ne hR5 hAR _ _, by rw [List.length_set]; exact h.len, fun j u hj => ?_, fun i j u u2 hi hj hne x hx hx2 => ?_, fun j u hj x hx hz => ?_, fun hz => h.zA hz.1, fun hz => h.zR hz.1⟩, (hu.mono (by intro x hx; simp [hx])).setCell (by simp) _⟩
  · rw [heap_setCell hA5 n v', List.setIfInBounds_toArray]
  · rcases hget j u hj with ⟨rfl, rfl⟩ | ⟨e, hj'⟩
    · simp only [if_true]
      exact hs.upd hset fun x hx hm => by simp at hm; subst hm; exact hAv' hx
    · simp only [if_neg e]
      refine ((h.sub j u hj').upd hu fun x hx hm => h.sep j n u v hj' hv e x hx hm).upd hset fun x hx hm => ?_
      simp at hm; subst hm
      obtain ⟨cs, q⟩ := (h.sub j u hj').ty _ hx
      have hy := h.hA.symm.trans q; injection hy with hy; injection hy with _ hy; cases hy
  · rcases hget i u hi with ⟨rfl, rfl⟩ | ⟨e, hi'⟩
    · rcases hget j u2 hj with ⟨rfl, -⟩ | ⟨e2, hj'⟩
      · exact hne rfl
      · rcases hb x hx with q | q
        · exact h.sep i j v u2 hv hj' hne x q hx2
        · have := ((h.sub j u2 hj').lt x hx2).2; omega
    · rcases hget j u2 hj with ⟨rfl, rfl⟩ | ⟨e2, hj'⟩
      · rcases hb x hx2 with q | q
        · exact h.sep i j u v hi' hv hne x hx q
        · have := ((h.sub i u hi').lt x hx).2; omega
      · exact h.sep i j u u2 hi' hj' hne x hx hx2
  · rcases hget j u hj with ⟨rfl, rfl⟩ | ⟨e, hj'⟩
    · rcases hb x hx with q | q
      · exact h.nz j v hv x q hz.1
      · have := hz.2; omega
    · exact h.nz j u hj' x hx hz.1
theorem Nines.off {w : World} {base : Nat} {Z : Nat → Prop} {A R : Nat} {cvs : List Value} {F : Nat → List Int} {G : Nat → Bool} (h : Nines w base Z A R cvs F G) {n : Nat} {v : Value} (hv : cvs[n]? = some v) : ∀ x ∈ A :: blkL v, ¬ cutZ Z w x := fun x hx hz => by
  rcases List.mem_cons.1 hx with q | q
  · subst q; exact h.zA hz.1
  · exact h.nz n v hv x q hz.1
theorem Nines.aoff {w : World} {base : Nat} {Z : Nat → Prop} {A R : Nat} {cvs : List Value} {F : Nat → List Int} {G : Nat → Bool} (h : Nines w base Z A R cvs F G) {n : Nat} {v : Value} (hv : cvs[n]? = some v) : A ∉ blkL v := fun hm => by
  obtain ⟨cs, q⟩ := (h.sub n v hv).ty _ hm
  have hx := h.hA.symm.trans q; injection hx with hx; injection hx with _ hx; cases hx
theorem blk_or {v v' : Value} {M N : Nat} (h : blkL v' = blkL v ∨ ∃ g, blkL v' = [g] ∧ N ≤ g) (hm : M ≤ N) : ∀ x ∈ blkL v', x ∈ blkL v ∨ M ≤ x := by
  intro x hx
  rcases h with q | ⟨g, q1, q2⟩
  · rw [q] at hx; exact .inl hx
  · rw [q1] at hx; simp at hx; subst hx; exact .inr (Nat.le_trans hm q2)
/-- a flow rests, or not -/
theorem Nines.rest {w : World} {base : Nat} {Z : Nat → Prop} {A R : Nat} {cvs : List Value} {F : Nat → List Int} {G : Nat → Bool} (h : Nines w base Z A R cvs F G) (n : Nat) (b : Bool) :
    Nines (w.setCell ⟨R, n, none⟩ (.bool b)) base Z A R cvs F (fun j => if j = n then b else G j) ∧ Upd [R] w (w.setCell ⟨R, n, none⟩ (.bool b)) := by
  have hset : Upd [R] w (w.setCell ⟨R, n, none⟩ (.bool b)) := (Upd.refl [R] w).setCell (by simp) _
  have hAR : A ≠ R := by
    rintro rfl
    have hx := h.hA.symm.trans h.hR; injection hx with hx; injection hx with _ hx; cases hx
  refine ⟨⟨heap_setCell_ne h.hA hAR _ _, ?_, h.len, fun j v hv => (h.sub j v hv).upd hset fun x hx hm => ?_, h.sep, h.nz, h.zA, h.zR⟩, hset⟩
  · rw [heap_setCell h.hR n _, bcells_set]
  · simp at hm; subst hm
    obtain ⟨cs, q⟩ := (h.sub j v hv).ty _ hx
    have hy := h.hR.symm.trans q; injection hy with hy; injection hy with _ hy; cases hy

theorem set_view (r : Rg) {n q : Int} (h : 0 ≤ n ∧ n ≤ 8) (hq : 1 ≤ q ∧ q ≤ 1048576) (j : Int) : (r.set n q).view j = if j = n then some ((r.view n).getD ([], false)) else r.view j := by
  unfold Rg.set Rg.view
  rw [if_neg (by omega)]
  by_cases e : j = n
  · subst e
    rw [if_pos rfl]
    show (r.put j _ j).map _ = _
    rw [Rg.put_same]
    cases r.fl j <;> rfl
  · rw [if_neg e]
    show (r.put n _ j).map _ = _
    rw [Rg.put_other r _ e]
def NineUp (r : Rg) (k : Nat) : Prop := ∀ j : Nat, j < 9 → r.view (j : Int) = if j < k then some ([], false) else none
theorem nineUp_set {r : Rg} {k : Nat} (h : NineUp r k) (hk : k < 9) {q : Int} (hq : 1 ≤ q ∧ q ≤ 1048576) : NineUp (r.set k q) (k + 1) := by
  intro j hj
  rw [set_view r (by omega) hq]
  by_cases e : j = k
  · subst e
    rw [if_pos rfl, h j hj, if_neg (by omega), if_pos (by omega)]; rfl
  · rw [if_neg (by omega), h j hj]
    by_cases hlt : j < k
    · rw [if_pos hlt, if_pos (by omega)]
    · rw [if_neg hlt, if_neg (by omega)]

def nils9 : List Value := List.replicate 9 (.slice none 0 0)

theorem nines_new {w : World} {base A R : Nat} {Z : Nat → Prop} (hA : w.heap[A]? = some (.cells nils9.toArray 36 (0, 0))) (hR : w.heap[R]? = some (.cells (bcells fun _ => false).toArray 4 (0, 0))) (zA : ¬ Z A) (zR : ¬ Z R) :
    Nines w base Z A R nils9 (fun _ => []) (fun _ => false) := by
  have hn : ∀ (j : Nat) (v : Value), nils9[j]? = some v → v = .slice none 0 0 := fun j v hj => by
    unfold nils9 at hj
    rw [List.getElem?_replicate] at hj
    split at hj
    · injection hj with hj; exact hj.symm
    · cases hj
  refine ⟨hA, hR, rfl, fun j v hj => ?_, fun i j u v hi hj _ x hx => ?_, fun j v hj x hx => ?_, zA, zR⟩
  · rw [hn j v hj]; exact sub_nil _ _ _ _
  · rw [hn i u hi] at hx; simp [blkL] at hx
  · rw [hn j v hj] at hx; simp [blkL] at hx

set_option maxRecDepth 100000 in
set_option maxHeartbeats 8000000 in
theorem drrOrder_c (ao : Option Addr) (cap : Nat) (l : List DStp) (w : World) (hlen : l.length ≤ 250) (hao : l = [] ∨ ∃ b off, ao = some ⟨b, off, none⟩ ∧ RowsAt w b off 3 DStp.cells l ∧ b < w.heap.size) (hgood : ∀ x ∈ l, x.good) :
    Trues 3 #[.slice ao l.length cap] w := by
  unfold Trues
  have HAO := Lib.hid hao
  have HGood := Lib.hid hgood
  clear hao hgood
  obtain ⟨i1, hi1, hy0, hy1, hy2⟩ := info_parts info_ints
  obtain ⟨i2, hi2, hx0, hx1, hx2⟩ := info_parts info_boo
  obtain ⟨i0, hi, hz0, hz1, hz2⟩ := info_parts info_int2
  have hmk1 : ∀ wx, (Instr.makeSlice 29 (i64 9) (i64 9)).run Try.prog wx = .ok (.slice (some ⟨wx.heap.size, 0, none⟩) 9 9) (wx.alloc (.cells nils9.toArray 36)) := by
    intro wx
    have := run_make (P := Try.prog) wx 29 36 i1 _ Try.underlying29 hi1 hy0 .i64 .i64 9 9 (by omega) (by omega) (by rw [hy2]; omega) (by omega)
    rw [this, hy1, show (madeCells (Value.slice none 0 0).cells (Int.toNat 9 * 1)) = nils9.toArray from by kernel_rfl]; rfl
  have hmk2 : ∀ wx, (Instr.makeSlice 30 (i64 9) (i64 9)).run Try.prog wx = .ok (.slice (some ⟨wx.heap.size, 0, none⟩) 9 9) (wx.alloc (.cells (bcells fun _ => false).toArray 4)) := by
    intro wx
    have := run_make (P := Try.prog) wx 30 4 i2 _ Try.underlying30 hi2 hx0 .i64 .i64 9 9 (by omega) (by omega) (by rw [hx2]; omega) (by omega)
    rw [this, hx1, show (madeCells (Value.bool false).cells (Int.toNat 9 * 1)) = (bcells fun _ => false).toArray from by kernel_rfl]; rfl
  clear hi1 hy0 hy1 hy2 hi2 hx0 hx1 hx2
  have hB0 := heap_alloc_old (heap_alloc_old (heap_alloc_new w (.cells #[.map none, .slice none 0 0] 28)) (.cells nils9.toArray 36)) (.cells (bcells fun _ => false).toArray 4)
  have hA0 := heap_alloc_old (heap_new2 w (.cells #[.map none, .slice none 0 0] 28) (.cells nils9.toArray 36)) (.cells (bcells fun _ => false).toArray 4)
  have hR0 : ((((w.alloc (.cells #[.map none, .slice none 0 0] 28)).alloc (.cells nils9.toArray 36)).alloc (.cells (bcells fun _ => false).toArray 4)).heap)[w.heap.size + 1 + 1]? = _ := heap_new3 w (.cells #[.map none, .slice none 0 0] 28) (.cells nils9.toArray 36) (.cells (bcells fun _ => false).toArray 4)
  have hu0 := (((Upd.refl [] w).alloc (.cells #[.map none, .slice none 0 0] 28)).alloc (.cells nils9.toArray 36)).alloc (.cells (bcells fun _ => false).toArray 4)
  refine post fun R hR => ?_
  go_enter Try.func3, Try.ntmps3
  go_wp2_with (fail)
  have hA1 := ringAt_new rty_ring hB0 (fun x => x = w.heap.size) rfl
  have hN1 := nines_new (base := w.heap.size) (Z := fun x => x = w.heap.size) hA0 hR0 (by show ¬ w.heap.size + 1 = w.heap.size; omega) (by show ¬ w.heap.size + 1 + 1 = w.heap.size; omega)
  have hZ1 : ∀ x : Nat, x = w.heap.size → w.heap.size ≤ x := fun x hx => by omega
  clear hB0 hA0 hR0
  generalize ((w.alloc (.cells #[.map none, .slice none 0 0] 28)).alloc (.cells nils9.toArray 36)).alloc (.cells (bcells fun _ => false).toArray 4) = w1 at *
  obtain ⟨B, hBe⟩ : ∃ B, B = w.heap.size := ⟨_, rfl⟩
  obtain ⟨A, hAe⟩ : ∃ A, A = w.heap.size + 1 := ⟨_, rfl⟩
  obtain ⟨Rb, hRe⟩ : ∃ R, R = w.heap.size + 1 + 1 := ⟨_, rfl⟩
  rw [← hRe, ← hAe] at hN1 ⊢
  have hA1' : RingAt w1 (fun x => x = w.heap.size) B 28 [] 0 Rg.new := by rw [hBe]; exact hA1
  rw [← hBe]
  have hAw : w.heap.size ≤ A := by omega
  have hRw : w.heap.size ≤ Rb := by omega
  clear hA1 hRe hAe hmk1 hmk2
  have hZ1 : ∀ x : Nat, (fun x : Nat => x = w.heap.size) x → w.heap.size ≤ x := hZ1
  generalize (fun x : Nat => x = w.heap.size) = Z1 at *
  have hBw : w.heap.size ≤ B := by omega
  clear hBe
  go_loopw [6] (fun i wr => ∃ (k : Nat) (r : Rg) (Z : Nat → Prop), i = i64 k ∧ k ≤ 9 ∧ RingAt wr Z B 28 [] k r ∧ NineUp r k ∧ Nines wr w.heap.size Z A Rb nils9 (fun _ => []) (fun _ => false) ∧ (∀ x, Z x → w.heap.size ≤ x) ∧ Upd [] w wr) (fun i _ => 9 - (intOf i).toNat)
  case atStart => exact ⟨0, Rg.new, Z1, rfl, by omega, hA1', fun j hj => by rw [if_neg (by omega)]; rfl, hN1, hZ1, hu0⟩
  case round =>
    clear hA1' hN1 hZ1 hu0
    obtain ⟨k, r, Z, rfl, hk, hA, hQ, hN, hZ, hu⟩ := hrel
    by_cases hlt : k < 9
    · have hset := ring_set_c hA (by omega) k (300 + 100 * (k : Int))
      rw [show setE (k : Int) (300 + 100 * (k : Int)) = 0 from by unfold setE; rw [if_neg (by omega)]] at hset
      have HQ := Lib.hid (nineUp_set hQ hlt (q := 300 + 100 * (k : Int)) (by omega))
      have HS := Lib.hid hset
      have HU := Lib.hid hu
      have HN := Lib.hid hN
      have HZ := Lib.hid hZ
      clear hset hA hQ hu hN hZ
      go_wp2_with (fail)
      refine HS.out.mono ?_
      rintro e w2 ⟨rfl, hp, hA2⟩
      have hs := HU.out.size
      have hu2 := HU.out.transP hp HZ.out
      have hN2 := HN.out.ringed hp
      have hZ2 : ∀ x, grow Z wr x → w.heap.size ≤ x := fun x hx => hx.elim (HZ.out x) (Nat.le_trans hs)
      clear hp
      go_wp2_with (fail)
      go_roundw
      case rel => exact ⟨k + 1, _, _, by go_num, by omega, hA2, HQ.out, hN2, hZ2, hu2⟩
      case measure => simp [intOf]; omega
    · have e : k = 9 := by omega
      subst e
      have hNI : Nine r (fun _ => []) (fun _ => false) := fun j hj => by rw [hQ j hj, if_pos hj]
      rw [show ((9 : Nat) : Int) = 9 from rfl]
      clear hQ
      go_wp2_with (fail)
      go_loopw [7] (fun i wr => ∃ (k : Nat) (r : Rg) (Z : Nat → Prop) (cvs : List Value) (F : Nat → List Int) (G : Nat → Bool), i = i64 k ∧ k ≤ l.length ∧ RingAt wr Z B 28 [] (9 + k) r ∧ Nine r F G ∧ Nines wr w.heap.size Z A Rb cvs F G ∧ (∀ j, (F j).length ≤ k) ∧ (∀ x, Z x → w.heap.size ≤ x) ∧ Upd [] w wr) (fun i _ => l.length - (intOf i).toNat)
      case atStart => exact ⟨0, r, Z, nils9, _, _, rfl, Nat.zero_le _, hA, hNI, hN, fun j => Nat.le_refl _, hZ, hu⟩
      case round =>
        clear hA hNI hN hZ hu Z r
        obtain ⟨k, r, Z, cvs, F, G, rfl, hk, hA, hQ, hN, hF, hZ, hu⟩ := hrel
        by_cases hlt : k < l.length
        · obtain ⟨b, off, rfl, hrows, hb⟩ : ∃ b off, ao = some ⟨b, off, none⟩ ∧ RowsAt w b off 3 DStp.cells l ∧ b < w.heap.size := by
            rcases HAO.out with e | e
            · rw [e] at hlt; simp at hlt
            · exact e
          obtain ⟨c0, c1, c2⟩ := dsrow hrows hu hb hlt
          obtain ⟨⟨g1, g2⟩, ⟨g3, g4⟩, ⟨g5, g6⟩⟩ := HGood.out l[k] (List.getElem_mem hlt)
          generalize l[k].kind = kd at *
          generalize l[k].flow = fl at *
          generalize l[k].n = n at *
          obtain ⟨f, hf, hf9⟩ := umod_nat fl
          obtain ⟨c, hc, hc0, hc9⟩ := umod_in n 1040 (by omega)
          have hfI : inI (f : Int) := by unfold inI; omega
          obtain ⟨fv, hfv, a0, a1, b0, b1⟩ := hN.get hf9
          have hFf := hF f
          have HA := Lib.hid hA
          have HQ := Lib.hid hQ
          have HU := Lib.hid hu
          have HN := Lib.hid hN
          have HF := Lib.hid hF
          have HZ := Lib.hid hZ
          clear hA hQ hrows hN hF hZ
          by_cases hk2 : kd = 2
          · have hq : (kd == 2) = true := by simp [hk2]
            have HK := Lib.hid hk2
            clear hk2
            obtain ⟨hpe, hq2⟩ := nine_push HQ.out hf9 (c := c + 1) (by omega)
            have hps := ring_push_c HA.out (by omega) hfI (c + 1)
            rw [hpe] at hps
            have HPS := Lib.hid hps
            have HQ2 := Lib.hid hq2
            clear hps hq2 hpe b0 b1
            go_wp2_with (fail)
            refine HPS.out.mono ?_
            rintro e w2 ⟨rfl, hp, hA2⟩
            have hs := HU.out.size
            have hu2 := HU.out.transP hp HZ.out
            have hN2 := HN.out.ringed hp
            have hZ2 : ∀ x, grow Z wr x → w.heap.size ≤ x := fun x hx => hx.elim (HZ.out x) (Nat.le_trans hs)
            clear hp a0 a1 c0 c1 c2 hc
            obtain ⟨fv2, hfv2, a0, a1, b0, b1⟩ := hN2.get hf9
            rw [hfv] at hfv2
            injection hfv2 with hfv2
            subst hfv2
            have hsub := hN2.sub f fv hfv
            obtain ⟨ao2, cap2, rfl, -, -⟩ := hsub.form
            have hmx : (F f).length + 1 ≤ maxLen := by unfold maxLen; omega
            have hsz := hu2.size
            have HSUB := Lib.hid hsub
            have HN2 := Lib.hid hN2
            have HU2 := Lib.hid hu2
            have HZ2 := Lib.hid hZ2
            have HA2 := Lib.hid hA2
            clear hsub hN2 hu2 hZ2 hA2
            have HFV := Lib.hid hfv
            clear hfv b0 b1
            have hmap : (F f ++ [c + 1]).map i64 = (F f).map i64 ++ [i64 (c + 1)] := by rw [List.map_append]; rfl
            have hlap : (F f ++ [c + 1]).length = (F f).length + 1 := by rw [List.length_append]; rfl
            have HMAP := Lib.hid hmap
            have HLAP := Lib.hid hlap
            clear hmap hlap
            go_wp2_with (at_builtin; go_loud (refine wpList_append_sub _ rfl _ _ 36 rfl w.heap.size 3 i0 _ 1 8 Try.underlying36 hi hz0 hz1 hz2 rfl (by decide) (.slice ao2 (F f).length cap2) (F f).length _ rfl (HSUB.out.upd0 ((Upd.refl _ _).alloc _)) _ 1 1 [i64 (c + 1)] rfl (src_block (heap_alloc_new _ _) 1 1) rfl (by intro u hu; simp at hu; subst hu; rfl) hmx (by omega) (Nat.le_trans hsz ((Upd.refl [] _).alloc _).size) ?_; intro ao' cap' w5 hs5 hu5 hb5; have hN5 := HN2.out.put HFV.out (v' := .slice ao' ((F f).length + 1) cap') (l := F f ++ [c + 1]) (((Upd.refl _ _).alloc _).trans' hu5) (by rw [HMAP.out, HLAP.out]; exact hs5) (blk_or hb5 ((Upd.refl [] _).alloc _).size); have hA5 := hu5.keep (heap_alloc_old HN2.out.hA _) (HN2.out.aoff HFV.out); have a5 : w5.cell? ⟨A, f, none⟩ = some (.slice ao2 (F f).length cap2) := (by rw [cellOf hA5 f, List.getElem?_toArray]; exact HFV.out); have y5 := frzOf hA5 f; have HN5 := Lib.hid hN5; clear hs5 hu5 hb5 hN5 hA5 a0 a1))
            have hoff := HN2.out.off HFV.out
            have hA6 := (HA2.out.cut).upd HN5.out.2 hoff
            have hu6 : Upd [] w _ := HU2.out.trans HN5.out.2 (fun x hx => .inr (by
              rcases List.mem_cons.1 hx with q | q
              · subst q; exact hAw
              · exact (HSUB.out.lt x q).1))
            have HA6 := Lib.hid hA6
            have HU6 := Lib.hid hu6
            clear hA6 hu6 hoff
            go_roundw
            case rel =>
              refine ⟨k + 1, _, _, _, _, G, by go_num, by omega, HA6.out, HQ2.out, HN5.out.1, fun j => ?_, fun x hx => HZ2.out x hx.1, HU6.out⟩
              have := HF.out j
              by_cases e : j = f
              · subst e; simp only [if_true, List.length_append, List.length_cons, List.length_nil]; omega
              · simp only [if_neg e]; omega
            case measure => simp [intOf]; omega
          · have hq : (kd == 2) = false := by simp [hk2]
            have HK := Lib.hid hk2
            clear hk2
            by_cases hk3 : kd = 3
            · have hq3 : (kd == 3) = true := by simp [hk3]
              have HK3 := Lib.hid hk3
              clear hk3 a0 a1 hc
              obtain ⟨hN2, hux⟩ := HN.out.rest f (n.tmod 2 != 0)
              have hA2 := HA.out.upd hux (fun x hx => by simp at hx; subst hx; exact HN.out.zR)
              have hu2 : Upd [] w _ := hu.trans hux (fun x hx => .inr (by simp at hx; subst hx; exact hRw))
              have HN2 := Lib.hid hN2
              have HU2 := Lib.hid hu2
              have HRS := Lib.hid (ring_rest_c hA2 (by omega) hfI (n.tmod 2 != 0))
              have HQ2 := Lib.hid (nine_rest HQ.out hf9 (n.tmod 2 != 0))
              clear hN2 hux hA2 hu2 hu
              go_wp2_with (fail)
              generalize wr.setCell ⟨Rb, f, none⟩ (.bool (n.tmod 2 != 0)) = w3 at *
              refine Calls.mono HRS.out ?_
              rintro e w4 ⟨rfl, hp, hA4⟩
              have hs := HU2.out.size
              have hN4 := HN2.out.ringed hp
              have hu4 := HU2.out.transP hp HZ.out
              have hZ4 : ∀ x, grow Z w3 x → w.heap.size ≤ x := fun x hx => hx.elim (HZ.out x) (Nat.le_trans hs)
              clear hp c0 c1 c2 hf
              go_wp2_with (fail)
              go_roundw
              case rel => exact ⟨k + 1, _, _, cvs, F, _, by go_num, by omega, hA4, HQ2.out, hN4, fun j => Nat.le_trans (HF.out j) (by omega), hZ4, hu4⟩
              case measure => simp [intOf]; omega
            · have hq3 : (kd == 3) = false := by simp [hk3]
              have HK3 := Lib.hid hk3
              clear hk3 a0 a1 b0 b1 hc
              have hget : ∀ m, m < 9 → ∃ ao cap, wr.cell? ⟨A, m, none⟩ = some (.slice ao (F m).length cap) ∧ wr.cell? ⟨Rb, m, none⟩ = some (.bool (G m)) := fun m hm => by
                obtain ⟨v, q1, q2, -, q3, -⟩ := HN.out.get hm
                obtain ⟨ao, cap, q4, -, -⟩ := (HN.out.sub m v q1).form
                exact ⟨ao, cap, by rw [q2, q4], q3⟩
              have HGET := Lib.hid hget
              have HAB0 := Lib.hid (show anyB F G 0 = false from rfl)
              clear hget hfv
              go_wp2_with (fail)
              go_loop [10, 11] (fun a i => ∃ m : Nat, i = i64 m ∧ m ≤ 9 ∧ a = .bool (anyB F G m)) (fun _ i => 9 - (intOf i).toNat)
              case atStart => exact ⟨0, rfl, by omega, by rw [HAB0.out]⟩
              case round =>
                obtain ⟨m, rfl, hm, rfl⟩ := hrel
                by_cases hml : m < 9
                · obtain ⟨ao3, cap3, q1, q2⟩ := HGET.out m hml
                  have hab : anyB F G (m + 1) = (anyB F G m || (decide (0 < (F m).length) && !G m)) := rfl
                  have HAB := Lib.hid hab
                  have hFm := HF.out m
                  clear hab
                  cases ha : anyB F G m with
                  | true =>
                    rw [ha] at HAB
                    go_wp2_with (fail)
                    go_round
                    case rel => exact ⟨m + 1, by go_num, by omega, by rw [HAB.out]; rfl⟩
                    case measure => simp [intOf]; omega
                  | false =>
                    rw [ha] at HAB
                    by_cases hl0 : 0 < (F m).length
                    · cases hg : G m with
                      | true =>
                        rw [hg] at q2 HAB
                        generalize (F m).length = L at *
                        go_wp2_with (fail)
                        go_round
                        case rel => exact ⟨m + 1, by go_num, by omega, by rw [HAB.out]; simp⟩
                        case measure => simp [intOf]; omega
                      | false =>
                        rw [hg] at q2 HAB
                        have hlt0 : decide (0 < (F m).length) = true := by simpa using hl0
                        rw [hlt0] at HAB
                        clear hlt0
                        generalize (F m).length = L at *
                        go_wp2_with (fail)
                        go_round
                        case rel => exact ⟨m + 1, by go_num, by omega, by rw [HAB.out]; rfl⟩
                        case measure => simp [intOf]; omega
                    · have hL0 : (F m).length = 0 := by omega
                      rw [hL0] at q1 HAB
                      clear hl0 hL0 hFm
                      go_wp2_with (fail)
                      go_round
                      case rel => exact ⟨m + 1, by go_num, by omega, by rw [HAB.out]; rfl⟩
                      case measure => simp [intOf]; omega
                · have e : m = 9 := by omega
                  subst e
                  rw [show ((9 : Nat) : Int) = 9 from rfl]
                  have hok := HA.out.ok
                  have hany := nine_any hok HQ.out
                  have hok2 := hok.turn
                  cases hb9 : anyB F G 9 with
                  | false =>
                    rw [hb9] at hany
                    have hQn := nine_none hok HQ.out hany
                    have ht := ring_turn_c HA.out (by omega)
                    rw [hany] at ht
                    have HT := Lib.hid ht
                    have HQN := Lib.hid hQn
                    clear ht hQn hany hok hok2 hb9 c0 c1 c2 hf
                    go_wp2_with (fail)
                    refine HT.out.mono ?_
                    rintro e w4 ⟨rfl, hp, hA4⟩
                    have hs := HU.out.size
                    have hN4 := HN.out.ringed hp
                    have hu4 := HU.out.transP hp HZ.out
                    have hZ4 : ∀ x, grow Z wr x → w.heap.size ≤ x := fun x hx => hx.elim (HZ.out x) (Nat.le_trans hs)
                    clear hp hu
                    generalize r.turn.r = r2 at *
                    generalize r.turn.n = tn at *
                    generalize r.turn.c = tc at *
                    go_wp2_with (fail)
                    go_roundw
                    case rel => exact ⟨k + 1, r2, _, cvs, F, G, by go_num, by omega, hA4, HQN.out, hN4, fun j => Nat.le_trans (HF.out j) (by omega), hZ4, hu4⟩
                    case measure => simp [intOf]; omega
                  | true =>
                    rw [hb9] at hany
                    obtain ⟨tn, cs, e1, htn, hFn, hGn, hQn⟩ := nine_turn hok HQ.out hany
                    have ht := ring_turn_c HA.out (by omega)
                    rw [hany, e1] at ht
                    have hnd : ∀ cc ∈ F tn, True := fun _ _ => trivial
                    have HT := Lib.hid ht
                    have HQN := Lib.hid hQn
                    have HFN := Lib.hid hFn
                    have HGN := Lib.hid hGn
                    clear ht hQn hany hok hok2 hb9 c0 c1 c2 hf e1 hnd
                    go_wp2_with (fail)
                    refine HT.out.mono ?_
                    rintro e w4 ⟨rfl, hp, hA4⟩
                    have hs := HU.out.size
                    have hN4 := HN.out.ringed hp
                    have hu4 := HU.out.transP hp HZ.out
                    have hZ4 : ∀ x, grow Z wr x → w.heap.size ≤ x := fun x hx => hx.elim (HZ.out x) (Nat.le_trans hs)
                    clear hp hu hFn hGn
                    generalize r.turn.r = r2 at *
                    generalize r.turn.c = tc at *
                    obtain ⟨v4, hv4, a0, a1, b0, b1⟩ := hN4.get htn
                    have hsub := hN4.sub tn v4 hv4
                    rw [HFN.out] at hsub
                    obtain ⟨ao4, cap4, rfl, hcap4, hrow4⟩ := hsub.form
                    obtain ⟨g4, off4, rfl, -, -, hcs4⟩ := hrow4 (by simp)
                    have d0 := hcs4 0 _ rfl
                    rw [Nat.add_zero] at d0
                    have hcl := HF.out tn
                    rw [HFN.out] at hcl
                    simp only [List.length_cons] at hcl a0 hcap4
                    rw [HGN.out] at b0
                    have hgw : w.heap.size ≤ g4 := (hsub.lt g4 (by simp [blkL])).1
                    have hsz4 : g4 < w4.heap.size := (hsub.lt g4 (by simp [blkL])).2
                    have HSUB := Lib.hid hsub
                    have HV4 := Lib.hid hv4
                    have HN4 := Lib.hid hN4
                    have HA4 := Lib.hid hA4
                    have HU4 := Lib.hid hu4
                    have HZ4 := Lib.hid hZ4
                    clear hsub hv4 hN4 hA4 hu4 hZ4 hrow4 hcs4
                    by_cases hcap1 : cap4 = 1
                    · subst hcap1
                      obtain rfl : cs = [] := List.eq_nil_of_length_eq_zero (by omega)
                      have hput := HN4.out.put HV4.out (v' := .slice (some ⟨g4, off4, none⟩) 0 0) (l := []) (Upd.refl _ w4) (HSUB.out.none1) (fun x hx => .inl (by simpa [blkL] using hx))
                      have hoff := HN4.out.off HV4.out
                      have hA6 := (HA4.out.cut).upd hput.2 hoff
                      have hu6 : Upd [] w _ := HU4.out.trans hput.2 (fun x hx => .inr (by
                        rcases List.mem_cons.1 hx with q | q
                        · subst q; exact hAw
                        · simp [blkL] at q; subst q; exact hgw))
                      have HPUT := Lib.hid hput
                      have HA6 := Lib.hid hA6
                      have HU6 := Lib.hid hu6
                      clear hput hoff hA6 hu6
                      go_wp2_with (fail)
                      go_roundw
                      case rel =>
                        refine ⟨k + 1, r2, _, _, _, G, by go_num, by omega, HA6.out, HQN.out, HPUT.out.1, fun j => ?_, fun x hx => HZ4.out x hx.1, HU6.out⟩
                        have h1 := HF.out j
                        by_cases e : j = tn
                        · subst e; simp only [if_true]; first | omega | (simp only [List.length_nil]; omega)
                        · simp only [if_neg e]; omega
                      case measure => simp [intOf]; omega
                    · have hz1 : (((cs.length : Int) + 1) == 0) = false := by rw [beq_eq_false_iff_ne]; omega
                      have hz2 : (0 : Int) < (cs.length : Int) + 1 := by omega
                      have hput := HN4.out.put HV4.out (v' := .slice (some ⟨g4, off4 + 1, none⟩) cs.length (cap4 - 1)) (l := cs) (Upd.refl _ w4) (Sub.tail1 (n := cs.length) HSUB.out) (fun x hx => .inl (by simpa [blkL] using hx))
                      have hoff := HN4.out.off HV4.out
                      have hA6 := (HA4.out.cut).upd hput.2 hoff
                      have hu6 : Upd [] w _ := HU4.out.trans hput.2 (fun x hx => .inr (by
                        rcases List.mem_cons.1 hx with q | q
                        · subst q; exact hAw
                        · simp [blkL] at q; subst q; exact hgw))
                      have HPUT := Lib.hid hput
                      have HA6 := Lib.hid hA6
                      have HU6 := Lib.hid hu6
                      clear hput hoff hA6 hu6
                      go_wp2_with (fail)
                      go_roundw
                      case rel =>
                        refine ⟨k + 1, r2, _, _, _, G, by go_num, by omega, HA6.out, HQN.out, HPUT.out.1, fun j => ?_, fun x hx => HZ4.out x hx.1, HU6.out⟩
                        have h1 := HF.out j
                        by_cases e : j = tn
                        · subst e; simp only [if_true]; first | omega | (simp only [List.length_nil]; omega)
                        · simp only [if_neg e]; omega
                      case measure => simp [intOf]; omega
        · have e : k = l.length := by omega
          go_wp2_with (fail)
          refine Calls.mono (drrAwake_c _) ?_
          rintro e w5 ⟨rfl, hu5⟩
          go_wp2_with (fail)
          exact hR.out _ _ ⟨rfl, hu.trans' hu5⟩

set_option maxRecDepth 100000 in
theorem drrOrder9_c (ao : Option Addr) (n cap : Nat) (w : World) (hn : 250 < n) : Trues 3 #[.slice ao n cap] w := by
  unfold Trues
  refine post fun R hR => ?_
  go_enter Try.func3, Try.ntmps3
  go_wp2_with (fail)
  refine Calls.mono (drrAwake_c _) ?_
  rintro e w5 ⟨rfl, hu5⟩
  go_wp2_with (fail)
  exact hR.out _ _ ⟨rfl, hu5⟩

set_option maxRecDepth 100000 in
theorem drrOrder_walk {H : Type} {enc : TypeId × Value → H} {W : World} {base : Nat} {args : Array Value} {ds gs : List (DataW H)} {before : List MemPlace}
    (hval : ∀ (j : Nat) t v, Try.f3.params[j]? = some t → args[j]? = some v → Value.okWide Try.prog W .any base t v)
    (hW : DataW.Whole enc Try.prog Try.f3.params.toList [] false W args.toList ds gs before) : Trues 3 args W := by
  obtain ⟨p, q, hA, -, rfl, -, -⟩ := hW
  rw [Try.params3] at hA hval
  obtain ⟨v0, d0, rfl, rfl, h0⟩ := trodAll_one hA
  obtain ⟨ao, cap, l, rfl, hlc, hcap, hg, hl⟩ := open_list DStp.parse Try.underlying22 flat_dstp cells_dstp (by decide) (hval 0 22 v0 rfl rfl) h0
  by_cases hbig : 250 < l.length
  · exact drrOrder9_c ao l.length cap W hbig
  · refine drrOrder_c ao cap l W (by omega) ?_ hg
    rcases hl with rfl | ⟨b, off, rfl, hr⟩
    · exact .inl rfl
    · cases l with
      | nil => exact .inl rfl
      | cons x r => exact .inr ⟨b, off, rfl, hr, World.block_lt_of_cell? W _ (hr 0 x rfl 0 (by decide))⟩

set_option maxRecDepth 100000 in
theorem drrOrder_lifted (os : Os) (started : os.Started) (H : Type) (enc : TypeId × Value → H) :
    ReturnsInHanded {} Try.checked os 3 .any (Rows.drrOrderSpec.pre6 enc Try.prog Try.f3 Rows.drrOrderRow.domain false) (Rows.drrOrderSpec.post enc Try.prog Try.f3 false true false false) := by
  refine returnsInHanded_of_change (C := Try.checked) own started (by kernel_rfl) Try.func3
    (ChangeSpec.witness6 (enc := enc) (C := Try.checked) false ⟨#[], #[.slice none 0 0], []⟩ 8 (by kernel_rfl) (by kernel_rfl) (by kernel_rfl) (by kernel_rfl)) ?_
  intro W base args ds gs before hval hW hcnd _
  refine Calls.mono (drrOrder_walk hval hW) fun e W' ⟨he, hu⟩ => ?_
  exact ⟨_, he, law_post rfl rfl (by kernel_rfl) hW (fun ds h => by match ds, h with | [_], _ => rfl) hu⟩

set_option maxRecDepth 100000 in
theorem drrOrder_over : Rows.drrOrderRow.holds Try.pinned (OpenSpec.ofChange Rows.drrOrderSpec) :=
  OpenClaim.holds_of_wide 3 Try.f3 rfl rfl rfl rfl rfl rfl rfl ⟨rfl, rfl, rfl, rfl, rfl⟩ rfl rfl rfl rfl rfl (by kernel_rfl) Try.func3 (by kernel_rfl)
    (of_decide_eq_true (by kernel_rfl)) (by unfold Func.isWrapper; first | (rw [if_pos (by decide +kernel)]; kernel_rfl) | (rw [if_neg (by decide +kernel)]; exact ⟨rfl, rfl⟩))
    (fun os started H enc _ => drrOrder_lifted os started H enc)

theorem drrOrder_proved : Rows.DrrOrderSaid := drrOrder_over
end Go.Proofs.Ytabhdigannalgaa
