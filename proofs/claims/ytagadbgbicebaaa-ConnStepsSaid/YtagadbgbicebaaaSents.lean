/-
  Rows of texts beside a table of connections; how the steps of chapter 38's laws read; and whether they are too many. No condition.
-/
import Derived.Test.YtagadbgbicebaaaConnMore
import Derived.Test.YtagadbgbicebaaaConnAwake
import Derived.Test.YtagadbgbicebaaaOpen
import Derived.Deep.DeepCutAuto
import Derived.Deep.CutBlock
import Derived.Deep.RegionHeld3
import Derived.Outline
namespace Go.Proofs.Ytagadbgbicebaaa
open Go Go.RowKit Go.ChangeShapes Go.WideShapes Go.ChangeAt

theorem info_strs : (Try.prog.info? 38).map (fun i => (i.zero, i.size, i.bytes)) = some (some (.slice none 0 0), 1, 24) := by kernel_rfl
theorem info_boo : (Try.prog.info? 4).map (fun i => (i.zero, i.size, i.bytes)) = some (some (.bool false), 1, 1) := by kernel_rfl

theorem umod_in (x m : Int) (hm : 1 ≤ m ∧ m ≤ 2000) : ∃ y : Nat, wrap64 ((IntKind.u64.wrap x).tmod m) = (y : Int) ∧ (y : Int) < m := by
  have h1 : 0 ≤ IntKind.u64.wrap x := by rw [IntKind.wrap_u64]; omega
  rw [Int.tmod_eq_emod_of_nonneg h1]
  have h2 := Int.emod_nonneg (IntKind.u64.wrap x) (b := m) (by omega)
  have h3 := Int.emod_lt_of_pos (IntKind.u64.wrap x) (b := m) (by omega)
  generalize IntKind.u64.wrap x % m = y at *
  exact ⟨y.toNat, by rw [IntWalk.wrap64_in _ (by omega)]; omega, by omega⟩

def bcells (G : Nat → Bool) : List Value := (List.range 16).map fun j => .bool (G j)
theorem bcells_get (G : Nat → Bool) {j : Nat} (h : j < 16) : (bcells G).toArray[j]? = some (.bool (G j)) := by
  unfold bcells
  rw [List.getElem?_toArray, List.getElem?_map, List.getElem?_range h]; rfl
theorem bcells_set (G : Nat → Bool) {n : Nat} (b : Bool) : (bcells G).toArray.setIfInBounds n (.bool b) = (bcells fun j => if j = n then b else G j).toArray := by
  apply Array.ext_getElem?
  intro j
  rw [Array.getElem?_setIfInBounds, List.getElem?_toArray, List.getElem?_toArray]
  unfold bcells
  rw [List.getElem?_map, List.getElem?_map]
  by_cases hj : j < 16
  · rw [List.getElem?_range hj]
    by_cases e : n = j
    · subst e; simp [hj]
    · rw [if_neg e]; simp [Ne.symm e]
  · rw [List.getElem?_eq_none (by simp; omega)]
    by_cases e : n = j
    · subst e; simp; omega
    · rw [if_neg e]; rfl

/-- rows of texts, and which connections are over, beside a table whose blocks are Z -/
structure Sents (w : World) (base : Nat) (Z : Nat → Prop) (A R : Nat) (cvs : List Value) (F : Nat → List ByteArray) (G : Nat → Bool) : Prop where
  hA : w.heap[A]? = some (.cells cvs.toArray 38 (0, 0))
  hR : w.heap[R]? = some (.cells (bcells G).toArray 4 (0, 0))
  len : cvs.length = 16
  sub : ∀ (j : Nat) (v : Value), cvs[j]? = some v → Sub w base 9 1 v (F j).length (strs (F j))
  sep : ∀ (i j : Nat) (u v : Value), cvs[i]? = some u → cvs[j]? = some v → i ≠ j → ∀ x ∈ blkL u, x ∉ blkL v
  nz : ∀ (j : Nat) (v : Value), cvs[j]? = some v → ∀ x ∈ blkL v, ¬ Z x
  zA : ¬ Z A
  zR : ¬ Z R

theorem Sents.get {w : World} {base : Nat} {Z : Nat → Prop} {A R : Nat} {cvs : List Value} {F : Nat → List ByteArray} {G : Nat → Bool} (h : Sents w base Z A R cvs F G) {j : Nat} (hj : j < 16) :
    ∃ v, cvs[j]? = some v ∧ w.cell? ⟨A, j, none⟩ = some v ∧ w.frozen? ⟨A, j, none⟩ = false ∧ w.cell? ⟨R, j, none⟩ = some (.bool (G j)) ∧ w.frozen? ⟨R, j, none⟩ = false := by
  have e : cvs[j]? = some (cvs[j]'(by rw [h.len]; exact hj)) := List.getElem?_eq_getElem _
  refine ⟨_, e, ?_, frzOf h.hA _, ?_, frzOf h.hR _⟩
  · rw [cellOf h.hA j, List.getElem?_toArray, e]
  · rw [cellOf h.hR j, bcells_get G hj]

/-- the table changes -/
theorem Sents.ringed {w w' : World} {base : Nat} {Z : Nat → Prop} {A R : Nat} {cvs : List Value} {F : Nat → List ByteArray} {G : Nat → Bool} (h : Sents w base Z A R cvs F G) (hp : UpdP Z w w') : Sents w' base (grow Z w) A R cvs F G := by
  obtain ⟨S, hu, hS⟩ := hp
  refine ⟨(UpdP.keep ⟨S, hu, hS⟩ h.hA h.zA), (UpdP.keep ⟨S, hu, hS⟩ h.hR h.zR), h.len, fun j v hv => ?_, h.sep, fun j v hv x hx hz => ?_, fun hz => ?_, fun hz => ?_⟩
  · refine (h.sub j v hv).upd hu fun x hx hm => ?_
    rcases hS x hm with q | q
    · exact h.nz j v hv x hx q
    · have := ((h.sub j v hv).lt x hx).2; omega
  · rcases hz with q | q
    · exact h.nz j v hv x hx q
    · have := ((h.sub j v hv).lt x hx).2; omega
  · rcases hz with q | q
    · exact h.zA q
    · have := lt_of_heap h.hA; omega
  · rcases hz with q | q
    · exact h.zR q
    · have := lt_of_heap h.hR; omega

/-- one row changes -/
theorem Sents.put {w w5 : World} {base : Nat} {Z : Nat → Prop} {A R : Nat} {cvs : List Value} {F : Nat → List ByteArray} {G : Nat → Bool} (h : Sents w base Z A R cvs F G) {n : Nat} {v v' : Value} (hv : cvs[n]? = some v) {l : List ByteArray}
    (hu : Upd (blkL v) w w5) (hs : Sub w5 base 9 1 v' l.length (strs l)) (hb : ∀ x ∈ blkL v', x ∈ blkL v ∨ w.heap.size ≤ x) :
    Sents (w5.setCell ⟨A, n, none⟩ v') base (cutZ Z w) A R (cvs.set n v') (fun j => if j = n then l else F j) G ∧ Upd (A :: blkL v) w (w5.setCell ⟨A, n, none⟩ v') := by
  have hnl : n < cvs.length := by
    rcases Nat.lt_or_ge n cvs.length with q | q
    · exact q
    · rw [List.getElem?_eq_none q] at hv; cases hv
  have tv := (h.sub n v hv).ty
  have hAv : A ∉ blkL v := fun hm => by
    obtain ⟨cs, q⟩ := tv _ hm
    have hx := h.hA.symm.trans q; injection hx with hx; injection hx with _ hx; cases hx
  have hRv : R ∉ blkL v := fun hm => by
    obtain ⟨cs, q⟩ := tv _ hm
    have hx := h.hR.symm.trans q; injection hx with hx; injection hx with _ hx; cases hx
  have hAR : R ≠ A := by
    rintro rfl
    have hx := h.hA.symm.trans h.hR; injection hx with hx; injection hx with _ hx; cases hx
  have hA5 := hu.keep h.hA hAv
  have hR5 := hu.keep h.hR hRv
  have hAv' : A ∉ blkL v' := fun hm => by
    obtain ⟨cs, q⟩ := hs.ty _ hm
    have hx := hA5.symm.trans q; injection hx with hx; injection hx with _ hx; cases hx
  have hset : Upd [A] w5 (w5.setCell ⟨A, n, none⟩ v') := (Upd.refl [A] w5).setCell (by simp) _
  have hget : ∀ (j : Nat) (u : Value), (cvs.set n v')[j]? = some u → (j = n ∧ u = v') ∨ (j ≠ n ∧ cvs[j]? = some u) := fun j u hj => by
    by_cases e : j = n
    · subst e
      rw [List.getElem?_set_self hnl] at hj
      injection hj with hj
      exact .inl ⟨rfl, hj.symm⟩
    · rw [List.getElem?_set_ne (by omega)] at hj
      exact .inr ⟨e, hj⟩
  refine ⟨⟨?_, heap_setCell_ne hR5 hAR _ _, by rw [List.length_set]; exact h.len, fun j u hj => ?_, fun i j u u2 hi hj hne x hx hx2 => ?_, fun j u hj x hx hz => ?_, fun hz => h.zA hz.1, fun hz => h.zR hz.1⟩, (hu.mono (by intro x hx; simp [hx])).setCell (by simp) _⟩
  · rw [heap_setCell hA5 n v', List.setIfInBounds_toArray]
  · rcases hget j u hj with ⟨rfl, rfl⟩ | ⟨e, hj'⟩
    · simp only [if_true]
      exact hs.upd hset fun x hx hm => by simp at hm; subst hm; exact hAv' hx
    · simp only [if_neg e]
      refine ((h.sub j u hj').upd hu fun x hx hm => h.sep j n u v hj' hv e x hx hm).upd hset fun x hx hm => ?_
      simp at hm; subst hm
      obtain ⟨cs, q⟩ := (h.sub j u hj').ty _ hx
      have hy := h.hA.symm.trans q; injection hy with hy; injection hy with _ hy; cases hy
  · rcases hget i u hi with ⟨rfl, rfl⟩ | ⟨e, hi'⟩
    · rcases hget j u2 hj with ⟨rfl, -⟩ | ⟨e2, hj'⟩
      · exact hne rfl
      · rcases hb x hx with q | q
        · exact h.sep i j v u2 hv hj' hne x q hx2
        · have := ((h.sub j u2 hj').lt x hx2).2; omega
    · rcases hget j u2 hj with ⟨rfl, rfl⟩ | ⟨e2, hj'⟩
      · rcases hb x hx2 with q | q
        · exact h.sep i j u v hi' hv hne x hx q
        · have := ((h.sub i u hi').lt x hx).2; omega
      · exact h.sep i j u u2 hi' hj' hne x hx hx2
  · rcases hget j u hj with ⟨rfl, rfl⟩ | ⟨e, hj'⟩
    · rcases hb x hx with q | q
      · exact h.nz j v hv x q hz.1
      · have := hz.2; omega
    · exact h.nz j u hj' x hx hz.1
theorem Sents.off {w : World} {base : Nat} {Z : Nat → Prop} {A R : Nat} {cvs : List Value} {F : Nat → List ByteArray} {G : Nat → Bool} (h : Sents w base Z A R cvs F G) {n : Nat} {v : Value} (hv : cvs[n]? = some v) : ∀ x ∈ A :: blkL v, ¬ cutZ Z w x := fun x hx hz => by
  rcases List.mem_cons.1 hx with q | q
  · subst q; exact h.zA hz.1
  · exact h.nz n v hv x q hz.1
theorem Sents.aoff {w : World} {base : Nat} {Z : Nat → Prop} {A R : Nat} {cvs : List Value} {F : Nat → List ByteArray} {G : Nat → Bool} (h : Sents w base Z A R cvs F G) {n : Nat} {v : Value} (hv : cvs[n]? = some v) : A ∉ blkL v := fun hm => by
  obtain ⟨cs, q⟩ := (h.sub n v hv).ty _ hm
  have hx := h.hA.symm.trans q; injection hx with hx; injection hx with _ hx; cases hx
theorem blk_or {v v' : Value} {M N : Nat} (h : blkL v' = blkL v ∨ ∃ g, blkL v' = [g] ∧ N ≤ g) (hm : M ≤ N) : ∀ x ∈ blkL v', x ∈ blkL v ∨ M ≤ x := by
  intro x hx
  rcases h with q | ⟨g, q1, q2⟩
  · rw [q] at hx; exact .inl hx
  · rw [q1] at hx; simp at hx; subst hx; exact .inr (Nat.le_trans hm q2)
/-- a connection is over, or not -/
theorem Sents.rest {w : World} {base : Nat} {Z : Nat → Prop} {A R : Nat} {cvs : List Value} {F : Nat → List ByteArray} {G : Nat → Bool} (h : Sents w base Z A R cvs F G) (n : Nat) (b : Bool) :
    Sents (w.setCell ⟨R, n, none⟩ (.bool b)) base Z A R cvs F (fun j => if j = n then b else G j) ∧ Upd [R] w (w.setCell ⟨R, n, none⟩ (.bool b)) := by
  have hset : Upd [R] w (w.setCell ⟨R, n, none⟩ (.bool b)) := (Upd.refl [R] w).setCell (by simp) _
  have hAR : A ≠ R := by
    rintro rfl
    have hx := h.hA.symm.trans h.hR; injection hx with hx; injection hx with _ hx; cases hx
  refine ⟨⟨heap_setCell_ne h.hA hAR _ _, ?_, h.len, fun j v hv => (h.sub j v hv).upd hset fun x hx hm => ?_, h.sep, h.nz, h.zA, h.zR⟩, hset⟩
  · rw [heap_setCell h.hR n _, bcells_set]
  · simp at hm; subst hm
    obtain ⟨cs, q⟩ := (h.sub j v hv).ty _ hx
    have hy := h.hR.symm.trans q; injection hy with hy; injection hy with _ hy; cases hy

def nils16 : List Value := List.replicate 16 (.slice none 0 0)
theorem sents_new {w : World} {base A R : Nat} {Z : Nat → Prop} (hA : w.heap[A]? = some (.cells nils16.toArray 38 (0, 0))) (hR : w.heap[R]? = some (.cells (bcells fun _ => false).toArray 4 (0, 0))) (zA : ¬ Z A) (zR : ¬ Z R) :
    Sents w base Z A R nils16 (fun _ => []) (fun _ => false) := by
  have hn : ∀ (j : Nat) (v : Value), nils16[j]? = some v → v = .slice none 0 0 := fun j v hj => by
    unfold nils16 at hj
    rw [List.getElem?_replicate] at hj
    split at hj
    · injection hj with hj; exact hj.symm
    · cases hj
  refine ⟨hA, hR, rfl, fun j v hj => ?_, fun i j u v hi hj _ x hx => ?_, fun j v hj x hx => ?_, zA, zR⟩
  · rw [hn j v hj]; exact sub_nil _ _ _ _
  · rw [hn i u hi] at hx; simp [blkL] at hx
  · rw [hn j v hj] at hx; simp [blkL] at hx

/-- nothing old changes, and Z is cut to what was there -/
theorem Sents.step {w w' : World} {base : Nat} {Z : Nat → Prop} {A R : Nat} {cvs : List Value} {F : Nat → List ByteArray} {G : Nat → Bool} (h : Sents w base Z A R cvs F G) (hu : Upd [] w w') : Sents w' base (cutZ Z w) A R cvs F G :=
  ⟨hu.keep0 h.hA, hu.keep0 h.hR, h.len, fun j v hv => (h.sub j v hv).upd0 hu, h.sep, fun j v hv x hx hz => h.nz j v hv x hx hz.1, fun hz => h.zA hz.1, fun hz => h.zR hz.1⟩

def inI (n : Int) : Prop := -9223372036854775808 ≤ n ∧ n ≤ 9223372036854775807
structure CStp where
  kind : Int
  n : Int
  by' : Int
  b : ByteArray
def CStp.cells (s : CStp) : List Value := [i64 s.kind, i64 s.n, i64 s.by', .string s.b]
def CStp.good (s : CStp) : Prop := inI s.kind ∧ inI s.n ∧ inI s.by' ∧ s.b.size ≤ maxLen
theorem CStp.parse (vs : List Value) (h : AllOK [.int .i64, .int .i64, .int .i64, .string] vs) : ∃ s, CStp.cells s = vs ∧ CStp.good s := by
  obtain ⟨a, r, rfl, ha, h⟩ := h.i64
  obtain ⟨b, r, rfl, hb, h⟩ := h.i64
  obtain ⟨c, r, rfl, hc, h⟩ := h.i64
  obtain ⟨d, r, rfl, hd, h⟩ := h.str
  obtain rfl := h.none
  exact ⟨⟨a, b, c, d⟩, rfl, ha, hb, hc, hd⟩
theorem flat_cstp : flat Try.prog 5 61 = some [.int .i64, .int .i64, .int .i64, .string] := by kernel_rfl
theorem cells_cstp : Try.prog.cellsOf 61 = 4 := by kernel_rfl
theorem csrow {w wr : World} {b off : Nat} {l : List CStp} (hr : RowsAt w b off 4 CStp.cells l) (hu : Upd [] w wr) (hb : b < w.heap.size) {k : Nat} (hk : k < l.length) :
    wr.cell? ⟨b, off + k * 4, none⟩ = some (i64 (l[k].kind)) ∧ wr.cell? ⟨b, off + k * 4 + 1, none⟩ = some (i64 (l[k].n)) ∧ wr.cell? ⟨b, off + k * 4 + 2, none⟩ = some (i64 (l[k].by')) ∧ wr.cell? ⟨b, off + k * 4 + 3, none⟩ = some (.string (l[k].b)) := by
  have h0 := hr k l[k] (List.getElem?_eq_getElem hk)
  exact ⟨(hu.below.cell (p := ⟨b, off + k * 4, none⟩) hb).trans (h0 0 (by omega)), (hu.below.cell (p := ⟨b, off + k * 4 + 1, none⟩) hb).trans (h0 1 (by omega)), (hu.below.cell (p := ⟨b, off + k * 4 + 2, none⟩) hb).trans (h0 2 (by omega)), (hu.below.cell (p := ⟨b, off + k * 4 + 3, none⟩) hb).trans (h0 3 (by omega))⟩

theorem minR {P : Program} (ats : Array TypeId) (ty : TypeId) (x y : Int) (w : World) : (Builtin.min_ ats ty #[i64 x, i64 y]).run P w = .ok (i64 (min x y)) w := by
  rw [run_min_int2]
  congr 2
  split <;> omega

set_option maxRecDepth 100000 in
set_option maxHeartbeats 1000000 in
theorem cmuch_c (ao : Option Addr) (cap : Nat) (l : List CStp) (w : World) (hcap : l.length ≤ maxLen) (hao : l = [] ∨ ∃ b off, ao = some ⟨b, off, none⟩ ∧ RowsAt w b off 4 CStp.cells l ∧ b < w.heap.size) (hgood : ∀ x ∈ l, x.good) :
    Calls Try.prog 31 #[.slice ao l.length cap] w fun e w' => ∃ x, e = .returned (.bool x) ∧ (x = false → l.length ≤ 150) ∧ w = w' := by
  have HAO := Lib.hid hao
  have HGood := Lib.hid hgood
  have hmn := @minR Try.prog
  unfold maxLen at hcap
  clear hao hgood
  refine post fun R hR => ?_
  go_enter Try.func31, Try.ntmps31
  go_wp2_with (fail)
  go_loop [3, 4] (fun s i => ∃ (k : Nat) (n : Int), i = i64 k ∧ s = i64 n ∧ k ≤ l.length) (fun _ i => l.length - (intOf i).toNat)
  case atStart => exact ⟨0, 0, rfl, rfl, Nat.zero_le _⟩
  case round =>
    obtain ⟨k, n, rfl, rfl, hk⟩ := hrel
    by_cases hlt : k < l.length
    · obtain ⟨b, off, rfl, hrows, hb⟩ : ∃ b off, ao = some ⟨b, off, none⟩ ∧ RowsAt w b off 4 CStp.cells l ∧ b < w.heap.size := by
        rcases HAO.out with e | e
        · rw [e] at hlt; simp at hlt
        · exact e
      obtain ⟨c0, c1, c2, c3⟩ := csrow hrows (Upd.refl _ _) hb hlt
      obtain ⟨-, -, -, hsz⟩ := HGood.out l[k] (List.getElem_mem hlt)
      generalize l[k].b = s at *
      unfold maxLen at hsz
      generalize hss : s.size = z at *
      have HSS := Lib.hid hss
      clear hss hrows c0 c1 c2
      go_wp2_with (fail)
      go_round
      case rel => exact ⟨k + 1, _, by go_num, rfl, by omega⟩
      case measure => simp [intOf]; omega
    · by_cases h150 : 150 < l.length
      · go_wp2_with (fail)
        exact hR.out _ _ ⟨true, rfl, fun e => (by cases e), rfl⟩
      · have h1 : l.length ≤ 150 := by omega
        go_wp2_with (fail)
        exact hR.out _ _ ⟨_, rfl, fun _ => h1, rfl⟩
end Go.Proofs.Ytagadbgbicebaaa
