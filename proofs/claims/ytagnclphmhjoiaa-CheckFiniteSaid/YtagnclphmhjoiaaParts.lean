/-
  A declaration's fields and methods in memory, and the contracts of Field (chapter 11), the program's and the document's. Condition: lengths within the machine's bounds.
-/
import Derived.Test.YtagnclphmhjoiaaNamLaw
import Derived.Test.YtagnclphmhjoiaaTwice
import Derived.Deep.DeepCutAuto
import Derived.Deep.CutBlock
namespace Go.Proofs.Ytagnclphmhjoiaa
open Go Go.RowKit Go.ChangeShapes Go.WideShapes Go.ChangeAt

/-- a field -/
structure Fd where
  tag : Int
  name : ByteArray
  kind : Int
  tn : ByteArray
  oa : Option Addr
  on : Nat
  oc : Nat
def Fd.cells (f : Fd) : List Value := [i64 f.tag, .string f.name, i64 f.kind, .string f.tn, .slice f.oa f.on f.oc]
/-- a method -/
structure Mt where
  tag : Int
  name : ByteArray
  inn : ByteArray
  out : ByteArray
  ow : Bool
def Mt.cells (m : Mt) : List Value := [i64 m.tag, .string m.name, .string m.inn, .string m.out, .bool m.ow]

/-- the rows behind an inner slice, c cells each -/
def Inn {α : Type} (w : World) (toC : α → List Value) (c : Nat) (ao : Option Addr) (n : Nat) (l : List α) : Prop :=
  l.length = n ∧ n ≤ maxLen ∧ (l = [] ∨ ∃ b off, ao = some ⟨b, off, none⟩ ∧ b < w.heap.size ∧ RowsN w b off c toC l)
theorem Inn.upd0 {α : Type} {w w' : World} {toC : α → List Value} {c : Nat} {ao : Option Addr} {n : Nat} {l : List α} (h : Inn w toC c ao n l) (hu : Upd [] w w') : Inn w' toC c ao n l := by
  obtain ⟨h1, h2, h3⟩ := h
  refine ⟨h1, h2, h3.imp id fun ⟨b, off, e, hb, hr⟩ => ⟨b, off, e, Nat.lt_of_lt_of_le hb hu.size, fun i s hs j hj => ?_⟩⟩
  exact (World.cell?_of_block (a := ⟨b, _, none⟩) (hu.block b hb (by simp))).trans (hr i s hs j hj)

theorem flat_field : flatN Try.prog 6 60 = some [.int .i64, .string, .int .i64, .string, .slice 58] := by kernel_rfl
theorem cells_field : Try.prog.cellsOf 60 = 5 := by kernel_rfl
theorem flat_method : flatN Try.prog 6 42 = some [.int .i64, .string, .string, .string, .bool] := by kernel_rfl
theorem cells_method : Try.prog.cellsOf 42 = 5 := by kernel_rfl

theorem Fd.parse {Sl : TypeId → Value → Prop} {e1 : TypeId} (vs : List Value) (h : AllOKN Sl [.int .i64, .string, .int .i64, .string, .slice e1] vs) : ∃ s, Fd.cells s = vs ∧ (s.name.size ≤ maxLen ∧ s.tn.size ≤ maxLen) := by
  obtain ⟨a, r, rfl, ha, h⟩ := h.i64
  obtain ⟨b, r, rfl, hb, h⟩ := h.str
  obtain ⟨c, r, rfl, hc, h⟩ := h.i64
  obtain ⟨d, r, rfl, hd, h⟩ := h.str
  obtain ⟨fa, fn, fc, r, rfl, -, h⟩ := h.sl
  obtain rfl := h.none
  exact ⟨⟨a, b, c, d, fa, fn, fc⟩, rfl, hb, hd⟩
theorem Mt.parse {Sl : TypeId → Value → Prop} (vs : List Value) (h : AllOKN Sl [.int .i64, .string, .string, .string, .bool] vs) : ∃ s, Mt.cells s = vs ∧ (s.name.size ≤ maxLen ∧ s.inn.size ≤ maxLen ∧ s.out.size ≤ maxLen) := by
  obtain ⟨a, r, rfl, ha, h⟩ := h.i64
  obtain ⟨b, r, rfl, hb, h⟩ := h.str
  obtain ⟨c, r, rfl, hc, h⟩ := h.str
  obtain ⟨d, r, rfl, hd, h⟩ := h.str
  obtain ⟨e, r2, rfl, h2⟩ := h.boo
  obtain rfl := h2.none
  exact ⟨⟨a, b, c, d, e⟩, rfl, hb, hc, hd⟩

/-- a declaration whose fields and methods are there -/
def DcG (w : World) (d : Dc) : Prop := d.name.size ≤ maxLen ∧ (∃ fs, Inn w Fd.cells 5 d.fa d.fn fs ∧ ∀ f ∈ fs, f.name.size ≤ maxLen ∧ f.tn.size ≤ maxLen) ∧ ∃ ms, Inn w Mt.cells 5 d.ma d.mn ms ∧ ∀ m ∈ ms, m.name.size ≤ maxLen ∧ m.inn.size ≤ maxLen ∧ m.out.size ≤ maxLen
theorem inn_of {α : Type} {W : World} {toC : α → List Value} {ao : Option Addr} {n cap : Nat} {l : List α} (h1 : l.length = n) (h2 : l.length ≤ cap) (h3 : cap ≤ maxLen) (hpos : ∀ x : α, (toC x).length = 5) (h : l = [] ∨ ∃ b off, ao = some ⟨b, off, none⟩ ∧ RowsN W b off 5 toC l) : Inn W toC 5 ao n l := by
  refine ⟨h1, by omega, ?_⟩
  cases l with
  | nil => exact .inl rfl
  | cons x r =>
    rcases h with h | ⟨b, off, e, hr⟩
    · cases h
    · refine .inr ⟨b, off, e, ?_, hr⟩
      have h0 := hr 0 x rfl 0 (by omega)
      rw [List.getElem?_eq_getElem (by rw [hpos]; omega)] at h0
      exact World.block_lt_of_cell? W _ h0
theorem Dc.parse2 {H : Type} {enc : TypeId × Value → H} {W : World} {base : Nat} (vs : List Value) (h : AllOKN (SlOK enc Try.prog W base (fun _ => true) true) [.int .i64, .string, .slice 60, .slice 42, .int .i64] vs) : ∃ s, Dc.cells s = vs ∧ DcG W s := by
  obtain ⟨a, r, rfl, ha, h⟩ := h.i64
  obtain ⟨b, r, rfl, hb, h⟩ := h.str
  obtain ⟨fa, fn, fc, r, rfl, hf, h⟩ := h.sl
  obtain ⟨ma, mn, mc, r, rfl, hm, h⟩ := h.sl
  obtain ⟨c, r, rfl, hc, h⟩ := h.i64
  obtain rfl := h.none
  refine ⟨⟨a, b, fa, fn, fc, ma, mn, mc, c⟩, rfl, hb, ?_, ?_⟩
  · obtain ⟨t, fuel, x, ht, hx⟩ := hf
    obtain ⟨l, h1, h2, h3, h4, h5⟩ := open_inner Fd.parse ht flat_field cells_field (by decide) hx
    exact ⟨l, inn_of h1 h2 h3 (fun _ => rfl) h5, h4⟩
  · obtain ⟨t, fuel, x, ht, hx⟩ := hm
    obtain ⟨l, h1, h2, h3, h4, h5⟩ := open_inner Mt.parse ht flat_method cells_method (by decide) hx
    exact ⟨l, inn_of h1 h2 h3 (fun _ => rfl) h5, h4⟩

theorem frow {w wr : World} {b off : Nat} {l : List Fd} (hr : RowsN w b off 5 Fd.cells l) (hu : Upd [] w wr) (hb : b < w.heap.size) {k : Nat} (hk : k < l.length) :
    wr.cell? ⟨b, off + k * 5, none⟩ = some (i64 l[k].tag) ∧ wr.cell? ⟨b, off + k * 5 + 1, none⟩ = some (.string l[k].name) ∧ wr.cell? ⟨b, off + k * 5 + 2, none⟩ = some (i64 l[k].kind) ∧ wr.cell? ⟨b, off + k * 5 + 3, none⟩ = some (.string l[k].tn) ∧ wr.cell? ⟨b, off + k * 5 + 4, none⟩ = some (.slice l[k].oa l[k].on l[k].oc) := by
  have h0 := hr k l[k] (List.getElem?_eq_getElem hk)
  have hc : ∀ j, wr.cell? ⟨b, j, none⟩ = w.cell? ⟨b, j, none⟩ := fun j => World.cell?_of_block (hu.block b hb (by simp))
  exact ⟨(hc _).trans (h0 0 (by omega)), (hc _).trans (h0 1 (by omega)), (hc _).trans (h0 2 (by omega)), (hc _).trans (h0 3 (by omega)), (hc _).trans (h0 4 (by omega))⟩
theorem mrow {w wr : World} {b off : Nat} {l : List Mt} (hr : RowsN w b off 5 Mt.cells l) (hu : Upd [] w wr) (hb : b < w.heap.size) {k : Nat} (hk : k < l.length) :
    wr.cell? ⟨b, off + k * 5, none⟩ = some (i64 l[k].tag) ∧ wr.cell? ⟨b, off + k * 5 + 1, none⟩ = some (.string l[k].name) ∧ wr.cell? ⟨b, off + k * 5 + 2, none⟩ = some (.string l[k].inn) ∧ wr.cell? ⟨b, off + k * 5 + 3, none⟩ = some (.string l[k].out) ∧ wr.cell? ⟨b, off + k * 5 + 4, none⟩ = some (.bool l[k].ow) := by
  have h0 := hr k l[k] (List.getElem?_eq_getElem hk)
  have hc : ∀ j, wr.cell? ⟨b, j, none⟩ = w.cell? ⟨b, j, none⟩ := fun j => World.cell?_of_block (hu.block b hb (by simp))
  exact ⟨(hc _).trans (h0 0 (by omega)), (hc _).trans (h0 1 (by omega)), (hc _).trans (h0 2 (by omega)), (hc _).trans (h0 3 (by omega)), (hc _).trans (h0 4 (by omega))⟩

/-- the place of a tag; the list's length: none -/
def fix (l : List Fd) (t : Int) : Nat := l.findIdx (fun f => decide (f.tag = t))
theorem fix_hit {l : List Fd} {t : Int} {k : Nat} (hk : k < l.length) (h : l[k].tag = t) (hn : ∀ j, j < k → ∀ h : j < l.length, l[j].tag ≠ t) : fix l t = k := by
  unfold fix
  rw [List.findIdx_eq hk]
  exact ⟨by simpa using h, fun j hj => by simpa using hn j hj (by omega)⟩
theorem fix_miss {l : List Fd} {t : Int} (hn : ∀ j (h : j < l.length), l[j].tag ≠ t) : ¬ fix l t < l.length := by
  unfold fix
  rw [List.findIdx_lt_length]
  rintro ⟨x, hx, hp⟩
  obtain ⟨i, hi, rfl⟩ := List.getElem_of_mem hx
  exact hn i hi (by simpa using hp)
def fixI (l : List Fd) (t : Int) : Int := if fix l t < l.length then fix l t else 0
def fixR (l : List Fd) (t : Int) : Int := if fix l t < l.length then fix l t else -1
def fixB (l : List Fd) (t : Int) : Bool := decide (fix l t < l.length)

set_option maxRecDepth 100000 in
set_option maxHeartbeats 1000000 in
theorem field_c {w : World} (d : Dc) {fs : List Fd} (h : Inn w Fd.cells 5 d.fa d.fn fs) (t : Int) :
    Calls Try.prog 15 #[.agg #[i64 d.kind, .string d.name, .slice d.fa d.fn d.fc, .slice d.ma d.mn d.mc, i64 d.at_], i64 t] w fun e w' => e = .returned (.tuple #[i64 (fixI fs t), .bool (fixB fs t)]) ∧ Upd [] w w' := by
  obtain ⟨kd, nm, fa, fn, fc, ma, mn, mc, at_⟩ := d
  simp only at h ⊢
  obtain ⟨rfl, hmx, hrow⟩ := h
  unfold maxLen at hmx
  have hA := heap_alloc_new w (.cells #[i64 kd, .string nm, .slice fa fs.length fc, .slice ma mn mc, i64 at_] 34)
  have hu := (Upd.refl [] w).alloc (.cells #[i64 kd, .string nm, .slice fa fs.length fc, .slice ma mn mc, i64 at_] 34)
  refine post fun R hR => ?_
  go_enter Try.func15, Try.ntmps15
  go_upto_region 1 with (fail)
  generalize w.alloc (.cells #[i64 kd, .string nm, .slice fa fs.length fc, .slice ma mn mc, i64 at_] 34) = w1 at *
  obtain ⟨A, hAe⟩ : ∃ A, A = w.heap.size := ⟨_, rfl⟩
  rw [← hAe] at hA ⊢
  clear hAe
  obtain ⟨-, -, a2, -⟩ := cells5 hA
  have HROW := Lib.hid hrow
  have HU := Lib.hid hu
  clear hrow hA hu
  go_wp2_with (fail)
  go_loop [10] (fun i => ∃ k : Nat, i = i64 k ∧ k ≤ fs.length ∧ (∀ j, j < k → ∀ h : j < fs.length, fs[j].tag ≠ t)) (fun i => fs.length - (intOf i).toNat)
  case atStart => exact ⟨0, rfl, Nat.zero_le _, fun j hj => by omega⟩
  case round =>
    obtain ⟨k, rfl, hk, hno⟩ := hrel
    have HNO := Lib.hid hno
    clear hno
    by_cases hlt : k < fs.length
    · obtain ⟨b, off, rfl, hb, hr⟩ : ∃ b off, fa = some ⟨b, off, none⟩ ∧ b < w.heap.size ∧ RowsN w b off 5 Fd.cells fs := by
        rcases HROW.out with e | e
        · rw [e] at hlt; simp at hlt
        · exact e
      obtain ⟨c0, -⟩ := frow hr HU.out hb hlt
      by_cases he : fs[k].tag = t
      · have hx := fix_hit hlt he HNO.out
        have h1 : fixI fs t = k := by unfold fixI; rw [hx, if_pos hlt]
        have h2 : fixB fs t = true := by unfold fixB; rw [hx]; simpa using hlt
        have H1 := Lib.hid h1
        have H2 := Lib.hid h2
        rw [he] at c0
        clear hx h1 h2 he hr
        go_wp2_with fail
        exact hR.out _ _ ⟨by rw [H1.out, H2.out], HU.out⟩
      · have HE := Lib.hid he
        have hq : (fs[k].tag == t) = false := by simpa using he
        generalize fs[k].tag = y at c0 hq
        clear he hr
        go_wp2_with fail
        go_round
        case rel =>
          refine ⟨k + 1, by go_num, by omega, fun j hj h => ?_⟩
          by_cases e : j = k
          · subst e; exact HE.out
          · exact HNO.out j (by omega) h
        case measure => simp [intOf]; omega
    · have hm := fix_miss (l := fs) (t := t) (fun j h => HNO.out j (by omega) h)
      have h1 : fixI fs t = 0 := by unfold fixI; rw [if_neg hm]
      have h2 : fixB fs t = false := by unfold fixB; simpa using hm
      have H1 := Lib.hid h1
      have H2 := Lib.hid h2
      clear hm h1 h2
      go_wp2_with fail
      exact hR.out _ _ ⟨by rw [H1.out, H2.out], HU.out⟩

set_option maxRecDepth 100000 in
set_option maxHeartbeats 1000000 in
theorem rfield_c {w : World} (d : Dc) {fs : List Fd} (h : Inn w Fd.cells 5 d.fa d.fn fs) (t : Int) :
    Calls Try.prog 16 #[.agg #[i64 d.kind, .string d.name, .slice d.fa d.fn d.fc, .slice d.ma d.mn d.mc, i64 d.at_], i64 t] w fun e w' => e = .returned (i64 (fixR fs t)) ∧ Upd [] w w' := by
  obtain ⟨kd, nm, fa, fn, fc, ma, mn, mc, at_⟩ := d
  simp only at h ⊢
  obtain ⟨rfl, hmx, hrow⟩ := h
  unfold maxLen at hmx
  have hA := heap_alloc_new w (.cells #[i64 kd, .string nm, .slice fa fs.length fc, .slice ma mn mc, i64 at_] 34)
  have hu := (Upd.refl [] w).alloc (.cells #[i64 kd, .string nm, .slice fa fs.length fc, .slice ma mn mc, i64 at_] 34)
  refine post fun R hR => ?_
  go_enter Try.func16, Try.ntmps16
  go_upto_region 1 with (fail)
  generalize w.alloc (.cells #[i64 kd, .string nm, .slice fa fs.length fc, .slice ma mn mc, i64 at_] 34) = w1 at *
  obtain ⟨A, hAe⟩ : ∃ A, A = w.heap.size := ⟨_, rfl⟩
  rw [← hAe] at hA ⊢
  clear hAe
  obtain ⟨-, -, a2, -⟩ := cells5 hA
  have HROW := Lib.hid hrow
  have HU := Lib.hid hu
  clear hrow hA hu
  go_wp2_with (fail)
  go_loop [5] (fun i => ∃ k : Nat, i = i64 k ∧ k ≤ fs.length ∧ (∀ j, j < k → ∀ h : j < fs.length, fs[j].tag ≠ t)) (fun i => fs.length - (intOf i).toNat)
  case atStart => exact ⟨0, rfl, Nat.zero_le _, fun j hj => by omega⟩
  case round =>
    obtain ⟨k, rfl, hk, hno⟩ := hrel
    have HNO := Lib.hid hno
    clear hno
    by_cases hlt : k < fs.length
    · obtain ⟨b, off, rfl, hb, hr⟩ : ∃ b off, fa = some ⟨b, off, none⟩ ∧ b < w.heap.size ∧ RowsN w b off 5 Fd.cells fs := by
        rcases HROW.out with e | e
        · rw [e] at hlt; simp at hlt
        · exact e
      obtain ⟨c0, -⟩ := frow hr HU.out hb hlt
      by_cases he : fs[k].tag = t
      · have hx := fix_hit hlt he HNO.out
        have h1 : fixR fs t = k := by unfold fixR; rw [hx, if_pos hlt]
        have H1 := Lib.hid h1
        rw [he] at c0
        clear hx h1 he hr
        go_wp2_with fail
        exact hR.out _ _ ⟨ret_i H1.out.symm, HU.out⟩
      · have HE := Lib.hid he
        have hq : (fs[k].tag == t) = false := by simpa using he
        generalize fs[k].tag = y at c0 hq
        clear he hr
        go_wp2_with fail
        go_round
        case rel =>
          refine ⟨k + 1, by go_num, by omega, fun j hj h => ?_⟩
          by_cases e : j = k
          · subst e; exact HE.out
          · exact HNO.out j (by omega) h
        case measure => simp [intOf]; omega
    · have hm := fix_miss (l := fs) (t := t) (fun j h => HNO.out j (by omega) h)
      have h1 : fixR fs t = -1 := by unfold fixR; rw [if_neg hm]
      have H1 := Lib.hid h1
      clear hm h1
      go_wp2_with fail
      exact hR.out _ _ ⟨ret_i H1.out.symm, HU.out⟩
end Go.Proofs.Ytagnclphmhjoiaa
