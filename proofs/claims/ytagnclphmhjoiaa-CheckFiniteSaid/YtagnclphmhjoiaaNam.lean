/-
  The table of names (chapter 11): what it holds, and the contracts of its making and of its look-ups. Condition: names within the machine's bounds.
-/
import Derived.Test.YtagnclphmhjoiaaProg
import Derived.Test.YtagnclphmhjoiaaSub
import Derived.Maps.OwnSet
import Derived.Maps.OwnOps
import Derived.Deep.RegionHeld3
import Derived.Deep.AppendLies
import Derived.StillTailTactics
import Derived.Outline
namespace Go.Proofs.Ytagnclphmhjoiaa
open Go Go.RowKit Go.Maps
open Go.WideMaps (keyOf_string_mk)

/-- a declaration, as a table looks at it -/
structure Dc where
  kind : Int
  name : ByteArray
  fa : Option Addr
  fn : Nat
  fc : Nat
  ma : Option Addr
  mn : Nat
  mc : Nat
  at_ : Int
def Dc.cells (d : Dc) : List Value := [i64 d.kind, .string d.name, .slice d.fa d.fn d.fc, .slice d.ma d.mn d.mc, i64 d.at_]

/-- the place of a name; the list's length: none -/
def fnd (l : List Dc) (s : ByteArray) : Nat := l.findIdx (fun d => decide (d.name = s))
def fndI (l : List Dc) (s : ByteArray) : Int := if fnd l s < l.length then fnd l s else 0
def fndB (l : List Dc) (s : ByteArray) : Bool := decide (fnd l s < l.length)
theorem fnd_le (l : List Dc) (s : ByteArray) : fnd l s ≤ l.length := List.findIdx_le_length

theorem skey : Keyed Try.prog 9 := string_keyed Try.underlying9
theorem zero_int (w : World) : (zeroValue 3).run Try.prog w = .ok (.int .i64 0) w := by kernel_rfl

def skl (s : ByteArray) : Lit := .string s.data.toList
theorem skl_inj {a b : ByteArray} (h : skl a = skl b) : a = b := by
  unfold skl at h
  injection h with h
  cases a; cases b
  simp at h
  rw [h]

theorem skey_of (s : ByteArray) (h : s.size ≤ maxLen) : keyOf Try.prog 9 (.string s) = some (skl s) := keyOf_string_mk Try.underlying9 h

/-- the map tells of every name where it stands first among the first k -/
def DatOk (D : DataW Unit) (l : List Dc) : Prop := IsMap D ∧ ∀ s : ByteArray, Maps.has D (skl s) = decide (fnd l s < l.length) ∧ D.atKey (skl s) (.lit (.int .i64 0)) = .lit (.int .i64 (if fnd l s < l.length then fnd l s else 0))

theorem datOk_nil : DatOk (.map []) [] := ⟨isMap_empty, fun _ => ⟨rfl, rfl⟩⟩

theorem fnd_snoc (l : List Dc) (d : Dc) (s : ByteArray) : fnd (l ++ [d]) s = if fnd l s < l.length then fnd l s else if d.name = s then l.length else l.length + 1 := by
  unfold fnd
  rw [List.findIdx_append]
  by_cases h : List.findIdx (fun d => decide (d.name = s)) l < l.length
  · rw [if_pos h, if_pos h]
  · rw [if_neg h, if_neg h]
    by_cases hd : d.name = s
    · simp [List.findIdx_cons, hd]
    · simp [List.findIdx_cons, hd]; omega

theorem datOk_same {D : DataW Unit} {l : List Dc} {d : Dc} (h : DatOk D l) (hh : fnd l d.name < l.length) : DatOk D (l ++ [d]) := by
  refine ⟨h.1, fun s => ?_⟩
  have h2 := h.2 s
  rw [fnd_snoc, List.length_append]
  by_cases h1 : fnd l s < l.length
  · rw [if_pos h1, if_pos (by simp; omega)]
    rw [if_pos h1] at h2
    refine ⟨h2.1.trans ?_, h2.2⟩
    simp [h1]; omega
  · have hd : d.name ≠ s := fun e => h1 (e ▸ hh)
    rw [if_neg h1, if_neg hd, if_neg (by simp)]
    rw [if_neg h1] at h2
    refine ⟨h2.1.trans ?_, h2.2⟩
    simp [h1]

theorem datOk_put {D : DataW Unit} {l : List Dc} {d : Dc} (h : DatOk D l) (hk : WideAt.IsKeyLit (skl d.name)) (hh : ¬ fnd l d.name < l.length) : DatOk (D.put (skl d.name) (.lit (.int .i64 l.length))) (l ++ [d]) := by
  refine ⟨h.1.put _ _, fun s => ?_⟩
  have h2 := h.2 s
  rw [fnd_snoc, List.length_append]
  by_cases hd : d.name = s
  · subst hd
    rw [if_neg hh, if_pos rfl, if_pos (by simp)]
    exact ⟨(has_put_same h.1 hk _).trans (by simp), atKey_put_same h.1 hk _ _⟩
  · have hne : skl s ≠ skl d.name := fun e => hd (skl_inj e).symm
    rw [has_put_other hne, atKey_put_other hne]
    by_cases h1 : fnd l s < l.length
    · rw [if_pos h1, if_pos (by simp; omega)]
      rw [if_pos h1] at h2
      refine ⟨h2.1.trans ?_, h2.2⟩
      simp [h1]; omega
    · rw [if_neg h1, if_neg hd, if_neg (by simp)]
      rw [if_neg h1] at h2
      refine ⟨h2.1.trans ?_, h2.2⟩
      simp [h1]

/-- the look-up, in whatever world -/
theorem look_c {w : World} {M n : Nat} {D : DataW Unit} {l : List Dc} (h : w.ownsMap Try.prog 9 (plainElem Try.prog 3) M n D) (hd : DatOk D l) (s : ByteArray) (hs : s.size ≤ maxLen) :
    (Instr.lookup 52 (.map (some M)) (.string s) true).run Try.prog w = .ok (.tuple #[i64 (fndI l s), .bool (fndB l s)]) w := by
  obtain ⟨v, ps, hrun, hv⟩ := h.look_ok skey Try.underlying52 (zero_int w) (plainElem_int Try.underlying3 (by decide)) (skey_of s hs)
  obtain ⟨c, rfl, hc, hwc⟩ := plainElem_int_inv Try.underlying3 hv
  have h2 := hd.2 s
  rw [hrun, h2.1]
  unfold fndI fndB
  have : D.atKey (skl s) (.lit (.int .i64 0)) = .lit (.int .i64 c) := congrArg Prod.fst hc
  rw [h2.2] at this
  injection this with this
  injection this with _ this
  rw [this]

/-- a table of the declarations l lies at T -/
structure TabAt (w : World) (T M : Nat) (v : Value) (n : Nat) (D : DataW Unit) (l : List Dc) : Prop where
  heap : w.heap[T]? = some (.cells #[.map (some M), v] 55 (0, 0))
  own : w.ownsMap Try.prog 9 (plainElem Try.prog 3) M n D
  ok : DatOk D l
  bound : n ≤ l.length
  kinds : Sub w 0 3 1 v l.length (l.map fun d => i64 d.kind)

theorem _root_.Go.World.ownsMap.keepU {H : Type} {P : Program} {k : TypeId} {R : Value → Option (DataW H × List MemPlace)} {w w' : World} {b n : Nat} {D : DataW H} (h : w.ownsMap P k R b n D) {S : List Nat} (hu : Upd S w w') (hb : b ∉ S) : w'.ownsMap P k R b n D := by
  have hlt := h.lt
  obtain ⟨es, clock, hb', F, hs, hD⟩ := h
  exact ⟨es, clock, (hu.block b hlt hb).trans hb', F, hs, hD⟩

theorem TabAt.upd {w w' : World} {T M n : Nat} {v : Value} {D : DataW Unit} {l : List Dc} (h : TabAt w T M v n D l) (hu : Upd [] w w') : TabAt w' T M v n D l :=
  ⟨hu.keep0 h.heap, h.own.keepU hu (by simp), h.ok, h.bound, h.kinds.upd0 hu⟩

set_option maxHeartbeats 400000 in
theorem find_c {w : World} {T M n : Nat} {v : Value} {D : DataW Unit} {l : List Dc} (h : TabAt w T M v n D l) (s : ByteArray) (hs : s.size ≤ maxLen) :
    Calls Try.prog 9 #[.pointer (some ⟨T, 0, none⟩), .string s] w fun e w' => e = .returned (.tuple #[i64 (fndI l s), .bool (fndB l s)]) ∧ w = w' := by
  have hlk := look_c h.own h.ok s hs
  obtain ⟨c0, c1, -⟩ := cells2 h.heap
  refine post fun R hR => ?_
  go_enter Try.func9, Try.ntmps9
  go_wp2_with fail
  exact hR.out _ _ ⟨rfl, rfl⟩
theorem findNil_c (s : ByteArray) (w : World) : Calls Try.prog 9 #[.pointer none, .string s] w fun e w' => e = .returned (.tuple #[i64 0, .bool false]) ∧ w = w' := by
  refine post fun R hR => ?_
  go_enter Try.func9, Try.ntmps9
  go_wp2_with fail
  exact hR.out _ _ ⟨rfl, rfl⟩

def kindOf (l : List Dc) (s : ByteArray) : Int := ((l[fnd l s]?).map Dc.kind).getD 0

set_option maxHeartbeats 400000 in
theorem kind_c {w : World} {T M n : Nat} {v : Value} {D : DataW Unit} {l : List Dc} (h : TabAt w T M v n D l) (s : ByteArray) (hs : s.size ≤ maxLen) (hlen : l.length ≤ 2000000000000) :
    Calls Try.prog 11 #[.pointer (some ⟨T, 0, none⟩), .string s] w fun e w' => e = .returned (i64 (kindOf l s)) ∧ w = w' := by
  have hf := find_c h s hs
  obtain ⟨c0, c1, -⟩ := cells2 h.heap
  obtain ⟨ao, cap, rfl, hcap, hrow⟩ := h.kinds.form
  by_cases hlt : fnd l s < l.length
  · obtain ⟨g, off, rfl, -, -, hc⟩ := hrow (by omega)
    have hcell := hc (fnd l s) (i64 l[fnd l s].kind) (by rw [List.getElem?_map, List.getElem?_eq_getElem hlt]; rfl)
    rw [show fndI l s = (fnd l s : Int) from by unfold fndI; rw [if_pos hlt], show fndB l s = true from by unfold fndB; simpa using hlt] at hf
    rw [show kindOf l s = l[fnd l s].kind from by unfold kindOf; rw [List.getElem?_eq_getElem hlt]; rfl]
    generalize l[fnd l s].kind = K at *
    generalize fnd l s = F at *
    have HF := Lib.hid hf
    clear hf hc hrow
    refine post fun R hR => ?_
    go_enter Try.func11, Try.ntmps11
    go_wp2_with fail
    refine HF.out.mono ?_
    rintro e w' ⟨rfl, rfl⟩
    go_wp2_with fail
    exact hR.out _ _ ⟨rfl, rfl⟩
  · rw [show fndI l s = 0 from by unfold fndI; rw [if_neg hlt], show fndB l s = false from by unfold fndB; simpa using hlt] at hf
    rw [show kindOf l s = 0 from by unfold kindOf; rw [List.getElem?_eq_none (by omega)]; rfl]
    have HF := Lib.hid hf
    clear hf hrow
    refine post fun R hR => ?_
    go_enter Try.func11, Try.ntmps11
    go_wp2_with fail
    refine HF.out.mono ?_
    rintro e w' ⟨rfl, rfl⟩
    go_wp2_with fail
    exact hR.out _ _ ⟨rfl, rfl⟩
theorem kindNil_c (s : ByteArray) (w : World) : Calls Try.prog 11 #[.pointer none, .string s] w fun e w' => e = .returned (i64 0) ∧ w = w' := by
  refine post fun R hR => ?_
  go_enter Try.func11, Try.ntmps11
  go_wp2_with fail
  refine (findNil_c _ _).mono ?_
  rintro e w' ⟨rfl, rfl⟩
  go_wp2_with fail
  exact hR.out _ _ ⟨rfl, rfl⟩

theorem wp_mapUpdate_own {H : Type} {P : Program} {w : World} {o : Oper} {a : Act} {K : Act → World → Prop} {Q : Exit → Act → World → Prop}
    (m x v : Operand) (t : TypeId) (hop : o.op = Op.mapUpdate t m x v)
    (k e : TypeId) (KK : Keyed P k) (ht : P.underlying t = some (.map k e)) (R : Value → Option (DataW H × List MemPlace)) (b n : Nat) (D : DataW H)
    (hm : a.eval m = .map (some b)) (hown : w.ownsMap P k R b n D) (hn : n < maxLen) (key val : Value) (kl : Lit) (hx : a.eval x = key) (hv : a.eval v = val) (hkey : keyOf P k key = some kl)
    (d : DataW H) (ps : List MemPlace) (hval : R val = some (d, ps))
    (hK : ∀ w', w'.ownsMap P k R b (n + 1) (D.put kl d) → w.grownBy w' (some b) → K (a.put o.dst undef) w') : o.wp P a w K Q := by
  obtain ⟨w', hrun, r1, r2⟩ := hown.update KK ht hn hkey hval
  unfold Oper.wp
  simp [execOp, hop, hm, hx, hv, hrun, Result.andThen]
  exact hK w' r1 r2

theorem info_int : (Try.prog.info? 3).map (fun i => (i.zero, i.size, i.bytes)) = some (some (.int .i64 0), 1, 8) := by kernel_rfl

end Go.Proofs.Ytagnclphmhjoiaa
