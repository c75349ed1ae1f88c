/-
  The tags and names that stood ahead (chapter 12): two maps in memory, and the contract of row. Condition: rows of some hundred at most.
-/
import Derived.Test.YtagnclphmhjoiaaCkTyp
namespace Go.Proofs.Ytagnclphmhjoiaa
open Go Go.RowKit Go.Maps

theorem ikey : Keyed Try.prog 3 := int_keyed Try.underlying3
theorem ikey_of {k : Int} (h : (Lit.int .i64 k).wf = true) : keyOf Try.prog 3 (i64 k) = some (.int .i64 k) := keyOf_int_mk Try.underlying3 h
theorem iwf {k : Int} (h : -9223372036854775808 ≤ k ∧ k ≤ 9223372036854775807) : (Lit.int .i64 k).wf = true := by
  simp only [Lit.wf, Bool.and_eq_true, decide_eq_true_eq]
  rw [show IntKind.i64.min = -9223372036854775808 from rfl, show IntKind.i64.max = 9223372036854775807 from rfl]
  exact h

/-- block M is a map from numbers to numbers, f -/
def IMap (w : World) (M n : Nat) (f : Int → Int) : Prop :=
  ∃ D : DataW Unit, w.ownsMap Try.prog 3 (plainElem Try.prog 3) M n D ∧ ∀ k, D.atKey (.int .i64 k) (.lit (.int .i64 0)) = .lit (.int .i64 (f k))
theorem IMap.upd {S : List Nat} {w w' : World} {M n : Nat} {f : Int → Int} (h : IMap w M n f) (hu : Upd S w w') (hM : M ∉ S) : IMap w' M n f := by
  obtain ⟨D, h1, h2⟩ := h
  exact ⟨D, h1.keepU hu hM, h2⟩
theorem IMap.look {w : World} {M n : Nat} {f : Int → Int} (h : IMap w M n f) {k : Int} (hk : (Lit.int .i64 k).wf = true) :
    (Instr.lookup 71 (.map (some M)) (i64 k) false).run Try.prog w = .ok (i64 (f k)) w := by
  obtain ⟨D, h1, h2⟩ := h
  obtain ⟨c, hrun, hat, -⟩ := h1.lookup_int ikey Try.underlying71 Try.underlying3 (zero_int w) (ikey_of hk)
  rw [h2 k] at hat
  injection hat with hat
  injection hat with _ hat
  rw [hrun, hat]
theorem IMap.put {w : World} {M n : Nat} {f : Int → Int} (h : IMap w M n f) (hn : n < maxLen) {k c : Int} (hk : (Lit.int .i64 k).wf = true) (hc : (Lit.int .i64 c).wf = true) :
    ∃ w', (Instr.mapUpdate 71 (.map (some M)) (i64 k) (i64 c)).run Try.prog w = .ok () w' ∧ IMap w' M (n + 1) (fun j => if j = k then c else f j) ∧ Upd [M] w w' := by
  obtain ⟨D, h1, h2⟩ := h
  obtain ⟨w', hrun, h3, h4⟩ := h1.update ikey Try.underlying71 hn (ikey_of hk) (plainElem_int Try.underlying3 hc)
  refine ⟨w', hrun, ⟨_, h3, fun j => ?_⟩, Upd.of_grown h4 (by simp)⟩
  show _ = DataW.lit (Lit.int IntKind.i64 (if j = k then c else f j))
  by_cases e : j = k
  · subst e
    rw [if_pos rfl]
    exact atKey_put_same h1.isMap (by simp [WideAt.IsKeyLit]) _ _
  · rw [if_neg e, atKey_put_other (by intro h; injection h with _ h; exact e h)]
    exact h2 j
/-- .. from texts -/
def SMap (w : World) (M n : Nat) (f : ByteArray → Int) : Prop :=
  ∃ D : DataW Unit, w.ownsMap Try.prog 9 (plainElem Try.prog 3) M n D ∧ ∀ k, D.atKey (skl k) (.lit (.int .i64 0)) = .lit (.int .i64 (f k))
theorem SMap.upd {S : List Nat} {w w' : World} {M n : Nat} {f : ByteArray → Int} (h : SMap w M n f) (hu : Upd S w w') (hM : M ∉ S) : SMap w' M n f := by
  obtain ⟨D, h1, h2⟩ := h
  exact ⟨D, h1.keepU hu hM, h2⟩
theorem SMap.look {w : World} {M n : Nat} {f : ByteArray → Int} (h : SMap w M n f) {k : ByteArray} (hk : k.size ≤ maxLen) :
    (Instr.lookup 52 (.map (some M)) (.string k) false).run Try.prog w = .ok (i64 (f k)) w := by
  obtain ⟨D, h1, h2⟩ := h
  obtain ⟨c, hrun, hat, -⟩ := h1.lookup_int skey Try.underlying52 Try.underlying3 (zero_int w) (skey_of k hk)
  rw [h2 k] at hat
  injection hat with hat
  injection hat with _ hat
  rw [hrun, hat]
theorem SMap.put {w : World} {M n : Nat} {f : ByteArray → Int} (h : SMap w M n f) (hn : n < maxLen) {k : ByteArray} {c : Int} (hk : k.size ≤ maxLen) (hc : (Lit.int .i64 c).wf = true) :
    ∃ w', (Instr.mapUpdate 52 (.map (some M)) (.string k) (i64 c)).run Try.prog w = .ok () w' ∧ SMap w' M (n + 1) (fun j => if j = k then c else f j) ∧ Upd [M] w w' := by
  obtain ⟨D, h1, h2⟩ := h
  obtain ⟨w', hrun, h3, h4⟩ := h1.update skey Try.underlying52 hn (skey_of k hk) (plainElem_int Try.underlying3 hc)
  refine ⟨w', hrun, ⟨_, h3, fun j => ?_⟩, Upd.of_grown h4 (by simp)⟩
  show _ = DataW.lit (Lit.int IntKind.i64 (if j = k then c else f j))
  by_cases e : j = k
  · subst e
    rw [if_pos rfl]
    exact atKey_put_same h1.isMap (skey.key (skey_of j hk)) _ _
  · rw [if_neg e, atKey_put_other (fun h => e (skl_inj h))]
    exact h2 j

/-- how often a thing stood ahead -/
def oneI {α : Type} [DecidableEq α] (l : List α) (x : α) : Int := if x ∈ l then 1 else 0
theorem oneI_snoc {α : Type} [DecidableEq α] {l : List α} {x : α} (_h : x ∉ l) : (fun j => if j = x then oneI l x + 1 else oneI l j) = oneI (l ++ [x]) := by
  funext j
  unfold oneI
  by_cases e : j = x
  · subst e; rw [if_pos rfl, if_neg _h, if_pos (by simp)]; rfl
  · rw [if_neg e]
    by_cases m : j ∈ l
    · rw [if_pos m, if_pos (by simp [m])]
    · rw [if_neg m, if_neg (by simp [m, e])]

/-- what stood ahead -/
structure SnAt (w : World) (B M1 n1 M2 n2 : Nat) (tags : List Int) (nms : List ByteArray) : Prop where
  hB : w.heap[B]? = some (.cells #[.map (some M1), .map (some M2)] 73 (0, 0))
  m1 : IMap w M1 n1 (oneI tags)
  m2 : SMap w M2 n2 (oneI nms)
  ne : M1 ≠ M2 ∧ B ≠ M1 ∧ B ≠ M2
  n1 : n1 ≤ 1000
  n2 : n2 ≤ 1000
theorem SnAt.upd0 {w w' : World} {B M1 n1 M2 n2 : Nat} {tags : List Int} {nms : List ByteArray} (h : SnAt w B M1 n1 M2 n2 tags nms) (hu : Upd [] w w') : SnAt w' B M1 n1 M2 n2 tags nms :=
  ⟨hu.keep0 h.hB, h.m1.upd hu (by simp), h.m2.upd hu (by simp), h.ne, h.n1, h.n2⟩

def isIn {α : Type} [DecidableEq α] (l : List α) (x : α) : Bool := decide (x ∈ l)
theorem isIn_iff {α : Type} [DecidableEq α] {l : List α} {x : α} : isIn l x = true ↔ x ∈ l := by unfold isIn; exact decide_eq_true_iff
def rowE (tags : List Int) (nms : List ByteArray) (t : Int) (nm : ByteArray) (lo hi : Int) : Int :=
  if t < lo ∨ hi < t then 9 else if isIn tags t = true ∨ isIn nms nm = true then 7 else 0

set_option maxRecDepth 100000 in
set_option maxHeartbeats 1000000 in
theorem row_c {w : World} {B M1 n1 M2 n2 : Nat} {tags : List Int} {nms : List ByteArray} (h : SnAt w B M1 n1 M2 n2 tags nms) (h1 : n1 ≤ 900) (h2 : n2 ≤ 900) (t : Int) (nm : ByteArray) (lo hi : Int) (ht : inI t) (hnm : nm.size ≤ maxLen) :
    Calls Try.prog 31 #[.pointer (some ⟨B, 0, none⟩), i64 t, .string nm, i64 lo, i64 hi] w fun e w' => e = .returned (i64 (rowE tags nms t nm lo hi)) ∧ Upd [M1, M2] w w' ∧ (rowE tags nms t nm lo hi = 0 → SnAt w' B M1 (n1 + 1) M2 (n2 + 1) (tags ++ [t]) (nms ++ [nm])) := by
  by_cases hlo : t < lo
  · have he : rowE tags nms t nm lo hi = 9 := by unfold rowE; rw [if_pos (.inl hlo)]
    rw [he]
    clear h he
    refine post fun R hR => ?_
    go_enter Try.func31, Try.ntmps31
    go_wp2_with (fail)
    exact hR.out _ _ ⟨rfl, Upd.refl _ _, (fun e => by cases e)⟩
  · by_cases hhi : hi < t
    · have he : rowE tags nms t nm lo hi = 9 := by unfold rowE; rw [if_pos (.inr hhi)]
      rw [he]
      clear h he
      refine post fun R hR => ?_
      go_enter Try.func31, Try.ntmps31
      go_wp2_with (fail)
      exact hR.out _ _ ⟨rfl, Upd.refl _ _, (fun e => by cases e)⟩
    · have hwt : (Lit.int .i64 t).wf = true := iwf ht
      have hl1 := h.m1.look hwt
      have hbd1 : 0 ≤ oneI tags t ∧ oneI tags t ≤ 1 := by unfold oneI; split <;> omega
      have hbd2 : 0 ≤ oneI nms nm ∧ oneI nms nm ≤ 1 := by unfold oneI; split <;> omega
      obtain ⟨w2, hp1, hm1, hu1⟩ := h.m1.put (by unfold maxLen; omega) hwt (iwf (k := oneI tags t + 1) (by omega))
      have hs2 := h.m2.upd hu1 (by simp; exact fun e => h.ne.1 e.symm)
      have hl2 := hs2.look hnm
      obtain ⟨w3, hp2, hm2, hu2⟩ := hs2.put (by unfold maxLen; omega) hnm (iwf (k := oneI nms nm + 1) (by omega))
      have hm1' := hm1.upd hu2 (by simp; exact h.ne.1)
      have hl3 := hm1'.look hwt
      have hl4 := hm2.look hnm
      simp only [if_true] at hl3 hl4
      have hB1 := hu1.keep h.hB (by simp; exact h.ne.2.1)
      have hB2 := hu2.keep hB1 (by simp; exact h.ne.2.2)
      have hU : Upd [M1, M2] w w3 := (hu1.mono (by simp)).trans' (hu2.mono (by simp))
      have HU := Lib.hid hU
      have HB2 := Lib.hid hB2
      have HNE := Lib.hid h.ne
      obtain ⟨a0, a1, -⟩ := cells2 h.hB
      obtain ⟨b0, b1, -⟩ := cells2 hB1
      obtain ⟨c0, c1, -⟩ := cells2 hB2
      by_cases hin : t ∈ tags
      · have he : rowE tags nms t nm lo hi = 7 := by unfold rowE; rw [if_neg (by omega), if_pos (.inl (isIn_iff.2 hin))]
        have ho : oneI tags t = 1 := by unfold oneI; rw [if_pos hin]
        rw [he]
        rw [ho] at hl1 hp1 hl3
        rw [show (1 : Int) + 1 = 2 from rfl] at hp1 hl3
        clear hin he ho hbd1 hm1 hm2 hm1' hs2 hB1 hB2 hU h
        generalize oneI nms nm = o2 at *
        refine post fun R hR => ?_
        go_enter Try.func31, Try.ntmps31
        go_wp2_with (fail)
        exact hR.out _ _ ⟨rfl, HU.out, (fun e => by cases e)⟩
      · have ho : oneI tags t = 0 := by unfold oneI; rw [if_neg hin]
        by_cases hin2 : nm ∈ nms
        · have he : rowE tags nms t nm lo hi = 7 := by unfold rowE; rw [if_neg (by omega), if_pos (.inr (isIn_iff.2 hin2))]
          have ho2 : oneI nms nm = 1 := by unfold oneI; rw [if_pos hin2]
          rw [he]
          rw [ho] at hl1 hp1 hl3
          rw [ho2] at hl2 hp2 hl4
          rw [show (0 : Int) + 1 = 1 from rfl] at hp1 hl3
          rw [show (1 : Int) + 1 = 2 from rfl] at hp2 hl4
          clear hin he ho ho2 hin2 hbd1 hbd2 hm1 hm2 hm1' hs2 hB1 hB2 hU h
          refine post fun R hR => ?_
          go_enter Try.func31, Try.ntmps31
          go_wp2_with (fail)
          exact hR.out _ _ ⟨rfl, HU.out, (fun e => by cases e)⟩
        · have he : rowE tags nms t nm lo hi = 0 := by unfold rowE; rw [if_neg (by omega), if_neg (by rintro (q | q); exact hin (isIn_iff.1 q); exact hin2 (isIn_iff.1 q))]
          have ho2 : oneI nms nm = 0 := by unfold oneI; rw [if_neg hin2]
          rw [oneI_snoc hin] at hm1'
          rw [oneI_snoc hin2] at hm2
          have HM1 := Lib.hid hm1'
          have HM2 := Lib.hid hm2
          rw [he]
          rw [ho] at hl1 hp1 hl3
          rw [ho2] at hl2 hp2 hl4
          rw [show (0 : Int) + 1 = 1 from rfl] at hp1 hl3 hp2 hl4
          clear hin he ho ho2 hin2 hbd1 hbd2 hm1 hm2 hm1' hs2 hB1 hB2 hU h
          refine post fun R hR => ?_
          go_enter Try.func31, Try.ntmps31
          go_wp2_with (fail)
          exact hR.out _ _ ⟨rfl, HU.out, fun _ => ⟨HB2.out, HM1.out, HM2.out, HNE.out, by omega, by omega⟩⟩
end Go.Proofs.Ytagnclphmhjoiaa
