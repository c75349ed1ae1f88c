/-
  Texts as an argument; chapter 6's law's 'much'; the feed by all bytes that came; the comparison of frames. Conditions: sizes within the form's reach.
-/
import Derived.Test.YtagadbgbicebaaaFeedMisc
import Derived.Test.YtagadbgbicebaaaSub
import Derived.Test.YtagadbgbicebaaaOpen
import Derived.Deep.Strs
import Derived.SizedLaws
import Derived.BigQuiet
namespace Go.Proofs.Ytagadbgbicebaaa
open Go Go.RowKit Go.ChangeShapes Go.WideShapes Go.ChangeAt

/-- the strings' cells -/
def TxtAt (w : World) (b off : Nat) (l : List ByteArray) : Prop := ∀ i s, l[i]? = some s → w.cell? ⟨b, off + i, none⟩ = some (.string s)

theorem open_texts {H : Type} {enc : TypeId × Value → H} {P : Program} {W : World} {ts : List TypeId} {ds : List (DataW H)} (hsz : (DataW.weightsEach P ts ds).all (· ≤ reachBytes) = true) {j : Nat} {t e : TypeId} {d : DataW H} {base b0 : Nat} {r : Reach} {ps : List MemPlace} {v : Value}
    (htj : ts[j]? = some t) (hdj : ds[j]? = some d) (ht : P.underlying t = some (.slice e)) (he : P.underlying e = some .string) (hc : P.cellsOf e = 1) (hval : Value.okWide P W r b0 t v) (h : DataW.Trod enc P W base (fun _ => true) true t v d ps) :
    ∃ (ao : Option Addr) (cap : Nat) (l : List ByteArray), v = .slice ao l.length cap ∧ (∀ s ∈ l, s.size ≤ reachBytes) ∧ l.length ≤ maxLen ∧ (l = [] ∨ ∃ b off, ao = some ⟨b, off, none⟩ ∧ TxtAt W b off l) := by
  obtain ⟨ao, len, cap, rfl⟩ := okWide_slice ht hval
  obtain ⟨fuel, hx⟩ := h
  rcases Deep.open_strs ht he hc hx with ⟨hcs, _⟩ | ⟨a, len', cap', m, Sx, hcs, _, hl, hm, hmm, hdx, hcell⟩
  · simp only [Value.cells] at hcs
    injection hcs with h1
    injection h1 with h1 h2 h3
    subst h1; subst h2; subst h3
    exact ⟨none, 0, [], rfl, by simp, by simp, .inl rfl⟩
  · simp only [Value.cells] at hcs
    injection hcs with h1
    injection h1 with h1 h2 h3
    subst h1; subst h2; subst h3
    simp only [if_true] at hmm
    injection hdx with hd _
    subst hd
    have hlen : ((List.range len).map Sx).length = len := by simp
    refine ⟨some a, cap, (List.range len).map Sx, by rw [hlen], ?_, by rw [hlen]; omega, ?_⟩
    · intro s hs
      obtain ⟨i, hi, rfl⟩ := List.mem_map.1 hs
      have := List.all_eq_true.1 hsz (Sx i).data.toList.length (DataW.weights_mem_each htj hdj _ (by
        simp only [DataW.weights, ht]
        refine List.mem_cons_of_mem _ (List.mem_append_left _ ?_)
        have : ∀ (L : List Nat), i ∈ L → (Sx i).data.toList.length ∈ DataW.weightsAll P e (L.map fun i => (.lit (.string (Sx i).data.toList) : DataW H)) := by
          intro L
          induction L with
          | nil => simp
          | cons x L ih =>
            intro hx
            simp only [List.map_cons, DataW.weightsAll, List.mem_append]
            rcases List.mem_cons.1 hx with h | h
            · subst h; left; simp [DataW.weights]
            · right; exact ih h
        exact this _ hi))
      have h2 : (Sx i).data.toList.length = (Sx i).size := rfl
      simpa [h2] using this
    · cases len with
      | zero => exact .inl rfl
      | succ n =>
        have ha := cell_spot (by have := (hcell 0 (by omega)).1; simpa [Addr.add] using this : W.cell? a = some _)
        refine .inr ⟨a.block, a.off, congrArg some ha, ?_⟩
        intro i s hi
        have hin : i < n + 1 := by
          rcases Nat.lt_or_ge i (n + 1) with q | q
          · exact q
          · rw [List.getElem?_eq_none (by simpa using q)] at hi; cases hi
        rw [List.getElem?_map, List.getElem?_range hin] at hi
        injection hi with hi
        subst hi
        have := (hcell i (by omega)).1
        rw [ha, Addr.add_lit] at this
        exact this

/-- how many bytes texts have -/
def tot (l : List ByteArray) : Nat := (l.map ByteArray.size).sum
theorem tot_snoc (l : List ByteArray) (k : Nat) (h : k < l.length) : tot (l.take (k + 1)) = tot (l.take k) + l[k].size := by
  unfold tot; rw [List.take_succ_eq_append_getElem h, List.map_append, List.sum_append]; simp only [List.map_cons, List.map_nil, List.sum_cons, List.sum_nil, Nat.add_zero]
/-- are they too much? -/
def muchB (l : List ByteArray) : Bool := decide (200 < l.length) || decide (20000 < min (tot l) 1048576)

theorem minR {P : Program} (ats : Array TypeId) (ty : TypeId) (x y : Int) (w : World) : (Builtin.min_ ats ty #[i64 x, i64 y]).run P w = .ok (i64 (min x y)) w := by
  rw [run_min_int2]
  congr 2
  split <;> omega

set_option maxHeartbeats 1000000 in
theorem much_c {w : World} {ao : Option Addr} {b off cap : Nat} {l : List ByteArray} (hao : l = [] ∨ ao = some ⟨b, off, none⟩) (h : TxtAt w b off l) (hg : ∀ s ∈ l, s.size ≤ reachBytes) (hlen : l.length ≤ maxLen) :
    Calls Try.prog 23 #[.slice ao l.length cap] w fun e w' => e = .returned (.bool (muchB l)) ∧ w = w' := by
  have H := Lib.hid h
  have HAO := Lib.hid hao
  have HG := Lib.hid hg
  have hmn := @minR Try.prog
  clear h hg hao
  unfold maxLen at hlen
  refine post fun R hR => ?_
  go_enter Try.func23, Try.ntmps23
  go_wp2_with fail
  go_loop [3, 4] (fun n i => ∃ k m : Nat, i = i64 k ∧ k ≤ l.length ∧ n = i64 m ∧ m = min (tot (l.take k)) 1048576) (fun _ i => l.length - (intOf i).toNat)
  case atStart => exact ⟨0, 0, rfl, Nat.zero_le _, rfl, rfl⟩
  case round =>
    obtain ⟨k, m, rfl, hk, rfl, hm⟩ := hrel
    by_cases hlt : k < l.length
    · have hl0 : l ≠ [] := by rintro rfl; simp at hlt
      obtain rfl := HAO.out.resolve_left hl0
      clear hl0
      have c1 := H.out k _ (List.getElem?_eq_getElem hlt)
      have hs := HG.out _ (List.getElem_mem hlt)
      have ht := tot_snoc l k hlt
      unfold reachBytes at hs
      generalize l[k] = s at *
      have hm2 : m ≤ 1048576 := by omega
      have HM := Lib.hid hm
      have HT := Lib.hid ht
      clear hm ht
      go_wp2_with fail
      go_round
      case rel => exact ⟨k + 1, min (m + s.size) 1048576, by go_num, by omega, by congr 1; omega, by rw [HT.out, HM.out]; omega⟩
      case measure => simp [intOf]; omega
    · have hkl : l.take k = l := List.take_of_length_le (by omega)
      rw [hkl] at hm
      have hmb : muchB l = (decide (200 < l.length) || decide (20000 < m)) := by unfold muchB; rw [← hm]
      have HMB := Lib.hid hmb
      clear hmb hm hkl
      by_cases h1 : 200 < l.length
      · go_wp2_with fail
        refine hR.out _ _ ⟨?_, rfl⟩
        rw [HMB.out, decide_eq_true h1]; rfl
      · go_wp2_with fail
        refine hR.out _ _ ⟨?_, rfl⟩
        rw [HMB.out, decide_eq_false h1]
        rw [show (decide ((200 : Int) < l.length)) = false from decide_eq_false (by omega), show (decide ((20000 : Int) < m)) = decide (20000 < m) from by rw [decide_eq_decide]; omega]

/-- the bytes of texts -/
def cat (l : List ByteArray) : List UInt8 := l.flatMap fun s => s.data.toList
theorem cat_len (l : List ByteArray) : (cat l).length = tot l := by
  induction l with
  | nil => rfl
  | cons x r ih => simp only [cat, tot, List.flatMap_cons, List.length_append, List.map_cons, List.sum_cons] at *; rw [ih]; rfl
theorem cat_snoc (l : List ByteArray) (k : Nat) (h : k < l.length) : cat (l.take (k + 1)) = cat (l.take k) ++ l[k].data.toList := by
  unfold cat; rw [List.take_succ_eq_append_getElem h, List.flatMap_append]; simp
theorem tot_take (l : List ByteArray) (k : Nat) : tot (l.take k) ≤ tot l := by
  have := congrArg tot (List.take_append_drop k l)
  unfold tot at *
  rw [List.map_append, List.sum_append] at this
  omega

/-- a feed behind the bytes A -/
def FeedAt (w : World) (b : Nat) (A : List UInt8) : Prop := w.heap[b]? = some (.cells #[.string (bs (allFr A).rest), i64 (allFr A).e] 50 (0, 0))

theorem rest_le (A : List UInt8) : (allFr A).out.length * 4 + (allFr A).rest.length ≤ A.length := allFr_len A.length A (Nat.le_refl _)

set_option maxRecDepth 100000 in
theorem pushAll_c {w : World} {b : Nat} {A : List UInt8} (h : FeedAt w b A) (t : ByteArray) (hlen : A.length + t.size ≤ 1000000) :
    Calls Try.prog 26 #[.pointer (some ⟨b, 0, none⟩), .string t] w fun e w' => ∃ ao cap ys, e = .returned (.slice ao ys.length cap) ∧ Sub w' w.heap.size 23 3 (.slice ao ys.length cap) ys.length (fmCells ys) ∧ Upd [b] w w' ∧
      FeedAt w' b (A ++ t.data.toList) ∧ (allFr (A ++ t.data.toList)).out = (allFr A).out ++ ys := by
  have hap := allFr_append A.length A t.data.toList (Nat.le_refl _)
  by_cases he : (allFr A).e = 0
  · rw [if_pos he] at hap
    unfold FeedAt at *
    rw [he] at h
    have hr := rest_le A
    refine Calls.mono (push_c h rfl rfl t (by rw [size_bs]; omega)) ?_
    rintro e w' ⟨v, rfl, h1, h2, h3⟩
    obtain ⟨ao, cap, rfl, -⟩ := own_slice h1
    refine ⟨ao, cap, _, rfl, sub_of_own h1, h2, ?_, by rw [hap]⟩
    rw [hap]
    exact h3
  · rw [if_neg he] at hap
    refine Calls.mono (pushBad_c h rfl he t) ?_
    rintro e w' ⟨rfl, rfl⟩
    exact ⟨none, 0, [], rfl, sub_nil _ _ _ _, Upd.refl _ _, by unfold FeedAt at *; rw [hap]; exact h, by rw [hap]; simp⟩
theorem fwaits_c {w : World} {b : Nat} {A : List UInt8} (h : FeedAt w b A) :
    Calls Try.prog 29 #[.pointer (some ⟨b, 0, none⟩)] w fun e w' => e = .returned (i64 (allFr A).rest.length) ∧ w = w' := by
  refine Calls.mono (waits_c h rfl) ?_
  rintro e w' ⟨rfl, rfl⟩
  exact ⟨by rw [size_bs], rfl⟩
theorem fbroken_c {w : World} {b : Nat} {A : List UInt8} (h : FeedAt w b A) :
    Calls Try.prog 30 #[.pointer (some ⟨b, 0, none⟩)] w fun e w' => e = .returned (i64 (allFr A).e) ∧ w = w' := broken_c h rfl

theorem fmCells_get {l : List Fm} {k : Nat} (h : k < l.length) : (fmCells l)[k * 3]? = some (i64 l[k].k) ∧ (fmCells l)[k * 3 + 1]? = some (i64 l[k].f) ∧ (fmCells l)[k * 3 + 2]? = some (.string (bs l[k].body)) := by
  induction l generalizing k with
  | nil => simp at h
  | cons x r ih =>
    cases k with
    | zero => exact ⟨rfl, rfl, rfl⟩
    | succ k =>
      have := ih (k := k) (by simpa using h)
      have e : fmCells (x :: r) = i64 x.k :: i64 x.f :: .string (bs x.body) :: fmCells r := rfl
      rw [e, show (k + 1) * 3 = k * 3 + 3 by omega]
      simpa using this

set_option maxRecDepth 100000 in
set_option maxHeartbeats 1000000 in
theorem rsameF_c {w : World} {va vb : Value} {ba bb : Nat} {l : List Fm} (ha : Sub w ba 23 3 va l.length (fmCells l)) (hb : Sub w bb 23 3 vb l.length (fmCells l)) (hlen : l.length ≤ 100000) :
    Calls Try.prog 28 #[va, vb] w fun e w' => e = .returned (.bool true) ∧ Upd [] w w' := by
  obtain ⟨ao, ca, rfl, -, hra⟩ := ha.form
  obtain ⟨bo, cb, rfl, -, hrb⟩ := hb.form
  clear ha hb
  by_cases h0 : 0 < l.length
  · obtain ⟨ga, oa, rfl, -, hga, hca⟩ := hra h0
    obtain ⟨gb, ob, rfl, -, hgb, hcb⟩ := hrb h0
    have HA := Lib.hid hca
    have HB := Lib.hid hcb
    clear hca hcb hra hrb
    refine post fun R hR => ?_
    go_enter Try.func28, Try.ntmps28
    go_wp2_with fail
    go_loopw [5] (fun i wr => ∃ k : Nat, i = i64 k ∧ k ≤ l.length ∧ Upd [] w wr) (fun i _ => l.length - (intOf i).toNat)
    case atStart => exact ⟨0, rfl, Nat.zero_le _, Upd.refl _ _⟩
    case round =>
      obtain ⟨k, rfl, hk, hur⟩ := hrel
      by_cases hlt : k < l.length
      · obtain ⟨x0, x1, x2⟩ := fmCells_get hlt
        have a0 := (World.cell?_of_block (a := ⟨ga, oa + k * 3, none⟩) (hur.block ga hga (by simp))).trans (HA.out _ _ x0)
        have a1 : wr.cell? ⟨ga, oa + k * 3 + 1, none⟩ = _ := (World.cell?_of_block (a := ⟨ga, oa + k * 3 + 1, none⟩) (hur.block ga hga (by simp))).trans (HA.out _ _ x1)
        have a2 : wr.cell? ⟨ga, oa + k * 3 + 2, none⟩ = _ := (World.cell?_of_block (a := ⟨ga, oa + k * 3 + 2, none⟩) (hur.block ga hga (by simp))).trans (HA.out _ _ x2)
        have b0 := (World.cell?_of_block (a := ⟨gb, ob + k * 3, none⟩) (hur.block gb hgb (by simp))).trans (HB.out _ _ x0)
        have b1 : wr.cell? ⟨gb, ob + k * 3 + 1, none⟩ = _ := (World.cell?_of_block (a := ⟨gb, ob + k * 3 + 1, none⟩) (hur.block gb hgb (by simp))).trans (HB.out _ _ x1)
        have b2 : wr.cell? ⟨gb, ob + k * 3 + 2, none⟩ = _ := (World.cell?_of_block (a := ⟨gb, ob + k * 3 + 2, none⟩) (hur.block gb hgb (by simp))).trans (HB.out _ _ x2)
        clear x0 x1 x2
        have q1 : (0 : Int) ≤ (k : Int) := by omega
        have q2 : (k : Int) < (l.length : Int) := by omega
        generalize l[k].k = x at *
        generalize l[k].f = y at *
        generalize bs l[k].body = z at *
        go_wp2_with fail
        go_quiet (fail)
        go_wp2_with fail
        go_roundw
        case rel => exact ⟨k + 1, by go_num, by omega, hur.drewN _⟩
        case measure => simp [intOf]; omega
      · go_wp2_with fail
        exact hR.out _ _ ⟨rfl, hur⟩
  · obtain rfl : l = [] := List.eq_nil_of_length_eq_zero (by omega)
    refine post fun R hR => ?_
    go_enter Try.func28, Try.ntmps28
    go_wp2_with fail
    refine wp_loop_once ?_
    go_wp2_with (fail)
    exact hR.out _ _ ⟨rfl, Upd.refl _ _⟩
end Go.Proofs.Ytagadbgbicebaaa
