/-
  The contracts of the document's cache (concourseref32), and chapter 32's example. Conditions: the rows are the call's own.
-/
import Derived.Test.YtipcgddcbnhejaaDedPut
import Derived.BigQuiet
namespace Go.Proofs.Ytipcgddcbnhejaa
open Go Go.RowKit

/-- a part of a slice from an element on -/
theorem Sub.tail {w : World} {base : Nat} {e : TypeId} {size : Nat} {g off n cap : Nat} {xs : List Value} (h : Sub w base e size (.slice (some ⟨g, off, none⟩) n cap) n xs) {lo : Nat} (hlo : lo ≤ n) :
    Sub w base e size (.slice (some ⟨g, off + lo * size, none⟩) (n - lo) (cap - lo)) (n - lo) (xs.drop (lo * size)) := by
  obtain ⟨hl, h⟩ := h
  rcases h with ⟨h, _⟩ | ⟨g', off', cap', cs, he, h2, h3, h4, h5, h6, h7⟩
  · cases h
  · injection he with e1 e2 e3
    injection e1 with e1
    injection e1 with e4 e5
    subst e4; subst e5; subst e3
    have hm : (n - lo) * size = n * size - lo * size := Nat.sub_mul _ _ _
    have hm2 : (cap - lo) * size = cap * size - lo * size := Nat.sub_mul _ _ _
    have hm3 : lo * size ≤ n * size := Nat.mul_le_mul_right _ hlo
    have hm4 : n * size ≤ cap * size := Nat.mul_le_mul_right _ h4
    refine ⟨by rw [List.length_drop, hl, hm], .inr ⟨g, off + lo * size, cap - lo, cs, rfl, h2, h3, by omega, by omega, by omega, ?_⟩⟩
    intro j hj
    rw [List.getElem?_drop, Nat.add_assoc]
    exact h7 _ (by omega)

theorem last8_cells (r : List Kp) : kpCells (last8 r) = (kpCells r).drop ((r.length - 8) * 2) := by unfold last8; rw [kpCells_drop]
theorem last8_len (r : List Kp) : (last8 r).length = min r.length 8 := by unfold last8; rw [List.length_drop]; omega

set_option maxHeartbeats 400000 in
theorem rkept_c {w : World} {v : Value} {r : List Kp} (h : Sub w 0 24 2 v r.length (kpCells r)) (hlen : r.length ≤ 1000) :
    Calls Try.prog 14 #[v] w fun e w' => ∃ v', e = .returned v' ∧ Sub w 0 24 2 v' (last8 r).length (kpCells (last8 r)) ∧ w = w' := by
  obtain ⟨ao, cap, rfl, hcap, hrow⟩ := h.form
  by_cases h8 : 8 < r.length
  · obtain ⟨g, off, rfl, -, -, -⟩ := hrow (by omega)
    have ht := h.tail (lo := r.length - 8) (by omega)
    rw [← last8_cells] at ht
    have hl : (last8 r).length = r.length - (r.length - 8) := by rw [last8_len]; omega
    rw [← hl] at ht
    have HT := Lib.hid ht
    clear ht hl h hrow
    refine post fun R hR => ?_
    go_enter Try.func14, Try.ntmps14
    go_wp2_with fail
    refine hR.out _ _ ⟨_, ?_, HT.out, rfl⟩
    rw [show (last8 r).length = r.length - (r.length - 8) from by rw [last8_len]; omega]
    rfl
  · have h1 : last8 r = r := by unfold last8; rw [show r.length - 8 = 0 by omega]; rfl
    rw [h1]
    have H := Lib.hid h
    clear h hrow h1
    refine post fun R hR => ?_
    go_enter Try.func14, Try.ntmps14
    go_wp2_with fail
    exact hR.out _ _ ⟨_, rfl, H.out, rfl⟩

set_option maxRecDepth 100000 in
set_option maxHeartbeats 1000000 in
theorem rget_c {w : World} {v : Value} {r : List Kp} (h : Sub w 0 24 2 v r.length (kpCells r)) (hlen : r.length ≤ 1000) (id : Int) :
    Calls Try.prog 13 #[v, .int .u64 id] w fun e w' => e = .returned (.tuple #[.string (kgS (last8 r) id), .bool (kgB (last8 r) id)]) ∧ w = w' := by
  have hk := rkept_c h hlen
  have hll : (last8 r).length ≤ 8 := by rw [last8_len]; omega
  generalize last8 r = l at *
  have HK := Lib.hid hk
  clear hk h
  refine post fun R hR => ?_
  go_enter Try.func13, Try.ntmps13
  go_wp2_with fail
  refine HK.out.mono ?_
  rintro e w1 ⟨v', rfl, hs, rfl⟩
  obtain ⟨ao, cap, rfl, hcap, hrow⟩ := hs.form
  go_wp2_with fail
  by_cases h0 : 0 < l.length
  · obtain ⟨g, off, rfl, -, hgl, hcs⟩ := hrow h0
    have HCS := Lib.hid hcs
    clear hcs hrow hs
    go_loop [7] (fun i => ∃ k : Nat, i = i64 k ∧ k ≤ l.length ∧ (∀ j, j < k → ∀ h : j < l.length, l[j].id ≠ id)) (fun i => l.length - (intOf i).toNat)
    case atStart => exact ⟨0, rfl, Nat.zero_le _, fun j hj => by omega⟩
    case round =>
      obtain ⟨k, rfl, hk, hno⟩ := hrel
      have HNO := Lib.hid hno
      clear hno
      by_cases hlt : k < l.length
      · obtain ⟨e1, e2⟩ := kpCells_get hlt
        have c1 := HCS.out _ _ e1
        have c2 : w.cell? ⟨g, off + k * 2 + 1, none⟩ = _ := HCS.out _ _ e2
        clear e1 e2
        by_cases he : l[k].id = id
        · have hf := kpIx_hit hlt he HNO.out
          have hf1 : kgS l id = l[k].s := by unfold kgS; rw [hf, List.getElem?_eq_getElem hlt]; rfl
          have hf2 : kgB l id = true := by unfold kgB; rw [hf]; simpa using hlt
          rw [he] at c1
          have HF1 := Lib.hid hf1
          have HF2 := Lib.hid hf2
          clear hf hf1 hf2 he
          go_wp2_with (fail)
          exact hR.out _ _ ⟨by (rw [HF1.out, HF2.out]; try rfl), rfl⟩
        · have hq : (l[k].id == id) = false := by simpa using he
          have HE := Lib.hid he
          clear he
          generalize hid : l[k].id = ix at c1 hq
          generalize hs : l[k].s = sx at c2
          clear hid hs
          go_wp2_with (fail)
          go_round
          case rel =>
            refine ⟨k + 1, by go_num, by omega, fun j hj h => ?_⟩
            by_cases e : j = k
            · subst e; exact HE.out
            · exact HNO.out j (by omega) h
          case measure => simp [intOf]; omega
      · have hf := kpIx_miss (l := l) (id := id) (fun j h => HNO.out j (by omega) h)
        have hf1 : kgS l id = ⟨#[]⟩ := by unfold kgS; rw [hf, List.getElem?_eq_none (Nat.le_refl _)]; rfl
        have hf2 : kgB l id = false := by unfold kgB; rw [hf]; simp
        have HF1 := Lib.hid hf1
        have HF2 := Lib.hid hf2
        clear hf hf1 hf2
        go_wp2_with (fail)
        exact hR.out _ _ ⟨by (rw [HF1.out, HF2.out]; try rfl), rfl⟩
  · obtain rfl : l = [] := List.eq_nil_of_length_eq_zero (by omega)
    refine wp_loop_once ?_
    go_wp2_with (fail)
    exact hR.out _ _ ⟨rfl, rfl⟩

set_option maxRecDepth 100000 in
set_option maxHeartbeats 1000000 in
theorem rids_c {w : World} {v : Value} {r : List Kp} (h : Sub w 0 24 2 v r.length (kpCells r)) (hlen : r.length ≤ 1000) :
    Calls Try.prog 17 #[v] w fun e w' => ∃ v', e = .returned v' ∧ Sub w' w.heap.size 22 1 v' (last8 r).length (kpIds (last8 r)) ∧ Upd [] w w' := by
  have hk := rkept_c h hlen
  have hll : (last8 r).length ≤ 8 := by rw [last8_len]; omega
  generalize last8 r = l at *
  have HK := Lib.hid hk
  clear hk h
  obtain ⟨i0, hi0, hz0, hz1, hz2⟩ := info_parts info_u64
  refine post fun R hR => ?_
  go_enter Try.func17, Try.ntmps17
  go_wp2_with fail
  refine HK.out.mono ?_
  rintro e w1 ⟨v', rfl, hs, rfl⟩
  obtain ⟨ao, cap, rfl, hcap, hrow⟩ := hs.form
  go_wp2_with fail
  by_cases h0 : 0 < l.length
  · obtain ⟨g, off, rfl, -, hgl, hcs⟩ := hrow h0
    have HCS := Lib.hid hcs
    clear hcs hrow hs
    go_loopw [3, 5] (fun v i wr => ∃ k : Nat, i = i64 k ∧ k ≤ l.length ∧ wr.ownsRow w.heap.size 22 1 v k (kpIds (l.take k)) ∧ Upd [] w wr) (fun _ i _ => l.length - (intOf i).toNat)
    case atStart => exact ⟨0, rfl, Nat.zero_le _, World.ownsRow_nil _ _ _ _, Upd.refl _ _⟩
    case round =>
      obtain ⟨k, rfl, hk, hown, hur⟩ := hrel
      by_cases hlt : k < l.length
      · obtain ⟨e1, e2⟩ := kpCells_get hlt
        have c1 := (World.cell?_of_block (a := ⟨g, off + k * 2, none⟩) (hur.block g hgl (by simp))).trans (HCS.out _ _ e1)
        have hsn : kpIds (l.take (k + 1)) = kpIds (l.take k) ++ [.int .u64 l[k].id] := by rw [List.take_succ_eq_append_getElem hlt]; unfold kpIds; rw [List.map_append]; rfl
        have HSN := Lib.hid hsn
        clear e1 e2 hsn
        generalize l[k].id = ix at *
        have hs1 := hur.size
        go_wp2_with (at_builtin; refine wpList_append_own _ rfl _ _ 43 rfl w.heap.size 22 i0 (.int .u64 0) 1 8 Try.underlying43 hi0 hz0 hz1 hz2 rfl (by decide) _ _ _ rfl (hown.alloc _) ⟨wr.heap.size, 0, none⟩ 1 1 [.int .u64 ix] rfl rfl ?_ ?_ ?_ ?_ ?_ ?_)
        · exact new_cells (heap_alloc_new wr _)
        · intro u hu; simp at hu; subst hu; rfl
        · unfold maxLen; omega
        · omega
        · simp; omega
        · intro v' w3 hown3 hgr _
          have hu3 : Upd [] w w3 := (hur.alloc _).grown hgr (fun q hq => .inr (by
            rcases hown.2 with ⟨rfl, _⟩ | ⟨g', cap', cur, rfl, hg', _⟩
            · simp [Value.ownBlock] at hq
            · simp [Value.ownBlock] at hq; omega))
          clear c1 hgr hown
          go_wp2_with (fail)
          go_roundw
          case rel => exact ⟨k + 1, by go_num, by omega, by rw [HSN.out]; exact hown3, hu3⟩
          case measure => simp [intOf]; omega
      · have hkl : k = l.length := by omega
        subst hkl
        rw [List.take_length] at hown
        have HO := Lib.hid hown
        clear hown
        go_wp2_with (fail)
        exact hR.out _ _ ⟨_, rfl, sub_of_own HO.out, hur⟩
  · obtain rfl : l = [] := List.eq_nil_of_length_eq_zero (by omega)
    refine wp_loop_once ?_
    go_wp2_with (fail)
    exact hR.out _ _ ⟨_, rfl, sub_nil _ _ _ _, Upd.refl _ _⟩

/-- a slice of ids -/
def u64s (l : List Int) : List Value := l.map fun x => .int .u64 x

set_option maxRecDepth 100000 in
set_option maxHeartbeats 1000000 in
theorem rsame_c {w : World} {va vb : Value} {ba bb : Nat} {l : List Int} (ha : Sub w ba 22 1 va l.length (u64s l)) (hb : Sub w bb 22 1 vb l.length (u64s l)) (hlen : l.length ≤ 1000) :
    Calls Try.prog 15 #[va, vb] w fun e w' => e = .returned (.bool true) ∧ Upd [] w w' := by
  obtain ⟨ao, ca, rfl, -, hra⟩ := ha.form
  obtain ⟨bo, cb, rfl, -, hrb⟩ := hb.form
  clear ha hb
  by_cases h0 : 0 < l.length
  · obtain ⟨ga, oa, rfl, -, hga, hca⟩ := hra h0
    obtain ⟨gb, ob, rfl, -, hgb, hcb⟩ := hrb h0
    have HA := Lib.hid hca
    have HB := Lib.hid hcb
    clear hca hcb hra hrb
    refine post fun R hR => ?_
    go_enter Try.func15, Try.ntmps15
    go_wp2_with fail
    go_loopw [5] (fun i wr => ∃ k : Nat, i = i64 k ∧ k ≤ l.length ∧ Upd [] w wr) (fun i _ => l.length - (intOf i).toNat)
    case atStart => exact ⟨0, rfl, Nat.zero_le _, Upd.refl _ _⟩
    case round =>
      obtain ⟨k, rfl, hk, hur⟩ := hrel
      by_cases hlt : k < l.length
      · have hx : (u64s l)[k]? = some (.int .u64 l[k]) := by unfold u64s; rw [List.getElem?_map, List.getElem?_eq_getElem hlt]; rfl
        have c1 := (World.cell?_of_block (a := ⟨ga, oa + k, none⟩) (hur.block ga hga (by simp))).trans (HA.out _ _ hx)
        have c2 := (World.cell?_of_block (a := ⟨gb, ob + k, none⟩) (hur.block gb hgb (by simp))).trans (HB.out _ _ hx)
        clear hx
        have b1 : (0 : Int) ≤ (k : Int) := by omega
        have b2 : (k : Int) < (l.length : Int) := by omega
        generalize l[k] = x at *
        go_wp2_with fail
        go_quiet (fail)
        go_wp2_with fail
        go_roundw
        case rel => exact ⟨k + 1, by go_num, by omega, hur.drewN _⟩
        case measure => simp [intOf]; omega
      · go_wp2_with fail
        exact hR.out _ _ ⟨rfl, hur⟩
  · obtain rfl : l = [] := List.eq_nil_of_length_eq_zero (by omega)
    refine post fun R hR => ?_
    go_enter Try.func15, Try.ntmps15
    go_wp2_with fail
    refine wp_loop_once ?_
    go_wp2_with (fail)
    exact hR.out _ _ ⟨rfl, Upd.refl _ _⟩

theorem kpIds_u64s (l : List Kp) : kpIds l = u64s (l.map Kp.id) := by simp [kpIds, u64s]

theorem dawake_c (w : World) : Calls Try.prog 8 #[] w fun e w' => e = .returned (.bool true) ∧ Upd [] w w' := by
  have e1 : kgS [⟨7, ⟨#[97]⟩⟩] 7 = ⟨#[97]⟩ := by decide
  have e2 : kgB [⟨7, ⟨#[97]⟩⟩] 7 = true := by decide
  have E1 := Lib.hid e1
  have E2 := Lib.hid e2
  clear e1 e2
  refine post fun R hR => ?_
  go_enter Try.func8, Try.ntmps8
  go_wp2_with (fail)
  refine Calls.mono (dnew_c _) ?_
  rintro e w1 ⟨rfl, hu1, hd1⟩
  go_wp2_with fail
  refine (put_c hd1 7 ⟨#[97]⟩).mono ?_
  rintro e w2 ⟨rfl, hu2, hd2⟩
  replace hd2 : DedAt w2 w.heap.size [⟨7, ⟨#[97]⟩⟩] := hd2
  rw [show (if kgB [] 7 = true then (7 : Int) else 0) = 0 from rfl]
  go_wp2_with fail
  refine (get2_c hd2 7).mono ?_
  rintro e w3 ⟨rfl, hu3⟩
  rw [E1.out, E2.out]
  have hd3 := hd2.keep hu3 (by simp)
  go_wp2_with fail
  refine (len2_c hd3).mono ?_
  rintro e w4 ⟨rfl, hu4⟩
  go_wp2_with fail
  exact hR.out _ _ ⟨rfl, hu1.trans ((hu2.trans hu3 (by simp)).trans hu4 (by simp)) (by simp)⟩
end Go.Proofs.Ytipcgddcbnhejaa
