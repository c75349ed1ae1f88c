/-
  DedupPuts: what a cache keeps of any responses that are put, one behind the other, and what it tells of any id. For every list and id. No condition.
-/
import Derived.Test.YtipcgddcbnhejaaOpen
import Derived.Test.YtipcgddcbnhejaaDedRef
namespace Go.Proofs.Ytipcgddcbnhejaa
open Go Go.RowKit Go.ChangeShapes Go.WideShapes Go.ChangeAt

theorem Kp.parse (vs : List Value) (h : AllOK [.int .u64, .string] vs) : ∃ s, Kp.cells s = vs ∧ True := by
  obtain ⟨a, r, rfl, ha, h⟩ := h.u64
  obtain ⟨b, r, rfl, hb, h⟩ := h.str
  obtain rfl := h.none
  exact ⟨⟨a, b⟩, rfl, trivial⟩

theorem flat_kp : flat Try.prog 5 24 = some [.int .u64, .string] := by kernel_rfl
theorem cells_kp : Try.prog.cellsOf 24 = 2 := by kernel_rfl
theorem info_rrow : (Try.prog.info? 24).map (fun i => (i.zero, i.size, i.bytes)) = some (some (.agg #[.int .u64 0, .string ⟨#[]⟩]), 2, 24) := by kernel_rfl

theorem krow {w wr : World} {b off : Nat} {l : List Kp} (hr : RowsAt w b off 2 Kp.cells l) (hu : Upd [] w wr) (hb : b < w.heap.size) {k : Nat} (hk : k < l.length) :
    wr.cell? ⟨b, off + k * 2, none⟩ = some (.int .u64 (l[k].id)) ∧ wr.cell? ⟨b, off + k * 2 + 1, none⟩ = some (.string (l[k].s)) := by
  have h0 := hr k l[k] (List.getElem?_eq_getElem hk)
  exact ⟨(hu.below.cell (p := ⟨b, off + k * 2, none⟩) hb).trans (h0 0 (by omega)), (hu.below.cell (p := ⟨b, off + k * 2 + 1, none⟩) hb).trans (h0 1 (by omega))⟩

theorem last8_last8 (l : List Kp) (k : Kp) : last8 (last8 l ++ [k]) = last8 (l ++ [k]) := by
  unfold last8
  simp only [List.length_append, List.length_drop, List.length_cons, List.length_nil]
  by_cases h : l.length ≤ 8
  · rw [show l.length - 8 = 0 by omega, List.drop_zero, Nat.sub_zero]
  · rw [List.drop_append_of_le_length (by rw [List.length_drop]; omega), List.drop_append_of_le_length (by omega), List.drop_drop]
    congr 2
    all_goals omega

theorem ded_ne {w : World} {b base n : Nat} {l : List Kp} {v : Value} {xs : List Value} (hd : DedAt w b l) (hs : Sub w base 24 2 v n xs) : ∀ g ∈ blkL v, g ∉ [b] := by
  intro g hg e
  simp only [List.mem_cons, List.not_mem_nil, or_false] at e
  subst e
  obtain ⟨cs, hc⟩ := hs.ty _ hg
  obtain ⟨_, _, _, hd1, _⟩ := hd
  rw [hc] at hd1; injection hd1 with hd1; injection hd1 with _ hd1; cases hd1

set_option maxRecDepth 100000 in
set_option maxHeartbeats 4000000 in
theorem dputs_c (id : Int) (b off cap : Nat) (l : List Kp) (w : World) (hlen : l.length ≤ 500) (hrows : RowsAt w b off 2 Kp.cells l) (hb : b < w.heap.size) :
    Trues 4 #[.slice (some ⟨b, off, none⟩) l.length cap, .int .u64 id] w := by
  unfold Trues
  have HRows := Lib.hid hrows
  clear hrows
  obtain ⟨i0, hi0, hz0, hz1, hz2⟩ := info_parts info_rrow
  refine post fun R hR => ?_
  go_enter Try.func4, Try.ntmps4
  go_wp2_with (fail)
  refine Calls.mono (dnew_c _) ?_
  rintro e w1 ⟨rfl, hu1, hd1⟩
  go_wp2_with (fail)
  go_loopw [6, 7] (fun v i wr => ∃ (k : Nat) (R : List Kp), i = i64 k ∧ k ≤ l.length ∧ R.length ≤ k ∧ DedAt wr w.heap.size (last8 R) ∧ Sub wr w.heap.size 24 2 v R.length (kpCells R) ∧ Upd [] w wr)
    (fun _ i _ => l.length - (intOf i).toNat)
  case atStart => exact ⟨0, [], rfl, Nat.zero_le _, Nat.le_refl _, hd1, sub_nil _ _ _ _, hu1⟩
  case round =>
    clear hd1 hu1
    obtain ⟨k, R, rfl, hk, hRl, hd, hs, hu⟩ := hrel
    by_cases hlt : k < l.length
    · obtain ⟨c0, c1⟩ := krow HRows.out hu hb hlt
      have hlt2 : b < wr.heap.size := Nat.lt_of_lt_of_le hb hu.size
      have hput := put_c (w := wr.drew) (hd.keep ((Upd.refl [] _).drew) (by simp)) (l[k].id) (l[k].s)
      have hrget := rget_c (hs.mono (Nat.zero_le _)) (by omega) l[k].id
      generalize l[k].id = ix at *
      generalize l[k].s = sx at *
      have b1 : (0 : Int) ≤ (k : Int) := by omega
      have b2 : (k : Int) < (l.length : Int) := by omega
      have HRG := Lib.hid hrget
      have hC : ∀ w3, Upd [w.heap.size] wr.drew w3 → w3.cell? ⟨b, off + k * 2, none⟩ = some (.int .u64 ix) ∧ w3.cell? ⟨b, off + k * 2 + 1, none⟩ = some (.string sx) := fun w3 hu3 =>
        ⟨(World.cell?_of_block (a := ⟨b, off + k * 2, none⟩) (hu3.block b hlt2 (by simp; omega))).trans c0, (World.cell?_of_block (a := ⟨b, off + k * 2 + 1, none⟩) (hu3.block b hlt2 (by simp; omega))).trans c1⟩
      have HC := Lib.hid hC
      clear hC
      clear hrget
      by_cases hB : kgB (last8 R) ix = true
      · rw [hB] at HRG
        rw [if_pos hB, if_pos hB] at hput
        have HPUT := Lib.hid hput
        clear hput hB
        go_wp2_with (fail)
        refine HRG.out.mono ?_
        rintro e w2 ⟨rfl, rfl⟩
        go_wp2_with (fail)
        go_region_held3 (fun w' => w'.cell? ⟨b, off + k * 2, none⟩ = some (.int .u64 ix) ∧ w'.cell? ⟨b, off + k * 2 + 1, none⟩ = some (.string sx))
          ((first | exact ⟨c0, c1⟩ | exact HC.out _ hu3))
          ((first
            | (go_at_call 9; (with_reducible refine Calls.mono (HPUT.out) ?_); rintro e w3 ⟨rfl, hu3, hd3⟩)))
        have hs3 := hs.upd (hu3.trans2 ((Upd.refl _ _).drew)) (ded_ne hd hs)
        have hu4 : Upd [] w w3 := hu.drew.trans hu3 (by simp)
        have hR3 : R.length ≤ k + 1 := by omega
        clear hd hs hu3 hu c0 c1 HPUT HRG
        have hk8 : (last8 (R)).length ≤ 1000 := by rw [last8_len]; omega
        have HD3 := Lib.hid hd3
        have HS3 := Lib.hid hs3
        have HRL := Lib.hid hR3
        clear hd3 hs3
        go_wp2_with (fail)
        refine (get2_c HD3.out id).mono ?_
        rintro e w6 ⟨rfl, hu6⟩
        have HD6 := Lib.hid (HD3.out.keep hu6 (by simp))
        have HS6 := Lib.hid (HS3.out.upd0 hu6)
        go_wp2_with (fail)
        refine (rget_c (HS6.out.mono (Nat.zero_le _)) (by have := HRL.out; omega) id).mono ?_
        rintro e w7 ⟨rfl, rfl⟩
        generalize kgS (last8 (R)) id = GS at *
        generalize kgB (last8 (R)) id = GB at *
        go_wp2_with (fail)
        refine (len2_c HD6.out).mono ?_
        rintro e w7 ⟨rfl, hu7⟩
        have HD7 := Lib.hid (HD6.out.keep hu7 (by simp))
        have HS7 := Lib.hid (HS6.out.upd0 hu7)
        go_wp2_with (fail)
        refine (rkept_c (HS7.out.mono (Nat.zero_le _)) (by have := HRL.out; omega)).mono ?_
        rintro e w8 ⟨v8, rfl, hs8, rfl⟩
        obtain ⟨ao8, cap8, rfl, -, -⟩ := hs8.form
        clear hs8
        go_wp2_with (fail)
        refine (ids_c HD7.out).mono ?_
        rintro e w9 ⟨v9, rfl, hs9, hu9⟩
        have HD9 := Lib.hid (HD7.out.keep hu9 (by simp))
        have HS9 := Lib.hid (HS7.out.upd0 hu9)
        have HI9 := Lib.hid hs9
        clear hs9
        go_wp2_with (fail)
        refine (rids_c (HS9.out.mono (Nat.zero_le _)) (by have := HRL.out; omega)).mono ?_
        rintro e w10 ⟨v10, rfl, hs10, hu10⟩
        have HI10 := Lib.hid hs10
        have HI9' := Lib.hid (HI9.out.upd0 hu10)
        clear hs10
        go_wp2_with (fail)
        refine (rsame_c (l := (last8 (R)).map Kp.id) (by rw [List.length_map, ← kpIds_u64s]; exact HI9'.out) (by rw [List.length_map, ← kpIds_u64s]; exact HI10.out) (by rw [List.length_map]; exact hk8)).mono ?_
        rintro e w11 ⟨rfl, hu11⟩
        go_wp2_with (fail)
        go_roundw
        case rel => exact ⟨k + 1, R, by go_num, by omega, HRL.out, (HD9.out.keep hu10 (by simp)).keep hu11 (by simp), (HS9.out.upd0 hu10).upd0 hu11, ((((Upd.trans' hu4 hu6).trans' hu7).trans' hu9).trans' hu10).trans' hu11⟩
        case measure => simp [intOf]; omega
      · have hB' : kgB (last8 R) ix = false := by simpa using hB
        rw [hB'] at HRG
        rw [if_neg hB, if_neg hB, last8_last8] at hput
        have HPUT := Lib.hid hput
        have hsn : kpCells (R ++ [(⟨ix, sx⟩ : Kp)]) = kpCells R ++ [.int .u64 ix, .string sx] := by rw [kpCells_append]; rfl
        have HSN := Lib.hid hsn
        clear hput hB hB' hsn
        go_wp2_with (fail)
        refine HRG.out.mono ?_
        rintro e w2 ⟨rfl, rfl⟩
        go_wp2_with (fail)
        go_region_held3 (fun w' => w'.cell? ⟨b, off + k * 2, none⟩ = some (.int .u64 ix) ∧ w'.cell? ⟨b, off + k * 2 + 1, none⟩ = some (.string sx))
          ((first | exact ⟨c0, c1⟩ | exact HC.out _ hu3))
          ((first
            | (go_at_call 9; (with_reducible refine Calls.mono (HPUT.out) ?_); rintro e w3 ⟨rfl, hu3, hd3⟩)))
        have hs3 := hs.upd (hu3.trans2 ((Upd.refl _ _).drew)) (ded_ne hd hs)
        have hu4 : Upd [] w w3 := hu.drew.trans hu3 (by simp)
        obtain ⟨d0, d1⟩ := HC.out _ hu3
        clear hd hs hu3 hu c0 c1 HPUT HRG
        have hs3b := hs3.upd0 ((Upd.refl _ _).alloc (.cells #[.int .u64 ix, .string sx] 24))
        have hw3 := hu4.size
        go_wp2_with (at_builtin; refine wpList_append_sub _ rfl _ _ 25 rfl w.heap.size 24 i0 _ 2 24 Try.underlying25 hi0 hz0 hz1 hz2 rfl (by decide) _ _ _ rfl hs3b _ 1 1 [.int .u64 ix, .string sx] rfl (src_block (heap_alloc_new _ _) 1 1) rfl (by intro u hu; simp at hu; rcases hu with rfl | rfl <;> rfl) (by unfold maxLen; omega) (by omega) (by simp; omega) ?_; intro ao' cap' w5 hs5 hu5 hb5)
        have hs6 : Sub w5 w.heap.size 24 2 (.slice ao' (R.length + 1) cap') (R ++ [(⟨ix, sx⟩ : Kp)]).length (kpCells (R ++ [(⟨ix, sx⟩ : Kp)])) := by
          rw [HSN.out, List.length_append]; exact hs5
        have hd6 : DedAt w5 w.heap.size (last8 (R ++ [(⟨ix, sx⟩ : Kp)])) := (hd3.keep ((Upd.refl [] _).alloc _) (by simp)).keep hu5 (fun e => ded_ne (hd3.keep ((Upd.refl [] _).alloc _) (by simp)) hs3b _ e (by simp))
        have hu6' : Upd [] w w5 := (hu4.alloc _).trans hu5 (fun g hg => .inr (hs3b.lt g hg).1)
        have hR6 : (R ++ [(⟨ix, sx⟩ : Kp)]).length ≤ k + 1 := by simp; omega
        clear hs5 hu5 hb5 hs3b hd3 hs3 hu4 d0 d1
        have hk8 : (last8 (R ++ [(⟨ix, sx⟩ : Kp)])).length ≤ 1000 := by rw [last8_len]; omega
        have HD3 := Lib.hid hd6
        have HS3 := Lib.hid hs6
        have HRL := Lib.hid hR6
        clear hd6 hs6
        go_wp2_with (fail)
        refine (get2_c HD3.out id).mono ?_
        rintro e w6 ⟨rfl, hu6⟩
        have HD6 := Lib.hid (HD3.out.keep hu6 (by simp))
        have HS6 := Lib.hid (HS3.out.upd0 hu6)
        go_wp2_with (fail)
        refine (rget_c (HS6.out.mono (Nat.zero_le _)) (by have := HRL.out; omega) id).mono ?_
        rintro e w7 ⟨rfl, rfl⟩
        generalize kgS (last8 (R ++ [(⟨ix, sx⟩ : Kp)])) id = GS at *
        generalize kgB (last8 (R ++ [(⟨ix, sx⟩ : Kp)])) id = GB at *
        go_wp2_with (fail)
        refine (len2_c HD6.out).mono ?_
        rintro e w7 ⟨rfl, hu7⟩
        have HD7 := Lib.hid (HD6.out.keep hu7 (by simp))
        have HS7 := Lib.hid (HS6.out.upd0 hu7)
        go_wp2_with (fail)
        refine (rkept_c (HS7.out.mono (Nat.zero_le _)) (by have := HRL.out; omega)).mono ?_
        rintro e w8 ⟨v8, rfl, hs8, rfl⟩
        obtain ⟨ao8, cap8, rfl, -, -⟩ := hs8.form
        clear hs8
        go_wp2_with (fail)
        refine (ids_c HD7.out).mono ?_
        rintro e w9 ⟨v9, rfl, hs9, hu9⟩
        have HD9 := Lib.hid (HD7.out.keep hu9 (by simp))
        have HS9 := Lib.hid (HS7.out.upd0 hu9)
        have HI9 := Lib.hid hs9
        clear hs9
        go_wp2_with (fail)
        refine (rids_c (HS9.out.mono (Nat.zero_le _)) (by have := HRL.out; omega)).mono ?_
        rintro e w10 ⟨v10, rfl, hs10, hu10⟩
        have HI10 := Lib.hid hs10
        have HI9' := Lib.hid (HI9.out.upd0 hu10)
        clear hs10
        go_wp2_with (fail)
        refine (rsame_c (l := (last8 (R ++ [(⟨ix, sx⟩ : Kp)])).map Kp.id) (by rw [List.length_map, ← kpIds_u64s]; exact HI9'.out) (by rw [List.length_map, ← kpIds_u64s]; exact HI10.out) (by rw [List.length_map]; exact hk8)).mono ?_
        rintro e w11 ⟨rfl, hu11⟩
        go_wp2_with (fail)
        go_roundw
        case rel => exact ⟨k + 1, R ++ [(⟨ix, sx⟩ : Kp)], by go_num, by omega, HRL.out, (HD9.out.keep hu10 (by simp)).keep hu11 (by simp), (HS9.out.upd0 hu10).upd0 hu11, ((((Upd.trans' hu6' hu6).trans' hu7).trans' hu9).trans' hu10).trans' hu11⟩
        case measure => simp [intOf]; omega
    · have e : k = l.length := by omega
      go_wp2_with (fail)
      refine (dawake_c _).mono ?_
      rintro e w5 ⟨rfl, hu5⟩
      go_wp2_with (fail)
      exact hR.out _ _ ⟨rfl, hu.trans' hu5⟩

theorem dputs0_c (id : Int) (ao : Option Addr) (cap : Nat) (w : World) : Trues 4 #[.slice ao 0 cap, .int .u64 id] w := by
  unfold Trues
  refine post fun R hR => ?_
  go_enter Try.func4, Try.ntmps4
  go_wp2_with (fail)
  refine Calls.mono (dnew_c _) ?_
  rintro e w1 ⟨rfl, hu1, hd1⟩
  go_wp2_with (fail)
  refine wp_loop_once ?_
  go_wp2_with (fail)
  refine (dawake_c _).mono ?_
  rintro e w5 ⟨rfl, hu5⟩
  go_wp2_with (fail)
  exact hR.out _ _ ⟨rfl, hu1.trans' hu5⟩

theorem dputs9_c (id : Int) (ao : Option Addr) (n cap : Nat) (w : World) (hn : 500 < n) : Trues 4 #[.slice ao n cap, .int .u64 id] w := by
  unfold Trues
  refine post fun R hR => ?_
  go_enter Try.func4, Try.ntmps4
  go_wp2_with (fail)
  refine (dawake_c _).mono ?_
  rintro e w5 ⟨rfl, hu5⟩
  go_wp2_with (fail)
  exact hR.out _ _ ⟨rfl, hu5⟩

set_option maxRecDepth 100000 in
theorem dedupPuts_walk {H : Type} {enc : TypeId × Value → H} {W : World} {base : Nat} {args : Array Value} {ds gs : List (DataW H)} {before : List MemPlace}
    (hval : ∀ (j : Nat) t v, Try.f4.params[j]? = some t → args[j]? = some v → Value.okWide Try.prog W .any base t v)
    (hW : DataW.Whole enc Try.prog Try.f4.params.toList [] false W args.toList ds gs before) : Trues 4 args W := by
  obtain ⟨p, q, hA, -, rfl, -, -⟩ := hW
  rw [Try.params4] at hA hval
  obtain ⟨v0, v1, d0, d1, p0, p1, rfl, rfl, rfl, h0, h1⟩ := trodAll_two hA
  obtain ⟨ao, cap, l, rfl, hlc, hcap, hg, hl⟩ := open_list Kp.parse Try.underlying25 flat_kp cells_kp (by decide) (hval 0 25 v0 rfl rfl) h0
  obtain ⟨id, rfl, rfl, rfl, wn⟩ := open_int Try.underlying22 (hval 1 22 v1 rfl rfl) h1
  by_cases hbig : 500 < l.length
  · exact dputs9_c id ao l.length cap W hbig
  · rcases hl with rfl | ⟨b, off, rfl, hr⟩
    · exact dputs0_c id ao cap W
    · cases l with
      | nil => exact dputs0_c id _ cap W
      | cons x r =>
        exact dputs_c id b off cap (x :: r) W (by omega) hr (World.block_lt_of_cell? W _ (hr 0 x rfl 0 (by decide)))

set_option maxRecDepth 100000 in
theorem dedupPuts_lifted (os : Os) (started : os.Started) (H : Type) (enc : TypeId × Value → H) :
    ReturnsInHanded {} Try.checked os 4 .any (Rows.dedupPutsSpec.pre6 enc Try.prog Try.f4 Rows.dedupPutsRow.domain false) (Rows.dedupPutsSpec.post enc Try.prog Try.f4 false true false false) := by
  refine returnsInHanded_of_change (C := Try.checked) own started (by kernel_rfl) Try.func4
    (ChangeSpec.witness6 (enc := enc) (C := Try.checked) false ⟨#[], #[.slice none 0 0, .int .u64 0], []⟩ 8 (by kernel_rfl) (by kernel_rfl) (by kernel_rfl) (by kernel_rfl)) ?_
  intro W base args ds gs before hval hW hcnd _
  refine Calls.mono (dedupPuts_walk hval hW) fun e W' ⟨he, hu⟩ => ?_
  exact ⟨_, he, law_post rfl rfl (by kernel_rfl) hW (fun ds h => by match ds, h with | [_, _], _ => rfl) hu⟩

set_option maxRecDepth 100000 in
theorem dedupPuts_over : Rows.dedupPutsRow.holds Try.pinned (OpenSpec.ofChange Rows.dedupPutsSpec) :=
  OpenClaim.holds_of_wide 4 Try.f4 rfl rfl rfl rfl rfl rfl rfl ⟨rfl, rfl, rfl, rfl, rfl⟩ rfl rfl rfl rfl rfl (by kernel_rfl) Try.func4 (by kernel_rfl)
    (of_decide_eq_true (by kernel_rfl)) (by unfold Func.isWrapper; first | (rw [if_pos (by decide +kernel)]; kernel_rfl) | (rw [if_neg (by decide +kernel)]; exact ⟨rfl, rfl⟩))
    (fun os started H enc _ => dedupPuts_lifted os started H enc)

theorem dedupPuts_proved : Rows.DedupPutsSaid := dedupPuts_over
end Go.Proofs.Ytipcgddcbnhejaa
