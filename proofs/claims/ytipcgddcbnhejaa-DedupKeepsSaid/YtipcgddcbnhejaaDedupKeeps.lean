/-
  DedupKeeps: a response is kept as long as fewer than MaxKept others came behind it, and not longer. For every response and list. No condition.
-/
import Derived.Test.YtipcgddcbnhejaaDedupPuts
import Derived.Outline
namespace Go.Proofs.Ytipcgddcbnhejaa
open Go Go.RowKit Go.ChangeShapes Go.WideShapes Go.ChangeAt

/-- what is known of the responses behind the first one: m of them came -/
structure KInv (f : Kp) (L : List Kp) (m : Nat) : Prop where
  lt : m < 8
  eq : ∃ r, L = f :: r ∧ r.length = m ∧ ∀ x ∈ r, x.id ≠ f.id

theorem kinv_get {f : Kp} {L : List Kp} {m : Nat} (h : KInv f L m) : kgS L f.id = f.s ∧ kgB L f.id = true := by
  obtain ⟨r, rfl, -, -⟩ := h.eq
  have : kpIx (f :: r) f.id = 0 := by unfold kpIx; simp [List.findIdx_cons]
  unfold kgS kgB
  rw [this]
  exact ⟨rfl, by simp⟩

theorem kgB_mem {l : List Kp} {id : Int} (h : kgB l id = false) : ∀ x ∈ l, x.id ≠ id := by
  intro x hx e
  unfold kgB at h
  have : ¬ kpIx l id < l.length := by simpa using h
  apply this
  unfold kpIx
  rw [List.findIdx_lt_length]
  exact ⟨x, hx, by simpa using e⟩
theorem kgB_not {l : List Kp} {id : Int} (h : ∀ x ∈ l, x.id ≠ id) : kgB l id = false := by
  unfold kgB
  rw [kpIx_miss (fun j hj => h _ (List.getElem_mem hj))]
  simp

theorem kinv_put {f : Kp} {L : List Kp} {m : Nat} (h : KInv f L m) {k : Kp} (hk : kgB L k.id = false) : (m + 1 < 8 → KInv f (last8 (L ++ [k])) (m + 1)) ∧ (m + 1 = 8 → kgB (last8 (L ++ [k])) f.id = false ∧ (last8 (L ++ [k])).length = 8) := by
  have hm := kgB_mem hk
  obtain ⟨r, rfl, hr, hne⟩ := h.eq
  have hlt := h.lt
  have hkf : k.id ≠ f.id := fun e => hm f (by simp) e.symm
  refine ⟨fun h8 => ⟨h8, r ++ [k], ?_, by simp [hr], ?_⟩, fun h8 => ⟨kgB_not ?_, by rw [last8_len]; simp; omega⟩⟩
  · unfold last8
    rw [show (f :: r ++ [k]).length - 8 = 0 by simp; omega]; rfl
  · intro x hx
    simp at hx
    rcases hx with hx | rfl
    · exact hne x hx
    · exact hkf
  · intro x hx
    unfold last8 at hx
    rw [show (f :: r ++ [k]).length - 8 = 1 by simp; omega] at hx
    simp at hx
    rcases hx with hx | rfl
    · exact hne x hx
    · exact hkf

set_option maxRecDepth 100000 in
set_option maxHeartbeats 4000000 in
theorem dkeeps_c (f : Kp) (b off cap : Nat) (l : List Kp) (w : World) (hlen : l.length ≤ 500) (hrows : RowsAt w b off 2 Kp.cells l) (hb : b < w.heap.size) :
    Trues 3 #[.agg #[.int .u64 f.id, .string f.s], .slice (some ⟨b, off, none⟩) l.length cap] w := by
  unfold Trues
  have HRows := Lib.hid hrows
  clear hrows
  obtain ⟨fi, fs⟩ := f
  refine post fun R hR => ?_
  go_enter Try.func3, Try.ntmps3
  go_wp2_with (fail)
  have hd0 : DedAt _ _ [] := dedAt_new (heap_new2 w (.cells #[.int .u64 fi, .string fs] 24) (.cells #[.int .u64 0, .string ⟨#[]⟩, .int .u64 0, .string ⟨#[]⟩, .int .u64 0, .string ⟨#[]⟩, .int .u64 0, .string ⟨#[]⟩, .int .u64 0, .string ⟨#[]⟩, .int .u64 0, .string ⟨#[]⟩, .int .u64 0, .string ⟨#[]⟩, .int .u64 0, .string ⟨#[]⟩, i64 0, i64 0] 32))
  have hF0 := heap_alloc_old (heap_alloc_new w (.cells #[.int .u64 fi, .string fs] 24)) (.cells #[.int .u64 0, .string ⟨#[]⟩, .int .u64 0, .string ⟨#[]⟩, .int .u64 0, .string ⟨#[]⟩, .int .u64 0, .string ⟨#[]⟩, .int .u64 0, .string ⟨#[]⟩, .int .u64 0, .string ⟨#[]⟩, .int .u64 0, .string ⟨#[]⟩, .int .u64 0, .string ⟨#[]⟩, i64 0, i64 0] 32)
  refine Calls.mono (put_c hd0 fi fs) ?_
  rintro e w1 ⟨rfl, hu1, hd1⟩
  have hF1 := hu1.keep hF0 (by simp)
  have hw1 : Upd [] w w1 := (((Upd.refl _ _).alloc _).alloc _).trans hu1 (by simp)
  replace hd1 : DedAt w1 (w.heap.size + 1) [⟨fi, fs⟩] := hd1
  clear hd0 hF0 hu1
  go_wp2_with (fail)
  go_loopw [6, 7] (fun nn i wr => ∃ (k m : Nat) (L : List Kp), i = i64 k ∧ nn = i64 m ∧ k ≤ l.length ∧ KInv ⟨fi, fs⟩ L m ∧ DedAt wr (w.heap.size + 1) L ∧ wr.heap[w.heap.size]? = some (.cells #[.int .u64 fi, .string fs] 24 (0, 0)) ∧ Upd [] w wr)
    (fun _ i _ => l.length - (intOf i).toNat)
  case atStart => exact ⟨0, 0, _, rfl, rfl, Nat.zero_le _, ⟨by omega, [], rfl, rfl, by simp⟩, hd1, hF1, hw1⟩
  case round =>
    clear hd1 hF1 hw1
    obtain ⟨k, m, L, rfl, rfl, hk, hI, hd, hF, hu⟩ := hrel
    by_cases hlt : k < l.length
    · obtain ⟨c0, c1⟩ := krow HRows.out hu hb hlt
      have hlt2 : b < wr.heap.size := Nat.lt_of_lt_of_le hb hu.size
      have hput := put_c (w := wr.drew) (hd.keep ((Upd.refl [] _).drew) (by simp)) (l[k].id) (l[k].s)
      generalize l[k].id = ix at *
      generalize l[k].s = sx at *
      have b1 : (0 : Int) ≤ (k : Int) := by omega
      have b2 : (k : Int) < (l.length : Int) := by omega
      have hC : ∀ w3, Upd [w.heap.size + 1] wr.drew w3 → w3.cell? ⟨b, off + k * 2, none⟩ = some (.int .u64 ix) ∧ w3.cell? ⟨b, off + k * 2 + 1, none⟩ = some (.string sx) := fun w3 hu3 =>
        ⟨(World.cell?_of_block (a := ⟨b, off + k * 2, none⟩) (hu3.block b hlt2 (by simp; omega))).trans c0, (World.cell?_of_block (a := ⟨b, off + k * 2 + 1, none⟩) (hu3.block b hlt2 (by simp; omega))).trans c1⟩
      have HC := Lib.hid hC
      have hm8 := hI.lt
      clear hC
      by_cases hB : kgB L ix = true
      · rw [if_pos hB, if_pos hB] at hput
        have HPUT := Lib.hid hput
        have HI := Lib.hid hI
        clear hput hB hI
        go_wp2_with (fail)
        go_region_held3 (fun w' => w'.cell? ⟨b, off + k * 2, none⟩ = some (.int .u64 ix) ∧ w'.cell? ⟨b, off + k * 2 + 1, none⟩ = some (.string sx))
          ((first | exact ⟨c0, c1⟩ | exact HC.out _ hu3))
          ((first
            | (go_at_call 9; (with_reducible refine Calls.mono (HPUT.out) ?_); rintro e w3 ⟨rfl, hu3, hd3⟩)))
        have hF3 := hu3.keep (heap_drew hF) (by simp)
        have hu4 : Upd [] w w3 := hu.drew.trans hu3 (by simp)
        obtain ⟨f0, f1, -⟩ := cells2 hF3
        have hget := get2_c hd3 fi
        rw [(kinv_get HI.out).1, (kinv_get HI.out).2] at hget
        have HG := Lib.hid hget
        have HD3 := Lib.hid hd3
        clear hd hu3 hu c0 c1 HPUT hget hd3 hF
        go_wp2_with (fail)
        refine Calls.mono HG.out ?_
        rintro e w6 ⟨rfl, hu6⟩
        have hF6 := hu6.keep0 hF3
        obtain ⟨g0, g1, -⟩ := cells2 hF6
        go_wp2_with (fail)
        go_roundw
        case rel => exact ⟨k + 1, m, L, by go_num, rfl, by omega, HI.out, HD3.out.keep hu6 (by simp), hF6, hu4.trans' hu6⟩
        case measure => simp [intOf]; omega
      · have hB' : kgB L ix = false := by simpa using hB
        rw [if_neg hB, if_neg hB] at hput
        have hnx := kinv_put hI (k := ⟨ix, sx⟩) hB'
        have HPUT := Lib.hid hput
        have HNX := Lib.hid hnx
        clear hput hB hB' hI hnx
        by_cases hm7 : m + 1 < 8
        · have hI2 := HNX.out.1 hm7
          have HI := Lib.hid hI2
          clear hI2
          go_wp2_with (fail)
          go_region_held3 (fun w' => w'.cell? ⟨b, off + k * 2, none⟩ = some (.int .u64 ix) ∧ w'.cell? ⟨b, off + k * 2 + 1, none⟩ = some (.string sx))
            ((first | exact ⟨c0, c1⟩ | exact HC.out _ hu3))
            ((first
              | (go_at_call 9; (with_reducible refine Calls.mono (HPUT.out) ?_); rintro e w3 ⟨rfl, hu3, hd3⟩)))
          have hF3 := hu3.keep (heap_drew hF) (by simp)
          have hu4 : Upd [] w w3 := hu.drew.trans hu3 (by simp)
          obtain ⟨f0, f1, -⟩ := cells2 hF3
          have hget := get2_c hd3 fi
          rw [(kinv_get HI.out).1, (kinv_get HI.out).2] at hget
          have HG := Lib.hid hget
          have HD3 := Lib.hid hd3
          clear hd hu3 hu c0 c1 HPUT hget hd3 hF
          go_wp2_with (fail)
          refine Calls.mono HG.out ?_
          rintro e w6 ⟨rfl, hu6⟩
          have hF6 := hu6.keep0 hF3
          obtain ⟨g0, g1, -⟩ := cells2 hF6
          go_wp2_with (fail)
          go_roundw
          case rel => exact ⟨k + 1, m + 1, _, by go_num, by go_num, by omega, HI.out, HD3.out.keep hu6 (by simp), hF6, hu4.trans' hu6⟩
          case measure => simp [intOf]; omega
        · obtain rfl : m = 7 := by omega
          obtain ⟨hn1, hn2⟩ := HNX.out.2 rfl
          have HN1 := Lib.hid hn1
          have HN2 := Lib.hid hn2
          clear hn1 hn2 HNX
          go_wp2_with (fail)
          go_region_held3 (fun w' => w'.cell? ⟨b, off + k * 2, none⟩ = some (.int .u64 ix) ∧ w'.cell? ⟨b, off + k * 2 + 1, none⟩ = some (.string sx))
            ((first | exact ⟨c0, c1⟩ | exact HC.out _ hu3))
            ((first
              | (go_at_call 9; (with_reducible refine Calls.mono (HPUT.out) ?_); rintro e w3 ⟨rfl, hu3, hd3⟩)))
          have hF3 := hu3.keep (heap_drew hF) (by simp)
          have hu4 : Upd [] w w3 := hu.drew.trans hu3 (by simp)
          obtain ⟨f0, f1, -⟩ := cells2 hF3
          have hget := get2_c hd3 fi
          rw [HN1.out] at hget
          have HG := Lib.hid hget
          have HD3 := Lib.hid hd3
          clear hd hu3 hu c0 c1 HPUT hget hd3 hF
          go_wp2_with (fail)
          refine Calls.mono HG.out ?_
          rintro e w6 ⟨rfl, hu6⟩
          have hF6 := hu6.keep0 hF3
          obtain ⟨g0, g1, -⟩ := cells2 hF6
          have hlen := len2_c (HD3.out.keep hu6 (by simp))
          rw [HN2.out] at hlen
          have HLEN := Lib.hid hlen
          clear hlen
          go_wp2_with (fail)
          refine Calls.mono HLEN.out ?_
          rintro e w7 ⟨rfl, hu7⟩
          go_wp2_with (fail)
          refine (dawake_c _).mono ?_
          rintro e w5 ⟨rfl, hu5⟩
          go_wp2_with (fail)
          exact hR.out _ _ ⟨rfl, ((hu4.trans' hu6).trans' hu7).trans' hu5⟩
    · have e : k = l.length := by omega
      go_wp2_with (fail)
      refine (dawake_c _).mono ?_
      rintro e w5 ⟨rfl, hu5⟩
      go_wp2_with (fail)
      exact hR.out _ _ ⟨rfl, hu.trans' hu5⟩

set_option maxRecDepth 100000 in
theorem dkeeps0_c (f : Kp) (ao : Option Addr) (cap : Nat) (w : World) : Trues 3 #[.agg #[.int .u64 f.id, .string f.s], .slice ao 0 cap] w := by
  unfold Trues
  obtain ⟨fi, fs⟩ := f
  refine post fun R hR => ?_
  go_enter Try.func3, Try.ntmps3
  go_wp2_with (fail)
  have hd0 : DedAt _ _ [] := dedAt_new (heap_new2 w (.cells #[.int .u64 fi, .string fs] 24) (.cells #[.int .u64 0, .string ⟨#[]⟩, .int .u64 0, .string ⟨#[]⟩, .int .u64 0, .string ⟨#[]⟩, .int .u64 0, .string ⟨#[]⟩, .int .u64 0, .string ⟨#[]⟩, .int .u64 0, .string ⟨#[]⟩, .int .u64 0, .string ⟨#[]⟩, .int .u64 0, .string ⟨#[]⟩, i64 0, i64 0] 32))
  refine Calls.mono (put_c hd0 fi fs) ?_
  rintro e w1 ⟨rfl, hu1, hd1⟩
  have hw1 : Upd [] w w1 := (((Upd.refl _ _).alloc _).alloc _).trans hu1 (by simp)
  go_wp2_with (fail)
  refine wp_loop_once ?_
  go_wp2_with (fail)
  refine (dawake_c _).mono ?_
  rintro e w5 ⟨rfl, hu5⟩
  go_wp2_with (fail)
  exact hR.out _ _ ⟨rfl, hw1.trans' hu5⟩

theorem dkeeps9_c (f : Kp) (ao : Option Addr) (n cap : Nat) (w : World) (hn : 500 < n) : Trues 3 #[.agg #[.int .u64 f.id, .string f.s], .slice ao n cap] w := by
  unfold Trues
  obtain ⟨fi, fs⟩ := f
  refine post fun R hR => ?_
  go_enter Try.func3, Try.ntmps3
  go_wp2_with (fail)
  refine (dawake_c _).mono ?_
  rintro e w5 ⟨rfl, hu5⟩
  go_wp2_with (fail)
  exact hR.out _ _ ⟨rfl, ((Upd.refl _ _).alloc _).trans' hu5⟩

set_option maxRecDepth 100000 in
theorem dedupKeeps_walk {H : Type} {enc : TypeId × Value → H} {W : World} {base : Nat} {args : Array Value} {ds gs : List (DataW H)} {before : List MemPlace}
    (hval : ∀ (j : Nat) t v, Try.f3.params[j]? = some t → args[j]? = some v → Value.okWide Try.prog W .any base t v)
    (hW : DataW.Whole enc Try.prog Try.f3.params.toList [] false W args.toList ds gs before) : Trues 3 args W := by
  obtain ⟨p, q, hA, -, rfl, -, -⟩ := hW
  rw [Try.params3] at hA hval
  obtain ⟨v0, v1, d0, d1, p0, p1, rfl, rfl, rfl, h0, h1⟩ := trodAll_two hA
  obtain ⟨vs, rfl, hvs⟩ := open_struct Try.underlying24 flat_kp (hval 0 24 v0 rfl rfl) h0
  obtain ⟨f, rfl, -⟩ := Kp.parse vs hvs
  obtain ⟨ao, cap, l, rfl, hlc, hcap, hg, hl⟩ := open_list Kp.parse Try.underlying25 flat_kp cells_kp (by decide) (hval 1 25 v1 rfl rfl) h1
  by_cases hbig : 500 < l.length
  · exact dkeeps9_c f ao l.length cap W hbig
  · rcases hl with rfl | ⟨b, off, rfl, hr⟩
    · exact dkeeps0_c f ao cap W
    · cases l with
      | nil => exact dkeeps0_c f _ cap W
      | cons x r =>
        exact dkeeps_c f b off cap (x :: r) W (by omega) hr (World.block_lt_of_cell? W _ (hr 0 x rfl 0 (by decide)))

set_option maxRecDepth 100000 in
theorem dedupKeeps_lifted (os : Os) (started : os.Started) (H : Type) (enc : TypeId × Value → H) :
    ReturnsInHanded {} Try.checked os 3 .any (Rows.dedupKeepsSpec.pre6 enc Try.prog Try.f3 Rows.dedupKeepsRow.domain false) (Rows.dedupKeepsSpec.post enc Try.prog Try.f3 false true false false) := by
  refine returnsInHanded_of_change (C := Try.checked) own started (by kernel_rfl) Try.func3
    (ChangeSpec.witness6 (enc := enc) (C := Try.checked) false ⟨#[], #[.agg #[.int .u64 0, .string .empty], .slice none 0 0], []⟩ 8 (by kernel_rfl) (by kernel_rfl) (by kernel_rfl) (by kernel_rfl)) ?_
  intro W base args ds gs before hval hW hcnd _
  refine Calls.mono (dedupKeeps_walk hval hW) fun e W' ⟨he, hu⟩ => ?_
  exact ⟨_, he, law_post rfl rfl (by kernel_rfl) hW (fun ds h => by match ds, h with | [_, _], _ => rfl) hu⟩

set_option maxRecDepth 100000 in
theorem dedupKeeps_over : Rows.dedupKeepsRow.holds Try.pinned (OpenSpec.ofChange Rows.dedupKeepsSpec) :=
  OpenClaim.holds_of_wide 3 Try.f3 rfl rfl rfl rfl rfl rfl rfl ⟨rfl, rfl, rfl, rfl, rfl⟩ rfl rfl rfl rfl rfl (by kernel_rfl) Try.func3 (by kernel_rfl)
    (of_decide_eq_true (by kernel_rfl)) (by unfold Func.isWrapper; first | (rw [if_pos (by decide +kernel)]; kernel_rfl) | (rw [if_neg (by decide +kernel)]; exact ⟨rfl, rfl⟩))
    (fun os started H enc _ => dedupKeeps_lifted os started H enc)

theorem dedupKeeps_proved : Rows.DedupKeepsSaid := dedupKeeps_over
end Go.Proofs.Ytipcgddcbnhejaa
