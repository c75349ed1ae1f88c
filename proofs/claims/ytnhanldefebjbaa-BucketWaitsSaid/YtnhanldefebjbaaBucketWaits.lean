/-
  BucketWaits: behind as many ticks as Wait tells there are enough tokens, and one tick ahead not, if the burst is great enough. For all numbers. No condition.
-/
import Derived.Test.YtnhanldefebjbaaFrame
import Derived.Test.YtnhanldefebjbaaBucketAwake
import Derived.Test.YtnhanldefebjbaaBkRef
namespace Go.Proofs.Ytnhanldefebjbaa
open Go Go.RowKit Go.ChangeShapes Go.WideShapes Go.ChangeAt

theorem waitN_ge (t r n : Int) : -1 ≤ waitN t r n := by
  unfold waitN
  split
  · omega
  · split
    · omega
    · have h1 : 0 ≤ clamp r 1099511627776 := by unfold clamp; omega
      have := Int.ediv_nonneg (a := clamp n 1099511627776 - clamp t 1099511627776 + clamp r 1099511627776 - 1) (b := clamp r 1099511627776) (by omega) h1
      omega

theorem waitN_in {t r n : Int} (ht : 0 ≤ t ∧ t ≤ 500) (hr : 0 ≤ r ∧ r ≤ 500) (hn : 0 ≤ n ∧ n ≤ 500) : waitN t r n = if n ≤ t then 0 else if r = 0 then -1 else (n - t + r - 1) / r := by
  have e : ∀ x : Int, 0 ≤ x ∧ x ≤ 500 → clamp x 1099511627776 = x := fun x hx => by unfold clamp; omega
  unfold waitN
  rw [e t ht, e r hr, e n hn]

set_option maxHeartbeats 1000000 in
theorem bwaitsOut (t r n W V : Int) (w : World) (hW : -1 ≤ W)
    (hout : (t < 0) ∨ (0 ≤ t ∧ 500 < t) ∨ (0 ≤ t ∧ t ≤ 500 ∧ r < 0) ∨ (0 ≤ t ∧ t ≤ 500 ∧ 0 ≤ r ∧ 500 < r) ∨ (0 ≤ t ∧ t ≤ 500 ∧ 0 ≤ r ∧ r ≤ 500 ∧ n < 0) ∨ (0 ≤ t ∧ t ≤ 500 ∧ 0 ≤ r ∧ r ≤ 500 ∧ 0 ≤ n ∧ 500 < n))
    (p0 : ∀ w, Calls Try.prog 34 #[i64 t, i64 r, i64 n] w fun e w' => e = .returned (i64 W) ∧ w = w')
    (p1 : ∀ w, Calls Try.prog 34 #[i64 t, i64 0, i64 n] w fun e w' => e = .returned (i64 V) ∧ w = w')
    (p2 : ∀ w, Calls Try.prog 34 #[i64 t, i64 (-1), i64 n] w fun e w' => e = .returned (i64 V) ∧ w = w') :
    Trues 9 #[i64 t, i64 r, i64 n] w := by
  unfold Trues
  have P0 := Lib.hid p0
  have P1 := Lib.hid p1
  have P2 := Lib.hid p2
  clear p0 p1 p2
  rcases hout with h | ⟨h1, h⟩ | ⟨h1, h2, h⟩ | ⟨h1, h2, h3, h⟩ | ⟨h1, h2, h3, h4, h⟩ | ⟨h1, h2, h3, h4, h5, h⟩
  all_goals
    refine post fun R hR => ?_
    go_enter Try.func9, Try.ntmps9
    go_wp2_with (fail)
    refine Calls.mono (P0.out _) ?_
    rintro e w1 ⟨rfl, rfl⟩
    go_wp2_with (fail)
    refine Calls.mono (P1.out _) ?_
    rintro e w1 ⟨rfl, rfl⟩
    go_wp2_with (fail)
    refine Calls.mono (P2.out _) ?_
    rintro e w1 ⟨rfl, rfl⟩
    go_wp2_with (fail)
    refine Calls.mono (bawake_c _) ?_
    rintro e w1 ⟨rfl, hu⟩
    go_wp2_with (fail)
    exact hR.out _ _ ⟨rfl, hu⟩

theorem step_lt {t r n W : Int} (hr : 0 < r) (hW : W = (n - t + r - 1) / r) (k : Int) (hk : k < W) : t + k * r < n := by
  have h1 : k + 1 ≤ (n - t + r - 1) / r := by omega
  have h2 := (Int.le_ediv_iff_mul_le hr).1 h1
  have h3 : (k + 1) * r = k * r + r := by rw [Int.add_mul, Int.one_mul]
  omega
theorem step_ge {t r n W : Int} (hr : 0 < r) (hW : W = (n - t + r - 1) / r) : n ≤ t + W * r := by
  have h1 : (n - t + r - 1) / r < W + 1 := by omega
  have h2 := (Int.ediv_lt_iff_lt_mul hr).1 h1
  have h3 : (W + 1) * r = W * r + r := by rw [Int.add_mul, Int.one_mul]
  omega

set_option maxHeartbeats 1000000 in
theorem bwaitsIn (t r n : Int) (W : Nat) (w : World) (ht : 0 ≤ t ∧ t ≤ 500) (hr : 0 ≤ r ∧ r ≤ 500) (hn : 0 ≤ n ∧ n ≤ 500) (hW : W ≤ 500)
    (hlt : ∀ k : Nat, k < W → t + k * r < n) (hge : n ≤ t + W * r)
    (p0 : ∀ w, Calls Try.prog 34 #[i64 t, i64 r, i64 n] w fun e w' => e = .returned (i64 W) ∧ w = w') :
    Trues 9 #[i64 t, i64 r, i64 n] w := by
  unfold Trues
  have P0 := Lib.hid p0
  have HLT := Lib.hid hlt
  clear p0 hlt
  have e0 : takeErr 1000000 (1000000 - t) = 0 := by unfold takeErr; rw [if_neg (by omega), if_neg (by omega)]
  obtain ⟨t1, t2⟩ := ht
  obtain ⟨r1, r2⟩ := hr
  obtain ⟨n1, n2⟩ := hn
  have E0 := Lib.hid e0
  clear e0
  refine post fun R hR => ?_
  go_enter Try.func9, Try.ntmps9
  go_wp2_with (fail)
  refine Calls.mono (P0.out _) ?_
  rintro e w1 ⟨rfl, rfl⟩
  go_wp2_with (fail)
  refine Calls.mono (new_c _ _ _) ?_
  rintro e w1 ⟨rfl, hu1, hh1⟩
  rw [show clamp r 1048576 = r from by unfold clamp; omega, show clamp 1000000 1048576 = 1000000 from by decide] at hh1
  go_wp2_with (fail)
  refine Calls.mono (btake2_c hh1 (1000000 - t) (by omega)) ?_
  rintro e w2 ⟨rfl, hu2, hh2⟩
  rw [E0.out, if_pos rfl, show 1000000 - (1000000 - t) = t from by omega] at hh2
  go_wp2_with (fail)
  have hu : Upd [] w w2 := hu1.trans hu2 (by simp)
  clear hu1 hu2 hh1
  go_loopw [9] (fun i wr => ∃ k : Nat, i = i64 k ∧ k ≤ W ∧ wr.heap[w.heap.size]? = some (.cells #[i64 r, i64 1000000, i64 (t + k * r)] 56 (0, 0)) ∧ Upd [] w wr)
    (fun i _ => W - (intOf i).toNat)
  case atStart => exact ⟨0, rfl, Nat.zero_le _, by simpa using hh2, hu⟩
  case round =>
    clear hh2 hu
    obtain ⟨k, rfl, hk, hA, hu⟩ := hrel
    have hkr : (k : Int) * r ≤ 500 * 500 := Int.mul_le_mul (by omega) (by omega) (by omega) (by omega)
    have hkr0 : 0 ≤ (k : Int) * r := Int.mul_nonneg (by omega) (by omega)
    have htok := tokens_c (w := wr) (off := 0) (r := r) (u := 1000000) (t := t + k * r) ⟨hA, rfl, rfl, rfl⟩
    have HT := Lib.hid htok
    clear htok
    by_cases hlt : k < W
    · have h1 := HLT.out k hlt
      have h2 : ((k + 1 : Nat) : Int) * r = (k : Int) * r + r := by rw [Int.natCast_add, Int.add_mul]; simp
      have H2 := Lib.hid h2
      clear h2
      generalize hx : (k : Int) * r = x at *
      have HX := Lib.hid hx
      clear hx
      go_wp2_with (fail)
      refine Calls.mono HT.out ?_
      rintro e w3 ⟨rfl, rfl⟩
      go_wp2_with (fail)
      refine Calls.mono (btick2_c hA (by omega) (by omega)) ?_
      rintro e w4 ⟨rfl, hu4, hA4⟩
      rw [show min (t + x + r) 1000000 = t + x + r from by omega] at hA4
      go_wp2_with (fail)
      go_roundw
      case rel => exact ⟨k + 1, by go_num, by omega, by rw [H2.out]; simpa [Int.add_assoc] using hA4, hu.trans hu4 (by simp)⟩
      case measure => simp [intOf]; omega
    · obtain rfl : k = W := by omega
      generalize hx : (k : Int) * r = x at *
      have HX := Lib.hid hx
      clear hx
      go_wp2_with (fail)
      refine Calls.mono HT.out ?_
      rintro e w3 ⟨rfl, rfl⟩
      go_wp2_with (fail)
      refine Calls.mono (bawake_c _) ?_
      rintro e w4 ⟨rfl, hu4⟩
      go_wp2_with (fail)
      exact hR.out _ _ ⟨rfl, hu.trans' hu4⟩

set_option maxHeartbeats 1000000 in
theorem bwaitsNo (t n : Int) (w : World) (ht : 0 ≤ t ∧ t ≤ 500) (hn : 0 ≤ n ∧ n ≤ 500) (hnt : t < n)
    (p0 : ∀ w, Calls Try.prog 34 #[i64 t, i64 0, i64 n] w fun e w' => e = .returned (i64 (-1)) ∧ w = w') :
    Trues 9 #[i64 t, i64 0, i64 n] w := by
  unfold Trues
  have P0 := Lib.hid p0
  clear p0
  obtain ⟨t1, t2⟩ := ht
  obtain ⟨n1, n2⟩ := hn
  refine post fun R hR => ?_
  go_enter Try.func9, Try.ntmps9
  go_wp2_with (fail)
  refine Calls.mono (P0.out _) ?_
  rintro e w1 ⟨rfl, rfl⟩
  go_wp2_with (fail)
  refine Calls.mono (new_c _ _ _) ?_
  rintro e w1 ⟨rfl, hu1, hh1⟩
  go_wp2_with (fail)
  refine Calls.mono (btake2_c hh1 (1000000 - t) (by unfold clamp; omega)) ?_
  rintro e w2 ⟨rfl, hu2, hh2⟩
  go_wp2_with (fail)
  refine Calls.mono (bawake_c _) ?_
  rintro e w4 ⟨rfl, hu4⟩
  go_wp2_with (fail)
  exact hR.out _ _ ⟨rfl, hu1.trans (hu2.trans hu4 (by simp)) (by simp)⟩

theorem bwaits_c (t r n : Int) (w : World) : Trues 9 #[i64 t, i64 r, i64 n] w := by
  have p0 := fun w => wait_c t r n w
  by_cases hin : (0 ≤ t ∧ t ≤ 500) ∧ (0 ≤ r ∧ r ≤ 500) ∧ (0 ≤ n ∧ n ≤ 500)
  · obtain ⟨ht, hr, hn⟩ := hin
    rw [waitN_in ht hr hn] at p0
    by_cases h1 : n ≤ t
    · rw [if_pos h1] at p0
      exact bwaitsIn t r n 0 w ht hr hn (by omega) (fun k hk => by omega) (by simpa using h1) p0
    · rw [if_neg h1] at p0
      by_cases h2 : r = 0
      · subst h2
        rw [if_pos rfl] at p0
        exact bwaitsNo t n w ht hn (by omega) p0
      · rw [if_neg h2] at p0
        have hr0 : 0 < r := by omega
        have hq0 : 0 ≤ (n - t + r - 1) / r := Int.ediv_nonneg (by omega) (by omega)
        have hq1 : (n - t + r - 1) / r ≤ 500 := by
          have : (n - t + r - 1) / r < 501 := (Int.ediv_lt_iff_lt_mul hr0).2 (by omega)
          omega
        obtain ⟨W, hW⟩ := Int.eq_ofNat_of_zero_le hq0
        rw [hW] at p0
        exact bwaitsIn t r n W w ht hr hn (by omega) (fun k hk => step_lt hr0 hW.symm k (by omega)) (step_ge hr0 hW.symm) p0
  · exact bwaitsOut t r n (waitN t r n) (waitN t 0 n) w (waitN_ge t r n) (by omega) p0 (fun w => wait_c t 0 n w) (fun w => wait_c t (-1) n w)

set_option maxRecDepth 100000 in
theorem bucketWaits_walk {H : Type} {enc : TypeId × Value → H} {W : World} {base : Nat} {args : Array Value} {ds gs : List (DataW H)} {before : List MemPlace}
    (hval : ∀ (j : Nat) t v, Try.f9.params[j]? = some t → args[j]? = some v → Value.okWide Try.prog W .any base t v)
    (hW : DataW.Whole enc Try.prog Try.f9.params.toList [] false W args.toList ds gs before) : Trues 9 args W := by
  obtain ⟨p, q, hA, -, rfl, -, -⟩ := hW
  rw [Try.params9] at hA hval
  obtain ⟨v0, v1, v2, d0, d1, d2, p0, p1, p2, rfl, rfl, rfl, h0, h1, h2⟩ := trodAll_three hA
  obtain ⟨t, rfl, rfl, rfl, w0⟩ := open_int Try.underlying3 (hval 0 3 v0 rfl rfl) h0
  obtain ⟨r, rfl, rfl, rfl, w1⟩ := open_int Try.underlying3 (hval 1 3 v1 rfl rfl) h1
  obtain ⟨n, rfl, rfl, rfl, w2⟩ := open_int Try.underlying3 (hval 2 3 v2 rfl rfl) h2
  exact bwaits_c t r n W

set_option maxRecDepth 100000 in
theorem bucketWaits_lifted (os : Os) (started : os.Started) (H : Type) (enc : TypeId × Value → H) :
    ReturnsInHanded {} Try.checked os 9 .any (Rows.bucketWaitsSpec.pre6 enc Try.prog Try.f9 Rows.bucketWaitsRow.domain false) (Rows.bucketWaitsSpec.post enc Try.prog Try.f9 false true false false) := by
  refine returnsInHanded_of_change (C := Try.checked) own started (by kernel_rfl) Try.func9
    (ChangeSpec.witness6 (enc := enc) (C := Try.checked) false ⟨#[], #[.int .i64 0, .int .i64 0, .int .i64 0], []⟩ 8 (by kernel_rfl) (by kernel_rfl) (by kernel_rfl) (by kernel_rfl)) ?_
  intro W base args ds gs before hval hW hcnd _
  refine Calls.mono (bucketWaits_walk hval hW) fun e W' ⟨he, hu⟩ => ?_
  exact ⟨_, he, law_post rfl rfl (by kernel_rfl) hW (fun ds h => by match ds, h with | [_, _, _], _ => rfl) hu⟩

set_option maxRecDepth 100000 in
theorem bucketWaits_over : Rows.bucketWaitsRow.holds Try.pinned (OpenSpec.ofChange Rows.bucketWaitsSpec) :=
  OpenClaim.holds_of_wide 9 Try.f9 rfl rfl rfl rfl rfl rfl rfl ⟨rfl, rfl, rfl, rfl, rfl⟩ rfl rfl rfl rfl rfl (by kernel_rfl) Try.func9 (by kernel_rfl)
    (of_decide_eq_true (by kernel_rfl)) (by unfold Func.isWrapper; first | (rw [if_pos (by decide +kernel)]; kernel_rfl) | (rw [if_neg (by decide +kernel)]; exact ⟨rfl, rfl⟩))
    (fun os started H enc _ => bucketWaits_lifted os started H enc)

theorem bucketWaits_proved : Rows.BucketWaitsSaid := bucketWaits_over
end Go.Proofs.Ytnhanldefebjbaa
