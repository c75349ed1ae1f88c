/-
  The contract of the document's Cost (concourseref25), and of the law's own same: a ring and the document's ring are alike. Condition: rows of some hundred numbers at most.
-/
import Derived.Test.YtabhdigannalgaaRfTurn
namespace Go.Proofs.Ytabhdigannalgaa
open Go Go.RowKit

set_option maxRecDepth 100000 in
set_option maxHeartbeats 1000000 in
theorem rcost25_c {w : World} (f : F6) {ca : Option Addr} {cc : Nat} (h : Ints w (.slice ca f.cs.length cc) f.cs) (hb : ∀ c ∈ f.cs, 1 ≤ c ∧ c ≤ 1040) (hl : f.cs.length ≤ 1000) :
    Calls Try.prog 58 #[.agg #[.bool f.th, i64 f.q, i64 f.d, .slice ca f.cs.length cc, .bool f.rs, .bool f.an]] w fun e w' => e = .returned (i64 (sumI f.cs)) ∧ Upd [] w w' := by
  obtain ⟨th, q, d, cs, rs, an⟩ := f
  simp only at h hb hl ⊢
  obtain ⟨ao, cap, he, hcap, hrow⟩ := h.sl
  injection he with e1 e2 e3
  subst e1; subst e3
  have hA := heap_alloc_new w (.cells #[.bool th, i64 q, i64 d, .slice ca cs.length cc, .bool rs, .bool an] 103)
  have hu0 := (Upd.refl [] w).alloc (.cells #[.bool th, i64 q, i64 d, .slice ca cs.length cc, .bool rs, .bool an] 103)
  have HB := Lib.hid hb
  have HU := Lib.hid hu0
  by_cases h0 : cs.length = 0
  · obtain rfl : cs = [] := List.eq_nil_of_length_eq_zero h0
    clear h hrow hb hA hu0
    refine post fun R hR => ?_
    go_enter Try.func58, Try.ntmps58
    go_wp2_with (fail)
    refine wp_loop_once ?_
    go_wp2_with (fail)
    exact hR.out _ _ ⟨rfl, HU.out⟩
  · obtain ⟨g, off, rfl, hg, hc⟩ := hrow (by omega)
    have HC := Lib.hid hc
    have HA := Lib.hid hA
    clear h hrow hb hA hu0 hc
    refine post fun R hR => ?_
    go_enter Try.func58, Try.ntmps58
    go_upto_region 1 with (fail)
    have hA := HA.out
    have hgw : g < (w.alloc (.cells #[.bool th, i64 q, i64 d, .slice (some ⟨g, off, none⟩) cs.length cc, .bool rs, .bool an] 103)).heap.size := by simp; omega
    have HCC := Lib.hid (fun k (hk : k < cs.length) => (World.cell?_of_block (a := ⟨g, off + k, none⟩) (HU.out.block g hg (by simp))).trans (HC.out k hk))
    clear HC HA
    generalize w.alloc (.cells #[.bool th, i64 q, i64 d, .slice (some ⟨g, off, none⟩) cs.length cc, .bool rs, .bool an] 103) = w1 at *
    generalize w.heap.size = A at *
    obtain ⟨-, -, -, a3, -⟩ := cells6 hA
    go_wp2_with (fail)
    go_loop [3, 4] (fun s i => ∃ k : Nat, i = i64 k ∧ k ≤ cs.length ∧ s = i64 (sumI (cs.take k))) (fun _ i => cs.length - (intOf i).toNat)
    case atStart => exact ⟨0, rfl, Nat.zero_le _, rfl⟩
    case round =>
      obtain ⟨k, rfl, hk, rfl⟩ := hrel
      have hb1 := sumI_bd (cs.take k) fun c hc => HB.out c (List.mem_of_mem_take hc)
      obtain ⟨b1, b2⟩ := hb1
      have hl2 : (cs.take k).length ≤ k := List.length_take_le _ _
      by_cases hlt : k < cs.length
      · have hc := HCC.out k hlt
        obtain ⟨g1, g2⟩ := HB.out cs[k] (List.getElem_mem hlt)
        have hsn : sumI (cs.take (k + 1)) = sumI (cs.take k) + cs[k] := by rw [List.take_succ_eq_append_getElem hlt, sumI_snoc]
        have HSN := Lib.hid hsn
        clear hsn
        generalize cs[k] = c at *
        generalize sumI (cs.take k) = s at *
        go_wp2_with (fail)
        go_round
        case rel => exact ⟨k + 1, by go_num, by omega, by rw [HSN.out]⟩
        case measure => simp [intOf]; omega
      · have e : k = cs.length := by omega
        have he : sumI (cs.take k) = sumI cs := by rw [e, List.take_length]
        have HE := Lib.hid he
        clear he
        go_wp2_with (fail)
        exact hR.out _ _ ⟨by rw [← HE.out], HU.out⟩

/-- the document's flow of a ring's -/
def flN (r : Rg) (i : Int) : F6 := F6.of (r.fl i)
theorem flN_waits (r : Rg) (i : Int) : r.waits i = (flN r i).cs.length := by unfold Rg.waits flN; cases r.fl i <;> rfl
theorem flN_cost (r : Rg) (i : Int) : r.cost i = sumI (flN r i).cs := by unfold Rg.cost flN; cases r.fl i <;> rfl
theorem flN_deficit (r : Rg) (i : Int) : r.deficit i = (flN r i).d := by unfold Rg.deficit flN; cases r.fl i <;> rfl
theorem flN_ok {r : Rg} (h : r.ok) {K : Nat} (hs : r.small K) (i : Int) : (∀ c ∈ (flN r i).cs, 1 ≤ c ∧ c ≤ 1040) ∧ (flN r i).cs.length ≤ K := by
  unfold flN
  cases hf : r.fl i with
  | none => exact ⟨fun c hc => (by cases hc), Nat.zero_le _⟩
  | some f => exact ⟨(h.fok i f hf).cs, hs i f hf⟩

set_option maxRecDepth 100000 in
set_option maxHeartbeats 4000000 in
theorem rsame25_c {w : World} {Z : Nat → Prop} {b : Nat} {ty : TypeId} {tl : List Value} {K : Nat} {r : Rg} {Y : Nat → Prop} {fv rv : Value} (h : RingAt w Z b ty tl K r) (hK : K ≤ 900) (hr : RfAt w Y fv rv r) :
    Calls Try.prog 26 #[.pointer (some ⟨b, 0, none⟩), .agg #[fv, rv]] w fun e w' => e = .returned (.bool true) ∧ Upd [] w w' := by
  have hok := h.ok
  obtain ⟨cv, hF, hI, -⟩ := hr
  obtain ⟨ra, rc, rfl, -, -⟩ := hI.sl
  obtain ⟨g, off, cap, rfl, hg, hcap⟩ := hF.form
  have hsm := h.2.2.1
  have hA := heap_alloc_new w (.cells #[.slice (some ⟨g, off, none⟩) 9 cap, .slice ra r.row.length rc] 46)
  have hu0 := (Upd.refl [] w).alloc (.cells #[.slice (some ⟨g, off, none⟩) 9 cap, .slice ra r.row.length rc] 46)
  have H := Lib.hid h
  have HI := Lib.hid hI
  have HF := Lib.hid hF
  have HFO := Lib.hid (fun i => flN_ok hok hsm i)
  have HLEN := Lib.hid hok.len
  have HRNG := Lib.hid hok.rng
  have hst : ∃ k : Nat, (-1 : Int) = (k : Int) - 1 ∧ k ≤ 11 := ⟨0, by omega, by omega⟩
  clear h hI hF hok hsm
  refine post fun R hR => ?_
  go_enter Try.func26, Try.ntmps26
  go_upto_region 1 with (fail)
  generalize w.alloc (.cells #[.slice (some ⟨g, off, none⟩) 9 cap, .slice ra r.row.length rc] 46) = w1 at *
  obtain ⟨A, hAe⟩ : ∃ A, A = w.heap.size := ⟨_, rfl⟩
  rw [← hAe] at hA ⊢
  clear hAe
  have HA := Lib.hid hA
  have HU0 := Lib.hid hu0
  clear hA hu0 hst
  go_wp2_with (fail)
  go_loopw [5] (fun i wr => ∃ k : Nat, i = i64 ((k : Int) - 1) ∧ k ≤ 11 ∧ Upd [] w1 wr) (fun i _ => (10 - intOf i).toNat)
  case atStart => exact ⟨0, rfl, by omega, Upd.refl _ _⟩
  case round =>
    obtain ⟨k, rfl, hk, hu⟩ := hrel
    generalize hi : (k : Int) - 1 = i at *
    have hi1 : -1 ≤ i := by omega
    have hi2 : i ≤ 10 := by omega
    have HIK := Lib.hid hi
    clear hi
    have hA := hu.keep0 HA.out
    obtain ⟨a0, a1, -⟩ := cells2 hA
    have hsA := lt_of_heap hA
    by_cases hlt : i < 10
    · by_cases hin : 0 ≤ i ∧ i < 9
      · obtain ⟨m, rfl⟩ : ∃ m : Nat, i = m := ⟨i.toNat, by omega⟩
        have hm : m < 9 := by omega
        obtain ⟨d0, d1, d2, d3, d4, d5⟩ := (HF.out.upd0 (HU0.out.trans' hu)).get hm
        obtain ⟨ca, cc, hcv⟩ := HF.out.row hm
        have hcs := (HF.out.2 m hm).upd0 (HU0.out.trans' hu)
        rw [hcv] at d3 hcs
        have hgf : Gof r m = flN r m := rfl
        rw [hgf] at d0 d1 d2 d3 d4 d5 hcs
        obtain ⟨f1, f2⟩ := HFO.out m
        have hwt := flN_waits r m
        have hco := flN_cost r m
        have hde := flN_deficit r m
        generalize flN r m = f at *
        clear hgf hcv
        go_upto_region 6 with (fail)
        obtain ⟨X, hX⟩ : ∃ X, X = wr.heap.size := ⟨_, rfl⟩
        have hB3 := heap_alloc_new wr (.cells #[.bool false, i64 0, i64 0, .slice none 0 0, .bool false, .bool false] 103)
        have hux := (Upd.refl [] wr).alloc (.cells #[.bool false, i64 0, i64 0, .slice none 0 0, .bool false, .bool false] 103)
        rw [← hX] at hB3 ⊢
        have hXw : wr.heap.size ≤ X := by omega
        have hAX : A < X := by omega
        have hgX : g < X := by have := hu.size; have := HU0.out.size; omega
        have c0 := (hux.below.cell (p := ⟨g, off + m * 6, none⟩) (by show g < _; omega)).trans d0
        have c1 := (hux.below.cell (p := ⟨g, off + m * 6 + 1, none⟩) (by show g < _; omega)).trans d1
        have c2 := (hux.below.cell (p := ⟨g, off + m * 6 + 2, none⟩) (by show g < _; omega)).trans d2
        have c3 := (hux.below.cell (p := ⟨g, off + m * 6 + 3, none⟩) (by show g < _; omega)).trans d3
        have c4 := (hux.below.cell (p := ⟨g, off + m * 6 + 4, none⟩) (by show g < _; omega)).trans d4
        have c5 := (hux.below.cell (p := ⟨g, off + m * 6 + 5, none⟩) (by show g < _; omega)).trans d5
        have hA2 := hux.keep0 hA
        clear hX d0 d1 d2 d3 d4 d5 a0 a1 hsA hA
        generalize wr.alloc (.cells #[.bool false, i64 0, i64 0, .slice none 0 0, .bool false, .bool false] 103) = w2 at *
        have hsA := lt_of_heap hA2
        have hsX := lt_of_heap hB3
        obtain ⟨a0, a1, -⟩ := cells2 hA2
        obtain ⟨x0, x1, x2, x3, x4, x5, y0, y1, y2, y3, y4, y5⟩ := cells6 hB3
        go_upto_region 7 with (fail)
        have hX3 := hset6_5 (v := .bool f.an) (hset6_4 (v := .bool f.rs) (hset6_3 (v := .slice ca f.cs.length cc) (hset6_2 (v := i64 f.d) (hset6_1 (v := i64 f.q) (hset6_0 (v := .bool f.th) hB3)))))
        have hu3 : Upd [] wr _ := (((((((hux.setCell (p := ⟨X, 0, none⟩) (.inr hXw) (.bool f.th)).setCell (p := ⟨X, 1, none⟩) (.inr hXw) (i64 f.q)).setCell (p := ⟨X, 2, none⟩) (.inr hXw) (i64 f.d)).setCell (p := ⟨X, 3, none⟩) (.inr hXw) (.slice ca f.cs.length cc)).setCell (p := ⟨X, 4, none⟩) (.inr hXw) (.bool f.rs)).setCell (p := ⟨X, 5, none⟩) (.inr hXw) (.bool f.an)))
        clear c0 c1 c2 c3 c4 c5 x0 x1 x2 x3 x4 x5 y0 y1 y2 y3 y4 y5 a0 a1 hsA hsX hux hA2 hB3
        generalize (((((w2.setCell ⟨X, 0, none⟩ (.bool f.th)).setCell ⟨X, 1, none⟩ (i64 f.q)).setCell ⟨X, 2, none⟩ (i64 f.d)).setCell ⟨X, 3, none⟩ (.slice ca f.cs.length cc)).setCell ⟨X, 4, none⟩ (.bool f.rs)).setCell ⟨X, 5, none⟩ (.bool f.an) = w3 at *
        have HCS := Lib.hid (hcs.upd0 hu3)
        have HU3 := Lib.hid (hu.trans' hu3)
        clear hcs hu3 hu
        generalize him : (m : Int) = i at *
        have HIM := Lib.hid him
        clear him hin hm hgX
        have hin64 : inI i := ⟨by omega, by omega⟩
        have hk6 : ∀ w', Upd [] w3 w' → w'.cell? ⟨X, 0, none⟩ = some (.bool f.th) ∧ w'.cell? ⟨X, 1, none⟩ = some (i64 f.q) ∧ w'.cell? ⟨X, 2, none⟩ = some (i64 f.d) ∧ w'.cell? ⟨X, 3, none⟩ = some (.slice ca f.cs.length cc) ∧ w'.cell? ⟨X, 4, none⟩ = some (.bool f.rs) ∧ w'.cell? ⟨X, 5, none⟩ = some (.bool f.an) := fun w' hu => by
          obtain ⟨k0, k1, k2, k3, k4, k5, -⟩ := cells6 (hu.keep0 hX3)
          exact ⟨k0, k1, k2, k3, k4, k5⟩
        have hW : ∀ w', Upd [] w3 w' → Calls Try.prog 18 #[.pointer (some ⟨b, 0, none⟩), i64 i] w' fun e w'' => e = .returned (i64 f.cs.length) ∧ w''.cell? ⟨X, 0, none⟩ = some (.bool f.th) ∧ w''.cell? ⟨X, 1, none⟩ = some (i64 f.q) ∧ w''.cell? ⟨X, 2, none⟩ = some (i64 f.d) ∧ w''.cell? ⟨X, 3, none⟩ = some (.slice ca f.cs.length cc) ∧ w''.cell? ⟨X, 4, none⟩ = some (.bool f.rs) ∧ w''.cell? ⟨X, 5, none⟩ = some (.bool f.an) ∧ Upd [] w3 w'' := fun w' hu => by
          refine (ring_waits_c (H.out.upd0 ((HU0.out.trans' HU3.out).trans' hu)) hin64).mono ?_
          rintro e w'' ⟨rfl, rfl⟩
          obtain ⟨k0, k1, k2, k3, k4, k5⟩ := hk6 _ hu
          exact ⟨by rw [hwt], k0, k1, k2, k3, k4, k5, hu⟩
        have hC : ∀ w', Upd [] w3 w' → Calls Try.prog 27 #[.pointer (some ⟨b, 0, none⟩), i64 i] w' fun e w'' => e = .returned (i64 (sumI f.cs)) ∧ w''.cell? ⟨X, 0, none⟩ = some (.bool f.th) ∧ w''.cell? ⟨X, 1, none⟩ = some (i64 f.q) ∧ w''.cell? ⟨X, 2, none⟩ = some (i64 f.d) ∧ w''.cell? ⟨X, 3, none⟩ = some (.slice ca f.cs.length cc) ∧ w''.cell? ⟨X, 4, none⟩ = some (.bool f.rs) ∧ w''.cell? ⟨X, 5, none⟩ = some (.bool f.an) ∧ Upd [] w3 w'' := fun w' hu => by
          refine (ring_cost_c (H.out.upd0 ((HU0.out.trans' HU3.out).trans' hu)) hK hin64).mono ?_
          rintro e w'' ⟨rfl, rfl⟩
          obtain ⟨k0, k1, k2, k3, k4, k5⟩ := hk6 _ hu
          exact ⟨by rw [hco], k0, k1, k2, k3, k4, k5, hu⟩
        have hD : ∀ w', Upd [] w3 w' → Calls Try.prog 17 #[.pointer (some ⟨b, 0, none⟩), i64 i] w' fun e w'' => e = .returned (i64 f.d) ∧ w''.cell? ⟨X, 0, none⟩ = some (.bool f.th) ∧ w''.cell? ⟨X, 1, none⟩ = some (i64 f.q) ∧ w''.cell? ⟨X, 2, none⟩ = some (i64 f.d) ∧ w''.cell? ⟨X, 3, none⟩ = some (.slice ca f.cs.length cc) ∧ w''.cell? ⟨X, 4, none⟩ = some (.bool f.rs) ∧ w''.cell? ⟨X, 5, none⟩ = some (.bool f.an) ∧ Upd [] w3 w'' := fun w' hu => by
          refine (ring_deficit_c (H.out.upd0 ((HU0.out.trans' HU3.out).trans' hu)) hin64).mono ?_
          rintro e w'' ⟨rfl, rfl⟩
          obtain ⟨k0, k1, k2, k3, k4, k5⟩ := hk6 _ hu
          exact ⟨by rw [hde], k0, k1, k2, k3, k4, k5, hu⟩
        have hE : ∀ w', Upd [] w3 w' → Calls Try.prog 58 #[.agg #[.bool f.th, i64 f.q, i64 f.d, .slice ca f.cs.length cc, .bool f.rs, .bool f.an]] w' fun e w'' => e = .returned (i64 (sumI f.cs)) ∧ w''.cell? ⟨X, 0, none⟩ = some (.bool f.th) ∧ w''.cell? ⟨X, 1, none⟩ = some (i64 f.q) ∧ w''.cell? ⟨X, 2, none⟩ = some (i64 f.d) ∧ w''.cell? ⟨X, 3, none⟩ = some (.slice ca f.cs.length cc) ∧ w''.cell? ⟨X, 4, none⟩ = some (.bool f.rs) ∧ w''.cell? ⟨X, 5, none⟩ = some (.bool f.an) ∧ Upd [] w3 w'' := fun w' hu => by
          refine (rcost25_c f (HCS.out.upd0 hu) f1 (by omega)).mono ?_
          rintro e w'' ⟨rfl, hu2⟩
          obtain ⟨k0, k1, k2, k3, k4, k5⟩ := hk6 _ (hu.trans' hu2)
          exact ⟨rfl, k0, k1, k2, k3, k4, k5, hu.trans' hu2⟩
        obtain ⟨x0, x1, x2, x3, x4, x5⟩ := hk6 _ (Upd.refl _ _)
        have HW := Lib.hid hW
        have HC := Lib.hid hC
        have HD := Lib.hid hD
        have HE := Lib.hid hE
        clear hW hC hD hE hk6 hX3 hwt hco hde f1 f2
        generalize sumI f.cs = sm at *
        obtain ⟨th, q, d, cs, rs, an⟩ := f
        simp only at x0 x1 x2 x3 x4 x5 HW HC HD HE ⊢
        generalize cs.length = cl at *
        go_region_held3 (fun w' => w'.cell? ⟨X, 0, none⟩ = some (.bool th) ∧ w'.cell? ⟨X, 1, none⟩ = some (i64 q) ∧ w'.cell? ⟨X, 2, none⟩ = some (i64 d) ∧ w'.cell? ⟨X, 3, none⟩ = some (.slice ca cl cc) ∧ w'.cell? ⟨X, 4, none⟩ = some (.bool rs) ∧ w'.cell? ⟨X, 5, none⟩ = some (.bool an) ∧ Upd [] w3 w')
          ((first | exact ⟨x0, x1, x2, x3, x4, x5, Upd.refl _ _⟩ | exact ⟨x0, x1, x2, x3, x4, x5, (Upd.refl _ _).drew⟩ | exact ⟨j0, j1, j2, j3, j4, j5, jU⟩ | exact ⟨l0, l1, l2, l3, l4, l5, lU⟩ | exact ⟨m0, m1, m2, m3, m4, m5, mU⟩ | exact ⟨n0, n1, n2, n3, n4, n5, nU⟩))
          ((first
            | (go_at_call 18; (with_reducible refine Calls.mono (HW.out _ (by first | exact Upd.refl _ _ | exact (Upd.refl _ _).drew)) ?_); rintro e w4 ⟨rfl, j0, j1, j2, j3, j4, j5, jU⟩)
            | (go_at_call 27; (with_reducible refine Calls.mono (HC.out _ jU) ?_); rintro e w5 ⟨rfl, l0, l1, l2, l3, l4, l5, lU⟩)
            | (go_at_call 58; (with_reducible refine Calls.mono (HE.out _ lU) ?_); rintro e w6 ⟨rfl, m0, m1, m2, m3, m4, m5, mU⟩)
            | (go_at_call 17; (with_reducible refine Calls.mono (HD.out _ mU) ?_); rintro e w7 ⟨rfl, n0, n1, n2, n3, n4, n5, nU⟩)))
        clear x0 x1 x2 x3 x4 x5 j0 j1 j2 j3 j4 j5 l0 l1 l2 l3 l4 l5 m0 m1 m2 m3 m4 m5 n0 n1 n2 n3 n4 n5
        go_wp2_with (fail)
        go_roundw
        case rel => exact ⟨k + 1, by have := HIK.out; congr 1; omega, by have := HIK.out; omega, HU3.out.trans' nU⟩
        case measure => first | (simp [intOf]; omega) | (have := HIM.out; simp [intOf]; omega)
      · have hno : flN r i = F6.zero := by
          unfold flN
          cases hf : r.fl i with
          | none => rfl
          | some f => have := HRNG.out i f hf; omega
        have hwt := flN_waits r i
        have hco := flN_cost r i
        have hde := flN_deficit r i
        rw [hno] at hwt hco hde
        obtain ⟨f, hf⟩ : ∃ f, f = F6.zero := ⟨_, rfl⟩
        rw [← hf] at hwt hco hde
        have f1 : ∀ c ∈ f.cs, 1 ≤ c ∧ c ≤ 1040 := by rw [hf]; intro c hc; cases hc
        have f2 : f.cs.length ≤ K := by rw [hf]; exact Nat.zero_le _
        by_cases hneg : i < 0
        · go_upto_region 7 with (fail)
          obtain ⟨X, hX⟩ : ∃ X, X = wr.heap.size := ⟨_, rfl⟩
          have hX3 : (wr.alloc (.cells #[.bool false, i64 0, i64 0, .slice none 0 0, .bool false, .bool false] 103)).heap[wr.heap.size]? = some (.cells #[.bool f.th, i64 f.q, i64 f.d, .slice none f.cs.length 0, .bool f.rs, .bool f.an] 103 (0, 0)) := by rw [hf]; exact heap_alloc_new _ _
          have hux := (Upd.refl [] wr).alloc (.cells #[.bool false, i64 0, i64 0, .slice none 0 0, .bool false, .bool false] 103)
          have HCS := Lib.hid (show Sub (wr.alloc (.cells #[.bool false, i64 0, i64 0, .slice none 0 0, .bool false, .bool false] 103)) 0 3 1 (.slice none f.cs.length 0) f.cs.length (f.cs.map i64) from by rw [hf]; exact sub_nil _ _ _ _)
          have HU3 := Lib.hid (hu.trans' hux)
          rw [← hX] at hX3 ⊢
          clear hX hux hu hf hno hA a0 a1 hsA
          generalize wr.alloc (.cells #[.bool false, i64 0, i64 0, .slice none 0 0, .bool false, .bool false] 103) = w3 at *
          obtain ⟨ca, cc, hX3, HCS⟩ : ∃ (ca : Option Addr) (cc : Nat), w3.heap[X]? = some (.cells #[.bool f.th, i64 f.q, i64 f.d, .slice ca f.cs.length cc, .bool f.rs, .bool f.an] 103 (0, 0)) ∧ Hid (Sub w3 0 3 1 (.slice ca f.cs.length cc) f.cs.length (f.cs.map i64)) := ⟨none, 0, hX3, HCS⟩
          have hin64 : inI i := ⟨by omega, by omega⟩
          have hk6 : ∀ w', Upd [] w3 w' → w'.cell? ⟨X, 0, none⟩ = some (.bool f.th) ∧ w'.cell? ⟨X, 1, none⟩ = some (i64 f.q) ∧ w'.cell? ⟨X, 2, none⟩ = some (i64 f.d) ∧ w'.cell? ⟨X, 3, none⟩ = some (.slice ca f.cs.length cc) ∧ w'.cell? ⟨X, 4, none⟩ = some (.bool f.rs) ∧ w'.cell? ⟨X, 5, none⟩ = some (.bool f.an) := fun w' hu => by
            obtain ⟨k0, k1, k2, k3, k4, k5, -⟩ := cells6 (hu.keep0 hX3)
            exact ⟨k0, k1, k2, k3, k4, k5⟩
          have hW : ∀ w', Upd [] w3 w' → Calls Try.prog 18 #[.pointer (some ⟨b, 0, none⟩), i64 i] w' fun e w'' => e = .returned (i64 f.cs.length) ∧ w''.cell? ⟨X, 0, none⟩ = some (.bool f.th) ∧ w''.cell? ⟨X, 1, none⟩ = some (i64 f.q) ∧ w''.cell? ⟨X, 2, none⟩ = some (i64 f.d) ∧ w''.cell? ⟨X, 3, none⟩ = some (.slice ca f.cs.length cc) ∧ w''.cell? ⟨X, 4, none⟩ = some (.bool f.rs) ∧ w''.cell? ⟨X, 5, none⟩ = some (.bool f.an) ∧ Upd [] w3 w'' := fun w' hu => by
            refine (ring_waits_c (H.out.upd0 ((HU0.out.trans' HU3.out).trans' hu)) hin64).mono ?_
            rintro e w'' ⟨rfl, rfl⟩
            obtain ⟨k0, k1, k2, k3, k4, k5⟩ := hk6 _ hu
            exact ⟨by rw [hwt], k0, k1, k2, k3, k4, k5, hu⟩
          have hC : ∀ w', Upd [] w3 w' → Calls Try.prog 27 #[.pointer (some ⟨b, 0, none⟩), i64 i] w' fun e w'' => e = .returned (i64 (sumI f.cs)) ∧ w''.cell? ⟨X, 0, none⟩ = some (.bool f.th) ∧ w''.cell? ⟨X, 1, none⟩ = some (i64 f.q) ∧ w''.cell? ⟨X, 2, none⟩ = some (i64 f.d) ∧ w''.cell? ⟨X, 3, none⟩ = some (.slice ca f.cs.length cc) ∧ w''.cell? ⟨X, 4, none⟩ = some (.bool f.rs) ∧ w''.cell? ⟨X, 5, none⟩ = some (.bool f.an) ∧ Upd [] w3 w'' := fun w' hu => by
            refine (ring_cost_c (H.out.upd0 ((HU0.out.trans' HU3.out).trans' hu)) hK hin64).mono ?_
            rintro e w'' ⟨rfl, rfl⟩
            obtain ⟨k0, k1, k2, k3, k4, k5⟩ := hk6 _ hu
            exact ⟨by rw [hco], k0, k1, k2, k3, k4, k5, hu⟩
          have hD : ∀ w', Upd [] w3 w' → Calls Try.prog 17 #[.pointer (some ⟨b, 0, none⟩), i64 i] w' fun e w'' => e = .returned (i64 f.d) ∧ w''.cell? ⟨X, 0, none⟩ = some (.bool f.th) ∧ w''.cell? ⟨X, 1, none⟩ = some (i64 f.q) ∧ w''.cell? ⟨X, 2, none⟩ = some (i64 f.d) ∧ w''.cell? ⟨X, 3, none⟩ = some (.slice ca f.cs.length cc) ∧ w''.cell? ⟨X, 4, none⟩ = some (.bool f.rs) ∧ w''.cell? ⟨X, 5, none⟩ = some (.bool f.an) ∧ Upd [] w3 w'' := fun w' hu => by
            refine (ring_deficit_c (H.out.upd0 ((HU0.out.trans' HU3.out).trans' hu)) hin64).mono ?_
            rintro e w'' ⟨rfl, rfl⟩
            obtain ⟨k0, k1, k2, k3, k4, k5⟩ := hk6 _ hu
            exact ⟨by rw [hde], k0, k1, k2, k3, k4, k5, hu⟩
          have hE : ∀ w', Upd [] w3 w' → Calls Try.prog 58 #[.agg #[.bool f.th, i64 f.q, i64 f.d, .slice ca f.cs.length cc, .bool f.rs, .bool f.an]] w' fun e w'' => e = .returned (i64 (sumI f.cs)) ∧ w''.cell? ⟨X, 0, none⟩ = some (.bool f.th) ∧ w''.cell? ⟨X, 1, none⟩ = some (i64 f.q) ∧ w''.cell? ⟨X, 2, none⟩ = some (i64 f.d) ∧ w''.cell? ⟨X, 3, none⟩ = some (.slice ca f.cs.length cc) ∧ w''.cell? ⟨X, 4, none⟩ = some (.bool f.rs) ∧ w''.cell? ⟨X, 5, none⟩ = some (.bool f.an) ∧ Upd [] w3 w'' := fun w' hu => by
            refine (rcost25_c f (HCS.out.upd0 hu) f1 (by omega)).mono ?_
            rintro e w'' ⟨rfl, hu2⟩
            obtain ⟨k0, k1, k2, k3, k4, k5⟩ := hk6 _ (hu.trans' hu2)
            exact ⟨rfl, k0, k1, k2, k3, k4, k5, hu.trans' hu2⟩
          obtain ⟨x0, x1, x2, x3, x4, x5⟩ := hk6 _ (Upd.refl _ _)
          have HW := Lib.hid hW
          have HC := Lib.hid hC
          have HD := Lib.hid hD
          have HE := Lib.hid hE
          clear hW hC hD hE hk6 hX3 hwt hco hde f1 f2
          generalize sumI f.cs = sm at *
          obtain ⟨th, q, d, cs, rs, an⟩ := f
          simp only at x0 x1 x2 x3 x4 x5 HW HC HD HE ⊢
          generalize cs.length = cl at *
          go_region_held3 (fun w' => w'.cell? ⟨X, 0, none⟩ = some (.bool th) ∧ w'.cell? ⟨X, 1, none⟩ = some (i64 q) ∧ w'.cell? ⟨X, 2, none⟩ = some (i64 d) ∧ w'.cell? ⟨X, 3, none⟩ = some (.slice ca cl cc) ∧ w'.cell? ⟨X, 4, none⟩ = some (.bool rs) ∧ w'.cell? ⟨X, 5, none⟩ = some (.bool an) ∧ Upd [] w3 w')
            ((first | exact ⟨x0, x1, x2, x3, x4, x5, Upd.refl _ _⟩ | exact ⟨x0, x1, x2, x3, x4, x5, (Upd.refl _ _).drew⟩ | exact ⟨j0, j1, j2, j3, j4, j5, jU⟩ | exact ⟨l0, l1, l2, l3, l4, l5, lU⟩ | exact ⟨m0, m1, m2, m3, m4, m5, mU⟩ | exact ⟨n0, n1, n2, n3, n4, n5, nU⟩))
            ((first
              | (go_at_call 18; (with_reducible refine Calls.mono (HW.out _ (by first | exact Upd.refl _ _ | exact (Upd.refl _ _).drew)) ?_); rintro e w4 ⟨rfl, j0, j1, j2, j3, j4, j5, jU⟩)
              | (go_at_call 27; (with_reducible refine Calls.mono (HC.out _ jU) ?_); rintro e w5 ⟨rfl, l0, l1, l2, l3, l4, l5, lU⟩)
              | (go_at_call 58; (with_reducible refine Calls.mono (HE.out _ lU) ?_); rintro e w6 ⟨rfl, m0, m1, m2, m3, m4, m5, mU⟩)
              | (go_at_call 17; (with_reducible refine Calls.mono (HD.out _ mU) ?_); rintro e w7 ⟨rfl, n0, n1, n2, n3, n4, n5, nU⟩)))
          clear x0 x1 x2 x3 x4 x5 j0 j1 j2 j3 j4 j5 l0 l1 l2 l3 l4 l5 m0 m1 m2 m3 m4 m5 n0 n1 n2 n3 n4 n5
          go_wp2_with (fail)
          go_roundw
          case rel => exact ⟨k + 1, by have := HIK.out; congr 1; omega, by have := HIK.out; omega, HU3.out.trans' nU⟩
          case measure => first | (simp [intOf]; omega) | (have := HIM.out; simp [intOf]; omega)
        · go_upto_region 7 with (fail)
          obtain ⟨X, hX⟩ : ∃ X, X = wr.heap.size := ⟨_, rfl⟩
          have hX3 : (wr.alloc (.cells #[.bool false, i64 0, i64 0, .slice none 0 0, .bool false, .bool false] 103)).heap[wr.heap.size]? = some (.cells #[.bool f.th, i64 f.q, i64 f.d, .slice none f.cs.length 0, .bool f.rs, .bool f.an] 103 (0, 0)) := by rw [hf]; exact heap_alloc_new _ _
          have hux := (Upd.refl [] wr).alloc (.cells #[.bool false, i64 0, i64 0, .slice none 0 0, .bool false, .bool false] 103)
          have HCS := Lib.hid (show Sub (wr.alloc (.cells #[.bool false, i64 0, i64 0, .slice none 0 0, .bool false, .bool false] 103)) 0 3 1 (.slice none f.cs.length 0) f.cs.length (f.cs.map i64) from by rw [hf]; exact sub_nil _ _ _ _)
          have HU3 := Lib.hid (hu.trans' hux)
          rw [← hX] at hX3 ⊢
          clear hX hux hu hf hno hA a0 a1 hsA
          generalize wr.alloc (.cells #[.bool false, i64 0, i64 0, .slice none 0 0, .bool false, .bool false] 103) = w3 at *
          obtain ⟨ca, cc, hX3, HCS⟩ : ∃ (ca : Option Addr) (cc : Nat), w3.heap[X]? = some (.cells #[.bool f.th, i64 f.q, i64 f.d, .slice ca f.cs.length cc, .bool f.rs, .bool f.an] 103 (0, 0)) ∧ Hid (Sub w3 0 3 1 (.slice ca f.cs.length cc) f.cs.length (f.cs.map i64)) := ⟨none, 0, hX3, HCS⟩
          have hin64 : inI i := ⟨by omega, by omega⟩
          have hk6 : ∀ w', Upd [] w3 w' → w'.cell? ⟨X, 0, none⟩ = some (.bool f.th) ∧ w'.cell? ⟨X, 1, none⟩ = some (i64 f.q) ∧ w'.cell? ⟨X, 2, none⟩ = some (i64 f.d) ∧ w'.cell? ⟨X, 3, none⟩ = some (.slice ca f.cs.length cc) ∧ w'.cell? ⟨X, 4, none⟩ = some (.bool f.rs) ∧ w'.cell? ⟨X, 5, none⟩ = some (.bool f.an) := fun w' hu => by
            obtain ⟨k0, k1, k2, k3, k4, k5, -⟩ := cells6 (hu.keep0 hX3)
            exact ⟨k0, k1, k2, k3, k4, k5⟩
          have hW : ∀ w', Upd [] w3 w' → Calls Try.prog 18 #[.pointer (some ⟨b, 0, none⟩), i64 i] w' fun e w'' => e = .returned (i64 f.cs.length) ∧ w''.cell? ⟨X, 0, none⟩ = some (.bool f.th) ∧ w''.cell? ⟨X, 1, none⟩ = some (i64 f.q) ∧ w''.cell? ⟨X, 2, none⟩ = some (i64 f.d) ∧ w''.cell? ⟨X, 3, none⟩ = some (.slice ca f.cs.length cc) ∧ w''.cell? ⟨X, 4, none⟩ = some (.bool f.rs) ∧ w''.cell? ⟨X, 5, none⟩ = some (.bool f.an) ∧ Upd [] w3 w'' := fun w' hu => by
            refine (ring_waits_c (H.out.upd0 ((HU0.out.trans' HU3.out).trans' hu)) hin64).mono ?_
            rintro e w'' ⟨rfl, rfl⟩
            obtain ⟨k0, k1, k2, k3, k4, k5⟩ := hk6 _ hu
            exact ⟨by rw [hwt], k0, k1, k2, k3, k4, k5, hu⟩
          have hC : ∀ w', Upd [] w3 w' → Calls Try.prog 27 #[.pointer (some ⟨b, 0, none⟩), i64 i] w' fun e w'' => e = .returned (i64 (sumI f.cs)) ∧ w''.cell? ⟨X, 0, none⟩ = some (.bool f.th) ∧ w''.cell? ⟨X, 1, none⟩ = some (i64 f.q) ∧ w''.cell? ⟨X, 2, none⟩ = some (i64 f.d) ∧ w''.cell? ⟨X, 3, none⟩ = some (.slice ca f.cs.length cc) ∧ w''.cell? ⟨X, 4, none⟩ = some (.bool f.rs) ∧ w''.cell? ⟨X, 5, none⟩ = some (.bool f.an) ∧ Upd [] w3 w'' := fun w' hu => by
            refine (ring_cost_c (H.out.upd0 ((HU0.out.trans' HU3.out).trans' hu)) hK hin64).mono ?_
            rintro e w'' ⟨rfl, rfl⟩
            obtain ⟨k0, k1, k2, k3, k4, k5⟩ := hk6 _ hu
            exact ⟨by rw [hco], k0, k1, k2, k3, k4, k5, hu⟩
          have hD : ∀ w', Upd [] w3 w' → Calls Try.prog 17 #[.pointer (some ⟨b, 0, none⟩), i64 i] w' fun e w'' => e = .returned (i64 f.d) ∧ w''.cell? ⟨X, 0, none⟩ = some (.bool f.th) ∧ w''.cell? ⟨X, 1, none⟩ = some (i64 f.q) ∧ w''.cell? ⟨X, 2, none⟩ = some (i64 f.d) ∧ w''.cell? ⟨X, 3, none⟩ = some (.slice ca f.cs.length cc) ∧ w''.cell? ⟨X, 4, none⟩ = some (.bool f.rs) ∧ w''.cell? ⟨X, 5, none⟩ = some (.bool f.an) ∧ Upd [] w3 w'' := fun w' hu => by
            refine (ring_deficit_c (H.out.upd0 ((HU0.out.trans' HU3.out).trans' hu)) hin64).mono ?_
            rintro e w'' ⟨rfl, rfl⟩
            obtain ⟨k0, k1, k2, k3, k4, k5⟩ := hk6 _ hu
            exact ⟨by rw [hde], k0, k1, k2, k3, k4, k5, hu⟩
          have hE : ∀ w', Upd [] w3 w' → Calls Try.prog 58 #[.agg #[.bool f.th, i64 f.q, i64 f.d, .slice ca f.cs.length cc, .bool f.rs, .bool f.an]] w' fun e w'' => e = .returned (i64 (sumI f.cs)) ∧ w''.cell? ⟨X, 0, none⟩ = some (.bool f.th) ∧ w''.cell? ⟨X, 1, none⟩ = some (i64 f.q) ∧ w''.cell? ⟨X, 2, none⟩ = some (i64 f.d) ∧ w''.cell? ⟨X, 3, none⟩ = some (.slice ca f.cs.length cc) ∧ w''.cell? ⟨X, 4, none⟩ = some (.bool f.rs) ∧ w''.cell? ⟨X, 5, none⟩ = some (.bool f.an) ∧ Upd [] w3 w'' := fun w' hu => by
            refine (rcost25_c f (HCS.out.upd0 hu) f1 (by omega)).mono ?_
            rintro e w'' ⟨rfl, hu2⟩
            obtain ⟨k0, k1, k2, k3, k4, k5⟩ := hk6 _ (hu.trans' hu2)
            exact ⟨rfl, k0, k1, k2, k3, k4, k5, hu.trans' hu2⟩
          obtain ⟨x0, x1, x2, x3, x4, x5⟩ := hk6 _ (Upd.refl _ _)
          have HW := Lib.hid hW
          have HC := Lib.hid hC
          have HD := Lib.hid hD
          have HE := Lib.hid hE
          clear hW hC hD hE hk6 hX3 hwt hco hde f1 f2
          generalize sumI f.cs = sm at *
          obtain ⟨th, q, d, cs, rs, an⟩ := f
          simp only at x0 x1 x2 x3 x4 x5 HW HC HD HE ⊢
          generalize cs.length = cl at *
          go_region_held3 (fun w' => w'.cell? ⟨X, 0, none⟩ = some (.bool th) ∧ w'.cell? ⟨X, 1, none⟩ = some (i64 q) ∧ w'.cell? ⟨X, 2, none⟩ = some (i64 d) ∧ w'.cell? ⟨X, 3, none⟩ = some (.slice ca cl cc) ∧ w'.cell? ⟨X, 4, none⟩ = some (.bool rs) ∧ w'.cell? ⟨X, 5, none⟩ = some (.bool an) ∧ Upd [] w3 w')
            ((first | exact ⟨x0, x1, x2, x3, x4, x5, Upd.refl _ _⟩ | exact ⟨x0, x1, x2, x3, x4, x5, (Upd.refl _ _).drew⟩ | exact ⟨j0, j1, j2, j3, j4, j5, jU⟩ | exact ⟨l0, l1, l2, l3, l4, l5, lU⟩ | exact ⟨m0, m1, m2, m3, m4, m5, mU⟩ | exact ⟨n0, n1, n2, n3, n4, n5, nU⟩))
            ((first
              | (go_at_call 18; (with_reducible refine Calls.mono (HW.out _ (by first | exact Upd.refl _ _ | exact (Upd.refl _ _).drew)) ?_); rintro e w4 ⟨rfl, j0, j1, j2, j3, j4, j5, jU⟩)
              | (go_at_call 27; (with_reducible refine Calls.mono (HC.out _ jU) ?_); rintro e w5 ⟨rfl, l0, l1, l2, l3, l4, l5, lU⟩)
              | (go_at_call 58; (with_reducible refine Calls.mono (HE.out _ lU) ?_); rintro e w6 ⟨rfl, m0, m1, m2, m3, m4, m5, mU⟩)
              | (go_at_call 17; (with_reducible refine Calls.mono (HD.out _ mU) ?_); rintro e w7 ⟨rfl, n0, n1, n2, n3, n4, n5, nU⟩)))
          clear x0 x1 x2 x3 x4 x5 j0 j1 j2 j3 j4 j5 l0 l1 l2 l3 l4 l5 m0 m1 m2 m3 m4 m5 n0 n1 n2 n3 n4 n5
          go_wp2_with (fail)
          go_roundw
          case rel => exact ⟨k + 1, by have := HIK.out; congr 1; omega, by have := HIK.out; omega, HU3.out.trans' nU⟩
          case measure => first | (simp [intOf]; omega) | (have := HIM.out; simp [intOf]; omega)
    · have hact : ∀ w', Upd [] wr w' → Calls Try.prog 16 #[.pointer (some ⟨b, 0, none⟩)] w' fun e w'' => ∃ ao cp, e = .returned (.slice ao r.row.length cp) ∧ w''.cell? ⟨A, 1, none⟩ = some (.slice ra r.row.length rc) ∧ Upd [] wr w'' ∧ Ints w'' (.slice ao r.row.length cp) r.row := fun w' hu2 => by
        refine (ring_active_c (H.out.upd0 ((HU0.out.trans' hu).trans' hu2))).mono ?_
        rintro e w'' ⟨v, rfl, g1, g2⟩
        obtain ⟨ao, cp, rfl, -⟩ := g1.form
        have hx := hu2.trans' g2
        exact ⟨ao, cp, rfl, (cells2 (hx.keep0 hA)).2.1, hx, g1.mono (Nat.zero_le _)⟩
      have hin := fun (w' : World) (ao : Option Addr) (cp : Nat) (hx : Upd [] wr w') (hi : Ints w' (.slice ao r.row.length cp) r.row) => rints_c hi (HI.out.upd0 ((HU0.out.trans' hu).trans' hx)) (by have := HLEN.out; omega)
      have hin2 : ∀ (w' : World) (ao : Option Addr) (cp : Nat), Upd [] wr w' → Ints w' (.slice ao r.row.length cp) r.row → Calls Try.prog 59 #[.slice ao r.row.length cp, .slice ra r.row.length rc] w' fun e w'' => e = .returned (.bool true) ∧ w''.cell? ⟨A, 1, none⟩ = some (.slice ra r.row.length rc) ∧ Upd [] wr w'' := fun w' ao cp hx hi => by
        refine (hin w' ao cp hx hi).mono ?_
        rintro e w'' ⟨rfl, g2⟩
        have hx2 := hx.trans' g2
        exact ⟨rfl, (cells2 (hx2.keep0 hA)).2.1, hx2⟩
      have HACT := Lib.hid hact
      have HIN := Lib.hid hin2
      have HUR := Lib.hid (HU0.out.trans' hu)
      clear hact hin hin2 hA hu
      go_wp2_with (fail)
      go_region_held3 (fun w' => w'.cell? ⟨A, 1, none⟩ = some (.slice ra r.row.length rc) ∧ Upd [] wr w')
        ((first | exact ⟨a1, Upd.refl _ _⟩ | exact ⟨a1, (Upd.refl _ _).drew⟩ | exact ⟨b1, bU⟩ | exact ⟨c1, cU⟩))
        ((first
          | (go_at_call 16; (with_reducible refine Calls.mono (HACT.out _ (by first | exact Upd.refl _ _ | exact (Upd.refl _ _).drew)) ?_); rintro e w4 ⟨ao4, cp4, rfl, b1, bU, bI⟩)
          | (go_at_call 59; (with_reducible refine Calls.mono (HIN.out _ _ _ bU bI) ?_); rintro e w5 ⟨rfl, c1, cU⟩)))
      go_wp2_with (fail)
      exact hR.out _ _ ⟨rfl, HUR.out.trans' cU⟩
end Go.Proofs.Ytabhdigannalgaa
