/-
  FlowsOrder: the items of an owner come out in the order in which they went in, each once, or are dropped, and a turn is nobody's just if nobody that does not rest has any. For every list of steps. No condition.
-/
import Derived.Test.YtabhdigannalgaaFlwStp
import Derived.Deep.RegionHeld3
import Derived.Deep.RegionLaw
import Derived.Deep.DeepCutAuto
import Derived.Deep.CutBlock
namespace Go.Proofs.Ytabhdigannalgaa
open Go Go.RowKit Go.Maps Go.ChangeShapes Go.WideShapes Go.ChangeAt

theorem info_its : (Try.prog.info? 60).map (fun i => (i.zero, i.size, i.bytes)) = some (some (.slice none 0 0), 1, 24) := by kernel_rfl
theorem info_booF : (Try.prog.info? 4).map (fun i => (i.zero, i.size, i.bytes)) = some (some (.bool false), 1, 1) := by kernel_rfl
theorem UpdP.undrew {Z : Nat → Prop} {w w' : World} (h : UpdP Z w.drew w') : UpdP Z w w' := by
  obtain ⟨S, h, hs⟩ := h
  exact ⟨S, ⟨h.os, h.tape, h.output, h.size, h.block⟩, hs⟩
theorem umod_natF (x : Int) : ∃ m : Nat, wrap64 ((IntKind.u64.wrap x).tmod 9) = (m : Int) ∧ m < 9 := by
  obtain ⟨y, h, h0, h1⟩ := umod_in x 9 (by omega)
  exact ⟨y.toNat, by rw [h]; omega, by omega⟩

set_option maxRecDepth 100000 in
set_option maxHeartbeats 8000000 in
theorem flowsOrder_c (ao : Option Addr) (cap : Nat) (l : List FStp) (w : World) (hcap : l.length ≤ maxLen) (hao : l = [] ∨ ∃ b off, ao = some ⟨b, off, none⟩ ∧ RowsAt w b off 8 FStp.cells l ∧ b < w.heap.size) (hgood : ∀ x ∈ l, x.good) :
    Trues 7 #[.slice ao l.length cap] w := by
  unfold Trues
  have HM := Lib.hid (fmuch_c ao cap l w hcap hao hgood)
  have HAO := Lib.hid hao
  have HGood := Lib.hid hgood
  clear hao hgood hcap
  obtain ⟨i1, hi1, hy0, hy1, hy2⟩ := info_parts info_its
  obtain ⟨i2, hi2, hx0, hx1, hx2⟩ := info_parts info_booF
  have hmk1 : ∀ wx, (Instr.makeSlice 64 (i64 9) (i64 9)).run Try.prog wx = .ok (.slice (some ⟨wx.heap.size, 0, none⟩) 9 9) (wx.alloc (.cells nilI9.toArray 60)) := by
    intro wx
    have := run_make (P := Try.prog) wx 64 60 i1 _ Try.underlying64 hi1 hy0 .i64 .i64 9 9 (by omega) (by omega) (by rw [hy2]; omega) (by omega)
    rw [this, hy1, show (madeCells (Value.slice none 0 0).cells (Int.toNat 9 * 1)) = nilI9.toArray from by kernel_rfl]; rfl
  have hmk2 : ∀ wx, (Instr.makeSlice 30 (i64 9) (i64 9)).run Try.prog wx = .ok (.slice (some ⟨wx.heap.size, 0, none⟩) 9 9) (wx.alloc (.cells (bcl fun _ => false).toArray 4)) := by
    intro wx
    have := run_make (P := Try.prog) wx 30 4 i2 _ Try.underlying30 hi2 hx0 .i64 .i64 9 9 (by omega) (by omega) (by rw [hx2]; omega) (by omega)
    rw [this, hx1, show (madeCells (Value.bool false).cells (Int.toNat 9 * 1)) = (bcl fun _ => false).toArray from by kernel_rfl]; rfl
  clear hi1 hy0 hy1 hy2 hi2 hx0 hx1 hx2
  obtain ⟨i0, hi, hz0, hz1, hz2⟩ := info_parts info_item
  refine post fun R hR => ?_
  go_enter Try.func7, Try.ntmps7
  go_wp2_with (fail)
  refine HM.out.mono ?_
  rintro e w1 ⟨x, rfl, hx, rfl⟩
  clear HM
  cases x with
  | true =>
    clear hmk1 hmk2
    go_wp2_with (fail)
    refine Calls.mono (flwAwake_c _) ?_
    rintro e w5 ⟨rfl, hu5⟩
    go_wp2_with (fail)
    exact hR.out _ _ ⟨rfl, hu5⟩
  | false =>
    have hlen := hx rfl
    clear hx
    go_upto_region 4 with (fail)
    have hF1 := fwAt_new (heap_alloc_new w (.cells #[.map none, .slice none 0 0, .slice none 0 0, .slice none 0 0, .slice none 0 0, .slice none 0 0, .slice none 0 0, .slice none 0 0, .slice none 0 0, .slice none 0 0, .slice none 0 0] 63)) (Z := fun x => x = w.heap.size) rfl
    have hu1 := (Upd.refl [] w).alloc (.cells #[.map none, .slice none 0 0, .slice none 0 0, .slice none 0 0, .slice none 0 0, .slice none 0 0, .slice none 0 0, .slice none 0 0, .slice none 0 0, .slice none 0 0, .slice none 0 0] 63)
    have hs1 : (w.alloc (.cells #[.map none, .slice none 0 0, .slice none 0 0, .slice none 0 0, .slice none 0 0, .slice none 0 0, .slice none 0 0, .slice none 0 0, .slice none 0 0, .slice none 0 0, .slice none 0 0] 63)).heap.size = w.heap.size + 1 := Array.size_push _
    generalize w.alloc (.cells #[.map none, .slice none 0 0, .slice none 0 0, .slice none 0 0, .slice none 0 0, .slice none 0 0, .slice none 0 0, .slice none 0 0, .slice none 0 0, .slice none 0 0, .slice none 0 0] 63) = w1 at *
    obtain ⟨B, hBe⟩ : ∃ B, B = w.heap.size := ⟨_, rfl⟩
    rw [← hBe] at hF1 ⊢
    have HZ1 := Lib.hid hs1
    have HBEQ := Lib.hid hBe
    clear hs1 hBe
    go_upto_region 5 with (fail)
    have hA2 := heap_alloc_new w1 (.cells nilI9.toArray 60)
    have hu2 := hu1.alloc (.cells nilI9.toArray 60)
    have hF2 := hF1.upd0 ((Upd.refl [] w1).alloc (.cells nilI9.toArray 60))
    have hs2 : (w1.alloc (.cells nilI9.toArray 60)).heap.size = w1.heap.size + 1 := Array.size_push _
    clear hF1 hu1
    generalize w1.alloc (.cells nilI9.toArray 60) = w2 at *
    obtain ⟨A, hAe⟩ : ∃ A, A = w1.heap.size := ⟨_, rfl⟩
    rw [← hAe] at hA2 hs2 ⊢
    have HZ2 := Lib.hid hs2
    have HAEQ := Lib.hid hAe
    clear hs2 hAe
    go_upto_region 6 with (fail)
    have hT3 := heap_alloc_new w2 (.cells (bcl fun _ => false).toArray 4)
    have hA3 := heap_alloc_old hA2 (.cells (bcl fun _ => false).toArray 4)
    have hu3 := hu2.alloc (.cells (bcl fun _ => false).toArray 4)
    have hF3 := hF2.upd0 ((Upd.refl [] w2).alloc (.cells (bcl fun _ => false).toArray 4))
    have hs3 : (w2.alloc (.cells (bcl fun _ => false).toArray 4)).heap.size = w2.heap.size + 1 := Array.size_push _
    clear hF2 hu2 hA2
    generalize w2.alloc (.cells (bcl fun _ => false).toArray 4) = w3 at *
    obtain ⟨T, hTe⟩ : ∃ T, T = w2.heap.size := ⟨_, rfl⟩
    rw [← hTe] at hT3 hs3 ⊢
    have HZ3 := Lib.hid hs3
    have HTEQ := Lib.hid hTe
    clear hs3 hTe
    go_upto_region 7 with (fail)
    have hR4 := heap_alloc_new w3 (.cells (bcl fun _ => false).toArray 4)
    have hA4 := heap_alloc_old hA3 (.cells (bcl fun _ => false).toArray 4)
    have hT4 := heap_alloc_old hT3 (.cells (bcl fun _ => false).toArray 4)
    have hu4 := hu3.alloc (.cells (bcl fun _ => false).toArray 4)
    have hF4 := hF3.upd0 ((Upd.refl [] w3).alloc (.cells (bcl fun _ => false).toArray 4))
    clear hF3 hu3 hA3 hT3
    generalize w3.alloc (.cells (bcl fun _ => false).toArray 4) = w4 at *
    obtain ⟨Rb, hRe⟩ : ∃ Rb, Rb = w3.heap.size := ⟨_, rfl⟩
    rw [← hRe] at hR4 ⊢
    have hs1 := HZ1.out
    have hs2 := HZ2.out
    have hs3 := HZ3.out
    have hBe := HBEQ.out
    have hAe := HAEQ.out
    have hTe := HTEQ.out
    clear HZ1 HZ2 HZ3 HBEQ HAEQ HTEQ
    have hBw : w.heap.size ≤ B := by omega
    have hAw : w.heap.size ≤ A := by omega
    have hTw : w.heap.size ≤ T := by omega
    have hRw : w.heap.size ≤ Rb := by omega
    have hO4 := ownF_new (base := w.heap.size) (Z := fun x => x = B) hA4 hT4 hR4 (by omega) (by show ¬ A = B; omega) (by show ¬ T = B; omega) (by show ¬ Rb = B; omega)
    have hZ4 : ∀ x, (fun x : Nat => x = B) x → w.heap.size ≤ x := fun x (hx : x = B) => by omega
    generalize (fun x : Nat => x = B) = Z4 at *
    clear hA4 hT4 hR4 hBe hAe hTe hRe hs1 hs2 hs3 hmk1 hmk2 w1 w2 w3
    go_wp2_with (fail)
    go_loopw [7] (fun i wr => ∃ (k : Nat) (r : Rg) (Z : Nat → Prop) (cvs : List Value) (F : Nat → List It) (H G : Nat → Bool), i = i64 k ∧ k ≤ l.length ∧ FwAt wr Z B k r F ∧ Bk r H G ∧ Own wr w.heap.size Z A T Rb cvs F H G ∧ (∀ x, Z x → w.heap.size ≤ x) ∧ Upd [] w wr) (fun i _ => l.length - (intOf i).toNat)
    case atStart => exact ⟨0, Rg.new, Z4, nilI9, _, _, _, rfl, Nat.zero_le _, hF4, bk_new, hO4, hZ4, hu4⟩
    case round =>
      clear hF4 hO4 hZ4 hu4 Z4
      obtain ⟨k, r, Z, cvs, F, H, G, rfl, hk, hA, hQ, hN, hZ, hu⟩ := hrel
      by_cases hlt : k < l.length
      · obtain ⟨b, off, rfl, hrows, hb⟩ : ∃ b off, ao = some ⟨b, off, none⟩ ∧ RowsAt w b off 8 FStp.cells l ∧ b < w.heap.size := by
          rcases HAO.out with e | e
          · rw [e] at hlt; simp at hlt
          · exact e
        obtain ⟨c0, c1, c2, c3, c4, c5, c6, c7⟩ := fsrow hrows hu hb hlt
        obtain ⟨g1, g2, g3, g4⟩ := HGood.out l[k] (List.getElem_mem hlt)
        have hbw : b < wr.heap.size := Nat.lt_of_lt_of_le hb hu.size
        generalize l[k].kind = kd at *
        generalize l[k].o = o at *
        generalize l[k].n = n at *
        generalize l[k].x = x at *
        obtain ⟨f, hf, hf9⟩ := umod_natF o
        have hfI : inI (f : Int) := by unfold inI; omega
        have HA := Lib.hid hA
        have HQ := Lib.hid hQ
        have HN := Lib.hid hN
        have HZ := Lib.hid hZ
        have HU := Lib.hid hu
        clear hA hQ hN hZ hu hrows
        go_upto_region 11 with (fail)
        have hS3 := heap_alloc_new wr (.cells #[i64 kd, i64 o, i64 n, i64 x.c, i64 x.k, i64 x.f, .string x.b, i64 x.a] 70)
        have hux := (Upd.refl [] wr).alloc (.cells #[i64 kd, i64 o, i64 n, i64 x.c, i64 x.k, i64 x.f, .string x.b, i64 x.a] 70)
        have hA3 := HA.out.cut.upd0 hux
        have hN3 := HN.out.step hux
        have hu3 := HU.out.trans' hux
        have hZ3 : ∀ x, cutZ Z wr x → w.heap.size ≤ x := fun x q => HZ.out x q.1
        have hSZ : ¬ cutZ Z wr wr.heap.size := fun q => by have := q.2; omega
        clear HA HN HU HZ hux c0 c1 c2 c3 c4 c5 c6 c7
        generalize wr.alloc (.cells #[i64 kd, i64 o, i64 n, i64 x.c, i64 x.k, i64 x.f, .string x.b, i64 x.a] 70) = w3 at *
        generalize cutZ Z wr = Z3 at *
        generalize wr.heap.size = S at *
        have hlS := lt_of_heap hS3
        have e0 : w3.cell? ⟨S, 0, none⟩ = some (i64 kd) := cellOf hS3 0
        have e1 : w3.cell? ⟨S, 1, none⟩ = some (i64 o) := cellOf hS3 1
        have HA3 := Lib.hid hA3
        have HN3 := Lib.hid hN3
        have HU3 := Lib.hid hu3
        have HZ3 := Lib.hid hZ3
        have HS3 := Lib.hid hS3
        have HSZ := Lib.hid hSZ
        clear hA3 hN3 hu3 hZ3 hS3 hSZ hbw
        go_upto_region 12 with (fail)
        simp only [hf]
        have hFl : (F f).length ≤ k := by
          obtain ⟨-, _, _, hX⟩ := HA3.out
          exact hX.len f hf9
        clear hf e1 hlS
        have hfi9 : (f : Int) < 9 := by omega
        have hfi0 : (0 : Int) ≤ (f : Int) := by omega
        by_cases k1 : kd = 1
        · subst k1
          as_aux_lemma =>
            have hset := fset_c HA3.out (by omega) f (1040 + (f : Int))
            rw [show setE (f : Int) (1040 + (f : Int)) = 0 from by unfold setE; rw [if_neg (by omega)]] at hset
            have HS := Lib.hid hset
            clear hset
            go_upto_region 28 with (go_at_call 30; refine HS.out.mono ?_; rintro e w4 ⟨rfl, hp, hA4⟩)
            have hN4 := HN3.out.ringed hp
            have hs := HU3.out.size
            have hu4 := HU3.out.transP hp HZ3.out
            have hZ4 : ∀ x, grow Z3 w3 x → w.heap.size ≤ x := fun x hx => hx.elim (HZ3.out x) (Nat.le_trans hs)
            obtain ⟨v, hv, a0, a1, b0, b1, d0, d1⟩ := hN4.get hf9
            obtain ⟨hN5, hux⟩ := hN4.there f true
            have hA5 := hA4.upd hux (fun y hy => by simp at hy; subst hy; exact hN4.zT)
            have hu5 : Upd [] w _ := hu4.trans hux (fun y hy => .inr (by simp at hy; subst hy; exact hTw))
            have HA9 := Lib.hid hA5
            have HN9 := Lib.hid hN5
            have HZ9 := Lib.hid hZ4
            have HU9 := Lib.hid hu5
            clear hN4 hN5 hu4 hZ4 hA4 hA5 hp hux hu5 hs hv a0 a1 d0 d1 e0
            go_wp2_with (fail)
            go_roundw
            case rel => exact ⟨k + 1, _, _, cvs, F, _, G, by go_num, by omega, HA9.out, bk_set HQ.out hf9 (by omega), HN9.out, HZ9.out, HU9.out⟩
            case measure => simp [intOf]; omega
        · by_cases k2 : kd = 2
          · subst k2
            as_aux_lemma =>
              have hdr := fdrop_c (HA3.out.upd0 ((Upd.refl [] w3).drew)) (by omega) hfI
              have hrI : rowI F (f : Int) = F f := by unfold rowI; rw [if_pos (by omega)]; rfl
              have hdI : dropI F (f : Int) = updN F f [] := by unfold dropI; rw [if_pos (by omega)]; rfl
              rw [hrI, hdI] at hdr
              clear hrI hdI
              obtain ⟨v, hv, a0, a1, b0, b1, d0, d1⟩ := HN3.out.get hf9
              have hdr2 : Calls Try.prog 32 #[.pointer (some ⟨B, 0, none⟩), i64 f] w3.drew fun e w' => ∃ v2, e = .returned v2 ∧ Sub w' w3.drew.heap.size 74 5 v2 (F f).length (ics (F f)) ∧ w'.cell? ⟨A, f, none⟩ = some v ∧ UpdP Z3 w3 w' ∧ FwAt w' (grow Z3 w3) B (k + 1) (r.drop f) (updN F f []) ∧ Own w' w.heap.size (grow Z3 w3) A T Rb cvs F H G := by
                refine hdr.mono ?_
                rintro e w' ⟨v2, rfl, h1, hp, h2⟩
                have hp2 : UpdP Z3 w3 w' := hp.undrew
                have hN := HN3.out.ringed hp2
                refine ⟨v2, rfl, h1, ?_, hp2, h2, hN⟩
                rw [cellOf hN.hA f, List.getElem?_toArray]; exact hv
              have HDR := Lib.hid hdr2
              have HV := Lib.hid hv
              have HFL := Lib.hid (Nat.le_trans hFl (by omega) : (F f).length ≤ 1000)
              clear hdr hdr2 hv a1 b0 b1 d0 d1
              go_wp2_with (fail)
              go_region_held3 (fun w' => w'.cell? ⟨A, f, none⟩ = some v)
                ((first | exact a0 | exact hc4 | exact hc5))
                ((first
                  | (go_at_call 32; (with_reducible refine Calls.mono (HDR.out) ?_); rintro e w4 ⟨v2, rfl, hs4, hc4, hp4, hA4, hN4⟩)
                  | (go_at_call 31; (with_reducible refine Calls.mono (fequal_c (F f) hs4 (hN4.sub f v HV.out) HFL.out) ?_); rintro e w5 ⟨rfl, hu5⟩; have hN5 := hN4.step0 hu5; have hA5 := hA4.upd0 hu5; have hc5 := (by rw [cellOf hN5.hA f, List.getElem?_toArray]; exact HV.out : w5.cell? ⟨A, f, none⟩ = some v))))
              have hs := HU3.out.size
              have hu5' := (HU3.out.transP hp4 HZ3.out).trans' hu5
              have hZ5 : ∀ x, grow Z3 w3 x → w.heap.size ≤ x := fun x hx => hx.elim (HZ3.out x) (Nat.le_trans hs)
              have hput := hN5.put HV.out (v' := .slice none 0 0) (l := []) (Upd.refl (blkL v) w5) (sub_nil _ _ _ _) (by simp [blkL])
              have hA6 := hA5.cut.upd hput.2 (hN5.off HV.out)
              have hu6 : Upd [] w _ := hu5'.trans hput.2 (fun y hy => .inr (by
                rcases List.mem_cons.1 hy with q | q
                · subst q; exact hAw
                · exact ((hN5.sub f v HV.out).lt y q).1))
              have hN6 := hput.1
              have a1 := frzOf hN5.hA f
              have HA6 := Lib.hid hA6
              have HN6 := Lib.hid hN6
              have HU6 := Lib.hid hu6
              have HZ6 := Lib.hid (fun x q => hZ5 x q.1 : ∀ x, cutZ (grow Z3 w3) w5 x → w.heap.size ≤ x)
              clear hA6 hN6 hu6 hZ5 hput hN5 hA5 hu5' hu5 hN4 hA4 hp4 hs4 hc4 a0 hs e0
              go_upto_region 33 with (fail)
              generalize w5.setCell ⟨A, f, none⟩ (.slice none 0 0) = w6 at *
              generalize cutZ (grow Z3 w3) w5 = Z6 at *
              clear a1 hc5
              obtain ⟨v', hv', -, -, b0, b1, -, -⟩ := HN6.out.get hf9
              obtain ⟨hN7, hux⟩ := HN6.out.there f false
              have hA7 := HA6.out.upd hux (fun y hy => by simp at hy; subst hy; exact HN6.out.zT)
              have hu7 : Upd [] w _ := HU6.out.trans hux (fun y hy => .inr (by simp at hy; subst hy; exact hTw))
              have HA7 := Lib.hid hA7
              have HN7 := Lib.hid hN7
              have HU7 := Lib.hid hu7
              clear hux hA7 hN7 hu7 hv' HA6 HN6 HU6
              go_upto_region 34 with (fail)
              generalize w6.setCell ⟨T, f, none⟩ (.bool false) = w7 at *
              clear b0 b1
              obtain ⟨v'', hv'', -, -, -, -, d0, d1⟩ := HN7.out.get hf9
              obtain ⟨hN8, hux⟩ := HN7.out.rest f false
              have hA8 := HA7.out.upd hux (fun y hy => by simp at hy; subst hy; exact HN7.out.zR)
              have hu8 : Upd [] w _ := HU7.out.trans hux (fun y hy => .inr (by simp at hy; subst hy; exact hRw))
              have HA9 := Lib.hid hA8
              have HN9 := Lib.hid hN8
              have HZ9 := Lib.hid HZ6.out
              have HU9 := Lib.hid hu8
              clear hux hA8 hN8 hu8 hv''
              go_wp2_with (fail)
              go_roundw
              case rel => exact ⟨k + 1, _, _, _, _, _, _, by go_num, by omega, HA9.out, bk_drop HQ.out f, HN9.out, HZ9.out, HU9.out⟩
              case measure => simp [intOf]; omega
          · by_cases k3 : kd = 3
            · subst k3
              as_aux_lemma =>
                have hre := restE_bk HQ.out hf9
                have hrs := frest_c (HA3.out.upd0 ((Upd.refl [] w3).drew)) (by omega) hfI (n.tmod 2 != 0)
                obtain ⟨v, hv, a0, a1, b0, b1, d0, d1⟩ := HN3.out.get hf9
                have hq3 := bk_rest HQ.out hf9 (n.tmod 2 != 0)
                have e2 : w3.cell? ⟨S, 2, none⟩ = some (i64 n) := cellOf HS3.out 2
                generalize r.restE f = re at *
                have hrs2 : Calls Try.prog 33 #[.pointer (some ⟨B, 0, none⟩), i64 f, .bool (n.tmod 2 != 0)] w3.drew fun e w' => e = .returned (i64 re) ∧ w'.cell? ⟨S, 2, none⟩ = some (i64 n) ∧ w'.cell? ⟨T, f, none⟩ = some (.bool (H f)) ∧ UpdP Z3 w3 w' ∧ FwAt w' (grow Z3 w3) B (k + 1) (r.rest f (n.tmod 2 != 0)) F ∧ Own w' w.heap.size (grow Z3 w3) A T Rb cvs F H G ∧ w'.heap[S]? = some (.cells #[i64 3, i64 o, i64 n, i64 x.c, i64 x.k, i64 x.f, .string x.b, i64 x.a] 70 (0, 0)) := by
                  refine hrs.mono ?_
                  rintro e w' ⟨rfl, hp, h2⟩
                  have hp2 : UpdP Z3 w3 w' := hp.undrew
                  have hN := HN3.out.ringed hp2
                  have hS := hp2.keep HS3.out HSZ.out
                  obtain ⟨v', hv', -, -, q0, -⟩ := hN.get hf9
                  exact ⟨rfl, cellOf hS 2, q0, hp2, h2, hN, hS⟩
                cases hH : H f with
                | true =>
                  rw [hH] at hre b0 hrs2 hq3
                  have HRS := Lib.hid hrs2
                  have HQ3 := Lib.hid hq3
                  have HH := Lib.hid hH
                  clear hrs2 hq3 hH hrs a0 a1 b1 d0 d1
                  go_wp2_with (fail)
                  clear e0
                  go_region_held3 (fun w' => w'.cell? ⟨S, 2, none⟩ = some (i64 n) ∧ w'.cell? ⟨T, f, none⟩ = some (.bool true))
                    ((first | exact ⟨e2, b0⟩ | exact ⟨hc4, hc5⟩))
                    ((first
                      | (go_at_call 33; (with_reducible refine Calls.mono (HRS.out) ?_); rintro e w4 ⟨rfl, hc4, hc5, hp4, hA4, hN4, hS4⟩)))
                  have hs := HU3.out.size
                  have hu4 := HU3.out.transP hp4 HZ3.out
                  have hZ4 : ∀ x, grow Z3 w3 x → w.heap.size ≤ x := fun x hx => hx.elim (HZ3.out x) (Nat.le_trans hs)
                  obtain ⟨v', hv', -, -, b0', b1', d0, d1⟩ := hN4.get hf9
                  obtain ⟨hN5, hux⟩ := hN4.rest f (n.tmod 2 != 0)
                  have hA5 := hA4.upd hux (fun y hy => by simp at hy; subst hy; exact hN4.zR)
                  have hu5 : Upd [] w _ := hu4.trans hux (fun y hy => .inr (by simp at hy; subst hy; exact hRw))
                  have HA9 := Lib.hid hA5
                  have HN9 := Lib.hid hN5
                  have HZ9 := Lib.hid hZ4
                  have HU9 := Lib.hid hu5
                  clear b0 b0' b1' hN5 hux hA5 hu5 hN4 hA4 hp4 hS4 hu4 hZ4 hv' hs e2
                  go_wp2_with (fail)
                  go_roundw
                  case rel => exact ⟨k + 1, _, _, cvs, F, H, _, by go_num, by omega, HA9.out, (by have := HQ3.out; simpa using this), HN9.out, HZ9.out, HU9.out⟩
                  case measure => simp [intOf]; omega
                | false =>
                  rw [hH] at hre b0 hrs2 hq3
                  have HRS := Lib.hid hrs2
                  have HQ3 := Lib.hid hq3
                  have HH := Lib.hid hH
                  clear hrs2 hq3 hH hrs a0 a1 b1 d0 d1
                  go_wp2_with (fail)
                  clear e0
                  go_region_held3 (fun w' => w'.cell? ⟨S, 2, none⟩ = some (i64 n) ∧ w'.cell? ⟨T, f, none⟩ = some (.bool false))
                    ((first | exact ⟨e2, b0⟩ | exact ⟨hc4, hc5⟩))
                    ((first
                      | (go_at_call 33; (with_reducible refine Calls.mono (HRS.out) ?_); rintro e w4 ⟨rfl, hc4, hc5, hp4, hA4, hN4, hS4⟩)))
                  have hs := HU3.out.size
                  have hu4 := HU3.out.transP hp4 HZ3.out
                  have hZ4 : ∀ x, grow Z3 w3 x → w.heap.size ≤ x := fun x hx => hx.elim (HZ3.out x) (Nat.le_trans hs)
                  obtain ⟨v', hv', -, -, b0', b1', d0, d1⟩ := hN4.get hf9
                  obtain ⟨hN5, hux⟩ := hN4.rest f (false)
                  have hA5 := hA4.upd hux (fun y hy => by simp at hy; subst hy; exact hN4.zR)
                  have hu5 : Upd [] w _ := hu4.trans hux (fun y hy => .inr (by simp at hy; subst hy; exact hRw))
                  have HA9 := Lib.hid hA5
                  have HN9 := Lib.hid hN5
                  have HZ9 := Lib.hid hZ4
                  have HU9 := Lib.hid hu5
                  clear b0 b0' b1' hN5 hux hA5 hu5 hN4 hA4 hp4 hS4 hu4 hZ4 hv' hs e2
                  go_wp2_with (fail)
                  go_roundw
                  case rel => exact ⟨k + 1, _, _, cvs, F, H, _, by go_num, by omega, HA9.out, (by have := HQ3.out; simpa using this), HN9.out, HZ9.out, HU9.out⟩
                  case measure => simp [intOf]; omega
            · by_cases k4 : kd = 4
              · subst k4
                have hpe := pushE_bk HQ.out hf9 (c := x.cost) (by have := x.cost_bd; omega)
                have hpI := pushI_bk HQ.out hf9 F x
                have HQ4 := Lib.hid (bk_push HQ.out hf9 x.cost)
                obtain ⟨v, hv, a0, a1, b0, b1, d0, d1⟩ := HN3.out.get hf9
                have ho := fun w => ours_c x w
                have hps : ∀ w', Upd [] w3 w' → Calls Try.prog 34 #[.pointer (some ⟨B, 0, none⟩), i64 f, iv x] w' fun e w'' => e = .returned (i64 (r.pushE f x.cost)) ∧ (w''.cell? ⟨S, 3, none⟩ = some (i64 x.c) ∧ w''.cell? ⟨S, 4, none⟩ = some (i64 x.k) ∧ w''.cell? ⟨S, 5, none⟩ = some (i64 x.f) ∧ w''.cell? ⟨S, 6, none⟩ = some (.string x.b) ∧ w''.cell? ⟨S, 7, none⟩ = some (i64 x.a) ∧ w''.cell? ⟨T, f, none⟩ = some (.bool (H f))) ∧ UpdP Z3 w3 w'' ∧ FwAt w'' (grow Z3 w3) B (k + 1) (r.push f x.cost) (pushI r F f x) ∧ Own w'' w.heap.size (grow Z3 w3) A T Rb cvs F H G ∧ w''.heap[S]? = some (.cells #[i64 4, i64 o, i64 n, i64 x.c, i64 x.k, i64 x.f, .string x.b, i64 x.a] 70 (0, 0)) := by
                  intro w' hw
                  refine (fpush_c (HA3.out.upd0 hw) (by omega) hfI x g4).mono ?_
                  rintro e w'' ⟨rfl, hp, h2⟩
                  have hp2 : UpdP Z3 w3 w'' := (UpdP.of0 hw).trans hp (fun y q => .inl q)
                  have hN := HN3.out.ringed hp2
                  have hS := hp2.keep HS3.out HSZ.out
                  obtain ⟨v', hv', -, -, q0, -⟩ := hN.get hf9
                  exact ⟨rfl, ⟨cellOf hS 3, cellOf hS 4, cellOf hS 5, cellOf hS 6, cellOf hS 7, q0⟩, hp2, h2.more (fun y q => q.elim .inl (fun q => .inr (Nat.le_trans hw.size q))) (Nat.le_refl _), hN, hS⟩
                generalize r.pushE f x.cost = pe at *
                have HV := Lib.hid hv
                unfold iv at ho hps
                have HO := Lib.hid ho
                clear ho hv
                cases hH : H f with
                | false =>
                  as_aux_lemma =>
                    rw [hH, if_neg (by simp)] at hpI
                    rw [hpI] at hps
                    clear hpI
                    rw [hH] at hpe b0 hps
                    have HPS := Lib.hid hps
                    have HH := Lib.hid hH
                    clear hps hH a0 a1 b1 d0 d1
                    have hc : ∀ w', Upd [] w3 w' → (w'.cell? ⟨S, 3, none⟩ = some (i64 x.c) ∧ w'.cell? ⟨S, 4, none⟩ = some (i64 x.k) ∧ w'.cell? ⟨S, 5, none⟩ = some (i64 x.f) ∧ w'.cell? ⟨S, 6, none⟩ = some (.string x.b) ∧ w'.cell? ⟨S, 7, none⟩ = some (i64 x.a) ∧ w'.cell? ⟨T, f, none⟩ = some (.bool false)) := fun w' hw => by
                      have h1 := hw.keep0 HS3.out
                      have h2 := hw.keep0 HN3.out.hT
                      refine ⟨cellOf h1 3, cellOf h1 4, cellOf h1 5, cellOf h1 6, cellOf h1 7, ?_⟩
                      rw [cellOf h2 f, bcl_get H hf9, HH.out]
                    have HC := Lib.hid hc
                    clear hc b0
                    go_wp2_with (fail)
                    clear e0
                    go_region_held3 (fun w' => w'.cell? ⟨S, 3, none⟩ = some (i64 x.c) ∧ w'.cell? ⟨S, 4, none⟩ = some (i64 x.k) ∧ w'.cell? ⟨S, 5, none⟩ = some (i64 x.f) ∧ w'.cell? ⟨S, 6, none⟩ = some (.string x.b) ∧ w'.cell? ⟨S, 7, none⟩ = some (i64 x.a) ∧ w'.cell? ⟨T, f, none⟩ = some (.bool false))
                      ((first | exact HC.out _ (Upd.refl _ _) | exact HC.out _ (Upd.refl _ _).drew | exact HC.out _ hu4 | exact hc5))
                      ((first
                        | (go_at_call 35; (with_reducible refine Calls.mono (HO.out _) ?_); rintro e w4 ⟨rfl, huu⟩; have hu4 := (by first | exact (Upd.refl _ _).drew.trans' huu | exact (Upd.refl _ _).trans' huu : Upd [] w3 w4); clear huu)
                        | (go_at_call 34; (with_reducible refine Calls.mono (HPS.out _ hu4) ?_); rintro e w5 ⟨rfl, hc5, hp5, hA5, hN5, hS5⟩)))
                    have hs := HU3.out.size
                    have hu5 := HU3.out.transP hp5 HZ3.out
                    have hZ5 : ∀ x, grow Z3 w3 x → w.heap.size ≤ x := fun x hx => hx.elim (HZ3.out x) (Nat.le_trans hs)
                    clear hu4
                    have HA9 := Lib.hid hA5
                    have HN9 := Lib.hid hN5
                    have HZ9 := Lib.hid hZ5
                    have HU9 := Lib.hid hu5
                    clear hA5 hN5 hZ5 hu5 hp5 hs hS5
                    go_wp2_with (fail)
                    go_roundw
                    case rel => exact ⟨k + 1, _, _, cvs, F, H, G, by go_num, by omega, HA9.out, HQ4.out, HN9.out, HZ9.out, HU9.out⟩
                    case measure => simp [intOf]; omega
                | true =>
                  focus
                    rw [hH, if_pos rfl] at hpI
                    rw [hpI] at hps
                    clear hpI
                    rw [hH] at hpe b0 hps
                    have HPS := Lib.hid hps
                    have HH := Lib.hid hH
                    clear hps hH a0 a1 b1 d0 d1
                    have hc : ∀ w', Upd [] w3 w' → (w'.cell? ⟨S, 3, none⟩ = some (i64 x.c) ∧ w'.cell? ⟨S, 4, none⟩ = some (i64 x.k) ∧ w'.cell? ⟨S, 5, none⟩ = some (i64 x.f) ∧ w'.cell? ⟨S, 6, none⟩ = some (.string x.b) ∧ w'.cell? ⟨S, 7, none⟩ = some (i64 x.a) ∧ w'.cell? ⟨T, f, none⟩ = some (.bool true)) := fun w' hw => by
                      have h1 := hw.keep0 HS3.out
                      have h2 := hw.keep0 HN3.out.hT
                      refine ⟨cellOf h1 3, cellOf h1 4, cellOf h1 5, cellOf h1 6, cellOf h1 7, ?_⟩
                      rw [cellOf h2 f, bcl_get H hf9, HH.out]
                    have HC := Lib.hid hc
                    clear hc b0
                    go_wp2_with (fail)
                    clear e0
                    go_region_held3 (fun w' => w'.cell? ⟨S, 3, none⟩ = some (i64 x.c) ∧ w'.cell? ⟨S, 4, none⟩ = some (i64 x.k) ∧ w'.cell? ⟨S, 5, none⟩ = some (i64 x.f) ∧ w'.cell? ⟨S, 6, none⟩ = some (.string x.b) ∧ w'.cell? ⟨S, 7, none⟩ = some (i64 x.a) ∧ w'.cell? ⟨T, f, none⟩ = some (.bool true))
                      ((first | exact HC.out _ (Upd.refl _ _) | exact HC.out _ (Upd.refl _ _).drew | exact HC.out _ hu4 | exact hc5))
                      ((first
                        | (go_at_call 35; (with_reducible refine Calls.mono (HO.out _) ?_); rintro e w4 ⟨rfl, huu⟩; have hu4 := (by first | exact (Upd.refl _ _).drew.trans' huu | exact (Upd.refl _ _).trans' huu : Upd [] w3 w4); clear huu)
                        | (go_at_call 34; (with_reducible refine Calls.mono (HPS.out _ hu4) ?_); rintro e w5 ⟨rfl, hc5, hp5, hA5, hN5, hS5⟩)))
                    have hs := HU3.out.size
                    have hu5 := HU3.out.transP hp5 HZ3.out
                    have hZ5 : ∀ x, grow Z3 w3 x → w.heap.size ≤ x := fun x hx => hx.elim (HZ3.out x) (Nat.le_trans hs)
                    clear hu4
                    go_upto_region 43 with (fail)
                    have hsub := hN5.sub f v HV.out
                    obtain ⟨v', hv', a0, a1, -, -, -, -⟩ := hN5.get hf9
                    rw [HV.out] at hv'; injection hv' with hv'; subst hv'
                    obtain ⟨ao2, cap2, rfl, -, -⟩ := hsub.form
                    have hxs : ics (F f) ++ [i64 x.c, i64 x.k, i64 x.f, .string x.b, i64 x.a] = ics (F f ++ [x]) := by rw [ics_append]; rfl
                    have hlap : (F f ++ [x]).length = (F f).length + 1 := by rw [List.length_append]; rfl
                    have hmx : (F f).length + 1 ≤ maxLen := by unfold maxLen; omega
                    have hmb : ((F f).length + 1) * 48 ≤ 140737488355328 := by omega
                    have HXS := Lib.hid hxs
                    have HLAP := Lib.hid hlap
                    have HMX := Lib.hid hmx
                    have HMB := Lib.hid hmb
                    have HROW := Lib.hid hsub
                    have HN5 := Lib.hid hN5
                    have HA5 := Lib.hid hA5
                    have HU5 := Lib.hid hu5
                    have HZ5 := Lib.hid hZ5
                    obtain ⟨s3, s4, s5, s6, s7, -⟩ := hc5
                    have hlS5 := lt_of_heap hS5
                    have hlA5 := lt_of_heap HN5.out.hA
                    clear hxs hlap hmx hmb hsub hN5 hA5 hu5 hZ5 hp5 hs HC HPS hFl
                    generalize hL : (F f).length = L at *
                    have HL := Lib.hid hL
                    clear hL
                    go_wp2_with (fail)
                    go_region_law ((first
                      | (go_simp; go_at_call 35; (with_reducible refine Calls.mono (HO.out _) ?_); rintro e w6 ⟨rfl, huu⟩; have hu6 := (by first | exact (Upd.refl _ _).drew.trans' huu | exact (Upd.refl _ _).trans' huu : Upd [] w5 w6); have z1 : w6.cell? ⟨A, f, none⟩ = some (.slice ao2 L cap2) := (by rw [cellOf (hu6.keep0 HN5.out.hA) f, List.getElem?_toArray]; exact HV.out); have z2 : (w6.alloc (.cells #[i64 x.c, i64 x.k, i64 x.f, .string x.b, i64 x.a] 74)).cell? ⟨A, f, none⟩ = some (.slice ao2 L cap2) := (by rw [cellOf (heap_alloc_old (hu6.keep0 HN5.out.hA) _) f, List.getElem?_toArray]; exact HV.out); clear huu)
                      | (refine step_plain rfl (wp_append_sub _ _ 60 rfl w.heap.size 74 i0 _ 5 48 Try.underlying60 hi hz0 hz1 hz2 rfl (by decide) (.slice ao2 L cap2) L _ rfl (HROW.out.upd0 (by repeat' (first | exact hu6 | apply Upd.drew | apply Upd.alloc))) _ 1 1 [i64 x.c, i64 x.k, i64 x.f, .string x.b, i64 x.a] rfl (src_block (by first | exact heap_alloc_new _ _ | exact heap_drew (heap_alloc_new _ _)) 1 1) rfl (by intro u hu; simp at hu; rcases hu with rfl | rfl | rfl | rfl | rfl <;> rfl) HMX.out HMB.out (Nat.le_trans HU5.out.size (Upd.size (S := []) (w := w5) (by repeat' (first | exact hu6 | apply Upd.drew | apply Upd.alloc)))) ?_); intro ao' cap' w7 hs7 hu7 hb7; rw [HXS.out] at hs7; have hux : Upd (blkL (.slice ao2 L cap2)) w5 w7 := hu7.trans2 (by repeat' (first | exact hu6 | apply Upd.drew | apply Upd.alloc)); have hA7 := hux.keep HN5.out.hA (HN5.out.aoff HV.out); have q1 : w7.cell? ⟨A, f, none⟩ = some (.slice ao2 L cap2) := (by rw [cellOf hA7 f, List.getElem?_toArray]; exact HV.out); have q2 := frzOf hA7 f; have HS7 := Lib.hid hs7; have HUX := Lib.hid hux; have HB7 := Lib.hid (hb7.imp id (fun ⟨g, h1, h2⟩ => ⟨g, h1, Nat.le_trans (Upd.size (S := []) (w := w5) (by repeat' (first | exact hu6 | apply Upd.drew | apply Upd.alloc))) h2⟩) : blkL (.slice ao' (L + 1) cap') = blkL (.slice ao2 L cap2) ∨ ∃ g, blkL (.slice ao' (L + 1) cap') = [g] ∧ w5.heap.size ≤ g); clear hs7 hu7 hb7 hux hA7)))
                    all_goals (
                      have hput := HN5.out.put HV.out (v' := .slice ao' (L + 1) cap') (l := F f ++ [x]) HUX.out (by rw [HLAP.out]; exact HS7.out) (blk_orF HB7.out (Nat.le_refl _))
                      have hA8 := HA5.out.cut.upd hput.2 (HN5.out.off HV.out)
                      have hu8 : Upd [] w _ := HU5.out.trans hput.2 (fun y hy => .inr (by
                        rcases List.mem_cons.1 hy with q | q
                        · subst q; exact hAw
                        · exact (HROW.out.lt y q).1))
                      have HA9 := Lib.hid hA8
                      have HN9 := Lib.hid hput.1
                      have HU9 := Lib.hid hu8
                      have HZ9 := Lib.hid (fun x q => HZ5.out x q.1 : ∀ x, cutZ (grow Z3 w3) w5 x → w.heap.size ≤ x)
                      clear hA8 hu8 hput)
                    all_goals go_wp2_with (fail)
                    all_goals (try go_roundw)
                    all_goals first
                      | exact ⟨⟨k + 1, _, _, _, _, H, G, by go_num, by omega, HA9.out, HQ4.out, HN9.out, HZ9.out, HU9.out⟩, by simp [intOf]; omega⟩
                      | exact ⟨k + 1, _, _, _, _, H, G, by go_num, by omega, HA9.out, HQ4.out, HN9.out, HZ9.out, HU9.out⟩
                      | (simp [intOf]; omega)
              · focus
                  have hget : ∀ m, m < 9 → ∃ ao cap, w3.cell? ⟨A, m, none⟩ = some (.slice ao (F m).length cap) ∧ w3.cell? ⟨Rb, m, none⟩ = some (.bool (G m)) := fun m hm => by
                    obtain ⟨v, q1, q2, -, -, -, q3, -⟩ := HN3.out.get hm
                    obtain ⟨ao, cap, q4, -, -⟩ := (HN3.out.sub m v q1).form
                    exact ⟨ao, cap, by rw [q2, q4], q3⟩
                  have hlenF : ∀ m, m < 9 → (F m).length ≤ k := fun m hm => by
                    obtain ⟨-, _, _, hX⟩ := HA3.out
                    exact hX.len m hm
                  have HGET := Lib.hid hget
                  have HLENF := Lib.hid hlenF
                  have HAB0 := Lib.hid (show anyI F G 0 = false from rfl)
                  clear hget hlenF hFl hfi9 hfi0
                  have hq1 : (kd == 1) = false := by simp [k1]
                  have hq2 : (kd == 2) = false := by simp [k2]
                  have hq3 : (kd == 3) = false := by simp [k3]
                  have hq4 : (kd == 4) = false := by simp [k4]
                  clear k1 k2 k3 k4
                  go_wp2_with (fail)
                  clear hq1 hq2 hq3 hq4 e0
                  go_loop [10, 11] (fun a i => ∃ m : Nat, i = i64 m ∧ m ≤ 9 ∧ a = .bool (anyI F G m)) (fun _ i => 9 - (intOf i).toNat)
                  case atStart => exact ⟨0, rfl, by omega, by rw [HAB0.out]⟩
                  case round =>
                    obtain ⟨m, rfl, hm, rfl⟩ := hrel
                    by_cases hml : m < 9
                    · obtain ⟨ao3, cap3, q1, q2⟩ := HGET.out m hml
                      have hab : anyI F G (m + 1) = (anyI F G m || (decide (0 < (F m).length) && !G m)) := rfl
                      have HAB := Lib.hid hab
                      have hFm := HLENF.out m hml
                      clear hab
                      cases ha : anyI F G m with
                      | true =>
                        rw [ha] at HAB
                        go_wp2_with (fail)
                        go_round
                        case rel => exact ⟨m + 1, by go_num, by omega, by rw [HAB.out]; rfl⟩
                        case measure => simp [intOf]; omega
                      | false =>
                        rw [ha] at HAB
                        by_cases hl0 : 0 < (F m).length
                        · cases hg : G m with
                          | true =>
                            rw [hg] at q2 HAB
                            generalize (F m).length = L at *
                            go_wp2_with (fail)
                            go_round
                            case rel => exact ⟨m + 1, by go_num, by omega, by rw [HAB.out]; simp⟩
                            case measure => simp [intOf]; omega
                          | false =>
                            rw [hg] at q2 HAB
                            have hlt0 : decide (0 < (F m).length) = true := by simpa using hl0
                            rw [hlt0] at HAB
                            clear hlt0
                            generalize (F m).length = L at *
                            go_wp2_with (fail)
                            go_round
                            case rel => exact ⟨m + 1, by go_num, by omega, by rw [HAB.out]; rfl⟩
                            case measure => simp [intOf]; omega
                        · have hL0 : (F m).length = 0 := by omega
                          rw [hL0] at q1 HAB
                          clear hl0 hL0 hFm
                          go_wp2_with (fail)
                          go_round
                          case rel => exact ⟨m + 1, by go_num, by omega, by rw [HAB.out]; rfl⟩
                          case measure => simp [intOf]; omega
                    · have e : m = 9 := by omega
                      subst e
                      rw [show ((9 : Nat) : Int) = 9 from rfl]
                      have hok := HA3.out.ok
                      have hany := any_turn hok HA3.out.1 HQ.out
                      have hqt := bk_turn HQ.out hok
                      cases hb9 : anyI F G 9 with
                      | false =>
                        rw [hb9] at hany
                        have hnI : nextI r F = F := by unfold nextI; rw [hany, if_neg (by simp)]
                        have ht := fnext_c HA3.out (by omega)
                        rw [hany, hnI] at ht
                        have HT := Lib.hid ht
                        have HQN := Lib.hid hqt
                        clear ht hqt hany hok hb9 hnI hm hml
                        generalize nextX r F = y at *
                        generalize r.turn.n = tn at *
                        go_upto_region 19 with (go_at_call 36; refine HT.out.mono ?_; rintro e w4 ⟨rfl, hp, hA4⟩)
                        have hs := HU3.out.size
                        have hux := (Upd.refl [] w4).alloc (.cells #[i64 y.c, i64 y.k, i64 y.f, .string y.b, i64 y.a] 74)
                        have hN5 := (HN3.out.ringed hp).step0 hux
                        have hA5 := hA4.upd0 hux
                        have hu5 := (HU3.out.transP hp HZ3.out).trans' hux
                        have hZ5 : ∀ x, grow Z3 w3 x → w.heap.size ≤ x := fun x hx => hx.elim (HZ3.out x) (Nat.le_trans hs)
                        have HA9 := Lib.hid hA5
                        have HN9 := Lib.hid hN5
                        have HZ9 := Lib.hid hZ5
                        have HU9 := Lib.hid hu5
                        clear hs hux hN5 hA5 hu5 hZ5 hp hA4
                        generalize w4.alloc (.cells #[i64 y.c, i64 y.k, i64 y.f, .string y.b, i64 y.a] 74) = w5 at *
                        go_wp2_with (fail)
                        go_roundw
                        case rel => exact ⟨k + 1, _, _, cvs, F, H, G, by go_num, by omega, HA9.out, HQN.out, HN9.out, HZ9.out, HU9.out⟩
                        case measure => simp [intOf]; omega
                      | true =>
                        rw [hb9] at hany
                        obtain ⟨m, y, ys, e1, hm9, hFm, hGm, hX, hI⟩ := next_bk hok HA3.out.1 HQ.out hany
                        have ht := fnext_c HA3.out (by omega)
                        rw [hany, e1, hX, hI] at ht
                        have hFl := HLENF.out m hm9
                        rw [hFm] at hFl
                        simp only [List.length_cons] at hFl
                        have HT := Lib.hid ht
                        have HQN := Lib.hid hqt
                        have HFM := Lib.hid hFm
                        have HGM := Lib.hid hGm
                        clear ht hqt hany hok hb9 hm hml e1 hX hI hFm hGm
                        rcases y with ⟨yc, yk, yf, yb, ya⟩
                        go_upto_region 19 with (go_at_call 36; refine HT.out.mono ?_; rintro e w4 ⟨rfl, hp, hA4⟩)
                        have hs := HU3.out.size
                        have hux := (Upd.refl [] w4).alloc (.cells #[i64 yc, i64 yk, i64 yf, .string yb, i64 ya] 74)
                        have hX5 := heap_alloc_new w4 (.cells #[i64 yc, i64 yk, i64 yf, .string yb, i64 ya] 74)
                        have hN5 := (HN3.out.ringed hp).step0 hux
                        have hA5 := hA4.upd0 hux
                        have hu5 := (HU3.out.transP hp HZ3.out).trans' hux
                        have hZ5 : ∀ x, grow Z3 w3 x → w.heap.size ≤ x := fun x hx => hx.elim (HZ3.out x) (Nat.le_trans hs)
                        have HA5 := Lib.hid hA5
                        have HN5 := Lib.hid hN5
                        have HU5 := Lib.hid hu5
                        have HZ5 := Lib.hid hZ5
                        clear hs hux hN5 hA5 hu5 hZ5 hp hA4
                        generalize w4.alloc (.cells #[i64 yc, i64 yk, i64 yf, .string yb, i64 ya] 74) = w5 at *
                        generalize w4.heap.size = X at *
                        generalize grow Z3 w3 = Z5 at *
                        obtain ⟨v4, hv4, a0, a1, -, -, d0, d1⟩ := HN5.out.get hm9
                        rw [HGM.out] at d0
                        have hsub := HN5.out.sub m v4 hv4
                        rw [HFM.out] at hsub
                        obtain ⟨ao4, cap4, rfl, hcap4, hrow4⟩ := hsub.form
                        obtain ⟨g4, off4, rfl, hg1, hg2, -⟩ := hrow4 (by simp)
                        obtain ⟨s0, s1, s2, s3, s4⟩ := its_get (hsub.mono (Nat.zero_le _)) (k := 0) (by simp) rfl
                        simp only [Nat.zero_mul, Nat.add_zero, List.getElem_cons_zero] at s0 s1 s2 s3 s4
                        simp only [List.length_cons] at a0 hcap4 hsub hv4
                        obtain ⟨x0, x1, x2, x3, x4, -⟩ := cells5 hX5
                        have hlX := lt_of_heap hX5
                        have HSUB := Lib.hid hsub
                        have HV4 := Lib.hid hv4
                        have hm0 : decide ((m : Int) < 0) = false := decide_eq_false (by omega)
                        have hm8 : decide ((8 : Int) < (m : Int)) = false := decide_eq_false (by omega)
                        have hmi0 : (0 : Int) ≤ (m : Int) := by omega
                        have hmi9 : (m : Int) < 9 := by omega
                        have hz1 : (((ys.length : Int) + 1) == 0) = false := by rw [beq_eq_false_iff_ne]; omega
                        have hz2 : (0 : Int) < (ys.length : Int) + 1 := by omega
                        clear hrow4 hsub hv4 hX5
                        have ad0 : ∀ nq, (w5.drewN nq).cell? ⟨A, m, none⟩ = some (.slice (some ⟨g4, off4, none⟩) (ys.length + 1) cap4) := fun _ => a0
                        have ad1 : ∀ nq, (w5.drewN nq).frozen? ⟨A, m, none⟩ = false := fun _ => a1
                        by_cases hcap1 : cap4 = 1
                        · subst hcap1
                          obtain rfl : ys = [] := List.eq_nil_of_length_eq_zero (by omega)
                          have hput := fun nq => HN5.out.put HV4.out (v' := .slice (some ⟨g4, off4, none⟩) 0 0) (l := []) (w5 := w5.drewN nq) ((Upd.refl _ w5).drewN nq) ((sub_none5b HSUB.out).upd0 ((Upd.refl [] w5).drewN nq)) (fun x hx => .inl (by simpa [blkL] using hx))
                          have hA9 := fun nq => HA5.out.cut.upd (hput nq).2 (HN5.out.off HV4.out)
                          have hu9 : ∀ nq, Upd [] w _ := fun nq => HU5.out.trans (hput nq).2 (fun y hy => .inr (by
                            rcases List.mem_cons.1 hy with q | q
                            · subst q; exact hAw
                            · simp [blkL] at q; subst q; exact hg1))
                          have HPUT := Lib.hid hput
                          have HA9 := Lib.hid hA9
                          have HU9 := Lib.hid hu9
                          have HZ9 := Lib.hid (fun x q => HZ5.out x q.1 : ∀ x, cutZ Z5 w5 x → w.heap.size ≤ x)
                          clear hput hA9 hu9
                          go_upto_region 22 with (fail)
                          go_wp2_with (fail)
                          go_quiet (fail)
                          clear a0 a1
                          go_wp2_with (fail)
                          go_roundw
                          case rel => exact ⟨k + 1, _, _, _, _, H, G, by go_num, by omega, HA9.out _, HQN.out, (HPUT.out _).1, HZ9.out, HU9.out _⟩
                          case measure => simp [intOf]; omega
                        · have hput := fun nq => HN5.out.put HV4.out (v' := .slice (some ⟨g4, off4 + 5, none⟩) ys.length (cap4 - 1)) (l := ys) (w5 := w5.drewN nq) ((Upd.refl _ w5).drewN nq) ((sub_tail5b (n := ys.length) HSUB.out).upd0 ((Upd.refl [] w5).drewN nq)) (fun x hx => .inl (by simpa [blkL] using hx))
                          have hA9 := fun nq => HA5.out.cut.upd (hput nq).2 (HN5.out.off HV4.out)
                          have hu9 : ∀ nq, Upd [] w _ := fun nq => HU5.out.trans (hput nq).2 (fun y hy => .inr (by
                            rcases List.mem_cons.1 hy with q | q
                            · subst q; exact hAw
                            · simp [blkL] at q; subst q; exact hg1))
                          have HPUT := Lib.hid hput
                          have HA9 := Lib.hid hA9
                          have HU9 := Lib.hid hu9
                          have HZ9 := Lib.hid (fun x q => HZ5.out x q.1 : ∀ x, cutZ Z5 w5 x → w.heap.size ≤ x)
                          clear hput hA9 hu9
                          go_upto_region 22 with (fail)
                          go_wp2_with (fail)
                          go_quiet (fail)
                          clear a0 a1
                          go_wp2_with (fail)
                          go_roundw
                          case rel => exact ⟨k + 1, _, _, _, _, H, G, by go_num, by omega, HA9.out _, HQN.out, (HPUT.out _).1, HZ9.out, HU9.out _⟩
                          case measure => simp [intOf]; omega
      · have e : k = l.length := by omega
        go_wp2_with (fail)
        refine Calls.mono (flwAwake_c _) ?_
        rintro e w5 ⟨rfl, hu5⟩
        go_wp2_with (fail)
        exact hR.out _ _ ⟨rfl, hu.trans' hu5⟩

set_option maxRecDepth 100000 in
theorem flowsOrder_walk {H : Type} {enc : TypeId × Value → H} {W : World} {base : Nat} {args : Array Value} {ds gs : List (DataW H)} {before : List MemPlace}
    (hval : ∀ (j : Nat) t v, Try.f7.params[j]? = some t → args[j]? = some v → Value.okWide Try.prog W .any base t v)
    (hW : DataW.Whole enc Try.prog Try.f7.params.toList [] false W args.toList ds gs before) : Trues 7 args W := by
  obtain ⟨p, q, hA, -, rfl, -, -⟩ := hW
  rw [Try.params7] at hA hval
  obtain ⟨v0, d0, rfl, rfl, h0⟩ := trodAll_one hA
  obtain ⟨ao, cap, l, rfl, hlc, hcap, hg, hl⟩ := open_list FStp.parse Try.underlying57 flat_fstp cells_fstp (by decide) (hval 0 57 v0 rfl rfl) h0
  refine flowsOrder_c ao cap l W (Nat.le_trans hlc hcap) ?_ hg
  rcases hl with rfl | ⟨b, off, rfl, hr⟩
  · exact .inl rfl
  · cases l with
    | nil => exact .inl rfl
    | cons x r => exact .inr ⟨b, off, rfl, hr, World.block_lt_of_cell? W _ (hr 0 x rfl 0 (by decide))⟩

set_option maxRecDepth 100000 in
theorem flowsOrder_lifted (os : Os) (started : os.Started) (H : Type) (enc : TypeId × Value → H) :
    ReturnsInHanded {} Try.checked os 7 .any (Rows.flowsOrderSpec.pre6 enc Try.prog Try.f7 Rows.flowsOrderRow.domain false) (Rows.flowsOrderSpec.post enc Try.prog Try.f7 false true false false) := by
  refine returnsInHanded_of_change (C := Try.checked) own started (by kernel_rfl) Try.func7
    (ChangeSpec.witness6 (enc := enc) (C := Try.checked) false ⟨#[], #[.slice none 0 0], []⟩ 8 (by kernel_rfl) (by kernel_rfl) (by kernel_rfl) (by kernel_rfl)) ?_
  intro W base args ds gs before hval hW hcnd _
  refine Calls.mono (flowsOrder_walk hval hW) fun e W' ⟨he, hu⟩ => ?_
  exact ⟨_, he, law_post rfl rfl (by kernel_rfl) hW (fun ds h => by match ds, h with | [_], _ => rfl) hu⟩

set_option maxRecDepth 100000 in
theorem flowsOrder_over : Rows.flowsOrderRow.holds Try.pinned (OpenSpec.ofChange Rows.flowsOrderSpec) :=
  OpenClaim.holds_of_wide 7 Try.f7 rfl rfl rfl rfl rfl rfl rfl ⟨rfl, rfl, rfl, rfl, rfl⟩ rfl rfl rfl rfl rfl (by kernel_rfl) Try.func7 (by kernel_rfl)
    (of_decide_eq_true (by kernel_rfl)) (by unfold Func.isWrapper; first | (rw [if_pos (by decide +kernel)]; kernel_rfl) | (rw [if_neg (by decide +kernel)]; exact ⟨rfl, rfl⟩))
    (fun os started H enc _ => flowsOrder_lifted os started H enc)

theorem flowsOrder_proved : Rows.FlowsOrderSaid := flowsOrder_over
end Go.Proofs.Ytabhdigannalgaa
