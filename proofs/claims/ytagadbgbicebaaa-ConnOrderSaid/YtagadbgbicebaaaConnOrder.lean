/-
  ConnOrder: what is sent on connections goes out in order, each text once, as long as the connection is not dropped, whatever else is done. For every list of steps. No condition.
-/
import Derived.Test.YtagadbgbicebaaaConnOrd
import Derived.Deep.RegionLaw
namespace Go.Proofs.Ytagadbgbicebaaa
open Go Go.RowKit Go.ChangeShapes Go.WideShapes Go.ChangeAt

set_option maxRecDepth 100000 in
set_option maxHeartbeats 16000000 in
theorem connOrder_c (ao : Option Addr) (cap : Nat) (l : List CStp) (w : World) (hcap : l.length ≤ maxLen) (hao : l = [] ∨ ∃ b off, ao = some ⟨b, off, none⟩ ∧ RowsAt w b off 4 CStp.cells l ∧ b < w.heap.size) (hgood : ∀ x ∈ l, x.good) :
    Trues 9 #[.slice ao l.length cap] w := by
  unfold Trues
  have hmuch := cmuch_c ao cap l w hcap hao hgood
  have HAO := Lib.hid hao
  have HGood := Lib.hid hgood
  obtain ⟨i1, hi1, hy0, hy1, hy2⟩ := info_parts info_strs
  obtain ⟨i2, hi2, hx0, hx1, hx2⟩ := info_parts info_boo
  obtain ⟨i0, hi, hz0, hz1, hz2⟩ := info_parts info_cstr
  have hmk1 : ∀ wx, (Instr.makeSlice 57 (i64 16) (i64 16)).run Try.prog wx = .ok (.slice (some ⟨wx.heap.size, 0, none⟩) 16 16) (wx.alloc (.cells nils16.toArray 38)) := by
    intro wx
    have := run_make (P := Try.prog) wx 57 38 i1 _ Try.underlying57 hi1 hy0 .i64 .i64 16 16 (by omega) (by omega) (by rw [hy2]; omega) (by omega)
    rw [this, hy1, show (madeCells (Value.slice none 0 0).cells (Int.toNat 16 * 1)) = nils16.toArray from by kernel_rfl]; rfl
  have hmk2 : ∀ wx, (Instr.makeSlice 58 (i64 16) (i64 16)).run Try.prog wx = .ok (.slice (some ⟨wx.heap.size, 0, none⟩) 16 16) (wx.alloc (.cells (bcells fun _ => false).toArray 4)) := by
    intro wx
    have := run_make (P := Try.prog) wx 58 4 i2 _ Try.underlying58 hi2 hx0 .i64 .i64 16 16 (by omega) (by omega) (by rw [hx2]; omega) (by omega)
    rw [this, hx1, show (madeCells (Value.bool false).cells (Int.toNat 16 * 1)) = (bcells fun _ => false).toArray from by kernel_rfl]; rfl
  have HM := Lib.hid hmuch
  clear hi1 hy0 hy1 hy2 hi2 hx0 hx1 hx2 hmuch hao hgood hcap
  have hB0 := heap_alloc_old (heap_alloc_old (heap_alloc_new w (.cells #[.slice none 0 0] 56)) (.cells nils16.toArray 38)) (.cells (bcells fun _ => false).toArray 4)
  have hA0 := heap_alloc_old (heap_new2 w (.cells #[.slice none 0 0] 56) (.cells nils16.toArray 38)) (.cells (bcells fun _ => false).toArray 4)
  have hR0 : ((((w.alloc (.cells #[.slice none 0 0] 56)).alloc (.cells nils16.toArray 38)).alloc (.cells (bcells fun _ => false).toArray 4)).heap)[w.heap.size + 1 + 1]? = _ := heap_new3 w (.cells #[.slice none 0 0] 56) (.cells nils16.toArray 38) (.cells (bcells fun _ => false).toArray 4)
  have hu0 := (((Upd.refl [] w).alloc (.cells #[.slice none 0 0] 56)).alloc (.cells nils16.toArray 38)).alloc (.cells (bcells fun _ => false).toArray 4)
  refine post fun R hR => ?_
  go_enter Try.func9, Try.ntmps9
  go_wp2_with (fail)
  refine HM.out.mono ?_
  rintro e wx ⟨x, rfl, hx150, rfl⟩
  cases x with
  | true =>
    clear hB0 hA0 hR0 hu0 hmk1 hmk2
    go_wp2_with (fail)
    refine Calls.mono (connAwake_c _) ?_
    rintro e w5 ⟨rfl, hu5⟩
    go_wp2_with (fail)
    exact hR.out _ _ ⟨rfl, hu5⟩
  | false =>
    have hlen := hx150 rfl
    clear hx150 HM
    go_wp2_with (fail)
    have hT1 := tblAt_new hB0 (Z := fun x => x = w.heap.size) rfl
    have hN1 := sents_new (base := w.heap.size) (Z := fun x => x = w.heap.size) hA0 hR0 (by show ¬ w.heap.size + 1 = w.heap.size; omega) (by show ¬ w.heap.size + 1 + 1 = w.heap.size; omega)
    have hZ1 : ∀ x : Nat, (fun x : Nat => x = w.heap.size) x → w.heap.size ≤ x := fun x hx => Nat.le_of_eq hx.symm
    clear hB0 hA0 hR0 hmk1 hmk2
    generalize ((w.alloc (.cells #[.slice none 0 0] 56)).alloc (.cells nils16.toArray 38)).alloc (.cells (bcells fun _ => false).toArray 4) = w1 at *
    obtain ⟨B, hBe⟩ : ∃ B, B = w.heap.size := ⟨_, rfl⟩
    obtain ⟨A, hAe⟩ : ∃ A, A = w.heap.size + 1 := ⟨_, rfl⟩
    obtain ⟨Rb, hRe⟩ : ∃ R, R = w.heap.size + 1 + 1 := ⟨_, rfl⟩
    rw [← hRe, ← hAe] at hN1 ⊢
    have hT1' : TblAt w1 (fun x => x = w.heap.size) B [] := by rw [hBe]; exact hT1
    rw [← hBe]
    have hAw : w.heap.size ≤ A := by omega
    have hRw : w.heap.size ≤ Rb := by omega
    have hBw : w.heap.size ≤ B := by omega
    have hAR1 : A ≠ Rb := by omega
    have hAR2 : Rb ≠ A := by omega
    clear hT1 hRe hAe
    generalize (fun x : Nat => x = w.heap.size) = Z1 at *
    clear hBe
    have HO := Lib.hid (opens_c hT1')
    refine HO.out.mono ?_
    rintro e w2 ⟨rfl, hp, hT2⟩
    have hs := hu0.size
    have hN2 := hN1.ringed hp
    have hu2 := hu0.transP hp hZ1
    have hZ2 : ∀ x, grow Z1 w1 x → w.heap.size ≤ x := fun x hx => hx.elim (hZ1 x) (Nat.le_trans hs)
    clear hp HO hT1' hN1 hu0
    go_wp2_with (fail)
    go_loopw [6] (fun i wr => ∃ (k : Nat) (tl : List Ln) (Z : Nat → Prop) (cvs : List Value) (F : Nat → List ByteArray) (G : Nat → Bool), i = i64 k ∧ k ≤ l.length ∧ TblAt wr Z B tl ∧ Ord tl F G ∧ Sents wr w.heap.size Z A Rb cvs F G ∧ (∀ j, (F j).length ≤ k) ∧ (∀ x, Z x → w.heap.size ≤ x) ∧ Upd [] w wr) (fun i _ => l.length - (intOf i).toNat)
    case atStart => exact ⟨0, _, _, nils16, _, _, rfl, Nat.zero_le _, hT2, ord_new, hN2, fun j => Nat.le_refl _, hZ2, hu2⟩
    case round =>
      clear hT2 hN2 hZ2 hu2
      obtain ⟨k, tl, Z, cvs, F, G, rfl, hk, hT, hO, hN, hF, hZ, hu⟩ := hrel
      by_cases hlt : k < l.length
      · obtain ⟨b, off, rfl, hrows, hb⟩ : ∃ b off, ao = some ⟨b, off, none⟩ ∧ RowsAt w b off 4 CStp.cells l ∧ b < w.heap.size := by
          rcases HAO.out with e | e
          · rw [e] at hlt; simp at hlt
          · exact e
        obtain ⟨c0, c1, c2, c3⟩ := csrow hrows hu hb hlt
        obtain ⟨⟨g1, g2⟩, ⟨g3, g4⟩, ⟨g5, g6⟩, g7⟩ := HGood.out l[k] (List.getElem_mem hlt)
        generalize l[k].kind = kd at *
        generalize l[k].n = nn at *
        generalize l[k].by' = ow at *
        generalize l[k].b = s at *
        obtain ⟨n, hn, hn16⟩ := umod_in nn 16 (by omega)
        replace hn16 : n < 16 := by omega
        -- the step's copy
        have hS3 := heap_alloc_new wr (.cells #[i64 kd, i64 nn, i64 ow, .string s] 61)
        have hT3 := hT.cut.upd0 ((Upd.refl [] wr).alloc (.cells #[i64 kd, i64 nn, i64 ow, .string s] 61))
        have hux := (Upd.refl [] wr).alloc (.cells #[i64 kd, i64 nn, i64 ow, .string s] 61)
        have hN3 := hN.step hux
        have hu3 := hu.trans' hux
        have hZ3 : ∀ x, cutZ Z wr x → w.heap.size ≤ x := fun x hx => hZ x hx.1
        have hSZ : ¬ cutZ Z wr wr.heap.size := fun hx => by have := hx.2; omega
        have hKo := ord_outs hO hF
        have HO := Lib.hid hO
        have HF := Lib.hid hF
        clear hT hN hZ hux hrows hO hF
        go_upto_block 2 with (fail)
        rw [hn]
        obtain ⟨S, hSe⟩ : ∃ S, S = wr.heap.size := ⟨_, rfl⟩
        rw [← hSe] at hS3 hSZ ⊢
        have hSw : w.heap.size ≤ S := by rw [hSe]; exact hu.size
        clear hSe c0 c1 c2 c3 hn hu
        generalize wr.alloc (.cells #[i64 kd, i64 nn, i64 ow, .string s] 61) = w3 at *
        generalize cutZ Z wr = Z3 at *
        obtain ⟨e0, e1, e2, e3, -⟩ := cells4 hS3
        obtain ⟨v, hv, a0, a1, b0, b1⟩ := hN3.get hn16
        have hsub := hN3.sub n v hv
        obtain ⟨vo, vcap, rfl, hvc, hrow⟩ := hsub.form
        have HROW := Lib.hid hrow
        have HSUB := Lib.hid hsub
        have HV := Lib.hid hv
        have HT3 := Lib.hid hT3
        have HN3 := Lib.hid hN3
        have HU3 := Lib.hid hu3
        have HZ3 := Lib.hid hZ3
        have HS3 := Lib.hid hS3
        have HKO := Lib.hid hKo
        have hFn := HF.out n
        have i16a : (0 : Int) ≤ (n : Int) := by omega
        have i16b : (n : Int) < 16 := by omega
        clear hT3 hN3 hu3 hZ3 hS3 hKo hsub hv hrow
        by_cases k3 : kd = 3
        · have hq : (kd == 3) = true := by simp [k3]
          have HK := Lib.hid k3
          have HOB := Lib.hid (ord_bind HO.out hn16 ow)
          clear k3 a0 a1 b0 b1
          go_wp2_with (fail)
          refine Calls.mono (tbl_bind_c HT3.out n ow) ?_
          rintro e w4 ⟨rfl, hp, hT4⟩
          have hs := HU3.out.size
          have hN4 := HN3.out.ringed hp
          have hu4 := HU3.out.transP hp HZ3.out
          have hZ4 : ∀ x, grow Z3 w3 x → w.heap.size ≤ x := fun x hx => hx.elim (HZ3.out x) (Nat.le_trans hs)
          clear hp e0 e1 e2 e3
          go_wp2_with (fail)
          go_roundw
          case rel => exact ⟨k + 1, _, _, cvs, F, G, by go_num, by omega, hT4, HOB.out, hN4, fun j => Nat.le_trans (HF.out j) (by omega), hZ4, hu4⟩
          case measure => simp [intOf]; omega
        · have hq3 : (kd == 3) = false := by simp [k3]
          have HK3 := Lib.hid k3
          clear k3
          by_cases k4 : kd = 4
          · have hq : (kd == 4) = true := by simp [k4]
            have HK := Lib.hid k4
            have HOB := Lib.hid (ord_shut HO.out hn16)
            clear k4 a0 a1 b0 b1
            go_wp2_with (fail)
            refine Calls.mono (tbl_shut_c HT3.out n) ?_
            rintro e w4 ⟨rfl, hp, hT4⟩
            have hs := HU3.out.size
            have hN4 := HN3.out.ringed hp
            have hu4 := HU3.out.transP hp HZ3.out
            have hZ4 : ∀ x, grow Z3 w3 x → w.heap.size ≤ x := fun x hx => hx.elim (HZ3.out x) (Nat.le_trans hs)
            clear hp e0 e1 e2 e3
            go_wp2_with (fail)
            go_roundw
            case rel => exact ⟨k + 1, _, _, cvs, F, G, by go_num, by omega, hT4, HOB.out, hN4, fun j => Nat.le_trans (HF.out j) (by omega), hZ4, hu4⟩
            case measure => simp [intOf]; omega
          · have hq4 : (kd == 4) = false := by simp [k4]
            have HK4 := Lib.hid k4
            clear k4
            by_cases k5 : kd = 5
            · have hq : (kd == 5) = true := by simp [k5]
              have HK := Lib.hid k5
              obtain ⟨hw1, hod⟩ := ord_drop HO.out hn16
              have hdr := tbl_drop_c (HT3.out.upd0 ((Upd.refl [] w3).drew)) n
              rw [hw1] at hdr
              have hdr2 : Calls Try.prog 36 #[.pointer (some ⟨B, 0, none⟩), i64 n] w3.drew fun e w' => e = .returned (i64 (F n).length) ∧ w'.cell? ⟨A, n, none⟩ = some (.slice vo (F n).length vcap) ∧ UpdP Z3 w3.drew w' ∧ TblAt w' (grow Z3 w3.drew) B (tdrL tl n) := by
                refine hdr.mono ?_
                rintro e w' ⟨rfl, hp, hT⟩
                refine ⟨rfl, ?_, hp, hT⟩
                obtain ⟨v2, q1, q2, -⟩ := ((HN3.out.step ((Upd.refl [] w3).drew)).ringed (hp.mono fun x hx => (Nat.lt_or_ge x w3.heap.size).elim (fun h => .inl ⟨hx, h⟩) .inr)).get hn16
                rw [HV.out] at q1; injection q1 with q1; subst q1
                exact q2
              have HDR := Lib.hid hdr2
              have HOD := Lib.hid hod
              clear k5 hdr hdr2 hod hw1 b0 b1
              go_wp2_with (fail)
              go_region_held3 (fun w' => w'.cell? ⟨A, n, none⟩ = some (.slice vo (F n).length vcap))
                ((first | exact a0 | exact hc4))
                ((first
                  | (go_at_call 36; (with_reducible refine Calls.mono (HDR.out) ?_); rintro e w4 ⟨rfl, hc4, hp4, hT4⟩)))
              have hp4' : UpdP Z3 w3 w4 := hp4.undrew
              have hN4 := HN3.out.ringed hp4'
              have hu4 := HU3.out.transP hp4' HZ3.out
              have hs4 := HU3.out.size
              have hZ4 : ∀ x, grow Z3 w3 x → w.heap.size ≤ x := fun x hx => hx.elim (HZ3.out x) (Nat.le_trans hs4)
              have hput := hN4.put HV.out (v' := .slice none 0 0) (l := []) (Upd.refl _ w4) (sub_nil _ _ _ _) (fun x hx => by simp [blkL] at hx)
              have hT5 := (show TblAt w4 (grow Z3 w3) B (tdrL tl n) from hT4).cut.upd hput.2 (hN4.off HV.out)
              obtain ⟨hN6, hu6⟩ := hput.1.rest n true
              have hT6 := hT5.upd hu6 (fun x hx => by simp at hx; subst hx; exact hput.1.zR)
              have hu7 : Upd [] w _ := (hu4.trans hput.2 (fun x hx => .inr (by
                rcases List.mem_cons.1 hx with q | q
                · subst q; exact hAw
                · exact (HSUB.out.lt x q).1))).trans hu6 (fun x hx => .inr (by simp at hx; subst hx; exact hRw))
              obtain ⟨v4, q1, q2, q3, q4, q5⟩ := hN4.get hn16
              rw [HV.out] at q1; injection q1 with q1; subst q1
              have HN6 := Lib.hid hN6
              have HT6 := Lib.hid hT6
              have HU7 := Lib.hid hu7
              have HZ4 := Lib.hid hZ4
              clear hp4 hT4 hp4' hN4 hu4 hs4 hZ4 hput hT5 hN6 hu6 hT6 hu7 e0 e1 e2 e3 a0 a1 hc4 q2
              go_wp2_with (fail)
              go_roundw
              case rel =>
                refine ⟨k + 1, _, _, _, _, _, by go_num, by omega, HT6.out, HOD.out, HN6.out, fun j => ?_, fun x hx => HZ4.out x hx.1, HU7.out⟩
                have h1 := HF.out j
                by_cases e : j = n
                · simp only [if_pos e, List.length_nil]; omega
                · simp only [if_neg e]; omega
              case measure => simp [intOf]; omega
            · have hq5 : (kd == 5) = false := by simp [k5]
              have HK5 := Lib.hid k5
              clear k5
              by_cases k6 : kd = 6
              · have hq : (kd == 6) = true := by simp [k6]
                have HK := Lib.hid k6
                clear k6
                cases hG : G n with
                | true =>
                  obtain ⟨hs1, hs2⟩ := ord_sendNot HO.out hn16 hG s
                  have hsd := tbl_send_c (HT3.out.upd0 ((Upd.refl [] w3).drew)) HKO.out (by omega) n s
                  rw [hs1, hs2] at hsd
                  rw [hG] at b0
                  have hsd2 : Calls Try.prog 37 #[.pointer (some ⟨B, 0, none⟩), i64 n, .string s] w3.drew fun e w' => e = .returned (i64 17) ∧ w'.cell? ⟨S, 3, none⟩ = some (.string s) ∧ w'.cell? ⟨Rb, n, none⟩ = some (.bool true) ∧ UpdP Z3 w3.drew w' ∧ TblAt w' (grow Z3 w3.drew) B (tl) := by
                    refine hsd.mono ?_
                    rintro e w' ⟨rfl, hp, hT⟩
                    have hp2 : UpdP Z3 w3 w' := hp.undrew
                    obtain ⟨v2, q1, -, -, q2, -⟩ := (HN3.out.ringed hp2).get hn16
                    rw [hG] at q2
                    exact ⟨rfl, (cells4 (hp2.keep HS3.out hSZ)).2.2.2.1, q2, hp, hT⟩
                  have HSD := Lib.hid hsd2
                  clear hsd hsd2
                  go_wp2_with (fail)
                  go_region_held3 (fun w' => w'.cell? ⟨S, 3, none⟩ = some (.string s) ∧ w'.cell? ⟨Rb, n, none⟩ = some (.bool true))
                    ((first | exact ⟨e3, b0⟩ | exact ⟨hc3, hc4⟩))
                    ((first
                      | (go_at_call 37; (with_reducible refine Calls.mono (HSD.out) ?_); rintro e w4 ⟨rfl, hc3, hc4, hp4, hT4⟩)))
                  have hp4' : UpdP Z3 w3 w4 := hp4.undrew
                  have hN4 := HN3.out.ringed hp4'
                  have hu4 := HU3.out.transP hp4' HZ3.out
                  have hs4 := HU3.out.size
                  have hZ4 : ∀ x, grow Z3 w3 x → w.heap.size ≤ x := fun x hx => hx.elim (HZ3.out x) (Nat.le_trans hs4)
                  have hT4 : TblAt w4 (grow Z3 w3) B (tl) := hT4
                  clear hp4 e0 e1 e2 e3 b0
                  have HZX := Lib.hid hZ4
                  have HNX := Lib.hid hN4
                  have HUX := Lib.hid hu4
                  clear hN4 hu4 hs4 hZ4 hp4' a0 a1 b1
                  go_wp2_with (fail)
                  go_roundw
                  case rel => exact ⟨k + 1, _, _, cvs, F, G, by go_num, by omega, hT4, HO.out, HNX.out, fun j => Nat.le_trans (HF.out j) (by omega), HZX.out, HUX.out⟩
                  case measure => simp [intOf]; omega
                | false =>
                  obtain ⟨hs1, hs2⟩ := ord_send HO.out hn16 hG s
                  have hsd := tbl_send_c (HT3.out.upd0 ((Upd.refl [] w3).drew)) HKO.out (by omega) n s
                  rw [hs1] at hsd
                  rw [hG] at b0
                  have HOS := Lib.hid hs2
                  clear hs1 hs2
                  have hsd2 : Calls Try.prog 37 #[.pointer (some ⟨B, 0, none⟩), i64 n, .string s] w3.drew fun e w' => e = .returned (i64 0) ∧ w'.cell? ⟨S, 3, none⟩ = some (.string s) ∧ w'.cell? ⟨Rb, n, none⟩ = some (.bool false) ∧ UpdP Z3 w3.drew w' ∧ TblAt w' (grow Z3 w3.drew) B (tseL tl n s) := by
                    refine hsd.mono ?_
                    rintro e w' ⟨rfl, hp, hT⟩
                    have hp2 : UpdP Z3 w3 w' := hp.undrew
                    obtain ⟨v2, q1, -, -, q2, -⟩ := (HN3.out.ringed hp2).get hn16
                    rw [hG] at q2
                    exact ⟨rfl, (cells4 (hp2.keep HS3.out hSZ)).2.2.2.1, q2, hp, hT⟩
                  have HSD := Lib.hid hsd2
                  clear hsd hsd2
                  go_wp2_with (fail)
                  go_region_held3 (fun w' => w'.cell? ⟨S, 3, none⟩ = some (.string s) ∧ w'.cell? ⟨Rb, n, none⟩ = some (.bool false))
                    ((first | exact ⟨e3, b0⟩ | exact ⟨hc3, hc4⟩))
                    ((first
                      | (go_at_call 37; (with_reducible refine Calls.mono (HSD.out) ?_); rintro e w4 ⟨rfl, hc3, hc4, hp4, hT4⟩)))
                  have hp4' : UpdP Z3 w3 w4 := hp4.undrew
                  have hN4 := HN3.out.ringed hp4'
                  have hu4 := HU3.out.transP hp4' HZ3.out
                  have hs4 := HU3.out.size
                  have hZ4 : ∀ x, grow Z3 w3 x → w.heap.size ≤ x := fun x hx => hx.elim (HZ3.out x) (Nat.le_trans hs4)
                  have hT4 : TblAt w4 (grow Z3 w3) B (tseL tl n s) := hT4
                  clear hp4 e0 e1 e2 e3 b0
                  obtain ⟨v4, q1, a0', a1', b0', b1'⟩ := hN4.get hn16
                  rw [HV.out] at q1; injection q1 with q1; subst q1
                  have hsub4 := hN4.sub n _ HV.out
                  have hmx : (F n).length + 1 ≤ maxLen := by unfold maxLen; omega
                  have hsz4 := hu4.size
                  obtain ⟨ao5, cap5, w5, hrun, hs5, hu5, hb5⟩ := run_append_sl (P := Try.prog) (w := (w4.alloc (.cells #[.string s] 9)).drew) w.heap.size 38 38 9 i0 _ 1 16 Try.underlying38 hi hz0 hz1 hz2 rfl (by decide) (hsub4.upd0 ((Upd.refl [] w4).alloc (.cells #[.string s] 9)).drew) (src_block (heap_drew (heap_alloc_new _ _)) 1 1) rfl (by intro u hu; simp at hu; subst hu; rfl) hmx (by omega) (Nat.le_trans hsz4 ((Upd.refl [] w4).alloc (.cells #[.string s] 9)).drew.size)
                  have hmap : strs (F n ++ [s]) = strs (F n) ++ [.string s] := by unfold strs; rw [List.map_append]; rfl
                  have hlap : (F n ++ [s]).length = (F n).length + 1 := by rw [List.length_append]; rfl
                  have hput := hN4.put HV.out (v' := .slice ao5 ((F n).length + 1) cap5) (l := F n ++ [s]) (((Upd.refl _ w4).alloc (.cells #[.string s] 9)).drew.trans' hu5) (by rw [hmap, hlap]; exact hs5) (blk_or hb5 ((Upd.refl [] w4).alloc (.cells #[.string s] 9)).drew.size)
                  have hA5 := hu5.keep (heap_drew (heap_alloc_old hN4.hA (.cells #[.string s] 9))) (hN4.aoff HV.out)
                  have a5 : w5.cell? ⟨A, n, none⟩ = some (.slice vo (F n).length vcap) := by rw [cellOf hA5 n, List.getElem?_toArray]; exact HV.out
                  have y5 := frzOf hA5 n
                  have a4 : (w4.alloc (.cells #[.string s] 9)).cell? ⟨A, n, none⟩ = some (.slice vo (F n).length vcap) := by rw [cellOf (heap_alloc_old hN4.hA _) n, List.getElem?_toArray]; exact HV.out
                  have hoff := hN4.off HV.out
                  have hT6 := (hT4.cut).upd hput.2 hoff
                  have hu6 : Upd [] w _ := hu4.trans hput.2 (fun x hx => .inr (by
                    rcases List.mem_cons.1 hx with q | q
                    · subst q; exact hAw
                    · exact (HSUB.out.lt x q).1))
                  have HPUT := Lib.hid hput
                  have HT6 := Lib.hid hT6
                  have HU6 := Lib.hid hu6
                  have HZ4 := Lib.hid hZ4
                  clear hput hT6 hu6 hZ4 hoff hA5 hs5 hu5 hb5 hsub4 hT4 hu4 hN4 hmap hlap hp4' a0 a1 b1 b1' hc4 hs4
                  have hFk : ∀ j, ((fun j => if j = n then F n ++ [s] else F j) j).length ≤ k + 1 := fun j => by
                    have h1 := HF.out j
                    by_cases e : j = n
                    · subst e; simp only [if_true, List.length_append, List.length_cons, List.length_nil]; omega
                    · simp only [if_neg e]; omega
                  have HFK := Lib.hid hFk
                  clear hFk
                  go_wp2_with (fail)
                  go_region_law ((refine step_plain rfl (wp_append_run _ _ _ rfl rfl rfl hrun ?_)))
                  all_goals go_wp2_with (fail)
                  all_goals (try go_roundw)
                  all_goals first
                    | exact ⟨⟨k + 1, _, _, _, _, G, by go_num, by omega, HT6.out, HOS.out, HPUT.out.1, HFK.out, fun x hx => HZ4.out x hx.1, HU6.out⟩, by simp [intOf]; omega⟩
                    | exact ⟨k + 1, _, _, _, _, G, by go_num, by omega, HT6.out, HOS.out, HPUT.out.1, HFK.out, fun x hx => HZ4.out x hx.1, HU6.out⟩
                    | (simp [intOf]; omega)
              · have hq6 : (kd == 6) = false := by simp [k6]
                have HK6 := Lib.hid k6
                clear k6 e0 e1 e2 e3 a0 a1 b0 b1
                go_wp2_with (fail)
                refine Calls.mono (tbl_takes_c HT3.out n) ?_
                rintro e w4 ⟨rfl, hu4⟩
                have hT4 := HT3.out.cut.upd0 hu4
                have hN4 := HN3.out.step hu4
                have hu4' := HU3.out.trans' hu4
                have hZ4 : ∀ x, cutZ Z3 w3 x → w.heap.size ≤ x := fun x hx => HZ3.out x hx.1
                clear hu4
                generalize cutZ Z3 w3 = Z4 at *
                have hdv := tbl_deliver_c hT4 HKO.out (by omega) n
                cases hG : G n with
                | true =>
                  rw [ord_deliverNot HO.out hn16 hG] at hdv
                  generalize ttakes tl n = tk at *
                  have HDV := Lib.hid hdv
                  have HN4 := Lib.hid hN4
                  clear hdv hN4 hT4
                  go_wp2_with (fail)
                  refine HDV.out.mono ?_
                  rintro e w5 ⟨rfl, hp, hT5⟩
                  have hs4 := hu4'.size
                  have hN5 := HN4.out.ringed hp
                  have hu5 := hu4'.transP hp hZ4
                  have hZ5 : ∀ x, grow Z4 w4 x → w.heap.size ≤ x := fun x hx => hx.elim (hZ4 x) (Nat.le_trans hs4)
                  clear hp hZ4 hu4'
                  obtain ⟨v5, q1, a0, a1, b0, b1⟩ := hN5.get hn16
                  rw [HV.out] at q1; injection q1 with q1; subst q1
                  rw [hG] at b0
                  have HN5 := Lib.hid hN5
                  have HT5 := Lib.hid hT5
                  have HU5 := Lib.hid hu5
                  have HZ5 := Lib.hid hZ5
                  clear hN5 hT5 hu5 hZ5
                  go_wp2_with (fail)
                  go_roundw
                  case rel => exact ⟨k + 1, _, _, cvs, F, G, by go_num, by omega, HT5.out, HO.out, HN5.out, fun j => Nat.le_trans (HF.out j) (by omega), HZ5.out, HU5.out⟩
                  case measure => simp [intOf]; omega
                | false =>
                  cases hFn' : F n with
                  | nil =>
                    obtain ⟨l', e1, ho'⟩ := ord_deliverEnd HO.out hn16 hG hFn'
                    rw [e1] at hdv
                    generalize ttakes tl n = tk at *
                    have HDV := Lib.hid hdv
                    have HN4 := Lib.hid hN4
                    have HOD := Lib.hid ho'
                    clear hdv hN4 hT4 e1 ho'
                    go_wp2_with (fail)
                    refine HDV.out.mono ?_
                    rintro e w5 ⟨rfl, hp, hT5⟩
                    have hs4 := hu4'.size
                    have hN5 := HN4.out.ringed hp
                    have hu5 := hu4'.transP hp hZ4
                    have hZ5 : ∀ x, grow Z4 w4 x → w.heap.size ≤ x := fun x hx => hx.elim (hZ4 x) (Nat.le_trans hs4)
                    clear hp hZ4 hu4'
                    obtain ⟨v5, q1, a0, a1, b0, b1⟩ := hN5.get hn16
                    rw [HV.out] at q1; injection q1 with q1; subst q1
                    rw [hG] at b0
                    rw [hFn'] at a0
                    rw [show ((List.length ([] : List ByteArray))) = 0 from rfl] at a0
                    obtain ⟨hN6, hu6⟩ := hN5.rest n (!tk)
                    have hT6 := hT5.upd hu6 (fun x hx => by simp at hx; subst hx; exact hN5.zR)
                    have hu7 : Upd [] w _ := hu5.trans hu6 (fun x hx => .inr (by simp at hx; subst hx; exact hRw))
                    have HN6 := Lib.hid hN6
                    have HT6 := Lib.hid hT6
                    have HU7 := Lib.hid hu7
                    have HZ5 := Lib.hid hZ5
                    clear hN5 hN6 hu6 hT6 hu7 hT5 hu5 hZ5
                    cases tk <;>
                    · go_wp2_with (fail)
                      go_roundw
                      case rel =>
                        exact ⟨k + 1, _, _, _, _, _, by go_num, by omega, HT6.out, HOD.out, HN6.out, fun j => Nat.le_trans (HF.out j) (by omega), fun x hx => HZ5.out x hx, HU7.out⟩
                      case measure => simp [intOf]; omega
                  | cons s' r =>
                    obtain ⟨l', e1, ho'⟩ := ord_deliver HO.out hn16 hG hFn'
                    rw [e1] at hdv
                    generalize ttakes tl n = tk at *
                    have HDV := Lib.hid hdv
                    have HN4 := Lib.hid hN4
                    have HOD := Lib.hid ho'
                    clear hdv hN4 hT4 e1 ho'
                    go_wp2_with (fail)
                    refine HDV.out.mono ?_
                    rintro e w5 ⟨rfl, hp, hT5⟩
                    have hs4 := hu4'.size
                    have hN5 := HN4.out.ringed hp
                    have hu5 := hu4'.transP hp hZ4
                    have hZ5 : ∀ x, grow Z4 w4 x → w.heap.size ≤ x := fun x hx => hx.elim (hZ4 x) (Nat.le_trans hs4)
                    clear hp hZ4 hu4'
                    obtain ⟨v5, q1, a0, a1, b0, b1⟩ := hN5.get hn16
                    rw [HV.out] at q1; injection q1 with q1; subst q1
                    rw [hG] at b0
                    rw [hFn'] at a0
                    have hsub5 := hN5.sub n _ HV.out
                    rw [hFn'] at hsub5
                    rw [hFn'] at HSUB
                    rw [hFn'] at HV
                    rw [hFn'] at hFn
                    simp only [List.length_cons] at a0 hsub5 HV HSUB hFn
                    obtain ⟨aq, cq, hq7, hcq, hrow5⟩ := hsub5.form
                    injection hq7 with q2 q3 q4
                    subst q2; subst q4
                    obtain ⟨g4, off4, rfl, -, -, hcs4⟩ := hrow5 (by simp)
                    have d0 := hcs4 0 _ rfl
                    rw [Nat.add_zero] at d0
                    have hgw : w.heap.size ≤ g4 := (hsub5.lt g4 (by simp [blkL])).1
                    have HSUB5 := Lib.hid hsub5
                    have HN5 := Lib.hid hN5
                    have HT5 := Lib.hid hT5
                    have HU5 := Lib.hid hu5
                    have HZ5 := Lib.hid hZ5
                    clear hN5 hT5 hu5 hZ5
                    clear hsub5 hrow5 hcs4 b1
                    by_cases hcap1 : vcap = 1
                    · subst hcap1
                      obtain rfl : r = [] := List.eq_nil_of_length_eq_zero (by omega)
                      have hput := HN5.out.put HV.out (v' := .slice (some ⟨g4, off4, none⟩) 0 0) (l := []) (Upd.refl _ w5) (HSUB5.out.none) (fun x hx => .inl (by simpa [blkL] using hx))
                      have hoff := HN5.out.off HV.out
                      have hT6 := (HT5.out.cut).upd hput.2 hoff
                      have hu6 : Upd [] w _ := HU5.out.trans hput.2 (fun x hx => .inr (by
                        rcases List.mem_cons.1 hx with q | q
                        · subst q; exact hAw
                        · simp [blkL] at q; subst q; exact hgw))
                      have HPUT := Lib.hid hput
                      have HT6 := Lib.hid hT6
                      have HU6 := Lib.hid hu6
                      clear hput hoff hT6 hu6
                      go_wp2_with (fail)
                      go_roundw
                      case rel =>
                        refine ⟨k + 1, _, _, _, _, G, by go_num, by omega, HT6.out, HOD.out, HPUT.out.1, fun j => ?_, fun x hx => HZ5.out x hx.1, HU6.out⟩
                        have h1 := HF.out j
                        by_cases e : j = n
                        · subst e; simp only [if_true]; first | omega | (simp only [List.length_nil]; omega)
                        · simp only [if_neg e]; omega
                      case measure => simp [intOf]; omega
                    · have hz1 : (((r.length : Int) + 1) == 0) = false := by rw [beq_eq_false_iff_ne]; omega
                      have hz2 : (0 : Int) < (r.length : Int) + 1 := by omega
                      have hput := HN5.out.put HV.out (v' := .slice (some ⟨g4, off4 + 1, none⟩) r.length (vcap - 1)) (l := r) (Upd.refl _ w5) (Sub.tail (n := r.length) HSUB5.out) (fun x hx => .inl (by simpa [blkL] using hx))
                      have hoff := HN5.out.off HV.out
                      have hT6 := (HT5.out.cut).upd hput.2 hoff
                      have hu6 : Upd [] w _ := HU5.out.trans hput.2 (fun x hx => .inr (by
                        rcases List.mem_cons.1 hx with q | q
                        · subst q; exact hAw
                        · simp [blkL] at q; subst q; exact hgw))
                      have HPUT := Lib.hid hput
                      have HT6 := Lib.hid hT6
                      have HU6 := Lib.hid hu6
                      clear hput hoff hT6 hu6
                      go_wp2_with (fail)
                      go_roundw
                      case rel =>
                        refine ⟨k + 1, _, _, _, _, G, by go_num, by omega, HT6.out, HOD.out, HPUT.out.1, fun j => ?_, fun x hx => HZ5.out x hx.1, HU6.out⟩
                        have h1 := HF.out j
                        by_cases e : j = n
                        · subst e; simp only [if_true]; first | omega | (simp only [List.length_nil]; omega)
                        · simp only [if_neg e]; omega
                      case measure => simp [intOf]; omega
      · have e : k = l.length := by omega
        go_wp2_with (fail)
        refine Calls.mono (connAwake_c _) ?_
        rintro e w5 ⟨rfl, hu5⟩
        go_wp2_with (fail)
        exact hR.out _ _ ⟨rfl, hu.trans' hu5⟩

set_option maxRecDepth 100000 in
theorem connOrder_walk {H : Type} {enc : TypeId × Value → H} {W : World} {base : Nat} {args : Array Value} {ds gs : List (DataW H)} {before : List MemPlace}
    (hval : ∀ (j : Nat) t v, Try.f9.params[j]? = some t → args[j]? = some v → Value.okWide Try.prog W .any base t v)
    (hW : DataW.Whole enc Try.prog Try.f9.params.toList [] false W args.toList ds gs before) : Trues 9 args W := by
  obtain ⟨p, q, hA, -, rfl, -, -⟩ := hW
  rw [Try.params9] at hA hval
  obtain ⟨v0, d0, rfl, rfl, h0⟩ := trodAll_one hA
  obtain ⟨ao, cap, l, rfl, hlc, hcap, hg, hl⟩ := open_list CStp.parse Try.underlying51 flat_cstp cells_cstp (by decide) (hval 0 51 v0 rfl rfl) h0
  refine connOrder_c ao cap l W (by omega) ?_ hg
  rcases hl with rfl | ⟨b, off, rfl, hr⟩
  · exact .inl rfl
  · cases l with
    | nil => exact .inl rfl
    | cons x r => exact .inr ⟨b, off, rfl, hr, World.block_lt_of_cell? W _ (hr 0 x rfl 0 (by decide))⟩

set_option maxRecDepth 100000 in
theorem connOrder_lifted (os : Os) (started : os.Started) (H : Type) (enc : TypeId × Value → H) :
    ReturnsInHanded {} Try.checked os 9 .any (Rows.connOrderSpec.pre6 enc Try.prog Try.f9 Rows.connOrderRow.domain false) (Rows.connOrderSpec.post enc Try.prog Try.f9 false true false false) := by
  refine returnsInHanded_of_change (C := Try.checked) own started (by kernel_rfl) Try.func9
    (ChangeSpec.witness6 (enc := enc) (C := Try.checked) false ⟨#[], #[.slice none 0 0], []⟩ 8 (by kernel_rfl) (by kernel_rfl) (by kernel_rfl) (by kernel_rfl)) ?_
  intro W base args ds gs before hval hW hcnd _
  refine Calls.mono (connOrder_walk hval hW) fun e W' ⟨he, hu⟩ => ?_
  exact ⟨_, he, law_post rfl rfl (by kernel_rfl) hW (fun ds h => by match ds, h with | [_], _ => rfl) hu⟩

set_option maxRecDepth 100000 in
theorem connOrder_over : Rows.connOrderRow.holds Try.pinned (OpenSpec.ofChange Rows.connOrderSpec) :=
  OpenClaim.holds_of_wide 9 Try.f9 rfl rfl rfl rfl rfl rfl rfl ⟨rfl, rfl, rfl, rfl, rfl⟩ rfl rfl rfl rfl rfl (by kernel_rfl) Try.func9 (by kernel_rfl)
    (of_decide_eq_true (by kernel_rfl)) (by unfold Func.isWrapper; first | (rw [if_pos (by decide +kernel)]; kernel_rfl) | (rw [if_neg (by decide +kernel)]; exact ⟨rfl, rfl⟩))
    (fun os started H enc _ => connOrder_lifted os started H enc)

theorem connOrder_proved : Rows.ConnOrderSaid := connOrder_over
end Go.Proofs.Ytagadbgbicebaaa
