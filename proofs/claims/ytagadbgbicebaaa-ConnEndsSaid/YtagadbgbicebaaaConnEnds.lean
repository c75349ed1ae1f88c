/-
  ConnEnds: a connection that takes nothing in never does again, whatever is done, stays its owner's once it is bound, and is told to be shut once at most. For every list of steps within the form's reach.
-/
import Derived.Test.YtagadbgbicebaaaEnds
import Derived.Deep.RegionLaw
namespace Go.Proofs.Ytagadbgbicebaaa
open Go Go.RowKit Go.ChangeShapes Go.WideShapes Go.ChangeAt

theorem info_int : (Try.prog.info? 3).map (fun i => (i.zero, i.size, i.bytes)) = some (some (.int .i64 0), 1, 8) := by kernel_rfl

set_option maxRecDepth 100000 in
set_option maxHeartbeats 16000000 in
theorem connEnds_c (ao : Option Addr) (cap : Nat) (l : List CStp) (w : World) (hcap : l.length ≤ maxLen) (hao : l = [] ∨ ∃ b off, ao = some ⟨b, off, none⟩ ∧ RowsAt w b off 4 CStp.cells l ∧ b < w.heap.size) (hgood : ∀ x ∈ l, x.good) (hz : ∀ x ∈ l, x.b.size ≤ reachBytes) :
    Trues 10 #[.slice ao l.length cap] w := by
  unfold Trues
  have hmuch := cmuchZ_c ao cap l w hcap hao hz
  have HAO := Lib.hid hao
  have HGood := Lib.hid hgood
  obtain ⟨i2, hi2, hx0, hx1, hx2⟩ := info_parts info_boo
  obtain ⟨i3, hi3, hy0, hy1, hy2⟩ := info_parts info_int
  have hmk2 : ∀ wx, (Instr.makeSlice 58 (i64 16) (i64 16)).run Try.prog wx = .ok (.slice (some ⟨wx.heap.size, 0, none⟩) 16 16) (wx.alloc (.cells (bcells fun _ => false).toArray 4)) := by
    intro wx
    have := run_make (P := Try.prog) wx 58 4 i2 _ Try.underlying58 hi2 hx0 .i64 .i64 16 16 (by omega) (by omega) (by rw [hx2]; omega) (by omega)
    rw [this, hx1, show (madeCells (Value.bool false).cells (Int.toNat 16 * 1)) = (bcells fun _ => false).toArray from by kernel_rfl]; rfl
  have hmk3 : ∀ wx, (Instr.makeSlice 68 (i64 16) (i64 16)).run Try.prog wx = .ok (.slice (some ⟨wx.heap.size, 0, none⟩) 16 16) (wx.alloc (.cells (icells fun _ => 0).toArray 3)) := by
    intro wx
    have := run_make (P := Try.prog) wx 68 3 i3 _ Try.underlying68 hi3 hy0 .i64 .i64 16 16 (by omega) (by omega) (by rw [hy2]; omega) (by omega)
    rw [this, hy1, show (madeCells (Value.int .i64 0).cells (Int.toNat 16 * 1)) = (icells fun _ => 0).toArray from by kernel_rfl]; rfl
  have HM := Lib.hid hmuch
  clear hi2 hx0 hx1 hx2 hi3 hy0 hy1 hy2 hmuch hao hgood hcap hz
  refine post fun R hR => ?_
  go_enter Try.func10, Try.ntmps10
  go_wp2_with (fail)
  refine HM.out.mono ?_
  rintro e wx ⟨x, rfl, hx150, rfl⟩
  cases x with
  | true =>
    clear hmk2 hmk3
    go_wp2_with (fail)
    refine Calls.mono (connAwake_c _) ?_
    rintro e w5 ⟨rfl, hu5⟩
    go_wp2_with (fail)
    exact hR.out _ _ ⟨rfl, hu5⟩
  | false =>
    obtain ⟨hlen, htot⟩ := hx150 rfl
    clear hx150 HM
    go_wp2_with (fail)
    refine Calls.mono (cnew_c _) ?_
    rintro e w1 ⟨rfl, hu1, hh1⟩
    have hB0 := heap_alloc_old (heap_alloc_old (heap_alloc_old hh1 (.cells (bcells fun _ => false).toArray 4)) (.cells (icells fun _ => 0).toArray 3)) (.cells (icells fun _ => 0).toArray 3)
    have hE0 := heap_alloc_old (heap_alloc_old (heap_alloc_new w1 (.cells (bcells fun _ => false).toArray 4)) (.cells (icells fun _ => 0).toArray 3)) (.cells (icells fun _ => 0).toArray 3)
    have hD0 := heap_alloc_old (heap_new2 w1 (.cells (bcells fun _ => false).toArray 4) (.cells (icells fun _ => 0).toArray 3)) (.cells (icells fun _ => 0).toArray 3)
    have hO0 : ((((w1.alloc (.cells (bcells fun _ => false).toArray 4)).alloc (.cells (icells fun _ => 0).toArray 3)).alloc (.cells (icells fun _ => 0).toArray 3)).heap)[w1.heap.size + 1 + 1]? = _ := heap_new3 w1 (.cells (bcells fun _ => false).toArray 4) (.cells (icells fun _ => 0).toArray 3) (.cells (icells fun _ => 0).toArray 3)
    have hu0 := ((hu1.alloc (.cells (bcells fun _ => false).toArray 4)).alloc (.cells (icells fun _ => 0).toArray 3)).alloc (.cells (icells fun _ => 0).toArray 3)
    have hlt1 : w.heap.size < w1.heap.size := lt_of_heap hh1
    clear hh1 hu1
    go_wp2_with (fail)
    clear hmk2 hmk3
    have hT1 := tblAt_new hB0 (Z := fun x => x = w.heap.size) rfl
    have hN1 : EndsAt _ (fun x => x = w.heap.size) (w1.heap.size) (w1.heap.size + 1) (w1.heap.size + 1 + 1) (fun _ => false) (fun _ => 0) (fun _ => 0) :=
      ⟨hE0, hD0, hO0, (by show ¬ w1.heap.size = w.heap.size; omega), (by show ¬ w1.heap.size + 1 = w.heap.size; omega), (by show ¬ w1.heap.size + 1 + 1 = w.heap.size; omega), by omega⟩
    have hZ1 : ∀ x : Nat, (fun x : Nat => x = w.heap.size) x → w.heap.size ≤ x := fun x hx => Nat.le_of_eq hx.symm
    clear hB0 hE0 hD0 hO0
    generalize ((w1.alloc (.cells (bcells fun _ => false).toArray 4)).alloc (.cells (icells fun _ => 0).toArray 3)).alloc (.cells (icells fun _ => 0).toArray 3) = w2 at *
    obtain ⟨B, hBe⟩ : ∃ B, B = w.heap.size := ⟨_, rfl⟩
    obtain ⟨Eb, hEe⟩ : ∃ A, A = w1.heap.size := ⟨_, rfl⟩
    obtain ⟨Db, hDe⟩ : ∃ R, R = w1.heap.size + 1 := ⟨_, rfl⟩
    obtain ⟨Ob, hOe⟩ : ∃ R, R = w1.heap.size + 1 + 1 := ⟨_, rfl⟩
    rw [← hOe, ← hDe, ← hEe] at hN1 ⊢
    have hT1' : TblAt w2 (fun x => x = w.heap.size) B [] := by rw [hBe]; exact hT1
    rw [← hBe]
    have hEw : w.heap.size ≤ Eb := by omega
    have hDw : w.heap.size ≤ Db := by omega
    have hOw : w.heap.size ≤ Ob := by omega
    have hED : Eb ≠ Db := by omega
    have hEO : Eb ≠ Ob := by omega
    have hDO : Db ≠ Ob := by omega
    clear hT1 hOe hDe hEe hlt1
    generalize (fun x : Nat => x = w.heap.size) = Z1 at *
    clear hBe
    have hF1 : Fine [] 0 (ctot (l.take 0)) := ⟨by simp, fun j m hj => by simp at hj⟩
    go_loopw [7] (fun i wr => ∃ (k : Nat) (tl : List Ln) (Z : Nat → Prop) (E : Nat → Bool) (D O : Nat → Int), i = i64 k ∧ k ≤ l.length ∧ TblAt wr Z B tl ∧ Fine tl k (ctot (l.take k)) ∧ Inv tl E D O ∧ EndsAt wr Z Eb Db Ob E D O ∧ (∀ x, Z x → w.heap.size ≤ x) ∧ Upd [] w wr) (fun i _ => l.length - (intOf i).toNat)
    case atStart => exact ⟨0, [], Z1, _, _, _, rfl, Nat.zero_le _, hT1', hF1, inv_new, hN1, hZ1, hu0⟩
    case round =>
      clear hT1' hF1 hN1 hZ1 hu0
      obtain ⟨k, tl, Z, E, D, O, rfl, hk, hT, hF, hI, hN, hZ, hu⟩ := hrel
      by_cases hlt : k < l.length
      · obtain ⟨b, off, rfl, hrows, hb⟩ : ∃ b off, ao = some ⟨b, off, none⟩ ∧ RowsAt w b off 4 CStp.cells l ∧ b < w.heap.size := by
          rcases HAO.out with e | e
          · rw [e] at hlt; simp at hlt
          · exact e
        obtain ⟨c0, c1, c2, c3⟩ := csrow hrows hu hb hlt
        obtain ⟨⟨g1, g2⟩, ⟨g3, g4⟩, ⟨g5, g6⟩, g7⟩ := HGood.out l[k] (List.getElem_mem hlt)
        have htk := ctot_snoc l k hlt
        have htk2 := ctot_take l (k + 1)
        generalize l[k].kind = kd at *
        generalize l[k].n = nn at *
        generalize l[k].by' = ow at *
        generalize l[k].b = s at *
        generalize ctot (l.take k) = T at *
        generalize hT' : ctot (l.take (k + 1)) = T' at *
        have HTe := Lib.hid hT'
        clear hT'
        have hT1 : T ≤ T' := by omega
        have hlen1 : T + s.size ≤ 1000000 := by omega
        have hT2 : T + s.size ≤ T' := by omega
        have HT1 := Lib.hid hT1
        have HT2 := Lib.hid hT2
        -- the step's copy
        have hS3 := heap_alloc_new wr (.cells #[i64 kd, i64 nn, i64 ow, .string s] 61)
        have hux := (Upd.refl [] wr).alloc (.cells #[i64 kd, i64 nn, i64 ow, .string s] 61)
        have hT3 := hT.cut.upd0 hux
        have hN3 := hN.cut.same hux
        have hu3 := hu.trans' hux
        have hZ3 : ∀ x, cutZ Z wr x → w.heap.size ≤ x := fun x hx => hZ x hx.1
        have hSZ : ¬ cutZ Z wr wr.heap.size := fun hx => by have := hx.2; omega
        have HF := Lib.hid hF
        have HI := Lib.hid hI
        clear hT hN hZ hux hrows hF hI htk htk2 hT1 hT2
        go_upto_block 2 with (fail)
        obtain ⟨S, hSe⟩ : ∃ S, S = wr.heap.size := ⟨_, rfl⟩
        rw [← hSe] at hS3 hSZ ⊢
        have hSw : w.heap.size ≤ S := by rw [hSe]; exact hu.size
        clear hSe c0 c1 c2 c3 hu
        generalize wr.alloc (.cells #[i64 kd, i64 nn, i64 ow, .string s] 61) = w3 at *
        generalize cutZ Z wr = Z3 at *
        obtain ⟨e0, e1, e2, e3, -⟩ := cells4 hS3
        have HT3 := Lib.hid hT3
        have HN3 := Lib.hid hN3
        have HU3 := Lib.hid hu3
        have HZ3 := Lib.hid hZ3
        have HS3 := Lib.hid hS3
        clear hT3 hN3 hu3 hZ3 hS3
        go_cut [] (fun wc => ∃ (tl' : List Ln) (Z' : Nat → Prop) (D' : Nat → Int), TblAt wc Z' B tl' ∧ Fine tl' (k + 1) T' ∧ Inv tl' E D' O ∧ EndsAt wc Z' Eb Db Ob E D' O ∧ (∀ x, Z' x → w.heap.size ≤ x) ∧ Upd [] w wc)
        case first =>
          by_cases k1 : kd = 1
          · have hq : (kd == 1) = true := by simp [k1]
            have HK := Lib.hid k1
            clear k1
            go_wp2_with (fail)
            refine Calls.mono (tbl_open_c HT3.out) ?_
            rintro e w4 ⟨rfl, hp, hT4⟩
            have hs := HU3.out.size
            have hN4 := HN3.out.ringed hp
            have hu4 := HU3.out.transP hp HZ3.out
            have hZ4 : ∀ x, grow Z3 w3 x → w.heap.size ≤ x := fun x hx => hx.elim (HZ3.out x) (Nat.le_trans hs)
            have hfine := fine_open HF.out T' HT1.out
            have HI4 := Lib.hid (HI.out.grw hfine.2 hfine.1)
            have HF4 := Lib.hid hfine.1
            clear hp e0 e1 e2 e3 hfine
            go_wp2_with (fail)
            go_meet
            case rel => exact ⟨_, _, D, hT4, HF4.out, HI4.out, hN4, hZ4, hu4⟩
          · have hq1 : (kd == 1) = false := by simp [k1]
            have HK1 := Lib.hid k1
            clear k1
            by_cases k2 : kd = 2
            · have hq : (kd == 2) = true := by simp [k2]
              have HK := Lib.hid k2
              have HPU := Lib.hid (tbl_push_c HT3.out nn s (fun m hm => by have := (HF.out.at hm).r; omega))
              clear k2
              go_wp2_with (fail)
              refine HPU.out.mono ?_
              rintro e w4 ⟨ao4, cap4, rfl, -, hp, hT4⟩
              clear HPU
              have hs := HU3.out.size
              have hN4 := HN3.out.ringed hp
              have hu4 := HU3.out.transP hp HZ3.out
              have hZ4 : ∀ x, grow Z3 w3 x → w.heap.size ≤ x := fun x hx => hx.elim (HZ3.out x) (Nat.le_trans hs)
              have hfine := fine_push HF.out nn s HT2.out
              have HI4 := Lib.hid (HI.out.grw hfine.2 hfine.1)
              have HF4 := Lib.hid hfine.1
              clear hp e0 e1 e2 e3 hfine
              go_wp2_with (fail)
              go_meet
              case rel => exact ⟨_, _, D, hT4, HF4.out, HI4.out, hN4, hZ4, hu4⟩
            · have hq2 : (kd == 2) = false := by simp [k2]
              have HK2 := Lib.hid k2
              clear k2
              by_cases k3 : kd = 3
              · have hq : (kd == 3) = true := by simp [k3]
                have HK := Lib.hid k3
                clear k3
                go_wp2_with (fail)
                refine Calls.mono (tbl_bind_c HT3.out nn ow) ?_
                rintro e w4 ⟨rfl, hp, hT4⟩
                have hs := HU3.out.size
                have hN4 := HN3.out.ringed hp
                have hu4 := HU3.out.transP hp HZ3.out
                have hZ4 : ∀ x, grow Z3 w3 x → w.heap.size ≤ x := fun x hx => hx.elim (HZ3.out x) (Nat.le_trans hs)
                have hfine := fine_bind HF.out nn ow T' HT1.out
                have HI4 := Lib.hid (HI.out.grw hfine.2 hfine.1)
                have HF4 := Lib.hid hfine.1
                clear hp e0 e1 e2 e3 hfine
                go_wp2_with (fail)
                go_meet
                case rel => exact ⟨_, _, D, hT4, HF4.out, HI4.out, hN4, hZ4, hu4⟩
              · have hq3 : (kd == 3) = false := by simp [k3]
                have HK3 := Lib.hid k3
                clear k3
                by_cases k4 : kd = 4
                · have hq : (kd == 4) = true := by simp [k4]
                  have HK := Lib.hid k4
                  clear k4
                  go_wp2_with (fail)
                  refine Calls.mono (tbl_shut_c HT3.out nn) ?_
                  rintro e w4 ⟨rfl, hp, hT4⟩
                  have hs := HU3.out.size
                  have hN4 := HN3.out.ringed hp
                  have hu4 := HU3.out.transP hp HZ3.out
                  have hZ4 : ∀ x, grow Z3 w3 x → w.heap.size ≤ x := fun x hx => hx.elim (HZ3.out x) (Nat.le_trans hs)
                  have hfine := fine_shut HF.out nn T' HT1.out
                  have HI4 := Lib.hid (HI.out.grw hfine.2 hfine.1)
                  have HF4 := Lib.hid hfine.1
                  clear hp e0 e1 e2 e3 hfine
                  go_wp2_with (fail)
                  go_meet
                  case rel => exact ⟨_, _, D, hT4, HF4.out, HI4.out, hN4, hZ4, hu4⟩
                · have hq4 : (kd == 4) = false := by simp [k4]
                  have HK4 := Lib.hid k4
                  clear k4
                  by_cases k5 : kd = 5
                  · have hq : (kd == 5) = true := by simp [k5]
                    have HK := Lib.hid k5
                    clear k5
                    go_wp2_with (fail)
                    refine Calls.mono (tbl_drop_c HT3.out nn) ?_
                    rintro e w4 ⟨rfl, hp, hT4⟩
                    have hs := HU3.out.size
                    have hN4 := HN3.out.ringed hp
                    have hu4 := HU3.out.transP hp HZ3.out
                    have hZ4 : ∀ x, grow Z3 w3 x → w.heap.size ≤ x := fun x hx => hx.elim (HZ3.out x) (Nat.le_trans hs)
                    have hfine := fine_drop HF.out nn T' HT1.out
                    have HI4 := Lib.hid (HI.out.grw hfine.2 hfine.1)
                    have HF4 := Lib.hid hfine.1
                    clear hp e0 e1 e2 e3 hfine
                    go_wp2_with (fail)
                    go_meet
                    case rel => exact ⟨_, _, D, hT4, HF4.out, HI4.out, hN4, hZ4, hu4⟩
                  · have hq5 : (kd == 5) = false := by simp [k5]
                    have HK5 := Lib.hid k5
                    clear k5
                    by_cases k6 : kd = 6
                    · have hq : (kd == 6) = true := by simp [k6]
                      have HK := Lib.hid k6
                      clear k6
                      go_wp2_with (fail)
                      refine Calls.mono (tbl_send_c HT3.out HF.out.outs (by omega) nn s) ?_
                      rintro e w4 ⟨rfl, hp, hT4⟩
                      have hs := HU3.out.size
                      have hN4 := HN3.out.ringed hp
                      have hu4 := HU3.out.transP hp HZ3.out
                      have hZ4 : ∀ x, grow Z3 w3 x → w.heap.size ≤ x := fun x hx => hx.elim (HZ3.out x) (Nat.le_trans hs)
                      have hfine := fine_send HF.out nn s T' HT1.out
                      have HI4 := Lib.hid (HI.out.grw hfine.2 hfine.1)
                      have HF4 := Lib.hid hfine.1
                      clear hp e0 e1 e2 e3 hfine
                      go_wp2_with (fail)
                      go_meet
                      case rel => exact ⟨_, _, D, hT4, HF4.out, HI4.out, hN4, hZ4, hu4⟩
                    · have hq6 : (kd == 6) = false := by simp [k6]
                      have HK6 := Lib.hid k6
                      have HDV := Lib.hid (tbl_deliver_c HT3.out HF.out.outs (by omega) nn)
                      have hfd := fine_dv HF.out nn T' HT1.out
                      have HFD := Lib.hid hfd.1
                      have HID := Lib.hid (HI.out.grw hfd.2 hfd.1)
                      clear k6 hfd
                      cases hx : (tdv tl nn).x with
                      | false =>
                        rw [hx] at HDV
                        go_wp2_with (fail)
                        refine HDV.out.mono ?_
                        rintro e w4 ⟨rfl, hp, hT4⟩
                        have hs := HU3.out.size
                        have hN4 := HN3.out.ringed hp
                        have hu4 := HU3.out.transP hp HZ3.out
                        have hZ4 : ∀ x, grow Z3 w3 x → w.heap.size ≤ x := fun x hx => hx.elim (HZ3.out x) (Nat.le_trans hs)
                        clear hp e0 e1 e2 e3 HDV
                        go_wp2_with (fail)
                        go_meet
                        case rel => exact ⟨_, _, D, hT4, HFD.out, HID.out, hN4, hZ4, hu4⟩
                      | true =>
                        obtain ⟨q, rfl, hq16, hDq, hIq⟩ := inv_told HI.out HF.out hx
                        rw [hx] at HDV
                        have HIQ := Lib.hid hIq
                        clear hIq
                        have i16a : (0 : Int) ≤ (q : Int) := by omega
                        have i16b : (q : Int) < 16 := by omega
                        go_wp2_with (fail)
                        refine HDV.out.mono ?_
                        rintro e w4 ⟨rfl, hp, hT4⟩
                        have hs := HU3.out.size
                        have hN4 := HN3.out.ringed hp
                        have hS4 := hp.keep HS3.out hSZ
                        have hu4 := HU3.out.transP hp HZ3.out
                        have hZ4 : ∀ x, grow Z3 w3 x → w.heap.size ≤ x := fun x hx => hx.elim (HZ3.out x) (Nat.le_trans hs)
                        clear hp e0 e1 e2 e3 HDV
                        obtain ⟨-, e1, -, -, -⟩ := cells4 hS4
                        obtain ⟨-, -, d0, d1, -, -⟩ := hN4.get hq16
                        rw [hDq] at d0
                        obtain ⟨hN6, hu6⟩ := hN4.setD q 1
                        have hT6 := hT4.upd hu6 (fun x hx => by simp at hx; subst hx; exact hN4.zD)
                        have hu7 : Upd [] w _ := hu4.trans hu6 (fun x hx => .inr (by simp at hx; subst hx; exact hDw))
                        have HN6 := Lib.hid hN6
                        have HT6 := Lib.hid hT6
                        have HU7 := Lib.hid hu7
                        have HZ4 := Lib.hid hZ4
                        clear hN4 hN6 hu6 hT6 hu7 hT4 hu4 hZ4 hS4 hs
                        go_wp2_with (fail)
                        go_meet
                        case rel => exact ⟨_, _, _, HT6.out, HFD.out, HIQ.out, HN6.out, HZ4.out, HU7.out⟩
        case rest =>
          obtain ⟨tl', Z', D', hT4, hF4, hI4, hN4, hZ4, hu4⟩ := hcut
          clear e0 e1 e2 e3 HT3 HN3 HU3 HZ3 HS3 HF HI HT1 HT2 hSZ hSw
          have hl4 := hF4.len
          have HF4 := Lib.hid hF4
          have HZ4 := Lib.hid hZ4
          clear hF4 hZ4
          have HLN := Lib.hid (fun (w' : World) (hh : TblAt w' Z' B tl') => tbl_len_c hh)
          generalize hq : tl'.length = ql at *
          have HQL := Lib.hid hq
          clear hq
          go_wp2_with (fail)
          refine Calls.mono (HLN.out _ hT4) ?_
          rintro e w5 ⟨rfl, hu5⟩
          replace hT4 := hT4.upd0 hu5
          replace hN4 := hN4.same hu5
          replace hu4 := hu4.trans' hu5
          clear hu5
          go_wp2_with (fail)
          refine Calls.mono (HLN.out _ hT4) ?_
          rintro e w6 ⟨rfl, hu5⟩
          replace hT4 := hT4.upd0 hu5
          replace hN4 := hN4.same hu5
          replace hu4 := hu4.trans' hu5
          clear hu5
          go_wp2_with (fail)
          go_loopw [12] (fun i wr => ∃ (q : Nat) (E : Nat → Bool) (O : Nat → Int), i = i64 q ∧ q ≤ ql ∧ TblAt wr Z' B tl' ∧ Inv tl' E D' O ∧ EndsAt wr Z' Eb Db Ob E D' O ∧ Upd [] w wr) (fun i _ => ql - (intOf i).toNat)
          case atStart => exact ⟨0, E, O, rfl, Nat.zero_le _, hT4, hI4, hN4, hu4⟩
          case round =>
            clear hT4 hI4 hN4 hu4
            obtain ⟨q, E, O, rfl, hqk, hT4, hI4, hN4, hu4⟩ := hrel
            have HI4 := Lib.hid hI4
            clear hI4
            go_wp2_with (fail)
            refine Calls.mono (HLN.out _ hT4) ?_
            rintro e w5 ⟨rfl, hu5⟩
            have hT5 := hT4.upd0 hu5
            have hN5 := hN4.same hu5
            have hx5 := hu4.trans' hu5
            clear hu5 hT4 hN4 hu4
            by_cases hql : q < ql
            · have hq16 : q < 16 := by omega
              have i16a : (0 : Int) ≤ (q : Int) := by omega
              have i16b : (q : Int) < 16 := by omega
              obtain ⟨r1, r2, r3, r4, r5, r6, hIr⟩ := inv_row HI4.out HF4.out (q := q) (by rw [HQL.out]; exact hql)
              obtain ⟨a0, a1, -, -, b0, b1⟩ := hN5.get hq16
              have htk : ∀ w', Upd [] w5 w' → Calls Try.prog 38 #[.pointer (some ⟨B, 0, none⟩), i64 q] w' fun e w'' => e = .returned (.bool (ttakes tl' q)) ∧ w''.cell? ⟨Eb, q, none⟩ = some (.bool (E q)) ∧ w''.cell? ⟨Ob, q, none⟩ = some (i64 (O q)) ∧ Upd [] w5 w'' := fun w' hh => by
                refine Calls.mono (tbl_takes_c (hT5.upd0 hh) q) ?_
                rintro e w'' ⟨rfl, hv⟩
                obtain ⟨x0, -, -, -, x1, -⟩ := (hN5.same (hh.trans' hv)).get hq16
                exact ⟨rfl, x0, x1, hh.trans' hv⟩
              have how : ∀ w', Upd [] w5 w' → Calls Try.prog 44 #[.pointer (some ⟨B, 0, none⟩), i64 q] w' fun e w'' => e = .returned (i64 (towner tl' q)) ∧ w''.cell? ⟨Eb, q, none⟩ = some (.bool (E q)) ∧ w''.cell? ⟨Ob, q, none⟩ = some (i64 (O q)) ∧ Upd [] w5 w'' := fun w' hh => by
                refine Calls.mono (tbl_owner_c (hT5.upd0 hh) q) ?_
                rintro e w'' ⟨rfl, hv⟩
                obtain ⟨x0, -, -, -, x1, -⟩ := (hN5.same (hh.trans' hv)).get hq16
                exact ⟨rfl, x0, x1, hh.trans' hv⟩
              have hob : ∀ w', TblAt w' Z' B tl' → Calls Try.prog 44 #[.pointer (some ⟨B, 0, none⟩), i64 q] w' fun e w'' => e = .returned (i64 (towner tl' q)) ∧ Upd [] w' w'' := fun w' hh => tbl_owner_c hh q
              generalize ttakes tl' q = tk at *
              generalize towner tl' q = tw at *
              have HTK := Lib.hid htk
              have HOB := Lib.hid hob
              have HIR := Lib.hid hIr
              have HT5 := Lib.hid hT5
              have HN5 := Lib.hid hN5
              have HU5 := Lib.hid hx5
              clear hob hIr hT5 hN5 hx5
              generalize heb : E q = eb at *
              generalize hoq : O q = oq at *
              have HEB := Lib.hid heb
              have HOQ := Lib.hid hoq
              clear heb hoq
              cases eb with
              | true =>
                have htf := htk
                rw [r1 rfl] at htf
                have HTF := Lib.hid htf
                clear htf htk r1
                by_cases ho : 0 < oq
                · have htq : (tw != oq - 1) = false := by rw [r2 ho]; simp
                  have hwr : IntKind.i64.wrap (oq - 1) = oq - 1 := IntWalk.i64_in _ (by omega)
                  have HOF := Lib.hid how
                  clear how r2
                  go_wp2_with (fail)
                  go_region_held3 (fun w' => w'.cell? ⟨Eb, q, none⟩ = some (.bool true) ∧ w'.cell? ⟨Ob, q, none⟩ = some (i64 oq) ∧ Upd [] w5 w')
                    ((first | exact ⟨a0, b0, Upd.refl _ _⟩ | exact ⟨a0, b0, (Upd.refl _ _).drew⟩ | exact ⟨hc5, hc6, hU2⟩ | exact ⟨hc3, hc4, hU1⟩))
                    ((first
                      | (go_at_call 38; (with_reducible refine Calls.mono (HTF.out _ (by first | exact Upd.refl _ _ | exact (Upd.refl _ _).drew)) ?_); rintro e w6 ⟨rfl, hc3, hc4, hU1⟩)
                      | (go_at_call 44; (with_reducible refine Calls.mono (HOF.out _ hU1) ?_); rintro e w6b ⟨rfl, hc5, hc6, hU2⟩)))
                  clear a0 a1 b0 b1
                  go_wp2_with (fail)
                  refine Calls.mono (HTK.out _ (hU2)) ?_
                  rintro e w7 ⟨rfl, -, -, hU7⟩
                  have hN7 := HN5.out.same hU7
                  have hT7 := HT5.out.upd0 hU7
                  have hu7 := HU5.out.trans' hU7
                  obtain ⟨a0, a1, -, -, -, -⟩ := hN7.get hq16
                  obtain ⟨hN8, hv8⟩ := hN7.setE q (!tk)
                  have hT8 := hT7.upd hv8 (fun x hx => by simp at hx; subst hx; exact hN7.zE)
                  have hu8 : Upd [] w _ := hu7.trans hv8 (fun x hx => .inr (by simp at hx; subst hx; exact hEw))
                  clear hN7 hT7 hu7 hv8 hU7
                  go_wp2_with (fail)
                  clear a0 a1
                  generalize w7.setCell ⟨Eb, q, none⟩ (.bool (!tk)) = w8 at *
                  refine Calls.mono (HOB.out _ hT8) ?_
                  rintro e w9 ⟨rfl, hv9⟩
                  have hN9 := hN8.same hv9
                  have hT9 := hT8.upd0 hv9
                  have hu9 := hu8.trans' hv9
                  obtain ⟨-, -, -, -, b0, b1⟩ := hN9.get hq16
                  obtain ⟨hN10, hv10⟩ := hN9.setO q (tw + 1)
                  have hT10 := hT9.upd hv10 (fun x hx => by simp at hx; subst hx; exact hN9.zO)
                  have hu10 : Upd [] w _ := hu9.trans hv10 (fun x hx => .inr (by simp at hx; subst hx; exact hOw))
                  have HN10 := Lib.hid hN10
                  have HT10 := Lib.hid hT10
                  have HU10 := Lib.hid hu10
                  clear hN8 hT8 hu8 hv9 hN9 hT9 hu9 hv10 hN10 hT10 hu10
                  go_wp2_with (fail)
                  go_roundw
                  case rel => exact ⟨q + 1, _, _, by go_num, by omega, HT10.out, HIR.out, HN10.out, HU10.out⟩
                  case measure => simp [intOf]; omega
                · clear how r2
                  obtain rfl : oq = 0 := by omega
                  clear ho r3 r4
                  go_wp2_with (fail)
                  have hcf : ∀ w', Upd [] w5 w' → w'.cell? ⟨Eb, q, none⟩ = some (.bool true) ∧ w'.cell? ⟨Ob, q, none⟩ = some (i64 0) := fun w' hu => by
                    have h := HN5.out.same hu
                    obtain ⟨x0, -, -, -, x1, -⟩ := h.get hq16
                    rw [HEB.out] at x0
                    rw [HOQ.out] at x1
                    exact ⟨x0, x1⟩
                  have HC := Lib.hid hcf
                  clear hcf a0 a1 b0 b1
                  refine wp_region_noPanic ?_
                  refine wp_region_held_drew (S := fun w' => Upd [] w5 w') (by kernel_rfl) ((Upd.refl [] w5).drew) (fun hHeld => ?_)
                  refine wpAnyH_take (i := 0) (v := ?_) rfl (by kernel_rfl) (by kernel_rfl) (by kernel_rfl) (fun _ _ _ h => h) (Or.inl ⟨by rfl, ?_⟩) (by assumption) ?_
                  rotate_left 1
                  · (intro w hSw; clear hSw; go_simp; try with_reducible rfl)
                  (try simp only [List.getElem_toArray, List.getElem_cons_zero, List.getElem_cons_succ, Act.put, List.setIfInBounds_toArray, List.set_cons_zero, List.set_cons_succ])
                  refine wpAnyH_take (i := 1) (v := ?_) rfl (by kernel_rfl) (by kernel_rfl) (by kernel_rfl) (fun _ _ _ h => h) (Or.inl ⟨by rfl, ?_⟩) (by assumption) ?_
                  rotate_left 1
                  · (intro w hSw; clear hSw; go_simp; try with_reducible rfl)
                  (try simp only [List.getElem_toArray, List.getElem_cons_zero, List.getElem_cons_succ, Act.put, List.setIfInBounds_toArray, List.set_cons_zero, List.set_cons_succ])
                  refine wpAnyH_take (i := 2) (v := ?_) rfl (by kernel_rfl) (by kernel_rfl) (by kernel_rfl) (fun _ _ _ h => h) (Or.inl ⟨by rfl, ?_⟩) (by assumption) ?_
                  rotate_left 1
                  · (intro w hSw; clear hSw; go_simp; try with_reducible rfl)
                  (try simp only [List.getElem_toArray, List.getElem_cons_zero, List.getElem_cons_succ, Act.put, List.setIfInBounds_toArray, List.set_cons_zero, List.set_cons_succ])
                  refine wpAnyH_take (i := 3) (v := ?_) rfl (by kernel_rfl) (by kernel_rfl) (by kernel_rfl) (fun _ _ _ h => h) (Or.inl ⟨by rfl, ?_⟩) (by assumption) ?_
                  rotate_left 1
                  · (intro w hSw; obtain ⟨x0, x1⟩ := HC.out _ hSw; go_simp; try with_reducible rfl)
                  (try simp only [List.getElem_toArray, List.getElem_cons_zero, List.getElem_cons_succ, Act.put, List.setIfInBounds_toArray, List.set_cons_zero, List.set_cons_succ])
                  refine wpAnyH_take (i := 4) (v := ?_) rfl (by kernel_rfl) (by kernel_rfl) (by kernel_rfl) (fun _ _ _ h => h) (Or.inl ⟨by rfl, ?_⟩) (by assumption) ?_
                  rotate_left 1
                  · (intro w hSw; clear hSw; go_simp; try with_reducible rfl)
                  (try simp only [List.getElem_toArray, List.getElem_cons_zero, List.getElem_cons_succ, Act.put, List.setIfInBounds_toArray, List.set_cons_zero, List.set_cons_succ])
                  refine wpAnyH_take (i := 5) (v := ?_) rfl (by kernel_rfl) (by kernel_rfl) (by kernel_rfl) (fun _ _ _ h => h) (Or.inl ⟨by rfl, ?_⟩) (by assumption) ?_
                  rotate_left 1
                  · (intro w hSw; clear hSw; go_simp; try with_reducible rfl)
                  (try simp only [List.getElem_toArray, List.getElem_cons_zero, List.getElem_cons_succ, Act.put, List.setIfInBounds_toArray, List.set_cons_zero, List.set_cons_succ])
                  refine wpAnyH_take (i := 6) (v := ?_) rfl (by kernel_rfl) (by kernel_rfl) (by kernel_rfl) (fun _ _ _ h => h) (Or.inl ⟨by rfl, ?_⟩) (by assumption) ?_
                  rotate_left 1
                  · (intro w hSw; clear hSw; go_simp; try with_reducible rfl)
                  (try simp only [List.getElem_toArray, List.getElem_cons_zero, List.getElem_cons_succ, Act.put, List.setIfInBounds_toArray, List.set_cons_zero, List.set_cons_succ])
                  refine wpAnyH_ready (rs := [7]) (by kernel_rfl) (by simp) ?_
                  refine AllReadyH.cons rfl (fun K hK => ?_) AllReadyH.nil
                  go_simp
                  refine Calls.mono (HTF.out _ hHeld) ?_
                  rintro e w6 ⟨rfl, -, -, hU6⟩
                  go_wp2_with fail
                  refine hK.out _ _ hU6 (fun hHeld => ?_)
                  clear hK K
                  refine wpAnyH_take (i := 8) (v := ?_) rfl (by kernel_rfl) (by kernel_rfl) (by kernel_rfl) (fun _ _ _ h => h) (Or.inl ⟨by rfl, ?_⟩) (by assumption) ?_
                  rotate_left 1
                  · (intro w hSw; clear hSw; go_simp; try with_reducible rfl)
                  (try simp only [List.getElem_toArray, List.getElem_cons_zero, List.getElem_cons_succ, Act.put, List.setIfInBounds_toArray, List.set_cons_zero, List.set_cons_succ])
                  refine wpAnyH_take (i := 9) (v := ?_) rfl (by kernel_rfl) (by kernel_rfl) (by kernel_rfl) (fun _ _ _ h => h) (Or.inl ⟨by rfl, ?_⟩) (by assumption) ?_
                  rotate_left 1
                  · (intro w hSw; clear hSw; go_simp; try with_reducible rfl)
                  (try simp only [List.getElem_toArray, List.getElem_cons_zero, List.getElem_cons_succ, Act.put, List.setIfInBounds_toArray, List.set_cons_zero, List.set_cons_succ])
                  refine wpAnyH_take (i := 10) (v := ?_) rfl (by kernel_rfl) (by kernel_rfl) (by kernel_rfl) (fun _ _ _ h => h) (Or.inl ⟨by rfl, ?_⟩) (by assumption) ?_
                  rotate_left 1
                  · (intro w hSw; clear hSw; go_simp; try with_reducible rfl)
                  (try simp only [List.getElem_toArray, List.getElem_cons_zero, List.getElem_cons_succ, Act.put, List.setIfInBounds_toArray, List.set_cons_zero, List.set_cons_succ])
                  refine wpAnyH_take (i := 11) (v := ?_) rfl (by kernel_rfl) (by kernel_rfl) (by kernel_rfl) (fun _ _ _ h => h) (Or.inl ⟨by rfl, ?_⟩) (by assumption) ?_
                  rotate_left 1
                  · (intro w hSw; clear hSw; go_simp; try with_reducible rfl)
                  (try simp only [List.getElem_toArray, List.getElem_cons_zero, List.getElem_cons_succ, Act.put, List.setIfInBounds_toArray, List.set_cons_zero, List.set_cons_succ])
                  refine wpAnyH_take (i := 12) (v := ?_) rfl (by kernel_rfl) (by kernel_rfl) (by kernel_rfl) (fun _ _ _ h => h) (Or.inl ⟨by rfl, ?_⟩) (by assumption) ?_
                  rotate_left 1
                  · (intro w hSw; clear hSw; go_simp; try with_reducible rfl)
                  (try simp only [List.getElem_toArray, List.getElem_cons_zero, List.getElem_cons_succ, Act.put, List.setIfInBounds_toArray, List.set_cons_zero, List.set_cons_succ])
                  refine wpAnyH_take (i := 13) (v := ?_) rfl (by kernel_rfl) (by kernel_rfl) (by kernel_rfl) (fun _ _ _ h => h) (Or.inl ⟨by rfl, ?_⟩) (by assumption) ?_
                  rotate_left 1
                  · (intro w hSw; obtain ⟨x0, x1⟩ := HC.out _ hSw; go_simp; try with_reducible rfl)
                  (try simp only [List.getElem_toArray, List.getElem_cons_zero, List.getElem_cons_succ, Act.put, List.setIfInBounds_toArray, List.set_cons_zero, List.set_cons_succ])
                  refine wpAnyH_take (i := 14) (v := ?_) rfl (by kernel_rfl) (by kernel_rfl) (by kernel_rfl) (fun _ _ _ h => h) (Or.inl ⟨by rfl, ?_⟩) (by assumption) ?_
                  rotate_left 1
                  · (intro w hSw; clear hSw; go_simp; try with_reducible rfl)
                  (try simp only [List.getElem_toArray, List.getElem_cons_zero, List.getElem_cons_succ, Act.put, List.setIfInBounds_toArray, List.set_cons_zero, List.set_cons_succ])
                  refine wpAnyH_take (i := 15) (v := ?_) rfl (by kernel_rfl) (by kernel_rfl) (by kernel_rfl) (fun _ _ _ h => h) (Or.inl ⟨by rfl, ?_⟩) (by assumption) ?_
                  rotate_left 1
                  · (intro w hSw; clear hSw; go_simp; try with_reducible rfl)
                  (try simp only [List.getElem_toArray, List.getElem_cons_zero, List.getElem_cons_succ, Act.put, List.setIfInBounds_toArray, List.set_cons_zero, List.set_cons_succ])
                  refine wpAnyH_take (i := 16) (v := undef) rfl (by kernel_rfl) (by kernel_rfl) (by kernel_rfl) (fun _ _ _ h => h) (Or.inr ⟨by rfl, rfl⟩) (by assumption) ?_
                  (try simp only [List.getElem_toArray, List.getElem_cons_zero, List.getElem_cons_succ, Act.put, List.setIfInBounds_toArray, List.set_cons_zero, List.set_cons_succ])
                  refine wpAnyH_take (i := 17) (v := undef) rfl (by kernel_rfl) (by kernel_rfl) (by kernel_rfl) (fun _ _ _ h => h) (Or.inr ⟨by rfl, rfl⟩) (by assumption) ?_
                  (try simp only [List.getElem_toArray, List.getElem_cons_zero, List.getElem_cons_succ, Act.put, List.setIfInBounds_toArray, List.set_cons_zero, List.set_cons_succ])
                  refine wpAnyH_take (i := 19) (v := undef) rfl (by kernel_rfl) (by kernel_rfl) (by kernel_rfl) (fun _ _ _ h => h) (Or.inr ⟨by rfl, rfl⟩) (by assumption) ?_
                  (try simp only [List.getElem_toArray, List.getElem_cons_zero, List.getElem_cons_succ, Act.put, List.setIfInBounds_toArray, List.set_cons_zero, List.set_cons_succ])
                  refine wpAnyH_take (i := 20) (v := undef) rfl (by kernel_rfl) (by kernel_rfl) (by kernel_rfl) (fun _ _ _ h => h) (Or.inr ⟨by rfl, rfl⟩) (by assumption) ?_
                  (try simp only [List.getElem_toArray, List.getElem_cons_zero, List.getElem_cons_succ, Act.put, List.setIfInBounds_toArray, List.set_cons_zero, List.set_cons_succ])
                  refine wpAnyH_take (i := 21) (v := undef) rfl (by kernel_rfl) (by kernel_rfl) (by kernel_rfl) (fun _ _ _ h => h) (Or.inr ⟨by rfl, rfl⟩) (by assumption) ?_
                  (try simp only [List.getElem_toArray, List.getElem_cons_zero, List.getElem_cons_succ, Act.put, List.setIfInBounds_toArray, List.set_cons_zero, List.set_cons_succ])
                  refine wpAnyH_take (i := 22) (v := undef) rfl (by kernel_rfl) (by kernel_rfl) (by kernel_rfl) (fun _ _ _ h => h) (Or.inr ⟨by rfl, rfl⟩) (by assumption) ?_
                  (try simp only [List.getElem_toArray, List.getElem_cons_zero, List.getElem_cons_succ, Act.put, List.setIfInBounds_toArray, List.set_cons_zero, List.set_cons_succ])
                  refine wpAnyH_take (i := 23) (v := undef) rfl (by kernel_rfl) (by kernel_rfl) (by kernel_rfl) (fun _ _ _ h => h) (Or.inr ⟨by rfl, rfl⟩) (by assumption) ?_
                  (try simp only [List.getElem_toArray, List.getElem_cons_zero, List.getElem_cons_succ, Act.put, List.setIfInBounds_toArray, List.set_cons_zero, List.set_cons_succ])
                  refine wpAnyH_ready (rs := [18]) (by kernel_rfl) (by simp) ?_
                  refine AllReadyH.cons rfl (fun K hK => ?_) AllReadyH.nil
                  go_simp
                  refine hK.out _ _ hHeld (fun hHeld => ?_)
                  clear hK K
                  refine wpAnyH_take (i := 24) (v := undef) rfl (by kernel_rfl) (by kernel_rfl) (by kernel_rfl) (fun _ _ _ h => h) (Or.inr ⟨by rfl, rfl⟩) (by assumption) ?_
                  (try simp only [List.getElem_toArray, List.getElem_cons_zero, List.getElem_cons_succ, Act.put, List.setIfInBounds_toArray, List.set_cons_zero, List.set_cons_succ])
                  refine wpAnyH_take (i := 25) (v := ?_) rfl (by kernel_rfl) (by kernel_rfl) (by kernel_rfl) (fun _ _ _ h => h) (Or.inl ⟨by rfl, ?_⟩) (by assumption) ?_
                  rotate_left 1
                  · (intro w hSw; clear hSw; go_simp; try with_reducible rfl)
                  (try simp only [List.getElem_toArray, List.getElem_cons_zero, List.getElem_cons_succ, Act.put, List.setIfInBounds_toArray, List.set_cons_zero, List.set_cons_succ])
                  refine wpAnyH_take (i := 26) (v := ?_) rfl (by kernel_rfl) (by kernel_rfl) (by kernel_rfl) (fun _ _ _ h => h) (Or.inl ⟨by rfl, ?_⟩) (by assumption) ?_
                  rotate_left 1
                  · (intro w hSw; clear hSw; go_simp; try with_reducible rfl)
                  (try simp only [List.getElem_toArray, List.getElem_cons_zero, List.getElem_cons_succ, Act.put, List.setIfInBounds_toArray, List.set_cons_zero, List.set_cons_succ])
                  refine wpAnyH_done (by kernel_rfl) ?_ _
                  refine NoPanic.normal ?_
                  have a0 := 0
                  have a1 := 0
                  have b0 := 0
                  have b1 := 0
                  clear a0 a1 b0 b1
                  go_wp2_with (fail)
                  refine Calls.mono (HTK.out _ (hHeld)) ?_
                  rintro e w7 ⟨rfl, -, -, hU7⟩
                  have hN7 := HN5.out.same hU7
                  have hT7 := HT5.out.upd0 hU7
                  have hu7 := HU5.out.trans' hU7
                  obtain ⟨a0, a1, -, -, -, -⟩ := hN7.get hq16
                  obtain ⟨hN8, hv8⟩ := hN7.setE q (!tk)
                  have hT8 := hT7.upd hv8 (fun x hx => by simp at hx; subst hx; exact hN7.zE)
                  have hu8 : Upd [] w _ := hu7.trans hv8 (fun x hx => .inr (by simp at hx; subst hx; exact hEw))
                  clear hN7 hT7 hu7 hv8 hU7
                  go_wp2_with (fail)
                  clear a0 a1
                  generalize w7.setCell ⟨Eb, q, none⟩ (.bool (!tk)) = w8 at *
                  refine Calls.mono (HOB.out _ hT8) ?_
                  rintro e w9 ⟨rfl, hv9⟩
                  have hN9 := hN8.same hv9
                  have hT9 := hT8.upd0 hv9
                  have hu9 := hu8.trans' hv9
                  obtain ⟨-, -, -, -, b0, b1⟩ := hN9.get hq16
                  obtain ⟨hN10, hv10⟩ := hN9.setO q (tw + 1)
                  have hT10 := hT9.upd hv10 (fun x hx => by simp at hx; subst hx; exact hN9.zO)
                  have hu10 : Upd [] w _ := hu9.trans hv10 (fun x hx => .inr (by simp at hx; subst hx; exact hOw))
                  have HN10 := Lib.hid hN10
                  have HT10 := Lib.hid hT10
                  have HU10 := Lib.hid hu10
                  clear hN8 hT8 hu8 hv9 hN9 hT9 hu9 hv10 hN10 hT10 hu10
                  go_wp2_with (fail)
                  go_roundw
                  case rel => exact ⟨q + 1, _, _, by go_num, by omega, HT10.out, HIR.out, HN10.out, HU10.out⟩
                  case measure => simp [intOf]; omega
              | false =>
                clear htk r1
                by_cases ho : 0 < oq
                · have htq : (tw != oq - 1) = false := by rw [r2 ho]; simp
                  have hwr : IntKind.i64.wrap (oq - 1) = oq - 1 := IntWalk.i64_in _ (by omega)
                  have HOF := Lib.hid how
                  clear how r2
                  go_wp2_with (fail)
                  have hcf : ∀ w', Upd [] w5 w' → w'.cell? ⟨Eb, q, none⟩ = some (.bool false) ∧ w'.cell? ⟨Ob, q, none⟩ = some (i64 oq) := fun w' hu => by
                    have h := HN5.out.same hu
                    obtain ⟨x0, -, -, -, x1, -⟩ := h.get hq16
                    rw [HEB.out] at x0
                    rw [HOQ.out] at x1
                    exact ⟨x0, x1⟩
                  have HC := Lib.hid hcf
                  clear hcf a0 a1 b0 b1
                  refine wp_region_noPanic ?_
                  refine wp_region_held_drew (S := fun w' => Upd [] w5 w') (by kernel_rfl) ((Upd.refl [] w5).drew) (fun hHeld => ?_)
                  refine wpAnyH_take (i := 0) (v := ?_) rfl (by kernel_rfl) (by kernel_rfl) (by kernel_rfl) (fun _ _ _ h => h) (Or.inl ⟨by rfl, ?_⟩) (by assumption) ?_
                  rotate_left 1
                  · (intro w hSw; clear hSw; go_simp; try with_reducible rfl)
                  (try simp only [List.getElem_toArray, List.getElem_cons_zero, List.getElem_cons_succ, Act.put, List.setIfInBounds_toArray, List.set_cons_zero, List.set_cons_succ])
                  refine wpAnyH_take (i := 1) (v := ?_) rfl (by kernel_rfl) (by kernel_rfl) (by kernel_rfl) (fun _ _ _ h => h) (Or.inl ⟨by rfl, ?_⟩) (by assumption) ?_
                  rotate_left 1
                  · (intro w hSw; clear hSw; go_simp; try with_reducible rfl)
                  (try simp only [List.getElem_toArray, List.getElem_cons_zero, List.getElem_cons_succ, Act.put, List.setIfInBounds_toArray, List.set_cons_zero, List.set_cons_succ])
                  refine wpAnyH_take (i := 2) (v := ?_) rfl (by kernel_rfl) (by kernel_rfl) (by kernel_rfl) (fun _ _ _ h => h) (Or.inl ⟨by rfl, ?_⟩) (by assumption) ?_
                  rotate_left 1
                  · (intro w hSw; clear hSw; go_simp; try with_reducible rfl)
                  (try simp only [List.getElem_toArray, List.getElem_cons_zero, List.getElem_cons_succ, Act.put, List.setIfInBounds_toArray, List.set_cons_zero, List.set_cons_succ])
                  refine wpAnyH_take (i := 3) (v := ?_) rfl (by kernel_rfl) (by kernel_rfl) (by kernel_rfl) (fun _ _ _ h => h) (Or.inl ⟨by rfl, ?_⟩) (by assumption) ?_
                  rotate_left 1
                  · (intro w hSw; obtain ⟨x0, x1⟩ := HC.out _ hSw; go_simp; try with_reducible rfl)
                  (try simp only [List.getElem_toArray, List.getElem_cons_zero, List.getElem_cons_succ, Act.put, List.setIfInBounds_toArray, List.set_cons_zero, List.set_cons_succ])
                  refine wpAnyH_take (i := 4) (v := ?_) rfl (by kernel_rfl) (by kernel_rfl) (by kernel_rfl) (fun _ _ _ h => h) (Or.inl ⟨by rfl, ?_⟩) (by assumption) ?_
                  rotate_left 1
                  · (intro w hSw; clear hSw; go_simp; try with_reducible rfl)
                  (try simp only [List.getElem_toArray, List.getElem_cons_zero, List.getElem_cons_succ, Act.put, List.setIfInBounds_toArray, List.set_cons_zero, List.set_cons_succ])
                  refine wpAnyH_take (i := 5) (v := undef) rfl (by kernel_rfl) (by kernel_rfl) (by kernel_rfl) (fun _ _ _ h => h) (Or.inr ⟨by rfl, rfl⟩) (by assumption) ?_
                  (try simp only [List.getElem_toArray, List.getElem_cons_zero, List.getElem_cons_succ, Act.put, List.setIfInBounds_toArray, List.set_cons_zero, List.set_cons_succ])
                  refine wpAnyH_take (i := 6) (v := undef) rfl (by kernel_rfl) (by kernel_rfl) (by kernel_rfl) (fun _ _ _ h => h) (Or.inr ⟨by rfl, rfl⟩) (by assumption) ?_
                  (try simp only [List.getElem_toArray, List.getElem_cons_zero, List.getElem_cons_succ, Act.put, List.setIfInBounds_toArray, List.set_cons_zero, List.set_cons_succ])
                  refine wpAnyH_ready (rs := [7]) (by kernel_rfl) (by simp) ?_
                  refine AllReadyH.cons rfl (fun K hK => ?_) AllReadyH.nil
                  go_simp
                  refine hK.out _ _ hHeld (fun hHeld => ?_)
                  clear hK K
                  refine wpAnyH_take (i := 8) (v := ?_) rfl (by kernel_rfl) (by kernel_rfl) (by kernel_rfl) (fun _ _ _ h => h) (Or.inl ⟨by rfl, ?_⟩) (by assumption) ?_
                  rotate_left 1
                  · (intro w hSw; clear hSw; go_simp; try with_reducible rfl)
                  (try simp only [List.getElem_toArray, List.getElem_cons_zero, List.getElem_cons_succ, Act.put, List.setIfInBounds_toArray, List.set_cons_zero, List.set_cons_succ])
                  refine wpAnyH_take (i := 9) (v := ?_) rfl (by kernel_rfl) (by kernel_rfl) (by kernel_rfl) (fun _ _ _ h => h) (Or.inl ⟨by rfl, ?_⟩) (by assumption) ?_
                  rotate_left 1
                  · (intro w hSw; clear hSw; go_simp; try with_reducible rfl)
                  (try simp only [List.getElem_toArray, List.getElem_cons_zero, List.getElem_cons_succ, Act.put, List.setIfInBounds_toArray, List.set_cons_zero, List.set_cons_succ])
                  refine wpAnyH_take (i := 10) (v := ?_) rfl (by kernel_rfl) (by kernel_rfl) (by kernel_rfl) (fun _ _ _ h => h) (Or.inl ⟨by rfl, ?_⟩) (by assumption) ?_
                  rotate_left 1
                  · (intro w hSw; clear hSw; go_simp; try with_reducible rfl)
                  (try simp only [List.getElem_toArray, List.getElem_cons_zero, List.getElem_cons_succ, Act.put, List.setIfInBounds_toArray, List.set_cons_zero, List.set_cons_succ])
                  refine wpAnyH_take (i := 11) (v := ?_) rfl (by kernel_rfl) (by kernel_rfl) (by kernel_rfl) (fun _ _ _ h => h) (Or.inl ⟨by rfl, ?_⟩) (by assumption) ?_
                  rotate_left 1
                  · (intro w hSw; clear hSw; go_simp; try with_reducible rfl)
                  (try simp only [List.getElem_toArray, List.getElem_cons_zero, List.getElem_cons_succ, Act.put, List.setIfInBounds_toArray, List.set_cons_zero, List.set_cons_succ])
                  refine wpAnyH_take (i := 12) (v := ?_) rfl (by kernel_rfl) (by kernel_rfl) (by kernel_rfl) (fun _ _ _ h => h) (Or.inl ⟨by rfl, ?_⟩) (by assumption) ?_
                  rotate_left 1
                  · (intro w hSw; clear hSw; go_simp; try with_reducible rfl)
                  (try simp only [List.getElem_toArray, List.getElem_cons_zero, List.getElem_cons_succ, Act.put, List.setIfInBounds_toArray, List.set_cons_zero, List.set_cons_succ])
                  refine wpAnyH_take (i := 13) (v := ?_) rfl (by kernel_rfl) (by kernel_rfl) (by kernel_rfl) (fun _ _ _ h => h) (Or.inl ⟨by rfl, ?_⟩) (by assumption) ?_
                  rotate_left 1
                  · (intro w hSw; obtain ⟨x0, x1⟩ := HC.out _ hSw; go_simp; try with_reducible rfl)
                  (try simp only [List.getElem_toArray, List.getElem_cons_zero, List.getElem_cons_succ, Act.put, List.setIfInBounds_toArray, List.set_cons_zero, List.set_cons_succ])
                  refine wpAnyH_take (i := 14) (v := ?_) rfl (by kernel_rfl) (by kernel_rfl) (by kernel_rfl) (fun _ _ _ h => h) (Or.inl ⟨by rfl, ?_⟩) (by assumption) ?_
                  rotate_left 1
                  · (intro w hSw; clear hSw; go_simp; try with_reducible rfl)
                  (try simp only [List.getElem_toArray, List.getElem_cons_zero, List.getElem_cons_succ, Act.put, List.setIfInBounds_toArray, List.set_cons_zero, List.set_cons_succ])
                  refine wpAnyH_take (i := 15) (v := ?_) rfl (by kernel_rfl) (by kernel_rfl) (by kernel_rfl) (fun _ _ _ h => h) (Or.inl ⟨by rfl, ?_⟩) (by assumption) ?_
                  rotate_left 1
                  · (intro w hSw; clear hSw; go_simp; try with_reducible rfl)
                  (try simp only [List.getElem_toArray, List.getElem_cons_zero, List.getElem_cons_succ, Act.put, List.setIfInBounds_toArray, List.set_cons_zero, List.set_cons_succ])
                  refine wpAnyH_take (i := 16) (v := ?_) rfl (by kernel_rfl) (by kernel_rfl) (by kernel_rfl) (fun _ _ _ h => h) (Or.inl ⟨by rfl, ?_⟩) (by assumption) ?_
                  rotate_left 1
                  · (intro w hSw; clear hSw; go_simp; try with_reducible rfl)
                  (try simp only [List.getElem_toArray, List.getElem_cons_zero, List.getElem_cons_succ, Act.put, List.setIfInBounds_toArray, List.set_cons_zero, List.set_cons_succ])
                  refine wpAnyH_take (i := 17) (v := ?_) rfl (by kernel_rfl) (by kernel_rfl) (by kernel_rfl) (fun _ _ _ h => h) (Or.inl ⟨by rfl, ?_⟩) (by assumption) ?_
                  rotate_left 1
                  · (intro w hSw; clear hSw; go_simp; try with_reducible rfl)
                  (try simp only [List.getElem_toArray, List.getElem_cons_zero, List.getElem_cons_succ, Act.put, List.setIfInBounds_toArray, List.set_cons_zero, List.set_cons_succ])
                  refine wpAnyH_take (i := 19) (v := ?_) rfl (by kernel_rfl) (by kernel_rfl) (by kernel_rfl) (fun _ _ _ h => h) (Or.inl ⟨by rfl, ?_⟩) (by assumption) ?_
                  rotate_left 1
                  · (intro w hSw; clear hSw; go_simp; try with_reducible rfl)
                  (try simp only [List.getElem_toArray, List.getElem_cons_zero, List.getElem_cons_succ, Act.put, List.setIfInBounds_toArray, List.set_cons_zero, List.set_cons_succ])
                  refine wpAnyH_take (i := 20) (v := ?_) rfl (by kernel_rfl) (by kernel_rfl) (by kernel_rfl) (fun _ _ _ h => h) (Or.inl ⟨by rfl, ?_⟩) (by assumption) ?_
                  rotate_left 1
                  · (intro w hSw; clear hSw; go_simp; try with_reducible rfl)
                  (try simp only [List.getElem_toArray, List.getElem_cons_zero, List.getElem_cons_succ, Act.put, List.setIfInBounds_toArray, List.set_cons_zero, List.set_cons_succ])
                  refine wpAnyH_take (i := 21) (v := ?_) rfl (by kernel_rfl) (by kernel_rfl) (by kernel_rfl) (fun _ _ _ h => h) (Or.inl ⟨by rfl, ?_⟩) (by assumption) ?_
                  rotate_left 1
                  · (intro w hSw; clear hSw; go_simp; try with_reducible rfl)
                  (try simp only [List.getElem_toArray, List.getElem_cons_zero, List.getElem_cons_succ, Act.put, List.setIfInBounds_toArray, List.set_cons_zero, List.set_cons_succ])
                  refine wpAnyH_take (i := 22) (v := ?_) rfl (by kernel_rfl) (by kernel_rfl) (by kernel_rfl) (fun _ _ _ h => h) (Or.inl ⟨by rfl, ?_⟩) (by assumption) ?_
                  rotate_left 1
                  · (intro w hSw; obtain ⟨x0, x1⟩ := HC.out _ hSw; go_simp; try with_reducible rfl)
                  (try simp only [List.getElem_toArray, List.getElem_cons_zero, List.getElem_cons_succ, Act.put, List.setIfInBounds_toArray, List.set_cons_zero, List.set_cons_succ])
                  refine wpAnyH_take (i := 23) (v := ?_) rfl (by kernel_rfl) (by kernel_rfl) (by kernel_rfl) (fun _ _ _ h => h) (Or.inl ⟨by rfl, ?_⟩) (by assumption) ?_
                  rotate_left 1
                  · (intro w hSw; clear hSw; go_simp; try with_reducible rfl)
                  (try simp only [List.getElem_toArray, List.getElem_cons_zero, List.getElem_cons_succ, Act.put, List.setIfInBounds_toArray, List.set_cons_zero, List.set_cons_succ])
                  refine wpAnyH_ready (rs := [18]) (by kernel_rfl) (by simp) ?_
                  refine AllReadyH.cons rfl (fun K hK => ?_) AllReadyH.nil
                  go_simp
                  refine Calls.mono (HOF.out _ hHeld) ?_
                  rintro e w6 ⟨rfl, -, -, hU6⟩
                  go_wp2_with fail
                  refine hK.out _ _ hU6 (fun hHeld => ?_)
                  clear hK K
                  refine wpAnyH_take (i := 24) (v := ?_) rfl (by kernel_rfl) (by kernel_rfl) (by kernel_rfl) (fun _ _ _ h => h) (Or.inl ⟨by rfl, ?_⟩) (by assumption) ?_
                  rotate_left 1
                  · (intro w hSw; clear hSw; go_simp; try with_reducible rfl)
                  (try simp only [List.getElem_toArray, List.getElem_cons_zero, List.getElem_cons_succ, Act.put, List.setIfInBounds_toArray, List.set_cons_zero, List.set_cons_succ])
                  refine wpAnyH_take (i := 25) (v := ?_) rfl (by kernel_rfl) (by kernel_rfl) (by kernel_rfl) (fun _ _ _ h => h) (Or.inl ⟨by rfl, ?_⟩) (by assumption) ?_
                  rotate_left 1
                  · (intro w hSw; clear hSw; go_simp; try with_reducible rfl)
                  (try simp only [List.getElem_toArray, List.getElem_cons_zero, List.getElem_cons_succ, Act.put, List.setIfInBounds_toArray, List.set_cons_zero, List.set_cons_succ])
                  refine wpAnyH_take (i := 26) (v := ?_) rfl (by kernel_rfl) (by kernel_rfl) (by kernel_rfl) (fun _ _ _ h => h) (Or.inl ⟨by rfl, ?_⟩) (by assumption) ?_
                  rotate_left 1
                  · (intro w hSw; clear hSw; go_simp; try with_reducible rfl)
                  (try simp only [List.getElem_toArray, List.getElem_cons_zero, List.getElem_cons_succ, Act.put, List.setIfInBounds_toArray, List.set_cons_zero, List.set_cons_succ])
                  refine wpAnyH_done (by kernel_rfl) ?_ _
                  refine NoPanic.normal ?_
                  have a0 := 0
                  have a1 := 0
                  have b0 := 0
                  have b1 := 0
                  clear a0 a1 b0 b1
                  go_wp2_with (fail)
                  refine Calls.mono (HTK.out _ (hHeld)) ?_
                  rintro e w7 ⟨rfl, -, -, hU7⟩
                  have hN7 := HN5.out.same hU7
                  have hT7 := HT5.out.upd0 hU7
                  have hu7 := HU5.out.trans' hU7
                  obtain ⟨a0, a1, -, -, -, -⟩ := hN7.get hq16
                  obtain ⟨hN8, hv8⟩ := hN7.setE q (!tk)
                  have hT8 := hT7.upd hv8 (fun x hx => by simp at hx; subst hx; exact hN7.zE)
                  have hu8 : Upd [] w _ := hu7.trans hv8 (fun x hx => .inr (by simp at hx; subst hx; exact hEw))
                  clear hN7 hT7 hu7 hv8 hU7
                  go_wp2_with (fail)
                  clear a0 a1
                  generalize w7.setCell ⟨Eb, q, none⟩ (.bool (!tk)) = w8 at *
                  refine Calls.mono (HOB.out _ hT8) ?_
                  rintro e w9 ⟨rfl, hv9⟩
                  have hN9 := hN8.same hv9
                  have hT9 := hT8.upd0 hv9
                  have hu9 := hu8.trans' hv9
                  obtain ⟨-, -, -, -, b0, b1⟩ := hN9.get hq16
                  obtain ⟨hN10, hv10⟩ := hN9.setO q (tw + 1)
                  have hT10 := hT9.upd hv10 (fun x hx => by simp at hx; subst hx; exact hN9.zO)
                  have hu10 : Upd [] w _ := hu9.trans hv10 (fun x hx => .inr (by simp at hx; subst hx; exact hOw))
                  have HN10 := Lib.hid hN10
                  have HT10 := Lib.hid hT10
                  have HU10 := Lib.hid hu10
                  clear hN8 hT8 hu8 hv9 hN9 hT9 hu9 hv10 hN10 hT10 hu10
                  go_wp2_with (fail)
                  go_roundw
                  case rel => exact ⟨q + 1, _, _, by go_num, by omega, HT10.out, HIR.out, HN10.out, HU10.out⟩
                  case measure => simp [intOf]; omega
                · clear how r2
                  obtain rfl : oq = 0 := by omega
                  clear ho r3 r4
                  go_wp2_with (fail)
                  go_quiet (fail)
                  clear a0 a1 b0 b1
                  go_wp2_with (fail)
                  refine Calls.mono (HTK.out _ ((Upd.refl [] w5).drewN nq)) ?_
                  rintro e w7 ⟨rfl, -, -, hU7⟩
                  have hN7 := HN5.out.same hU7
                  have hT7 := HT5.out.upd0 hU7
                  have hu7 := HU5.out.trans' hU7
                  obtain ⟨a0, a1, -, -, -, -⟩ := hN7.get hq16
                  obtain ⟨hN8, hv8⟩ := hN7.setE q (!tk)
                  have hT8 := hT7.upd hv8 (fun x hx => by simp at hx; subst hx; exact hN7.zE)
                  have hu8 : Upd [] w _ := hu7.trans hv8 (fun x hx => .inr (by simp at hx; subst hx; exact hEw))
                  clear hN7 hT7 hu7 hv8 hU7
                  go_wp2_with (fail)
                  clear a0 a1
                  generalize w7.setCell ⟨Eb, q, none⟩ (.bool (!tk)) = w8 at *
                  refine Calls.mono (HOB.out _ hT8) ?_
                  rintro e w9 ⟨rfl, hv9⟩
                  have hN9 := hN8.same hv9
                  have hT9 := hT8.upd0 hv9
                  have hu9 := hu8.trans' hv9
                  obtain ⟨-, -, -, -, b0, b1⟩ := hN9.get hq16
                  obtain ⟨hN10, hv10⟩ := hN9.setO q (tw + 1)
                  have hT10 := hT9.upd hv10 (fun x hx => by simp at hx; subst hx; exact hN9.zO)
                  have hu10 : Upd [] w _ := hu9.trans hv10 (fun x hx => .inr (by simp at hx; subst hx; exact hOw))
                  have HN10 := Lib.hid hN10
                  have HT10 := Lib.hid hT10
                  have HU10 := Lib.hid hu10
                  clear hN8 hT8 hu8 hv9 hN9 hT9 hu9 hv10 hN10 hT10 hu10
                  go_wp2_with (fail)
                  go_roundw
                  case rel => exact ⟨q + 1, _, _, by go_num, by omega, HT10.out, HIR.out, HN10.out, HU10.out⟩
                  case measure => simp [intOf]; omega
            · have hqe : q = ql := by omega
              have HT5 := Lib.hid hT5
              have HN5 := Lib.hid hN5
              have HU5 := Lib.hid hx5
              clear hT5 hN5 hx5
              go_wp2_with (fail)
              go_roundw
              case rel => exact ⟨k + 1, tl', Z', E, D', O, by go_num, by omega, HT5.out, (by rw [HTe.out]; exact HF4.out), HI4.out, HN5.out, HZ4.out, HU5.out⟩
              case measure => simp [intOf]; omega
      · have e : k = l.length := by omega
        go_wp2_with (fail)
        refine Calls.mono (connAwake_c _) ?_
        rintro e w5 ⟨rfl, hu5⟩
        go_wp2_with (fail)
        exact hR.out _ _ ⟨rfl, hu.trans' hu5⟩

set_option maxRecDepth 100000 in
theorem connEnds_walk {H : Type} {enc : TypeId × Value → H} {W : World} {base : Nat} {args : Array Value} {ds gs : List (DataW H)} {before : List MemPlace}
    (hval : ∀ (j : Nat) t v, Try.f10.params[j]? = some t → args[j]? = some v → Value.okWide Try.prog W .any base t v)
    (hW : DataW.Whole enc Try.prog Try.f10.params.toList [] false W args.toList ds gs before)
    (hsz : (DataW.weightsEach Try.prog (Try.f10.params.toList ++ []) (ds ++ gs)).all (· ≤ reachBytes) = true) : Trues 10 args W := by
  obtain ⟨p, q, hA, hV, rfl, -, -⟩ := hW
  obtain ⟨rfl, rfl⟩ := trodVars_none hV
  rw [Try.params10] at hA hval hsz
  obtain ⟨v0, d0, rfl, rfl, h0⟩ := trodAll_one hA
  obtain ⟨ao, cap, l, rfl, hlc, hcap, hg, hl⟩ := open_listZ CStp.parse hsz (j := 0) Try.underlying51 flat_cstp cells_cstp (by decide) rfl rfl (hval 0 51 v0 rfl rfl) h0
  refine connEnds_c ao cap l W (by omega) ?_ (fun x hx => (hg x hx).1) (fun x hx => (hg x hx).2 (.string x.b) (by simp [CStp.cells]))
  rcases hl with rfl | ⟨b, off, rfl, hr⟩
  · exact .inl rfl
  · cases l with
    | nil => exact .inl rfl
    | cons x r => exact .inr ⟨b, off, rfl, hr, World.block_lt_of_cell? W _ (hr 0 x rfl 0 (by decide))⟩

set_option maxRecDepth 100000 in
theorem connEnds_lifted (os : Os) (started : os.Started) (H : Type) (enc : TypeId × Value → H) :
    ReturnsInHanded {} Try.checked os 10 .any (Rows.connEndsSpec.pre6 enc Try.prog Try.f10 Rows.connEndsRow.domain false) (Rows.connEndsSpec.post enc Try.prog Try.f10 false true false false) := by
  refine returnsInHanded_of_change_sized (C := Try.checked) own started (by kernel_rfl) Try.func10
    (ChangeSpec.witness6 (enc := enc) (C := Try.checked) false ⟨#[], #[.slice none 0 0], []⟩ 8 (by kernel_rfl) (by kernel_rfl) (by kernel_rfl) (by kernel_rfl)) ?_
  intro W base args ds gs before hval hW hcnd hsz _
  refine Calls.mono (connEnds_walk hval hW hsz) fun e W' ⟨he, hu⟩ => ?_
  exact ⟨_, he, law_post rfl rfl (by kernel_rfl) hW (fun ds h => by match ds, h with | [_], _ => rfl) hu⟩

set_option maxRecDepth 100000 in
theorem connEnds_over : Rows.connEndsRow.holds Try.pinned (OpenSpec.ofChange Rows.connEndsSpec) :=
  OpenClaim.holds_of_wide 10 Try.f10 rfl rfl rfl rfl rfl rfl rfl ⟨rfl, rfl, rfl, rfl, rfl⟩ rfl rfl rfl rfl rfl (by kernel_rfl) Try.func10 (by kernel_rfl)
    (of_decide_eq_true (by kernel_rfl)) (by unfold Func.isWrapper; first | (rw [if_pos (by decide +kernel)]; kernel_rfl) | (rw [if_neg (by decide +kernel)]; exact ⟨rfl, rfl⟩))
    (fun os started H enc _ => connEnds_lifted os started H enc)

theorem connEnds_proved : Rows.ConnEndsSaid := connEnds_over
end Go.Proofs.Ytagadbgbicebaaa
