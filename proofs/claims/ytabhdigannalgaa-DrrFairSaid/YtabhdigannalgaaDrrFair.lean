/-
  DrrFair: with quanta of MaxCost at least, each turn serves somebody, if anybody is active, no deficit is above its quantum and MaxCost, and a flow that is not in front has less than MaxCost. For every list of steps. No condition.
-/
import Derived.Test.YtabhdigannalgaaRgFair
namespace Go.Proofs.Ytabhdigannalgaa
open Go Go.RowKit Go.ChangeShapes Go.WideShapes Go.ChangeAt

/-- the quanta of the first k flows -/
def QUp (r : Rg) (k : Nat) : Prop := ∀ j : Nat, j < k → r.qOf (j : Int) = some (1040 + 50 * (j : Int))
theorem qup_set {r : Rg} {k : Nat} (h : QUp r k) (hk : k < 9) : QUp (r.set k (1040 + 50 * (k : Int))) (k + 1) := by
  intro j hj
  by_cases e : j = k
  · subst e
    exact set_q_same r (by omega) (by omega)
  · rw [set_q_other r (by omega)]
    exact h j (by omega)

set_option maxRecDepth 100000 in
set_option maxHeartbeats 8000000 in
theorem drrFair_c (ao : Option Addr) (cap : Nat) (l : List DStp) (w : World) (hlen : l.length ≤ 250) (hao : l = [] ∨ ∃ b off, ao = some ⟨b, off, none⟩ ∧ RowsAt w b off 3 DStp.cells l ∧ b < w.heap.size) (hgood : ∀ x ∈ l, x.good) :
    Trues 4 #[.slice ao l.length cap] w := by
  unfold Trues
  have HAO := Lib.hid hao
  have HGood := Lib.hid hgood
  clear hao hgood
  refine post fun R hR => ?_
  go_enter Try.func4, Try.ntmps4
  go_wp2_with (fail)
  refine Calls.mono (dnew2_c _) ?_
  rintro e w1 ⟨B, rfl, hu1, hA1⟩
  have hBz : w.heap.size ≤ B := hA1.zb
  go_wp2_with (fail)
  go_loopw [4] (fun i wr => ∃ (k : Nat) (r : Rg), i = i64 k ∧ k ≤ 9 ∧ RingAt wr (ZB w.heap.size) B 28 [] k r ∧ QUp r k ∧ Upd [] w wr) (fun i _ => 9 - (intOf i).toNat)
  case atStart => exact ⟨0, Rg.new, rfl, by omega, hA1, fun j hj => by omega, hu1⟩
  case round =>
    clear hA1 hu1
    obtain ⟨k, r, rfl, hk, hA, hQ, hu⟩ := hrel
    by_cases hlt : k < 9
    · have hset := ring_set_c hA (by omega) k (1040 + 50 * (k : Int))
      rw [show setE (k : Int) (1040 + 50 * (k : Int)) = 0 from by unfold setE; rw [if_neg (by omega)]] at hset
      have HQ := Lib.hid (qup_set hQ hlt)
      have HS := Lib.hid hset
      have HU := Lib.hid hu
      clear hset hA hQ hu
      go_wp2_with (fail)
      refine HS.out.mono ?_
      rintro e w2 ⟨rfl, hp, hA2⟩
      have hs := HU.out.size
      have hu2 := HU.out.transP hp (fun x q => q)
      have hA3 := hA2.zb' hs
      clear hp hA2
      go_wp2_with (fail)
      go_roundw
      case rel => exact ⟨k + 1, _, by go_num, by omega, hA3, HQ.out, hu2⟩
      case measure => simp [intOf]; omega
    · have e : k = 9 := by omega
      subst e
      rw [show ((9 : Nat) : Int) = 9 from rfl]
      go_wp2_with (fail)
      go_loopw [5] (fun i wr => ∃ (k : Nat) (r : Rg), i = i64 k ∧ k ≤ l.length ∧ RingAt wr (ZB w.heap.size) B 28 [] (9 + k) r ∧ QUp r 9 ∧ Upd [] w wr) (fun i _ => l.length - (intOf i).toNat)
      case atStart => exact ⟨0, r, rfl, Nat.zero_le _, hA, hQ, hu⟩
      case round =>
        clear hA hQ hu r
        obtain ⟨k, r, rfl, hk, hA, hQ, hu⟩ := hrel
        by_cases hlt : k < l.length
        · obtain ⟨b, off, rfl, hrows, hb⟩ : ∃ b off, ao = some ⟨b, off, none⟩ ∧ RowsAt w b off 3 DStp.cells l ∧ b < w.heap.size := by
            rcases HAO.out with e | e
            · rw [e] at hlt; simp at hlt
            · exact e
          obtain ⟨c0, c1, c2⟩ := dsrow hrows hu hb hlt
          clear hrows
          obtain ⟨⟨g1, g2⟩, ⟨g3, g4⟩, ⟨g5, g6⟩⟩ := HGood.out l[k] (List.getElem_mem hlt)
          generalize l[k].kind = kd at *
          generalize l[k].flow = fl at *
          generalize l[k].n = n at *
          obtain ⟨f, hf, hf0, hf9⟩ := umod_in fl 9 (by omega)
          obtain ⟨c, hc, hc0, hc9⟩ := umod_in n 1040 (by omega)
          have hfI : inI f := by unfold inI; omega
          have HA := Lib.hid hA
          have HQ := Lib.hid hQ
          have HU := Lib.hid hu
          clear hA hQ
          by_cases hk2 : kd = 2
          · have hq : (kd == 2) = true := by simp [hk2]
            have HK := Lib.hid hk2
            have HQ2 : Hid (QUp (r.push f (c + 1)) 9) := Lib.hid fun j hj => by rw [push_q]; exact HQ.out j hj
            clear hk2
            go_wp2_with (fail)
            refine Calls.mono (ring_push_c HA.out (by omega) hfI (c + 1)) ?_
            rintro e w2 ⟨rfl, hp, hA2⟩
            have hs := HU.out.size
            have hu2 := HU.out.transP hp (fun x q => q)
            have hA3 := hA2.zb' hs
            clear hp hA2
            go_wp2_with (fail)
            go_roundw
            case rel => exact ⟨k + 1, _, by go_num, by omega, hA3, HQ2.out, hu2⟩
            case measure => simp [intOf]; omega
          · have hq : (kd == 2) = false := by simp [hk2]
            have HK := Lib.hid hk2
            clear hk2
            by_cases hk3 : kd = 3
            · have hq3 : (kd == 3) = true := by simp [hk3]
              have HK3 := Lib.hid hk3
              have HQ2 : ∀ x, Hid (QUp (r.rest f x) 9) := fun x => Lib.hid fun j hj => by rw [rest_q]; exact HQ.out j hj
              have HRS := Lib.hid (fun x => ring_rest_c HA.out (by omega) hfI x)
              clear hk3
              go_wp2_with (fail)
              refine Calls.mono (HRS.out _) ?_
              rintro e w2 ⟨rfl, hp, hA2⟩
              have hs := HU.out.size
              have hu2 := HU.out.transP hp (fun x q => q)
              have hA3 := hA2.zb' hs
              have hq2 := (HQ2 (n.tmod 2 != 0)).out
              clear hp hA2
              go_wp2_with (fail)
              go_roundw
              case rel => exact ⟨k + 1, _, by go_num, by omega, hA3, hq2, hu2⟩
              case measure => simp [intOf]; omega
            · have hq3 : (kd == 3) = false := by simp [hk3]
              have HK3 := Lib.hid hk3
              clear hk3
              have hok := HA.out.ok
              have hto := turn_ok hok
              have htz := turn_zero hok
              obtain ⟨hti, hti2⟩ := turn_in hok
              have hok2 := hok.turn
              have hQ2 : QUp r.turn.r 9 := fun j hj => by rw [turn_q hok]; exact HQ.out j hj
              have htn : inI r.turn.n := by unfold inI; omega
              have HTO := Lib.hid hto
              have HTZ := Lib.hid htz
              have HOK2 := Lib.hid hok2
              have HQ2 := Lib.hid hQ2
              clear hto htz hok2 hQ2 hok
              go_wp2_with (fail)
              refine Calls.mono (ring_active_c HA.out) ?_
              rintro e w2 ⟨v2, rfl, hs2, hu2⟩
              obtain ⟨ao2, cap2, rfl, -, -⟩ := hs2.form
              have hA2 := HA.out.upd0 hu2
              have hx2 := HU.out.trans' hu2
              clear hs2 hu2
              have HT := Lib.hid (ring_turn_c hA2 (by omega))
              have HX2 := Lib.hid hx2
              clear hA2 hx2
              by_cases hL : 0 < r.row.length
              · have hto : r.turn.ok = true := by rw [HTO.out]; simpa using hL
                rw [hto] at HT HTZ
                clear hto
                generalize r.row.length = L at *
                go_wp2_with (fail)
                refine HT.out.mono ?_
                rintro e w3 ⟨rfl, hp, hA3⟩
                have hs3 := HX2.out.size
                have hx3 := HX2.out.transP hp (fun x q => q)
                replace hA3 := hA3.zb' hs3
                clear hp hs3 HT HX2 HTO c0 c1 c2 hf hc HQ
                generalize r.turn.r = r2 at *
                generalize r.turn.n = tn at *
                generalize r.turn.c = tc at *
                have HA3 := Lib.hid hA3
                have HX3 := Lib.hid hx3
                clear hA3 hx3 hu
                go_wp2_with (fail)
                refine Calls.mono (ring_active_c HA3.out) ?_
                rintro e w4 ⟨v4, rfl, hs4, hu4⟩
                obtain ⟨ao4, cap4, rfl, -, hrow4⟩ := hs4.form
                have hA4 := HA3.out.upd0 hu4
                have hx4 := HX3.out.trans' hu4
                have hl2 := HOK2.out.len
                have hcell : ∀ m (hm : m < r2.row.length), ∃ g4 off4, ao4 = some ⟨g4, off4, none⟩ ∧ w4.cell? ⟨g4, off4 + m, none⟩ = some (i64 r2.row[m]) := fun m hm => by
                  obtain ⟨g4, off4, q1, -, -, q2⟩ := hrow4 (by omega)
                  exact ⟨g4, off4, q1, q2 m _ (by rw [List.getElem?_map, List.getElem?_eq_getElem hm]; rfl)⟩
                have hfr : ∀ m (hm : m < r2.row.length), 0 ≤ r2.deficit r2.row[m] ∧ (0 < m → r2.deficit r2.row[m] ≤ 1039) ∧ r2.deficit r2.row[m] ≤ 1040 + 50 * r2.row[m] + 1039 ∧ 0 ≤ r2.row[m] ∧ r2.row[m] ≤ 8 := fun m hm => by
                  obtain ⟨f2, hf2, -⟩ := (HOK2.out.mem r2.row[m]).1 (List.getElem_mem hm)
                  have hrg := HOK2.out.rng _ f2 hf2
                  have := HQ2.out (r2.row[m]).toNat (by omega)
                  rw [show (((r2.row[m]).toNat : Nat) : Int) = r2.row[m] from by omega] at this
                  exact fair_row HOK2.out hm this
                have hdf := fun (n : Int) (hn : inI n) => ring_deficit_c hA4 hn
                have hwt := fun (n : Int) (hn : inI n) => ring_waits_c hA4 hn
                have HC4 := Lib.hid hcell
                have HFR := Lib.hid hfr
                have HDF := Lib.hid hdf
                have HWT := Lib.hid hwt
                have HA4 := Lib.hid hA4
                have HX4 := Lib.hid hx4
                clear hs4 hu4 hrow4 hA4 hx4 hcell hfr hdf hwt
                go_wp2_with (fail)
                go_loop [12] (fun i => ∃ m : Nat, i = i64 m ∧ m ≤ r2.row.length) (fun i => r2.row.length - (intOf i).toNat)
                case atStart => exact ⟨0, rfl, Nat.zero_le _⟩
                case round =>
                  obtain ⟨m, rfl, hm⟩ := hrel
                  by_cases hml : m < r2.row.length
                  · obtain ⟨g4, off4, rfl, cm⟩ := HC4.out m hml
                    obtain ⟨x1, x2, x3, x4, x5⟩ := HFR.out m hml
                    have hdx := HDF.out r2.row[m] ⟨by omega, by omega⟩
                    generalize r2.deficit r2.row[m] = d at *
                    generalize r2.row[m] = x at *
                    have HDX := Lib.hid hdx
                    clear hdx
                    by_cases hm0 : m = 0
                    · subst hm0
                      clear x2
                      rw [Nat.add_zero] at cm
                      rw [show ((0 : Nat) : Int) = 0 from rfl]
                      go_wp2_with (fail)
                      refine HDX.out.mono ?_
                      rintro e wx ⟨rfl, rfl⟩
                      go_wp2_with (fail)
                      go_round
                      case rel => exact ⟨1, rfl, by omega⟩
                      case measure => simp [intOf]; omega
                    · have x2' := x2 (by omega)
                      clear x2
                      go_wp2_with (fail)
                      refine HDX.out.mono ?_
                      rintro e wx ⟨rfl, rfl⟩
                      go_wp2_with (fail)
                      go_round
                      case rel => exact ⟨m + 1, by go_num, by omega⟩
                      case measure => simp [intOf]; omega
                  · have e : m = r2.row.length := by omega
                    have hw0 := HWT.out tn htn
                    have hd0 := HDF.out tn htn
                    by_cases hz : r2.waits tn = 0
                    · have hdz : r2.deficit tn = 0 := by first | exact HTZ.out trivial hz | exact HTZ.out rfl hz
                      rw [hz] at hw0
                      rw [hdz] at hd0
                      have HW0 := Lib.hid hw0
                      have HD0 := Lib.hid hd0
                      clear hw0 hd0 hz hdz
                      go_wp2_with (fail)
                      refine HW0.out.mono ?_
                      rintro e wx ⟨rfl, rfl⟩
                      go_wp2_with (fail)
                      refine HD0.out.mono ?_
                      rintro e wx ⟨rfl, rfl⟩
                      go_wp2_with (fail)
                      go_roundw
                      case rel => exact ⟨k + 1, r2, by go_num, by omega, HA4.out, HQ2.out, HX4.out⟩
                      case measure => simp [intOf]; omega
                    · have hz2 : ((r2.waits tn : Int) == 0) = false := by simpa using hz
                      generalize r2.waits tn = wn at *
                      have HW0 := Lib.hid hw0
                      clear hw0 hd0 hz
                      go_wp2_with (fail)
                      refine HW0.out.mono ?_
                      rintro e wx ⟨rfl, rfl⟩
                      go_wp2_with (fail)
                      go_roundw
                      case rel => exact ⟨k + 1, r2, by go_num, by omega, HA4.out, HQ2.out, HX4.out⟩
                      case measure => simp [intOf]; omega
              · have hL0 : r.row.length = 0 := by omega
                have hto : r.turn.ok = false := by rw [HTO.out, hL0]; rfl
                rw [hto] at HT
                rw [hL0]
                clear hto hL hL0 HTZ
                go_wp2_with (fail)
                refine HT.out.mono ?_
                rintro e w3 ⟨rfl, hp, hA3⟩
                have hs3 := HX2.out.size
                have hx3 := HX2.out.transP hp (fun x q => q)
                replace hA3 := hA3.zb' hs3
                clear hp hs3 HT HX2 HTO c0 c1 c2 hf hc HQ
                generalize r.turn.r = r2 at *
                generalize r.turn.n = tn at *
                generalize r.turn.c = tc at *
                have HA3 := Lib.hid hA3
                have HX3 := Lib.hid hx3
                clear hA3 hx3 hu
                go_wp2_with (fail)
                refine Calls.mono (ring_active_c HA3.out) ?_
                rintro e w4 ⟨v4, rfl, hs4, hu4⟩
                obtain ⟨ao4, cap4, rfl, -, hrow4⟩ := hs4.form
                have hA4 := HA3.out.upd0 hu4
                have hx4 := HX3.out.trans' hu4
                have hl2 := HOK2.out.len
                have hcell : ∀ m (hm : m < r2.row.length), ∃ g4 off4, ao4 = some ⟨g4, off4, none⟩ ∧ w4.cell? ⟨g4, off4 + m, none⟩ = some (i64 r2.row[m]) := fun m hm => by
                  obtain ⟨g4, off4, q1, -, -, q2⟩ := hrow4 (by omega)
                  exact ⟨g4, off4, q1, q2 m _ (by rw [List.getElem?_map, List.getElem?_eq_getElem hm]; rfl)⟩
                have hfr : ∀ m (hm : m < r2.row.length), 0 ≤ r2.deficit r2.row[m] ∧ (0 < m → r2.deficit r2.row[m] ≤ 1039) ∧ r2.deficit r2.row[m] ≤ 1040 + 50 * r2.row[m] + 1039 ∧ 0 ≤ r2.row[m] ∧ r2.row[m] ≤ 8 := fun m hm => by
                  obtain ⟨f2, hf2, -⟩ := (HOK2.out.mem r2.row[m]).1 (List.getElem_mem hm)
                  have hrg := HOK2.out.rng _ f2 hf2
                  have := HQ2.out (r2.row[m]).toNat (by omega)
                  rw [show (((r2.row[m]).toNat : Nat) : Int) = r2.row[m] from by omega] at this
                  exact fair_row HOK2.out hm this
                have hdf := fun (n : Int) (hn : inI n) => ring_deficit_c hA4 hn
                have hwt := fun (n : Int) (hn : inI n) => ring_waits_c hA4 hn
                have HC4 := Lib.hid hcell
                have HFR := Lib.hid hfr
                have HDF := Lib.hid hdf
                have HWT := Lib.hid hwt
                have HA4 := Lib.hid hA4
                have HX4 := Lib.hid hx4
                clear hs4 hu4 hrow4 hA4 hx4 hcell hfr hdf hwt
                go_wp2_with (fail)
                go_loop [12] (fun i => ∃ m : Nat, i = i64 m ∧ m ≤ r2.row.length) (fun i => r2.row.length - (intOf i).toNat)
                case atStart => exact ⟨0, rfl, Nat.zero_le _⟩
                case round =>
                  obtain ⟨m, rfl, hm⟩ := hrel
                  by_cases hml : m < r2.row.length
                  · obtain ⟨g4, off4, rfl, cm⟩ := HC4.out m hml
                    obtain ⟨x1, x2, x3, x4, x5⟩ := HFR.out m hml
                    have hdx := HDF.out r2.row[m] ⟨by omega, by omega⟩
                    generalize r2.deficit r2.row[m] = d at *
                    generalize r2.row[m] = x at *
                    have HDX := Lib.hid hdx
                    clear hdx
                    by_cases hm0 : m = 0
                    · subst hm0
                      clear x2
                      rw [Nat.add_zero] at cm
                      rw [show ((0 : Nat) : Int) = 0 from rfl]
                      go_wp2_with (fail)
                      refine HDX.out.mono ?_
                      rintro e wx ⟨rfl, rfl⟩
                      go_wp2_with (fail)
                      go_round
                      case rel => exact ⟨1, rfl, by omega⟩
                      case measure => simp [intOf]; omega
                    · have x2' := x2 (by omega)
                      clear x2
                      go_wp2_with (fail)
                      refine HDX.out.mono ?_
                      rintro e wx ⟨rfl, rfl⟩
                      go_wp2_with (fail)
                      go_round
                      case rel => exact ⟨m + 1, by go_num, by omega⟩
                      case measure => simp [intOf]; omega
                  · have e : m = r2.row.length := by omega
                    go_wp2_with (fail)
                    go_roundw
                    case rel => exact ⟨k + 1, r2, by go_num, by omega, HA4.out, HQ2.out, HX4.out⟩
                    case measure => simp [intOf]; omega
        · have e : k = l.length := by omega
          go_wp2_with (fail)
          refine Calls.mono (drrAwake_c _) ?_
          rintro e w5 ⟨rfl, hu5⟩
          go_wp2_with (fail)
          exact hR.out _ _ ⟨rfl, hu.trans' hu5⟩

set_option maxRecDepth 100000 in
theorem drrFair9_c (ao : Option Addr) (n cap : Nat) (w : World) (hn : 250 < n) : Trues 4 #[.slice ao n cap] w := by
  unfold Trues
  refine post fun R hR => ?_
  go_enter Try.func4, Try.ntmps4
  go_wp2_with (fail)
  refine Calls.mono (drrAwake_c _) ?_
  rintro e w5 ⟨rfl, hu5⟩
  go_wp2_with (fail)
  exact hR.out _ _ ⟨rfl, hu5⟩

set_option maxRecDepth 100000 in
theorem drrFair_walk {H : Type} {enc : TypeId × Value → H} {W : World} {base : Nat} {args : Array Value} {ds gs : List (DataW H)} {before : List MemPlace}
    (hval : ∀ (j : Nat) t v, Try.f4.params[j]? = some t → args[j]? = some v → Value.okWide Try.prog W .any base t v)
    (hW : DataW.Whole enc Try.prog Try.f4.params.toList [] false W args.toList ds gs before) : Trues 4 args W := by
  obtain ⟨p, q, hA, -, rfl, -, -⟩ := hW
  rw [Try.params4] at hA hval
  obtain ⟨v0, d0, rfl, rfl, h0⟩ := trodAll_one hA
  obtain ⟨ao, cap, l, rfl, hlc, hcap, hg, hl⟩ := open_list DStp.parse Try.underlying22 flat_dstp cells_dstp (by decide) (hval 0 22 v0 rfl rfl) h0
  by_cases hbig : 250 < l.length
  · exact drrFair9_c ao l.length cap W hbig
  · refine drrFair_c ao cap l W (by omega) ?_ hg
    rcases hl with rfl | ⟨b, off, rfl, hr⟩
    · exact .inl rfl
    · cases l with
      | nil => exact .inl rfl
      | cons x r => exact .inr ⟨b, off, rfl, hr, World.block_lt_of_cell? W _ (hr 0 x rfl 0 (by decide))⟩

set_option maxRecDepth 100000 in
theorem drrFair_lifted (os : Os) (started : os.Started) (H : Type) (enc : TypeId × Value → H) :
    ReturnsInHanded {} Try.checked os 4 .any (Rows.drrFairSpec.pre6 enc Try.prog Try.f4 Rows.drrFairRow.domain false) (Rows.drrFairSpec.post enc Try.prog Try.f4 false true false false) := by
  refine returnsInHanded_of_change (C := Try.checked) own started (by kernel_rfl) Try.func4
    (ChangeSpec.witness6 (enc := enc) (C := Try.checked) false ⟨#[], #[.slice none 0 0], []⟩ 8 (by kernel_rfl) (by kernel_rfl) (by kernel_rfl) (by kernel_rfl)) ?_
  intro W base args ds gs before hval hW hcnd _
  refine Calls.mono (drrFair_walk hval hW) fun e W' ⟨he, hu⟩ => ?_
  exact ⟨_, he, law_post rfl rfl (by kernel_rfl) hW (fun ds h => by match ds, h with | [_], _ => rfl) hu⟩

set_option maxRecDepth 100000 in
theorem drrFair_over : Rows.drrFairRow.holds Try.pinned (OpenSpec.ofChange Rows.drrFairSpec) :=
  OpenClaim.holds_of_wide 4 Try.f4 rfl rfl rfl rfl rfl rfl rfl ⟨rfl, rfl, rfl, rfl, rfl⟩ rfl rfl rfl rfl rfl (by kernel_rfl) Try.func4 (by kernel_rfl)
    (of_decide_eq_true (by kernel_rfl)) (by unfold Func.isWrapper; first | (rw [if_pos (by decide +kernel)]; kernel_rfl) | (rw [if_neg (by decide +kernel)]; exact ⟨rfl, rfl⟩))
    (fun os started H enc _ => drrFair_lifted os started H enc)

theorem drrFair_proved : Rows.DrrFairSaid := drrFair_over
end Go.Proofs.Ytabhdigannalgaa
