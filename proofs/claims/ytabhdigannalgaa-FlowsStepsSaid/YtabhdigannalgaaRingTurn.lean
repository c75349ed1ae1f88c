/-
  The contract of the ring's Turn, with all its rounds, on a ring in memory as one notion. Condition: the ring is one that its own functions made, by some hundred steps at most.
-/
import Derived.Test.YtabhdigannalgaaRingOps
import Derived.Deep.RegionHeld3
import Derived.Deep.LoopGhost
import Derived.Deep.DeepCutAuto
import Derived.Deep.CutBlock
import Derived.Outline
namespace Go.Proofs.Ytabhdigannalgaa
open Go Go.RowKit Go.Maps

section
variable {w : World} {Z : Nat → Prop} {b : Nat} {ty : TypeId} {tl : List Value} {N : Nat} {r : Rg} {blk : Int → Nat} {mv rv : Value} {cv : Int → Value}

/-- what the front of a row that is not empty looks like -/
theorem RingX.front (h : RingX w Z b ty tl N r blk mv rv cv) {n c : Int} {l cs : List Int} {f : Fl} (hr : r.row = n :: l) (hf : r.fl n = some f) (hc : f.cs = c :: cs) :
    ∃ g off cap g2 off2 cap2, rv = .slice (some ⟨g, off, none⟩) (l.length + 1) cap ∧ l.length + 1 ≤ cap ∧ cv n = .slice (some ⟨g2, off2, none⟩) (cs.length + 1) cap2 ∧ w.cell? ⟨g, off, none⟩ = some (.pointer (some ⟨blk n, 0, none⟩)) ∧ w.cell? ⟨g2, off2, none⟩ = some (i64 c) ∧
      Sub w 0 96 1 rv (l.length + 1) (evs (blk n :: l.map blk)) ∧ Sub w 0 3 1 (cv n) (cs.length + 1) (i64 c :: cs.map i64) ∧ g2 ≠ blk n ∧ g2 < w.heap.size := by
  obtain ⟨k1, k2, -, -⟩ := h.fl n f hf
  have hs := h.row
  rw [hr] at hs
  rw [hc] at k2
  obtain ⟨ao, cap, e1, hcap, hrow⟩ := hs.form
  obtain ⟨ao2, cap2, e2, hcap2, hrow2⟩ := k2.form
  simp only [List.length_cons] at hcap hcap2 e1 e2 hrow hrow2
  obtain ⟨g, off, rfl, -, -, hcs⟩ := hrow (by omega)
  obtain ⟨g2, off2, rfl, -, hlt, hcs2⟩ := hrow2 (by omega)
  have r0 := hcs 0 _ rfl
  have o0 := hcs2 0 _ rfl
  rw [Nat.add_zero] at r0 o0
  have hne : g2 ≠ blk n := by
    rintro rfl
    obtain ⟨cs', q⟩ := k2.ty (blk n) (by rw [e2]; simp [blkL])
    exact cells_ne q k1 (by decide) rfl
  exact ⟨g, off, cap, g2, off2, cap2, e1, hcap, e2, r0, o0, hs, k2, hne, hlt⟩

/-- the front flow is served -/
theorem ringx_serve (hty : RTy ty) (h : RingX w Z b ty tl N r blk mv rv cv) (hlen : r.row.length ≤ 9) (hrow : ∀ m ∈ r.row, r.fl m ≠ none) {n c : Int} {cs : List Int} {f : Fl} (hr : n ∈ r.row) (hf : r.fl n = some f) (hc : f.cs = c :: cs) (hrs : f.rs = false) (hcl : cs.length ≤ 999)
    (hd : 1 ≤ c ∧ c ≤ f.d ∧ f.d ≤ 4194304) :
    Calls Try.prog 53 #[.pointer (some ⟨b, 0, none⟩), .pointer (some ⟨blk n, 0, none⟩)] w fun e w' => e = .returned (i64 c) ∧ w'.cell? ⟨blk n, 0, none⟩ = some (i64 n) ∧ UpdP Z w w' ∧ ∃ rv' cv', RingX w' (grow Z w) b ty tl N (r.settle n { f with d := f.d - c, cs := cs }) blk mv rv' cv' := by
  have hn : r.fl n ≠ none := by rw [hf]; exact fun e => (by cases e)
  obtain ⟨k1, k2, -, -⟩ := h.fl n f hf
  rw [hc] at k2
  rw [hrs] at k1
  have hoff := h.cvOff hty hn
  cases hcs : cs with
  | nil =>
    subst hcs
    have hlen2 : (r.row.map blk).length ≤ 100 := by rw [List.length_map]; omega
    refine Calls.mono (dserveLast_c hty h.hb h.rowL hlen2 (h.lv hrow) k1 k2 hd) ?_
    rintro e w' ⟨ao, cap, rv', rfl, g1, g2, g3, g4, g5, g6, g7⟩
    rw [h.off hrow hn] at g4
    have := h.change1 hty (n := n) (f := { f with d := 0, cs := [] }) (row' := offR n r.row) (rv' := rv') (cvn := .slice ao 0 cap) g5 hn
      (fun x q => by
        rcases List.mem_cons.1 q with e | e
        · exact .inl e
        · rcases List.mem_cons.1 e with e | e
          · exact .inr (.inl e)
          · exact .inr (.inr (.inl e))) g3
      (by rw [List.length_map] at g4; exact g4) (fun x q => .inl (g6 x q)) (by show FlAt w' (blk n) n f.q 0 _ f.rs f.an; rw [hrs]; exact g1) g2 (fun x q => .inl (g7 x q))
    have q := this.1
    rw [← show r.settle n { f with d := f.d - c, cs := [] } = ⟨r.put n (some { f with d := 0, cs := [] }), offR n r.row⟩ from by unfold Rg.settle; rw [if_neg (by simp [Fl.act])]] at q
    exact ⟨rfl, (cells6 g1).1, this.2, rv', _, q⟩
  | cons c2 cs2 =>
    subst hcs
    refine Calls.mono (dserveMore_c (k := cs2.length) k1 k2 (by simp only [List.length_cons] at hcl; omega) hd) ?_
    rintro e w' ⟨ao, cap, rfl, g1, g2, g3, g4⟩
    have := h.change1 hty (n := n) (f := { f with d := f.d - c, cs := c2 :: cs2 }) (row' := r.row) (rv' := rv) (cvn := .slice ao (cs2.length + 1) cap) g3 hn
      (fun x q => by simp at q; exact .inr (.inl q)) (g3.keep h.hb (by simp; exact cells_ne h.hb k1 hty.f))
      (h.row.upd g3 (by
        intro x hx hm
        simp at hm; subst hm
        obtain ⟨cs', q⟩ := h.row.ty _ hx
        exact cells_ne q k1 (by decide) rfl)) (fun x q => .inl q) (by show FlAt w' (blk n) n f.q (f.d - c) _ f.rs f.an; rw [hrs]; exact g1) g2 (fun x q => .inl (g4 x q))
    have q := this.1
    rw [← show r.settle n { f with d := f.d - c, cs := c2 :: cs2 } = ⟨r.put n (some { f with d := f.d - c, cs := c2 :: cs2 }), r.row⟩ from by unfold Rg.settle; rw [if_pos (by simp [Fl.act, hrs]), if_pos hr]] at q
    exact ⟨rfl, (cells6 g1).1, this.2, rv, _, q⟩
end

theorem put_put (r : Rg) (n : Int) (o o' : Option Fl) (row : List Int) : (Rg.mk (r.put n o) row).put n o' = r.put n o' := by
  funext j
  unfold Rg.put
  by_cases e : j = n
  · rw [if_pos e, if_pos e]
  · rw [if_neg e, if_neg e]; show (if j = n then o else r.fl j) = r.fl j; rw [if_neg e]

set_option maxRecDepth 100000 in
set_option maxHeartbeats 4000000 in
theorem ring_turn_c {w : World} {Z : Nat → Prop} {b : Nat} {ty : TypeId} {tl : List Value} {K : Nat} {r : Rg} (h : RingAt w Z b ty tl K r) (hK : K ≤ 900) :
    Calls Try.prog 14 #[.pointer (some ⟨b, 0, none⟩)] w fun e w' => e = .returned (.tuple #[i64 r.turn.n, i64 r.turn.c, .bool r.turn.ok]) ∧ UpdP Z w w' ∧ RingAt w' (grow Z w) b ty tl (K + 1) r.turn.r := by
  have H0 := Lib.hid h
  clear h
  refine post fun R hR => ?_
  go_enter Try.func14, Try.ntmps14
  go_wp2_with (fail)
  go_loopg [5] r.meas (fun k _ wr => ∃ r' : Rg, k = r'.meas ∧ RingAt wr (grow Z w) b ty tl K r' ∧ UpdP Z w wr ∧ r'.turn = r.turn)
  case atStart => exact ⟨r, rfl, H0.out.more (grow_sub Z w) (Nat.le_refl _), UpdP.refl _ _, rfl⟩
  case round =>
    obtain ⟨r', rfl, hA, hU, hT⟩ := hrel
    obtain ⟨hty, hok, hsm, M0, blk, mv, rv, cv, hMK, hX⟩ := hA
    cases hr : r'.row with
    | nil =>
      have hfin : r.turn = ⟨r', 0, 0, false⟩ := hT.symm.trans (turn_empty hr)
      have hs := hX.row
      rw [hr] at hs
      obtain ⟨ao, cap, hrv, -, -⟩ := hs.form
      simp only [List.length_nil] at hrv
      have hb := hX.hb
      rw [hrv] at hb
      obtain ⟨-, c1, -, f1⟩ := rcells hb
      have HFIN := Lib.hid hfin
      have HX := Lib.hid hX
      have HOK := Lib.hid hok
      have HSM := Lib.hid hsm
      have HU := Lib.hid hU
      clear hfin hs hb hX hok hsm hU hT hrv hr
      go_wp2_with (fail)
      refine hR.out _ _ ⟨(by rw [HFIN.out]; rfl), HU.out, ?_⟩
      rw [HFIN.out]
      exact ⟨hty, HOK.out, HSM.out.mono (Nat.le_succ K), M0, blk, mv, rv, cv, by omega, HX.out⟩
    | cons n l =>
      obtain ⟨f, c, cs, hf, hc, hrs, hc1, hc2⟩ := hok.front hr
      have hne : r'.fl n ≠ none := by rw [hf]; exact fun e => (by cases e)
      have hfo := hok.fok n f hf
      have hfq := hfo.q
      have hfd := hfo.d
      have hcsl : cs.length + 1 ≤ K := by have := hsm n f hf; rw [hc] at this; simpa using this
      obtain ⟨k1, k2, -, -⟩ := hX.fl n f hf
      obtain ⟨g, off, cap, g2, off2, cap2, e1, hcap, e2, r0, o0, hs, hcost, hg2, hg2l⟩ := hX.front hr hf hc
      have hb := hX.hb
      rw [e1] at hb
      rw [e2] at k1
      obtain ⟨-, c1, -, f1⟩ := rcells hb
      obtain ⟨p0, p1, p2, p3, p4, p5, y0, y1, y2, y3, y4, y5⟩ := cells6 k1
      -- the flow made fresh
      have hfr : ∀ w2, Upd [blk n] wr w2 → FlAt w2 (blk n) n f.fresh.q f.fresh.d (cv n) f.fresh.rs f.fresh.an →
          RingX w2 (grow Z w) b ty tl M0 ⟨r'.put n (some f.fresh), r'.row⟩ blk mv rv cv ∧ UpdP Z w w2 := fun w2 hu hfl2 => by
        have := hX.change1 hty (n := n) (f := f.fresh) (row' := r'.row) (rv' := rv) (cvn := cv n) hu hne (fun x hx => by simp at hx; exact .inr (.inl hx))
          (hu.keep hX.hb (by simp; exact cells_ne hX.hb k1 hty.f))
          (hX.row.upd hu (fun x hx hm => by
            obtain ⟨cs, z⟩ := hX.row.ty _ hx
            simp at hm; subst hm; exact cells_ne z k1 (by decide) rfl)) (fun x q => .inl q) hfl2
          (by rw [fresh_cs]; exact k2.upd hu (fun x hx hm => by
            obtain ⟨cs, z⟩ := k2.ty _ hx
            simp at hm; subst hm; exact cells_ne z k1 (by decide) rfl)) (fun x q => .inl q)
        rw [blk_same] at this
        exact ⟨this.1.mono (grow2 hU.size), hU.trans (this.2.mono fun x hx => .inl hx) (fun x hx => hx)⟩
      have hbF : b ≠ blk n := cells_ne hX.hb k1 hty.f
      have HFR := Lib.hid hfr
      have HFL := Lib.hid k1
      have HT := Lib.hid hT
      have HOK := Lib.hid hok
      have HSM := Lib.hid hsm
      have HR := Lib.hid hr
      have HF := Lib.hid hf
      have HC := Lib.hid hc
      have HRS := Lib.hid hrs
      have HNE := Lib.hid hne
      have HE1 := Lib.hid e1
      have HE2 := Lib.hid e2
      rw [hrs] at p4
      have hF0 := lt_of_heap k1
      obtain ⟨hq1, hq2⟩ := hfq
      obtain ⟨hd1, hd2⟩ := hfd
      clear hfr k1 k2 hT hok hsm hf hc hrs hne e1 e2 hs hcost hb hX hU hfo hr
      go_upto_if 23 with (fail)
      go_cut [] (fun wc => RingX wc (grow Z w) b ty tl M0 ⟨r'.put n (some f.fresh), r'.row⟩ blk mv rv cv ∧ UpdP Z w wc)
      case first =>
        by_cases ha : f.an = true
        · have h39 := HOK.out.fok n f HF.out
          have h40 := h39.an ha
          have hfe : f.fresh = { f with d := f.d + f.q, an := false } := by unfold Fl.fresh; rw [if_pos ha]
          have HFE := Lib.hid hfe
          rw [ha] at p5
          rw [ha]
          clear h39 hfe ha
          go_wp2_with (fail)
          go_region
          have hf2 : FlAt (wr.setCell ⟨blk n, 2, none⟩ (i64 (f.d + f.q))).drew (blk n) n f.q (f.d + f.q) _ f.rs f.an := heap_drew (hset6_2 HFL.out)
          have hu2 : Upd [blk n] wr (wr.setCell ⟨blk n, 2, none⟩ (i64 (f.d + f.q))).drew := ((Upd.refl [blk n] wr).setCell (by simp) _).drew
          clear p0 p1 p2 p3 p4 p5 y0 y1 y2 y3 y4 y5 c1 f1 r0 o0
          generalize (wr.setCell ⟨blk n, 2, none⟩ (i64 (f.d + f.q))).drew = w2 at *
          obtain ⟨p0, p1, p2, p3, p4, p5, y0, y1, y2, y3, y4, y5⟩ := cells6 hf2
          have hf3 := hset6_5 (v := .bool false) hf2
          have hu3 : Upd [blk n] wr (w2.setCell ⟨blk n, 5, none⟩ (.bool false)) := hu2.setCell (by simp) _
          have HF3 := Lib.hid hf3
          have HU3 := Lib.hid hu3
          clear hf2 hu2 hf3 hu3
          go_wp2_with (fail)
          go_meet
          case rel =>
            refine HFR.out _ HU3.out ?_
            rw [HFE.out, HE2.out]
            exact HF3.out
        · have ha' : f.an = false := by simpa using ha
          have hfe : f.fresh = f := by unfold Fl.fresh; rw [if_neg ha]
          have HFE := Lib.hid hfe
          rw [ha'] at p5
          rw [ha']
          clear ha ha' hfe
          go_wp2_with (fail)
          go_meet
          case rel =>
            refine HFR.out _ (Upd.refl _ _) ?_
            rw [HFE.out, HE2.out]
            exact HFL.out
      case rest =>
        obtain ⟨hX, hU⟩ := hcut
        clear p0 p1 p2 p3 p4 p5 y0 y1 y2 y3 y4 y5 c1 f1 r0 o0 hg2 hg2l hcap HFR HFL hF0 HE1 HE2
        have hf1 : (Rg.mk (r'.put n (some f.fresh)) r'.row).fl n = some f.fresh := Rg.put_same _ _ _
        obtain ⟨e1, e2, e3, e4, e5, e6⟩ := fresh_ok (HOK.out.fok n f HF.out)
        obtain ⟨k1, k2, -, -⟩ := hX.fl n _ hf1
        obtain ⟨g, off, cap, g2, off2, cap2, q1, hcap, q2, r0, o0, hs, hcost, hg2, hg2l⟩ := hX.front (c := c) (cs := cs) HR.out hf1 (by rw [fresh_cs]; exact HC.out)
        have hb := hX.hb
        have hbF : b ≠ blk n := cells_ne hX.hb k1 hty.f
        rw [q1] at hb hs
        rw [q2] at k1
        obtain ⟨-, c1, -, f1⟩ := rcells hb
        rw [e3, HRS.out, e4] at k1
        obtain ⟨p0, p1, p2, p3, p4, p5, y0, y1, y2, y3, y4, y5⟩ := cells6 k1
        have hrow1 : ∀ m ∈ r'.row, (Rg.mk (r'.put n (some f.fresh)) r'.row).fl m ≠ none := fun m hm => by
          by_cases q : m = n
          · subst q; rw [hf1]; exact fun e => (by cases e)
          · show r'.put n _ m ≠ none; rw [Rg.put_other r' _ q]; exact HOK.out.rowfl m hm
        have hmem : n ∈ r'.row := by rw [HR.out]; simp
        have hlen9 := HOK.out.len
        by_cases hpay : c ≤ f.fresh.d
        · have hfin : r.turn = ⟨r'.serve n f c cs, n, c, true⟩ := HT.out.symm.trans (turn_serve HR.out HF.out HC.out hpay)
          have hput : (Rg.mk (r'.put n (some f.fresh)) r'.row).settle n { f.fresh with d := f.fresh.d - c, cs := cs } = r'.serve n f c cs := settle_put _ _ _ _
          have hsv := fun (w2 : World) (hu : Upd [] wc w2) => ringx_serve hty (hX.upd hu (fun _ h => by cases h)) hlen9 hrow1 (n := n) (c := c) (cs := cs) (f := f.fresh) hmem hf1 (by rw [fresh_cs]; exact HC.out) (by rw [e3]; exact HRS.out) (by omega) ⟨hc1, hpay, by omega⟩
          simp only [hput] at hsv
          clear hput
          have hokS := HOK.out.serve HR.out HF.out HC.out hpay
          have HFIN := Lib.hid hfin
          have HSV := Lib.hid hsv
          have HU := Lib.hid hU
          have HOKS := Lib.hid hokS
          have HSMS : Hid ((r'.serve n f c cs).small K) := Lib.hid (HSM.out.settle (by show cs.length ≤ K; omega))
          have hd : decide (c ≤ f.fresh.d) = true := by simpa using hpay
          have K1 := Lib.hid k1
          clear hfin hsv hU hokS hX k1 k2 hrow1 hmem hlen9 hs hcost hb hf1 q1 q2 e1 e3 e4 e5 e6 hpay
          generalize f.fresh.d = D at *
          go_wp2_with (fail)
          go_quiet (fail)
          rename_i nq
          have hsv := HSV.out ((wc.drewN nq).drew) (((Upd.refl [] wc).drewN nq).drew)
          have pd0 : (wc.drewN nq).cell? ⟨blk n, 0, none⟩ = some (i64 n) := p0
          clear p0 p1 p2 p3 p4 p5 y0 y1 y2 y3 y4 y5 c1 f1 r0 o0 HSV K1 hd
          have hU2 : UpdP Z w (wc.drewN nq).drew := HU.out.trans (UpdP.of0 (((Upd.refl [] wc).drewN nq).drew)) (fun x hx => hx)
          generalize wc.drewN nq = w1 at *
          have hsv2 : Calls Try.prog 53 #[.pointer (some ⟨b, 0, none⟩), .pointer (some ⟨blk n, 0, none⟩)] w1.drew fun e w' => e = .returned (i64 c) ∧ w'.cell? ⟨blk n, 0, none⟩ = some (i64 n) ∧ R (.returned (.tuple #[i64 n, i64 c, .bool true])) w' := by
            refine hsv.mono ?_
            rintro e w' ⟨rfl, g1, g2, rv', cv', g3⟩
            refine ⟨rfl, g1, hR.out _ _ ⟨by rw [HFIN.out], hU2.trans g2 (fun x hx => hx), ?_⟩⟩
            rw [HFIN.out]
            refine ⟨hty, HOKS.out, HSMS.out.mono (Nat.le_succ K), M0, blk, mv, rv', cv', by omega, ?_⟩
            exact g3.mono fun x hx => grow2 hU2.size x hx
          have HSV := Lib.hid hsv2
          clear hsv hsv2
          go_wp2_with (fail)
          go_region_held3 (fun w' => w'.cell? ⟨blk n, 0, none⟩ = some (i64 n))
            ((first | exact pd0 | exact hp3))
            ((first
              | (go_at_call 53; (with_reducible refine Calls.mono (HSV.out) ?_); rintro e w3 ⟨rfl, hp3, hr3⟩)))
          all_goals go_wp2_with (fail)
          exact hr3
        · have hsp : (Rg.mk (r'.put n (some f.fresh)) r'.row).put n (some { f.fresh with an := true }) = r'.put n (some { f.fresh with an := true }) := put_put _ _ _ _ _
          have hX2 : ∀ w6 v6, Upd (b :: blk n :: blkL rv) wc w6 → w6.heap[b]? = some (.cells (mv :: v6 :: tl).toArray ty (0, 0)) → Sub w6 0 96 1 v6 (l.length + 1) (evs (l.map blk ++ [blk n])) → (∀ x ∈ blkL v6, x ∈ blkL rv ∨ wc.heap.size ≤ x) →
              FlAt w6 (blk n) n f.fresh.q f.fresh.d (.slice (some ⟨g2, off2, none⟩) (cs.length + 1) cap2) false true → RingX w6 (grow Z w) b ty tl M0 (r'.spin n f l) blk mv v6 cv ∧ UpdP Z w w6 := by
            intro w6 v6 hu6 hb6 hs6 hz6 hf6
            have := hX.change1 hty (n := n) (f := { f.fresh with an := true }) (row' := l ++ [n]) (rv' := v6) (cvn := cv n) hu6 (by rw [hf1]; exact fun e => (by cases e))
              (fun x q => by
                rcases List.mem_cons.1 q with e | e
                · exact .inl e
                · rcases List.mem_cons.1 e with e | e
                  · exact .inr (.inl e)
                  · exact .inr (.inr (.inl e))) hb6
              (by rw [List.length_append, List.map_append]; exact hs6) hz6
              (by show FlAt w6 (blk n) n f.fresh.q f.fresh.d (cv n) f.fresh.rs true; rw [e3, HRS.out, q2]; exact hf6)
              (by show Sub w6 0 3 1 (cv n) f.fresh.cs.length (f.fresh.cs.map i64); exact k2.upd hu6 (hX.cvOff hty (by rw [hf1]; exact fun e => (by cases e)))) (fun x q => .inl q)
            rw [blk_same, hsp] at this
            exact ⟨this.1.mono (grow2 hU.size), hU.trans this.2 (fun x hx => hx)⟩
          have hms := meas_spin HOK.out HR.out HF.out HC.out hpay
          have hok2 := HOK.out.spin HR.out HF.out HC.out hpay
          have ht2 := (turn_spin HOK.out HR.out HF.out HC.out hpay).symm.trans HT.out
          have hsm2 : (r'.spin n f l).small K := fun j gf hj => by
            by_cases e : j = n
            · subst e
              have := (Rg.put_same r' j _).symm.trans hj
              injection this with this; subst this
              show f.fresh.cs.length ≤ K
              rw [fresh_cs]; exact HSM.out j f HF.out
            · exact HSM.out j gf ((Rg.put_other r' _ e).symm.trans hj)
          have HX2 := Lib.hid hX2
          have HMS := Lib.hid hms
          have HOK2 := Lib.hid hok2
          have HT2 := Lib.hid ht2
          have HSM2 := Lib.hid hsm2
          have hd : decide (c ≤ f.fresh.d) = false := by simpa using hpay
          obtain ⟨i0, hi, hz0, hz1, hz2⟩ := info_parts info_el
          have hbv : b ∉ blkL rv := fun hm => by obtain ⟨cs, hx⟩ := hX.row.ty _ hm; exact cells_ne hX.hb hx hty.p rfl
          have hFv : blk n ∉ blkL rv := fun hm => by obtain ⟨cs, hx⟩ := hX.row.ty _ hm; exact cells_ne k1 hx (by decide) rfl
          have hlen10 : l.length ≤ 8 := by rw [HR.out] at hlen9; simp at hlen9; omega
          have hmx : l.length + 1 ≤ maxLen := by unfold maxLen; omega
          have hbl := lt_of_heap hb
          have hFl := lt_of_heap k1
          have hgl : blkL rv = [g] := by rw [q1]; rfl
          rw [hgl] at hbv hFv
          rw [hgl] at HX2
          have K1 := Lib.hid k1
          have HB := Lib.hid hb
          have HS := Lib.hid hs
          have HBV := Lib.hid hbv
          have HFV := Lib.hid hFv
          clear hsp hX2 hms hok2 ht2 hsm2 hpay hU hX k1 k2 hrow1 hmem hlen9 hs hcost hb hf1 q1 q2 e1 e2 e3 e4 e5 e6 hgl hbv hFv
          generalize f.fresh.d = D at *
          generalize f.fresh.q = Q at *
          go_wp2_with (fail)
          go_quiet (fail)
          rename_i nq
          go_upto_region 11 with (fail)
          have hu5 : Upd [blk n] wc ((wc.drewN nq).setCell ⟨blk n, 5, none⟩ (.bool true)) := ((Upd.refl [blk n] wc).drewN nq).setCell (by simp) _
          have hk5 := hset6_5 (v := .bool true) (heap_drewN K1.out nq)
          have hb5 := heap_setCell_ne (heap_drewN HB.out nq) hbF 5 (.bool true)
          have hs5 := HS.out.upd hu5 (by intro x hx hm; simp [blkL] at hx hm; subst hx; exact HFV.out (by simp [hm]))
          have hsz5 := hu5.size
          clear c1 f1 p0 p1 p2 p3 p4 p5 y0 y1 y2 y3 y4 y5 r0 o0 K1 HB HS hd
          generalize (wc.drewN nq).setCell ⟨blk n, 5, none⟩ (.bool true) = w1 at *
          obtain ⟨-, c1, -, f1⟩ := rcells hb5
          have HK5 := Lib.hid hk5
          have HB5 := Lib.hid hb5
          have HU5 := Lib.hid hu5
          have HEV := Lib.hid (evs_append (l.map blk) [blk n])
          by_cases hcap1 : cap = 1
          · subst hcap1
            obtain rfl : l = [] := List.eq_nil_of_length_eq_zero (by omega)
            have hv := Sub.none1 hs5
            have HV := Lib.hid hv
            clear hs5 hv hk5 hb5 hu5
            go_wp2_with (at_builtin; refine wpList_append_sub _ rfl _ _ 26 rfl 0 96 i0 _ 1 8 Try.underlying26 hi hz0 hz1 hz2 rfl (by decide) (.slice (some ⟨g, off, none⟩) 0 0) (0) _ rfl (HV.out.upd0 ((Upd.refl _ _).alloc _)) _ 1 1 [.pointer (some ⟨blk n, 0, none⟩)] rfl (src_block (heap_alloc_new _ _) 1 1) rfl (by intro u hu; simp at hu; subst hu; rfl) hmx (by omega) (by simp) ?_; intro ao' cap' w5 hs5 hu5 hb5; have hh5 := hu5.keep (heap_alloc_old HB5.out _) HBV.out; have hf5 := hu5.keep (heap_alloc_old HK5.out _) HFV.out; obtain ⟨-, q0, -, q1⟩ := rcells hh5; have HS5 := Lib.hid hs5; have HU6 := Lib.hid hu5; have HBB := Lib.hid hb5; have HH5 := Lib.hid hh5; have HF5 := Lib.hid hf5; clear hs5 hu5 hb5 hh5 hf5)
            have hbv5 : b ∉ blkL (.slice ao' (0 + 1) cap') := fun hm => by
              obtain ⟨cs, hc⟩ := HS5.out.ty _ hm
              exact cells_ne HH5.out hc hty.p rfl
            have hxu : Upd [b, blk n, g] wc (w5.setCell ⟨b, 1, none⟩ (.slice ao' (0 + 1) cap')) := (((HU5.out.mono (by intro x hx; simp at hx; simp [hx])).alloc _).trans' (HU6.out.mono (by intro x hx; simp [blkL] at hx; simp [hx]))).setCell (by simp) _
            have hx2 := HX2.out _ (.slice ao' (0 + 1) cap') hxu (rset_1 HH5.out) (by rw [HEV.out]; exact HS5.out.upd ((Upd.refl [b] w5).setCell (by simp) _) (by intro x hx hm; simp at hm; subst hm; exact hbv5 hx)) (by
              intro x hx
              rcases HBB.out with h | ⟨g', h1, h2⟩
              · rw [h] at hx; exact .inl hx
              · rw [h1] at hx; simp at hx h2; exact .inr (by omega)) (heap_setCell_ne HF5.out (fun e => hbF e.symm) _ _)
            have HXX := Lib.hid hx2
            clear hx2 hxu hbv5
            go_wp2_with (fail)
            go_roundg (r'.spin n f []).meas
            case measure => exact HMS.out
            case rel => exact ⟨_, rfl, ⟨hty, HOK2.out, HSM2.out, M0, blk, mv, _, cv, hMK, HXX.out.1⟩, HXX.out.2, HT2.out⟩
          · have hv := Sub.tail1 (n := l.length) (xs := evs (l.map blk)) hs5
            have HV := Lib.hid hv
            clear hs5 hv hk5 hb5 hu5
            go_wp2_with (at_builtin; refine wpList_append_sub _ rfl _ _ 26 rfl 0 96 i0 _ 1 8 Try.underlying26 hi hz0 hz1 hz2 rfl (by decide) (.slice (some ⟨g, off + 1, none⟩) l.length (cap - 1)) (l.length) _ rfl (HV.out.upd0 ((Upd.refl _ _).alloc _)) _ 1 1 [.pointer (some ⟨blk n, 0, none⟩)] rfl (src_block (heap_alloc_new _ _) 1 1) rfl (by intro u hu; simp at hu; subst hu; rfl) hmx (by omega) (by simp) ?_; intro ao' cap' w5 hs5 hu5 hb5; have hh5 := hu5.keep (heap_alloc_old HB5.out _) HBV.out; have hf5 := hu5.keep (heap_alloc_old HK5.out _) HFV.out; obtain ⟨-, q0, -, q1⟩ := rcells hh5; have HS5 := Lib.hid hs5; have HU6 := Lib.hid hu5; have HBB := Lib.hid hb5; have HH5 := Lib.hid hh5; have HF5 := Lib.hid hf5; clear hs5 hu5 hb5 hh5 hf5)
            have hbv5 : b ∉ blkL (.slice ao' (l.length + 1) cap') := fun hm => by
              obtain ⟨cs, hc⟩ := HS5.out.ty _ hm
              exact cells_ne HH5.out hc hty.p rfl
            have hxu : Upd [b, blk n, g] wc (w5.setCell ⟨b, 1, none⟩ (.slice ao' (l.length + 1) cap')) := (((HU5.out.mono (by intro x hx; simp at hx; simp [hx])).alloc _).trans' (HU6.out.mono (by intro x hx; simp [blkL] at hx; simp [hx]))).setCell (by simp) _
            have hx2 := HX2.out _ (.slice ao' (l.length + 1) cap') hxu (rset_1 HH5.out) (by rw [HEV.out]; exact HS5.out.upd ((Upd.refl [b] w5).setCell (by simp) _) (by intro x hx hm; simp at hm; subst hm; exact hbv5 hx)) (by
              intro x hx
              rcases HBB.out with h | ⟨g', h1, h2⟩
              · rw [h] at hx; exact .inl hx
              · rw [h1] at hx; simp at hx h2; exact .inr (by omega)) (heap_setCell_ne HF5.out (fun e => hbF e.symm) _ _)
            have HXX := Lib.hid hx2
            clear hx2 hxu hbv5
            go_wp2_with (fail)
            go_roundg (r'.spin n f l).meas
            case measure => exact HMS.out
            case rel => exact ⟨_, rfl, ⟨hty, HOK2.out, HSM2.out, M0, blk, mv, _, cv, hMK, HXX.out.1⟩, HXX.out.2, HT2.out⟩
end Go.Proofs.Ytabhdigannalgaa
