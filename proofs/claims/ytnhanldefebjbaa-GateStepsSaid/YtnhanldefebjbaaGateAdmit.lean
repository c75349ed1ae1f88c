/-
  The contract of the gate's Admit, and chapter 39's example. Conditions: the gate's numbers are within the bounds that every gate keeps.
-/
import Derived.Test.YtnhanldefebjbaaGateWait
namespace Go.Proofs.Ytnhanldefebjbaa
open Go Go.RowKit

/-- what comes out of a frame that does not wait -/
def Gt.tokE (g : Gt) (c : Int) : Int := if g.t < c then 14 else 0
def Gt.toked (g : Gt) (c : Int) : Gt := if g.t < c then g else { g with t := g.t - c }
def Gt.inE (g : Gt) (k n : Int) : Int := if asksB k = true then g.waitE (costN n) else g.tokE (costN n)
def Gt.inG (g : Gt) (k n : Int) : Gt := if asksB k = true then g.waited (costN n) else g.toked (costN n)
def Gt.full (g : Gt) (k : Int) : Bool := decide (k ≠ 3) && !g.oweB
def Gt.base (g : Gt) (k : Int) : Gt := if k = 3 then g else g.owed
def Gt.admE (g : Gt) (k n : Int) : Int := if g.full k = true then 13 else (g.base k).inE k n
def Gt.admG (g : Gt) (k n : Int) : Gt := if g.full k = true then g else (g.base k).inG k n
def Gt.admO (g : Gt) (k : Int) : Bool := if g.full k = true then false else decide (k ≠ 3)

theorem Gt.ok.owed {g : Gt} (ok : g.ok) : g.owed.ok := by
  have h1 := ok.ol0
  have h2 := ok.ot0
  unfold Gt.owed
  split
  · exact ⟨ok.r0, ok.u0, ok.t0, ok.ml0, ok.mt0, ok.sl0, ok.st0, ok.ol0, by show 0 ≤ g.ot + 1 ∧ g.ot + 1 ≤ 1048576; omega⟩
  · exact ok
theorem Gt.ok.base {g : Gt} (ok : g.ok) (k : Int) : (g.base k).ok := by
  unfold Gt.base; split
  · exact ok
  · exact ok.owed
theorem Gt.ok.inG {g : Gt} (ok : g.ok) (k n : Int) : (g.inG k n).ok := by
  have hc := costN_bd n
  have h1 := ok.t0
  have h2 := ok.mt0
  have h3 := ok.ml0
  have h4 := ok.st0
  have h5 := ok.sl0
  have h6 := ok.u0
  unfold Gt.inG
  split
  · unfold Gt.waited
    split
    · rename_i h
      unfold Gt.waitE at h
      split at h
      · cases h
      · split at h
        · cases h
        · split at h
          · cases h
          · split at h
            · cases h
            · exact ⟨ok.r0, ok.u0, by show 0 ≤ g.t - costN n ∧ g.t - costN n ≤ g.u; omega, ok.ml0, by show 0 ≤ g.mt + costN n ∧ g.mt + costN n ≤ 1048576; omega, ok.sl0, by show 0 ≤ g.st + 1 ∧ g.st + 1 ≤ 1048576; omega, ok.ol0, ok.ot0⟩
    · exact ok
  · unfold Gt.toked
    split
    · exact ok
    · exact ⟨ok.r0, ok.u0, by show 0 ≤ g.t - costN n ∧ g.t - costN n ≤ g.u; omega, ok.ml0, ok.mt0, ok.sl0, ok.st0, ok.ol0, ok.ot0⟩
theorem Gt.ok.admG {g : Gt} (ok : g.ok) (k n : Int) : (g.admG k n).ok := by
  unfold Gt.admG; split
  · exact ok
  · exact (ok.base k).inG k n

set_option maxHeartbeats 400000 in
theorem tok_c {w : World} {b : Nat} {g : Gt} (h : GtAt w b g) (ok : g.ok) (c : Int) (hc : 0 ≤ c) :
    Calls Try.prog 30 #[.pointer (some ⟨b, 0, none⟩), i64 c] w fun e w' => e = .returned (i64 (g.tokE c)) ∧ Upd [b] w w' ∧ GtAt w' b (g.toked c) := by
  have h1 := ok.t0
  have h2 := ok.u0
  have ht := take_c (off := 0) (r := g.r) (u := g.u) (t := g.t) ⟨h, rfl, rfl, rfl⟩ c (by omega)
  unfold Gt.tokE Gt.toked
  by_cases hlt : g.t < c
  · rw [if_pos hlt, if_pos hlt]
    rw [show takeErr g.t c = 14 from by unfold takeErr; rw [if_neg (by omega), if_pos hlt], if_neg (by decide)] at ht
    exact ht
  · rw [if_neg hlt, if_neg hlt]
    rw [show takeErr g.t c = 0 from by unfold takeErr; rw [if_neg (by omega), if_neg hlt], if_pos rfl] at ht
    exact ht

set_option maxHeartbeats 1000000 in
theorem admit_c {w : World} {b : Nat} {g : Gt} (h : GtAt w b g) (ok : g.ok) (k n : Int) :
    Calls Try.prog 38 #[.pointer (some ⟨b, 0, none⟩), i64 k, i64 n] w fun e w' => e = .returned (.tuple #[i64 (g.admE k n), .bool (g.admO k)]) ∧ Upd [b] w w' ∧ GtAt w' b (g.admG k n) := by
  have hcb := costN_bd n
  have ho := owe_c h ok
  have hwt := fun w' (hh : GtAt w' b (g.base k)) => wait_c1 hh (ok.base k) (costN n) (by omega)
  have htk := fun w' (hh : GtAt w' b (g.base k)) => tok_c hh (ok.base k) (costN n) (by omega)
  have HO := Lib.hid ho
  clear ho
  have hfull : g.full k = (decide (k ≠ 3) && !g.oweB) := rfl
  have hE : g.admE k n = if g.full k = true then 13 else (g.base k).inE k n := rfl
  have hG : g.admG k n = if g.full k = true then g else (g.base k).inG k n := rfl
  have hOw : g.admO k = if g.full k = true then false else decide (k ≠ 3) := rfl
  have hbs : g.base k = if k = 3 then g else g.owed := rfl
  by_cases hf : k ≠ 3 ∧ g.oweB = false
  · obtain ⟨hk3, hob⟩ := hf
    have hft : g.full k = true := by rw [hfull, hob]; simpa using hk3
    rw [hE, hG, hOw, if_pos hft, if_pos hft, if_pos hft]
    have hod : g.owed = g := by
      unfold Gt.oweB at hob
      unfold Gt.owed
      rw [if_neg (by simpa using hob)]
    rw [hob, hod] at HO
    have hq : (k != 3) = true := by simpa using hk3
    clear hE hG hOw hbs hfull hft hwt htk hod hob hk3
    refine post fun R hR => ?_
    go_enter Try.func38, Try.ntmps38
    go_wp2_with fail
    refine HO.out.mono ?_
    rintro e w2 ⟨rfl, hu2, hh2⟩
    go_wp2_with fail
    exact hR.out _ _ ⟨rfl, hu2, hh2⟩
  · have hfn : g.full k = false := by
      rw [hfull]
      by_cases hk3 : k = 3
      · simp [hk3]
      · have : g.oweB = true := by
          cases ho : g.oweB with
          | true => rfl
          | false => exact (hf ⟨hk3, ho⟩).elim
        simp [this]
    rw [hE, hG, hOw, hfn, if_neg (by decide), if_neg (by decide), if_neg (by decide)]
    have hIE : (g.base k).inE k n = if asksB k = true then (g.base k).waitE (costN n) else (g.base k).tokE (costN n) := rfl
    have hIG : (g.base k).inG k n = if asksB k = true then (g.base k).waited (costN n) else (g.base k).toked (costN n) := rfl
    rw [hIE, hIG]
    have ha := asks_c k
    have hc := cost_c n
    have hfin1 : asksB k = true → Calls Try.prog 38 #[.pointer (some ⟨b, 0, none⟩), i64 k, i64 n] w fun e w' => e = .returned (.tuple #[i64 ((g.base k).waitE (costN n)), .bool (decide (k ≠ 3))]) ∧ Upd [b] w w' ∧ GtAt w' b ((g.base k).waited (costN n)) := by
      intro hak
      rw [hak] at ha
      by_cases hk3 : k = 3
      · subst hk3
        rw [hbs, if_pos rfl] at hwt ⊢
        have HW := Lib.hid hwt
        have HA := Lib.hid ha
        have HC := Lib.hid hc
        generalize costN n = C at *
        clear hE hG hOw hbs hfull hfn hwt htk hIE hIG ha hc hf hak
        refine post fun R hR => ?_
        go_enter Try.func38, Try.ntmps38
        go_wp2_with fail
        refine (HC.out _).mono ?_
        rintro e w2 ⟨rfl, rfl⟩
        go_wp2_with fail
        refine (HA.out _).mono ?_
        rintro e w2 ⟨rfl, rfl⟩
        go_wp2_with fail
        refine (HW.out _ h).mono ?_
        rintro e w3 ⟨rfl, hu3, hh3⟩
        go_wp2_with fail
        exact hR.out _ _ ⟨rfl, hu3, hh3⟩
      · have hob : g.oweB = true := by
          cases ho : g.oweB with
          | true => rfl
          | false => exact (hf ⟨hk3, ho⟩).elim
        rw [hbs, if_neg hk3] at hwt ⊢
        rw [hob] at HO
        have hq : (k != 3) = true := by simpa using hk3
        have hd : decide (k ≠ 3) = true := by simpa using hk3
        rw [hd]
        have HW := Lib.hid hwt
        have HA := Lib.hid ha
        have HC := Lib.hid hc
        generalize costN n = C at *
        clear hE hG hOw hbs hfull hfn hwt htk hIE hIG ha hc hf hak hd hk3
        refine post fun R hR => ?_
        go_enter Try.func38, Try.ntmps38
        go_wp2_with fail
        refine HO.out.mono ?_
        rintro e w2 ⟨rfl, hu2, hh2⟩
        go_wp2_with fail
        refine (HC.out _).mono ?_
        rintro e w3 ⟨rfl, rfl⟩
        go_wp2_with fail
        refine (HA.out _).mono ?_
        rintro e w3 ⟨rfl, rfl⟩
        go_wp2_with fail
        refine (HW.out _ hh2).mono ?_
        rintro e w3 ⟨rfl, hu3, hh3⟩
        go_wp2_with fail
        exact hR.out _ _ ⟨rfl, hu2.trans' hu3, hh3⟩
    have hfin2 : asksB k = false → Calls Try.prog 38 #[.pointer (some ⟨b, 0, none⟩), i64 k, i64 n] w fun e w' => e = .returned (.tuple #[i64 ((g.base k).tokE (costN n)), .bool (decide (k ≠ 3))]) ∧ Upd [b] w w' ∧ GtAt w' b ((g.base k).toked (costN n)) := by
      intro hak
      have hk3 : ¬ k = 3 := fun e => by subst e; exact absurd hak (by decide)
      rw [hak] at ha
      have hob : g.oweB = true := by
        cases ho : g.oweB with
        | true => rfl
        | false => exact (hf ⟨hk3, ho⟩).elim
      rw [hbs, if_neg hk3] at htk ⊢
      rw [hob] at HO
      have hq : (k != 3) = true := by simpa using hk3
      have hd : decide (k ≠ 3) = true := by simpa using hk3
      rw [hd]
      have HW := Lib.hid htk
      have HA := Lib.hid ha
      have HC := Lib.hid hc
      generalize costN n = C at *
      clear hE hG hOw hbs hfull hfn hwt htk hIE hIG ha hc hf hak hd hk3
      refine post fun R hR => ?_
      go_enter Try.func38, Try.ntmps38
      go_wp2_with fail
      refine HO.out.mono ?_
      rintro e w2 ⟨rfl, hu2, hh2⟩
      go_wp2_with fail
      refine (HC.out _).mono ?_
      rintro e w3 ⟨rfl, rfl⟩
      go_wp2_with fail
      refine (HA.out _).mono ?_
      rintro e w3 ⟨rfl, rfl⟩
      go_wp2_with fail
      refine (HW.out _ hh2).mono ?_
      rintro e w3 ⟨rfl, hu3, hh3⟩
      go_wp2_with fail
      exact hR.out _ _ ⟨rfl, hu2.trans' hu3, hh3⟩
    by_cases hak : asksB k = true
    · rw [if_pos hak, if_pos hak]; exact hfin1 hak
    · rw [if_neg hak, if_neg hak]; exact hfin2 (by simpa using hak)

theorem admitNil_c (k n : Int) (w : World) : Calls Try.prog 38 #[.pointer none, i64 k, i64 n] w fun e w' => e = .returned (.tuple #[i64 17, .bool false]) ∧ w = w' := by
  refine post fun R hR => ?_
  go_enter Try.func38, Try.ntmps38
  go_wp2_with fail
  exact hR.out _ _ ⟨rfl, rfl⟩

def gawk0 : Gt := ⟨0, 40, 40, 40, 0, 1, 0, 2, 0, false⟩
def gawk1 : Gt := ⟨0, 40, 20, 40, 20, 1, 1, 2, 1, false⟩
def gawk2 : Gt := ⟨0, 40, 20, 40, 20, 1, 1, 2, 2, false⟩
set_option maxHeartbeats 1000000 in
theorem gawake_c (w : World) : Calls Try.prog 35 #[] w fun e w' => e = .returned (.bool true) ∧ Upd [] w w' := by
  have ok0 : gawk0.ok := by constructor <;> decide
  have ok1 : gawk1.ok := by constructor <;> decide
  have ok2 : gawk2.ok := by constructor <;> decide
  have hn := gnew_c ⟨0, 0, 40, 40, 1, 2, 0, 0, 0⟩ w
  rw [show Gt.new ⟨0, 0, 40, 40, 1, 2, 0, 0, 0⟩ = gawk0 from by rfl] at hn
  have h1 := fun w' b (hh : GtAt w' b gawk0) => admit_c hh ok0 2 4
  rw [show gawk0.admE 2 4 = 0 from rfl, show gawk0.admO 2 = true from rfl, show gawk0.admG 2 4 = gawk1 from rfl] at h1
  have h2 := fun w' b (hh : GtAt w' b gawk1) => admit_c hh ok1 2 4
  rw [show gawk1.admE 2 4 = 15 from rfl, show gawk1.admO 2 = true from rfl, show gawk1.admG 2 4 = gawk2 from rfl] at h2
  have h3 := fun w' b (hh : GtAt w' b gawk2) => admit_c hh ok2 2 4
  rw [show gawk2.admE 2 4 = 13 from rfl, show gawk2.admO 2 = false from rfl, show gawk2.admG 2 4 = gawk2 from rfl] at h3
  have HN := Lib.hid hn
  have H1 := Lib.hid h1
  have H2 := Lib.hid h2
  have H3 := Lib.hid h3
  clear hn h1 h2 h3 ok0 ok1 ok2
  refine post fun R hR => ?_
  go_enter Try.func35, Try.ntmps35
  go_wp2_with fail
  refine HN.out.mono ?_
  rintro e w2 ⟨b, rfl, hg2, hu2, hb2⟩
  go_wp2_with fail
  refine (H1.out _ _ hg2).mono ?_
  rintro e w3 ⟨rfl, hu3, hg3⟩
  go_wp2_with fail
  refine (H2.out _ _ hg3).mono ?_
  rintro e w4 ⟨rfl, hu4, hg4⟩
  go_wp2_with fail
  refine (H3.out _ _ hg4).mono ?_
  rintro e w5 ⟨rfl, hu5, hg5⟩
  go_wp2_with fail
  refine (gload_c hg5).mono ?_
  rintro e w6 ⟨rfl, hu6⟩
  go_wp2_with fail
  exact hR.out _ _ ⟨rfl, hu2.trans (S' := [b]) (((hu3.trans' hu4).trans' hu5).trans hu6 (by simp)) (by simp; omega)⟩
end Go.Proofs.Ytnhanldefebjbaa
