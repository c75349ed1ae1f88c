/-
  The law's own step (chapter 38): a step is done to a table and to the document's, and told alike. Condition: some hundred steps, and some thousand bytes.
-/
import Derived.Test.YtagadbgbicebaaaConnSame
import Derived.Test.YtagadbgbicebaaaEnds
namespace Go.Proofs.Ytagadbgbicebaaa
open Go Go.RowKit

structure CnX (w wr : World) (B : Nat) (l s : List Ln) (v : Value) (Z Y : Nat → Prop) : Prop where
  tbl : TblAt wr Z B l
  ref : RcAt wr Y v s
  dj : ∀ x, Z x → ¬ Y x
  zw : ∀ x, Z x → w.heap.size ≤ x
  upd : Upd [] w wr
section
variable {w wr w' : World} {B : Nat} {l s : List Ln} {v : Value} {Z Y : Nat → Prop}
theorem CnX.same (h : CnX w wr B l s v Z Y) (hu : Upd [] wr w') : CnX w w' B l s v Z Y := ⟨h.tbl.upd0 hu, h.ref.upd0 hu, h.dj, h.zw, h.upd.trans' hu⟩
/-- the document's table is made anew -/
theorem CnX.rf (h : CnX w wr B l s v Z Y) (hu : Upd [] wr w') {v' : Value} {s' : List Ln} (h' : RcAt w' (grow Y wr) v' s') : CnX w w' B l s' v' (cutZ Z wr) (grow Y wr) :=
  ⟨(h.tbl.cut).upd0 hu, h', fun x hz hy => hy.elim (h.dj x hz.1) (fun q => by have := hz.2; omega), fun x hx => h.zw x hx.1, h.upd.trans' hu⟩
/-- a step of the table -/
theorem CnX.rg (h : CnX w wr B l s v Z Y) (hp : UpdP Z wr w') {l' : List Ln} (h' : TblAt w' (grow Z wr) B l') : CnX w w' B l' s v (grow Z wr) (cutZ Y wr) :=
  ⟨h', (h.ref.cut).updP hp (fun x hx => ⟨hx.2, fun q => h.dj x q hx.1⟩), fun x hz hy => hz.elim (fun q => h.dj x q hy.1) (fun q => by have := hy.2; omega), fun x hx => hx.elim (h.zw x) (Nat.le_trans h.upd.size), h.upd.transP hp h.zw⟩
end

/-- the connections behind a step -/
def stepL (l : List Ln) (kd n o : Int) (b : ByteArray) : List Ln :=
  if kd = 1 then topL l else if kd = 2 then tpuL l n b else if kd = 3 then tbiL l n o else if kd = 4 then tshL l n else if kd = 5 then tdrL l n else if kd = 6 then tseL l n b else (tdv l n).l
theorem fine_step {l : List Ln} {k T : Nat} (h : Fine l k T) (kd n o : Int) (b : ByteArray) {T' : Nat} (hT : T + b.size ≤ T') : Fine (stepL l kd n o b) (k + 1) T' := by
  unfold stepL
  split
  · exact (fine_open h T' (by omega)).1
  · split
    · exact (fine_push h n b hT).1
    · split
      · exact (fine_bind h n o T' (by omega)).1
      · split
        · exact (fine_shut h n T' (by omega)).1
        · split
          · exact (fine_drop h n T' (by omega)).1
          · split
            · exact (fine_send h n b T' (by omega)).1
            · exact (fine_dv h n T' (by omega)).1
theorem tpuF_len {l : List Ln} {k T : Nat} (h : Fine l k T) (n : Int) (b : ByteArray) (hT : T + b.size ≤ 400000) : (tpuF l n b).length ≤ 100000 := by
  unfold tpuF
  cases hl : lnAt l n with
  | none => exact Nat.zero_le _
  | some m =>
    have h1 := (h.at hl).r
    simp only
    split
    · split
      · have := allFr_len _ (m.r.data.toList ++ b.data.toList) (Nat.le_refl _)
        rw [List.length_append] at this
        have e1 : m.r.data.toList.length = m.r.size := rfl
        have e2 : b.data.toList.length = b.size := rfl
        have e3 : (fedOf m.r b).out = (allFr (m.r.data.toList ++ b.data.toList)).out := rfl
        rw [e3]; omega
      · exact Nat.zero_le _
    · exact Nat.zero_le _

set_option maxRecDepth 100000 in
set_option maxHeartbeats 16000000 in
theorem cstep38_c {w wr : World} {B : Nat} {l : List Ln} {v : Value} {Z Y : Nat → Prop} {k T : Nat} (h : CnX w wr B l l v Z Y) (hF : Fine l k T) (hk : k ≤ 150) (kd n o : Int) (b : ByteArray) (hT : T + b.size ≤ 400000) :
    Calls Try.prog 45 #[.pointer (some ⟨B, 0, none⟩), v, .agg #[i64 kd, i64 n, i64 o, .string b]] wr fun e w' =>
      ∃ ao cap Z' Y', e = .returned (.tuple #[.slice ao (stepL l kd n o b).length cap, .bool true]) ∧ CnX w w' B (stepL l kd n o b) (stepL l kd n o b) (.slice ao (stepL l kd n o b).length cap) Z' Y' := by
  have hlen := hF.len
  obtain ⟨ao, cap, rfl⟩ := h.ref.form
  have hA := heap_alloc_new wr (.cells #[i64 kd, i64 n, i64 o, .string b] 61)
  have hux := (Upd.refl [] wr).alloc (.cells #[i64 kd, i64 n, i64 o, .string b] 61)
  have hX := h.same hux
  obtain ⟨A, hAe⟩ : ∃ A, A = wr.heap.size := ⟨_, rfl⟩
  rw [← hAe] at hA
  have HX := Lib.hid hX
  have HF := Lib.hid hF
  have HA := Lib.hid hA
  clear h hX hF hA hux
  unfold stepL
  by_cases k1 : kd = 1
  · simp only [if_pos k1]
    have hq : (kd == 1) = true := by simp [k1]
    have HK := Lib.hid k1
    clear k1
    refine post fun R hR => ?_
    go_enter Try.func45, Try.ntmps45
    go_upto_region 1 with (fail)
    rw [← hAe]
    have hA := HA.out
    have hX := HX.out
    clear hAe HA HX
    generalize wr.alloc (.cells #[i64 kd, i64 n, i64 o, .string b] 61) = w1 at *
    obtain ⟨a0, a1, a2, a3, -⟩ := cells4 hA
    have HX := Lib.hid hX
    have HA := Lib.hid hA
    clear hX hA
    go_wp2_with (fail)
    refine (copen38_c HX.out.ref).mono ?_
    rintro e w2 ⟨ao4, cap4, rfl, hR2, hu2⟩
    have HX2 := Lib.hid (HX.out.rf hu2 hR2)
    clear a0 a1 a2 a3 hu2 hR2 HX HA
    have hpu := tbl_open_c HX2.out.tbl
    have HPU := Lib.hid hpu
    clear hpu
    go_wp2_with (fail)
    refine HPU.out.mono ?_
    rintro e w3 ⟨rfl, hp3, hT3⟩
    have HX3 := Lib.hid (HX2.out.rg hp3 hT3)
    clear hp3 hT3
    go_wp2_with (fail)
    exact hR.out _ _ ⟨_, _, _, _, rfl, HX3.out⟩
  · simp only [if_neg k1]
    have hq1 : (kd == 1) = false := by simp [k1]
    have HK1 := Lib.hid k1
    clear k1
    by_cases k2 : kd = 2
    · simp only [if_pos k2]
      have hq : (kd == 2) = true := by simp [k2]
      have HK := Lib.hid k2
      clear k2
      have hsz : ∀ m, lnAt l n = some m → m.r.size + b.size ≤ 1000000 := fun m hm => by have := (HF.out.at hm).r; omega
      have hfl := tpuF_len HF.out n b hT
      have HSZ := Lib.hid hsz
      have HFL := Lib.hid hfl
      clear hsz hfl
      refine post fun R hR => ?_
      go_enter Try.func45, Try.ntmps45
      go_upto_region 1 with (fail)
      rw [← hAe]
      have hA := HA.out
      have hX := HX.out
      clear hAe HA HX
      generalize wr.alloc (.cells #[i64 kd, i64 n, i64 o, .string b] 61) = w1 at *
      obtain ⟨a0, a1, a2, a3, -⟩ := cells4 hA
      have HX := Lib.hid hX
      have HA := Lib.hid hA
      clear hX hA
      go_wp2_with (fail)
      refine (cpush38_c HX.out.ref hlen n b HSZ.out).mono ?_
      rintro e w2 ⟨ao4, cap4, fa, fc, rfl, hR2, hf2, hu2⟩
      have hX2 := HX.out.rf hu2 hR2
      have hA2 := hu2.keep0 HA.out
      have hsz1 : ∀ x ∈ blkL (.slice fa (tpuF l n b).length fc), ¬ cutZ Z w1 x := fun x hx hz => by have h1 := (hf2.lt x hx).1; have := hz.2; omega
      have HX2 := Lib.hid hX2
      have HF2 := Lib.hid hf2
      have HZ2 := Lib.hid hsz1
      clear a0 a1 a2 a3 hu2 hR2 hX2 hf2 hsz1 HX HA
      obtain ⟨a0, a1, a2, a3, -⟩ := cells4 hA2
      have hpu := tbl_push_c HX2.out.tbl n b HSZ.out
      have HPU := Lib.hid hpu
      clear hpu hA2
      go_wp2_with (fail)
      refine HPU.out.mono ?_
      rintro e w3 ⟨ga, gc, rfl, hg3, hp3, hT3⟩
      have hX3 := HX2.out.rg hp3 hT3
      have hf3 : Sub w3 0 23 3 (.slice fa (tpuF l n b).length fc) (tpuF l n b).length (fmCells (tpuF l n b)) := by
        obtain ⟨S, hu, hs⟩ := hp3
        exact (HF2.out.upd hu fun x hx hm => by
          rcases hs x hm with q | q
          · exact HZ2.out x hx q
          · have := (HF2.out.lt x hx).2; omega).mono (Nat.zero_le _)
      have hsm := rsameF_c hg3 hf3 HFL.out
      have HSM := Lib.hid hsm
      have HX3 := Lib.hid hX3
      clear hg3 hp3 hT3 hX3 hf3 hsm a0 a1 a2 a3
      go_wp2_with (fail)
      refine HSM.out.mono ?_
      rintro e w4 ⟨rfl, hu4⟩
      have HX4 := Lib.hid (HX3.out.same hu4)
      clear hu4
      go_wp2_with (fail)
      exact hR.out _ _ ⟨_, _, _, _, rfl, HX4.out⟩
    · simp only [if_neg k2]
      have hq2 : (kd == 2) = false := by simp [k2]
      have HK2 := Lib.hid k2
      clear k2
      by_cases k3 : kd = 3
      · simp only [if_pos k3]
        have hq : (kd == 3) = true := by simp [k3]
        have HK := Lib.hid k3
        clear k3
        refine post fun R hR => ?_
        go_enter Try.func45, Try.ntmps45
        go_upto_region 1 with (fail)
        rw [← hAe]
        have hA := HA.out
        have hX := HX.out
        clear hAe HA HX
        generalize wr.alloc (.cells #[i64 kd, i64 n, i64 o, .string b] 61) = w1 at *
        obtain ⟨a0, a1, a2, a3, -⟩ := cells4 hA
        have HX := Lib.hid hX
        have HA := Lib.hid hA
        clear hX hA
        go_wp2_with (fail)
        refine (cbind38_c HX.out.ref hlen n o).mono ?_
        rintro e w2 ⟨ao4, cap4, rfl, hR2, hu2⟩
        have HX2 := Lib.hid (HX.out.rf hu2 hR2)
        have hA2 := hu2.keep0 HA.out
        clear a0 a1 a2 a3 hu2 hR2 HX HA
        obtain ⟨a0, a1, a2, a3, -⟩ := cells4 hA2
        have hpu := (fun h => tbl_bind_c h n o) HX2.out.tbl
        have HPU := Lib.hid hpu
        clear hpu hA2
        go_wp2_with (fail)
        refine HPU.out.mono ?_
        rintro e w3 ⟨rfl, hp3, hT3⟩
        have HX3 := Lib.hid (HX2.out.rg hp3 hT3)
        clear hp3 hT3 a0 a1 a2 a3
        go_wp2_with (fail)
        exact hR.out _ _ ⟨_, _, _, _, rfl, HX3.out⟩
      · simp only [if_neg k3]
        have hq3 : (kd == 3) = false := by simp [k3]
        have HK3 := Lib.hid k3
        clear k3
        by_cases k4 : kd = 4
        · simp only [if_pos k4]
          have hq : (kd == 4) = true := by simp [k4]
          have HK := Lib.hid k4
          clear k4
          refine post fun R hR => ?_
          go_enter Try.func45, Try.ntmps45
          go_upto_region 1 with (fail)
          rw [← hAe]
          have hA := HA.out
          have hX := HX.out
          clear hAe HA HX
          generalize wr.alloc (.cells #[i64 kd, i64 n, i64 o, .string b] 61) = w1 at *
          obtain ⟨a0, a1, a2, a3, -⟩ := cells4 hA
          have HX := Lib.hid hX
          have HA := Lib.hid hA
          clear hX hA
          go_wp2_with (fail)
          refine (cshut38_c HX.out.ref hlen n).mono ?_
          rintro e w2 ⟨ao4, cap4, rfl, hR2, hu2⟩
          have HX2 := Lib.hid (HX.out.rf hu2 hR2)
          have hA2 := hu2.keep0 HA.out
          clear a0 a1 a2 a3 hu2 hR2 HX HA
          obtain ⟨a0, a1, a2, a3, -⟩ := cells4 hA2
          have hpu := (fun h => tbl_shut_c h n) HX2.out.tbl
          have HPU := Lib.hid hpu
          clear hpu hA2
          go_wp2_with (fail)
          refine HPU.out.mono ?_
          rintro e w3 ⟨rfl, hp3, hT3⟩
          have HX3 := Lib.hid (HX2.out.rg hp3 hT3)
          clear hp3 hT3 a0 a1 a2 a3
          go_wp2_with (fail)
          exact hR.out _ _ ⟨_, _, _, _, rfl, HX3.out⟩
        · simp only [if_neg k4]
          have hq4 : (kd == 4) = false := by simp [k4]
          have HK4 := Lib.hid k4
          clear k4
          by_cases k5 : kd = 5
          · simp only [if_pos k5]
            have hq : (kd == 5) = true := by simp [k5]
            have HK := Lib.hid k5
            clear k5
            refine post fun R hR => ?_
            go_enter Try.func45, Try.ntmps45
            go_upto_region 1 with (fail)
            rw [← hAe]
            have hA := HA.out
            have hX := HX.out
            clear hAe HA HX
            generalize wr.alloc (.cells #[i64 kd, i64 n, i64 o, .string b] 61) = w1 at *
            obtain ⟨a0, a1, a2, a3, -⟩ := cells4 hA
            have HX := Lib.hid hX
            have HA := Lib.hid hA
            clear hX hA
            go_wp2_with (fail)
            refine (cdrop38_c HX.out.ref hlen n).mono ?_
            rintro e w2 ⟨ao4, cap4, rfl, hR2, hu2⟩
            have HX2 := Lib.hid (HX.out.rf hu2 hR2)
            have hA2 := hu2.keep0 HA.out
            clear a0 a1 a2 a3 hu2 hR2 HX HA
            obtain ⟨a0, a1, a2, a3, -⟩ := cells4 hA2
            have hpu := (fun h => tbl_drop_c h n) HX2.out.tbl
            have HPU := Lib.hid hpu
            clear hpu hA2
            go_wp2_with (fail)
            refine HPU.out.mono ?_
            rintro e w3 ⟨rfl, hp3, hT3⟩
            have HX3 := Lib.hid (HX2.out.rg hp3 hT3)
            clear hp3 hT3 a0 a1 a2 a3
            go_wp2_with (fail)
            exact hR.out _ _ ⟨_, _, _, _, rfl, HX3.out⟩
          · simp only [if_neg k5]
            have hq5 : (kd == 5) = false := by simp [k5]
            have HK5 := Lib.hid k5
            clear k5
            by_cases k6 : kd = 6
            · simp only [if_pos k6]
              have hq : (kd == 6) = true := by simp [k6]
              have HK := Lib.hid k6
              clear k6
              refine post fun R hR => ?_
              go_enter Try.func45, Try.ntmps45
              go_upto_region 1 with (fail)
              rw [← hAe]
              have hA := HA.out
              have hX := HX.out
              clear hAe HA HX
              generalize wr.alloc (.cells #[i64 kd, i64 n, i64 o, .string b] 61) = w1 at *
              obtain ⟨a0, a1, a2, a3, -⟩ := cells4 hA
              have HX := Lib.hid hX
              have HA := Lib.hid hA
              clear hX hA
              go_wp2_with (fail)
              refine (csend38_c HX.out.ref hlen HF.out.outs (by omega) n b).mono ?_
              rintro e w2 ⟨ao4, cap4, rfl, hR2, hu2⟩
              have HX2 := Lib.hid (HX.out.rf hu2 hR2)
              have hA2 := hu2.keep0 HA.out
              clear a0 a1 a2 a3 hu2 hR2 HX HA
              obtain ⟨a0, a1, a2, a3, -⟩ := cells4 hA2
              have hpu := (fun h => tbl_send_c h HF.out.outs (by omega) n b) HX2.out.tbl
              have HPU := Lib.hid hpu
              clear hpu hA2
              go_wp2_with (fail)
              refine HPU.out.mono ?_
              rintro e w3 ⟨rfl, hp3, hT3⟩
              have HX3 := Lib.hid (HX2.out.rg hp3 hT3)
              clear hp3 hT3 a0 a1 a2 a3
              go_wp2_with (fail)
              exact hR.out _ _ ⟨_, _, _, _, rfl, HX3.out⟩
            · simp only [if_neg k6]
              have hq6 : (kd == 6) = false := by simp [k6]
              have HK6 := Lib.hid k6
              have hse := str_eq (rfl : (tdv l n).s = (tdv l n).s)
              clear k6
              refine post fun R hR => ?_
              go_enter Try.func45, Try.ntmps45
              go_upto_region 1 with (fail)
              rw [← hAe]
              have hA := HA.out
              have hX := HX.out
              clear hAe HA HX
              generalize wr.alloc (.cells #[i64 kd, i64 n, i64 o, .string b] 61) = w1 at *
              obtain ⟨a0, a1, a2, a3, -⟩ := cells4 hA
              have HX := Lib.hid hX
              have HA := Lib.hid hA
              clear hX hA
              go_wp2_with (fail)
              refine (cdeliver38_c HX.out.ref hlen HF.out.outs (by omega) n).mono ?_
              rintro e w2 ⟨ao4, cap4, rfl, hR2, hu2⟩
              have HX2 := Lib.hid (HX.out.rf hu2 hR2)
              have hA2 := hu2.keep0 HA.out
              clear a0 a1 a2 a3 hu2 hR2 HX HA
              obtain ⟨a0, a1, a2, a3, -⟩ := cells4 hA2
              have hpu := (fun h => tbl_deliver_c h HF.out.outs (by omega) n) HX2.out.tbl
              have HPU := Lib.hid hpu
              clear hpu hA2
              go_wp2_with (fail)
              refine HPU.out.mono ?_
              rintro e w3 ⟨rfl, hp3, hT3⟩
              have HX3 := Lib.hid (HX2.out.rg hp3 hT3)
              clear hp3 hT3 a0 a1 a2 a3
              go_wp2_with (fail)
              exact hR.out _ _ ⟨_, _, _, _, rfl, HX3.out⟩
end Go.Proofs.Ytagadbgbicebaaa
