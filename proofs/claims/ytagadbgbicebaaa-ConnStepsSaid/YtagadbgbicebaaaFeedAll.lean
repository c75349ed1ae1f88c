/-
  The contract of the document's feed of all bytes together (concourseref06.All). Condition: a million bytes at most.
-/
import Derived.Test.YtagadbgbicebaaaFeedTxt
namespace Go.Proofs.Ytagadbgbicebaaa
open Go Go.RowKit

def strLen (v : Value) : Nat := match v with | .string s => s.size | _ => 0

set_option maxRecDepth 100000 in
set_option maxHeartbeats 2000000 in
theorem rall_c {w : World} {A : List UInt8} (hA : A.length ≤ 1000000) :
    Calls Try.prog 27 #[.string (bs A)] w fun e w' => ∃ ao cap, e = .returned (.tuple #[.slice ao (allFr A).out.length cap, .string (bs (allFr A).rest), i64 (allFr A).e]) ∧
      Sub w' w.heap.size 23 3 (.slice ao (allFr A).out.length cap) (allFr A).out.length (fmCells (allFr A).out) ∧ Upd [] w w' := by
  generalize hall : allFr A = all
  have HALL := Lib.hid hall
  clear hall
  obtain ⟨i0, hi, hz0, hz1, hz2⟩ := info_parts info_frame
  refine post fun R hR => ?_
  go_enter Try.func27, Try.ntmps27
  go_wp2_with fail
  go_loopw [0, 5] (fun b out wr => ∃ (cur : List UInt8) (done : List Fm), b = .string (bs cur) ∧ Sub wr w.heap.size 23 3 out done.length (fmCells done) ∧ done ++ (allFr cur).out = all.out ∧ (allFr cur).rest = all.rest ∧ (allFr cur).e = all.e ∧ done.length * 4 + cur.length ≤ 1000000 ∧ Upd [] w wr) (fun b _ _ => strLen b)
  case atStart => exact ⟨A, [], rfl, sub_nil _ _ _ _, by rw [HALL.out]; rfl, by rw [HALL.out], by rw [HALL.out], by simpa using hA, Upd.refl _ _⟩
  case round =>
    obtain ⟨cur, done, rfl, hs, hout, hrest, he, hlen, hu⟩ := hrel
    obtain ⟨ao, cap, rfl, -, -⟩ := hs.form
    have hfin : (tk cur).e = 0 → 4 ≤ (tk cur).n ∧ (tk cur).n ≤ cur.length ∧ (tk cur).n ≤ 1028 := tk_ok
    have HFN := Lib.hid hfin
    have HS := Lib.hid hs
    have HU := Lib.hid hu
    have hcs := size_bs cur
    have HCS := Lib.hid hcs
    have hml : cur.length ≤ maxLen := by unfold maxLen; omega
    have HML := Lib.hid hml
    clear hfin hs hu hcs hml
    go_wp2_with (fail)
    refine Calls.mono (rtake3_c cur _ HML.out) ?_
    rintro e w2 ⟨m, rfl, hm, hu2⟩
    have HM := Lib.hid hm
    have hs2 := HS.out.upd0 hu2
    have hu02 := HU.out.trans' hu2
    have hws := hu02.size
    have HS2 := Lib.hid hs2
    have HU2 := Lib.hid hu02
    clear hm hs2 hu02 hu2
    generalize hk : (tk cur).k = fk at *
    generalize hf : (tk cur).f = ff at *
    generalize hb : (tk cur).body = fb at *
    have HK := Lib.hid hk
    have HFF := Lib.hid hf
    have HB := Lib.hid hb
    clear hk hf hb
    by_cases e2 : (tk cur).e = 2
    · have hfr2 := allFr_two cur e2
      rw [e2]
      rw [hfr2] at hout hrest he
      rw [List.append_nil] at hout
      have ho : all = ⟨done, cur, 0⟩ := by cases all; simp at hout hrest he; subst hout; subst hrest; subst he; rfl
      clear hout hrest he
      subst ho
      go_wp2_with fail
      exact hR.out _ _ ⟨_, _, rfl, HS2.out.upd0 ((Upd.refl _ _).alloc _), HU2.out.alloc _⟩
    · by_cases e0 : (tk cur).e = 0
      · have hfr2 := allFr_ok cur e0
        obtain ⟨hk1, hk2, hk3⟩ := HFN.out e0
        have hmn := HM.out e0
        rw [e0]
        rw [hfr2] at hout hrest he
        rw [HK.out, HFF.out, HB.out] at hout
        have HO := Lib.hid hout
        have HRS := Lib.hid hrest
        have HE := Lib.hid he
        have hn1 : ((tk cur).n : Int) ≤ (bs cur).size := by rw [HCS.out]; omega
        have hn2 : (tk cur).n ≤ (bs cur).size := by rw [HCS.out]; omega
        subst hmn
        clear hout hrest he hfr2 e0 e2 HFN HM
        have hdl : done.length + 1 ≤ maxLen := by unfold maxLen; omega
        have HDL := Lib.hid hdl
        clear hdl
        generalize hnn : (tk cur).n = nn at *
        go_wp2_with (at_builtin; refine wpList_append_sub _ rfl _ _ 42 rfl w.heap.size 23 i0 _ 3 32 Try.underlying42 hi hz0 hz1 hz2 rfl (by decide) (.slice ao done.length cap) done.length _ rfl (HS2.out.upd0 (((Upd.refl _ _).alloc _).alloc _)) _ 1 1 [i64 fk, i64 ff, .string (bs fb)] rfl (src_block (heap_new2 _ _ _) 1 1) rfl (by intro u hu; simp at hu; rcases hu with rfl | rfl | rfl <;> rfl) HDL.out (by omega) (by simp; omega) ?_; intro ao' cap' w5 hs5 hu5 hb5; have HS5 := Lib.hid hs5; have HU5 := Lib.hid hu5; clear hs5 hu5 hb5)
        have hd : (bs cur).extract (4 + (nn - 4)) cur.length = bs (cur.drop nn) := by rw [show 4 + (nn - 4) = nn by omega, ← bs_drop, HCS.out]
        rw [hd]
        refine ⟨⟨cur.drop nn, done ++ [⟨fk, ff, fb⟩], rfl, ?_, ?_, HRS.out, HE.out, ?_, ?_⟩, ?_⟩
        · rw [List.length_append, fmCells_append]; exact HS5.out
        · rw [List.append_assoc]; exact HO.out
        · rw [List.length_append, List.length_drop]; simp; omega
        · exact ((HU2.out.alloc _).alloc _).trans HU5.out (fun g hg => .inr (HS2.out.lt g hg).1)
        · show (bs _).size < (bs cur).size
          rw [size_bs, size_bs, List.length_drop]; omega
      · have hfr2 := allFr_bad cur e2 e0
        rw [hfr2] at hout hrest he
        rw [List.append_nil] at hout
        have q0 : ((tk cur).e == 2) = false := by simpa using e2
        have q1 : ((tk cur).e != 0) = true := by simpa using e0
        have ho : all = ⟨done, [], (tk cur).e⟩ := by cases all; simp at hout hrest he; subst hout; subst hrest; rw [he]
        clear hout hrest he hfr2 e2 e0 HFN HM
        generalize (tk cur).e = te at *
        subst ho
        go_wp2_with fail
        exact hR.out _ _ ⟨_, _, rfl, HS2.out.upd0 ((Upd.refl _ _).alloc _), HU2.out.alloc _⟩
end Go.Proofs.Ytagadbgbicebaaa
