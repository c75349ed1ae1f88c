/-
  The contracts of the ring's Set of a flow that is there, of its errors, of Rest, and of Drop's beginning. Condition: the ring is one that its own functions made.
-/
import Derived.Test.YtabhdigannalgaaDrrPushes
namespace Go.Proofs.Ytabhdigannalgaa
open Go Go.RowKit Go.Maps

set_option maxHeartbeats 1000000 in
theorem dsetBad_c {w : World} {b : Nat} {n q : Int} (hb : n < 0 ∨ 8 < n ∨ q < 1 ∨ 1048576 < q) :
    Calls Try.prog 11 #[.pointer (some ⟨b, 0, none⟩), i64 n, i64 q] w fun e w' => e = .returned (i64 1) ∧ w = w' := by
  by_cases hn : n < 0 ∨ 8 < n
  · refine post fun R hR => ?_
    go_enter Try.func11, Try.ntmps11
    go_wp2_with (fail)
    refine Calls.mono (dnumNot_c n hn _) ?_
    rintro e w2 ⟨rfl, rfl⟩
    go_wp2_with (fail)
    exact hR.out _ _ ⟨rfl, rfl⟩
  · have hn1 : 0 ≤ n ∧ n ≤ 8 := by omega
    have hd := dnum_c n hn1
    have HD := Lib.hid hd
    by_cases hq : q < 1
    · clear hn hn1 hd hb
      refine post fun R hR => ?_
      go_enter Try.func11, Try.ntmps11
      go_wp2_with (fail)
      refine Calls.mono (HD.out _) ?_
      rintro e w2 ⟨rfl, rfl⟩
      go_wp2_with (fail)
      exact hR.out _ _ ⟨rfl, rfl⟩
    · have hq2 : 1048576 < q := by omega
      clear hn hn1 hd hb
      refine post fun R hR => ?_
      go_enter Try.func11, Try.ntmps11
      go_wp2_with (fail)
      refine Calls.mono (HD.out _) ?_
      rintro e w2 ⟨rfl, rfl⟩
      go_wp2_with (fail)
      exact hR.out _ _ ⟨rfl, rfl⟩

set_option maxRecDepth 100000 in
set_option maxHeartbeats 1000000 in
/-- a flow that is there -/
theorem dset2_c {ty : TypeId} {tl : List Value} {w : World} {b M N F : Nat} {rv : Value} {f : Int → Option Nat} (hb : w.heap[b]? = some (.cells (.map (some M) :: rv :: tl).toArray ty (0, 0))) (hm : FlMap w M N f) {n q q0 d : Int} (hn : 0 ≤ n ∧ n ≤ 8) (hq : 1 ≤ q ∧ q ≤ 1048576) (hf : f n = some F) {cv : Value} {rs an : Bool} (hFl : FlAt w F n q0 d cv rs an) :
    Calls Try.prog 11 #[.pointer (some ⟨b, 0, none⟩), i64 n, i64 q] w fun e w' => e = .returned (i64 0) ∧ FlAt w' F n q (min d q) cv rs an ∧ Upd [F] w w' := by
  have hk : (Lit.int .i64 n).wf = true := iwf (by omega)
  obtain ⟨c0, -, f0, -⟩ := rcells hb
  have hlook : (Instr.lookup 25 (.map (some M)) (i64 n) false).run Try.prog w = .ok (.pointer (some ⟨F, 0, none⟩)) w := by have := hm.look hk; rw [hf] at this; exact this
  have hmn : ∀ (ats : Array TypeId) (ty : TypeId) (w : World), (Builtin.min_ ats ty #[i64 d, i64 q]).run Try.prog w = .ok (i64 (min d q)) w := fun ats ty w => minR ats ty d q w
  have hq0 := run_eql_map_nil (P := Try.prog) w 25 _ _ (some M) Try.underlying25
  obtain ⟨p0, p1, p2, p3, p4, p5, y0, y1, y2, y3, y4, y5⟩ := cells6 hFl
  have HF := Lib.hid hFl
  clear hm hb hFl hf
  refine post fun R hR => ?_
  go_enter Try.func11, Try.ntmps11
  go_wp2_with (fail)
  refine Calls.mono (dnum_c n hn _) ?_
  rintro e w2 ⟨rfl, rfl⟩
  obtain ⟨hn1, hn2⟩ := hn
  obtain ⟨hq1, hq2⟩ := hq
  go_wp2_with (fail)
  refine hR.out _ _ ⟨rfl, hset6_2 (hset6_1 HF.out), ((Upd.refl [F] w).setCell (by simp) _).setCell (by simp) _⟩

set_option maxHeartbeats 1000000 in
theorem dpushBad_c {w : World} {b : Nat} {n c : Int} {o : Option Nat} (hf : Calls Try.prog 51 #[.pointer (some ⟨b, 0, none⟩), i64 n] w fun e w' => e = .returned (ptrO o) ∧ w = w') (hc : c < 1 ∨ 1040 < c) :
    Calls Try.prog 12 #[.pointer (some ⟨b, 0, none⟩), i64 n, i64 c] w fun e w' => e = .returned (i64 1) ∧ w = w' := by
  have HF := Lib.hid hf
  clear hf
  by_cases h1 : c < 1
  · clear hc
    refine post fun R hR => ?_
    go_enter Try.func12, Try.ntmps12
    go_wp2_with (fail)
    refine HF.out.mono ?_
    rintro e w2 ⟨rfl, rfl⟩
    go_wp2_with (fail)
    exact hR.out _ _ ⟨rfl, rfl⟩
  · have h2 : 1040 < c := by omega
    clear hc
    refine post fun R hR => ?_
    go_enter Try.func12, Try.ntmps12
    go_wp2_with (fail)
    refine HF.out.mono ?_
    rintro e w2 ⟨rfl, rfl⟩
    go_wp2_with (fail)
    exact hR.out _ _ ⟨rfl, rfl⟩

theorem dpushNone_c {w : World} {b : Nat} {n c : Int} (hf : Calls Try.prog 51 #[.pointer (some ⟨b, 0, none⟩), i64 n] w fun e w' => e = .returned (.pointer none) ∧ w = w') (hc : 1 ≤ c ∧ c ≤ 1040) :
    Calls Try.prog 12 #[.pointer (some ⟨b, 0, none⟩), i64 n, i64 c] w fun e w' => e = .returned (i64 12) ∧ w = w' := by
  have HF := Lib.hid hf
  obtain ⟨h1, h2⟩ := hc
  clear hf
  refine post fun R hR => ?_
  go_enter Try.func12, Try.ntmps12
  go_wp2_with (fail)
  refine HF.out.mono ?_
  rintro e w2 ⟨rfl, rfl⟩
  go_wp2_with (fail)
  exact hR.out _ _ ⟨rfl, rfl⟩

theorem drestNone_c {w : World} {b : Nat} {n : Int} {x : Bool} (hf : Calls Try.prog 51 #[.pointer (some ⟨b, 0, none⟩), i64 n] w fun e w' => e = .returned (.pointer none) ∧ w = w') :
    Calls Try.prog 13 #[.pointer (some ⟨b, 0, none⟩), i64 n, .bool x] w fun e w' => e = .returned (i64 12) ∧ w = w' := by
  have HF := Lib.hid hf
  clear hf
  refine post fun R hR => ?_
  go_enter Try.func13, Try.ntmps13
  go_wp2_with (fail)
  refine HF.out.mono ?_
  rintro e w2 ⟨rfl, rfl⟩
  go_wp2_with (fail)
  exact hR.out _ _ ⟨rfl, rfl⟩

theorem drestPre_c {w : World} {b F : Nat} {n : Int} {x : Bool} (hf : Calls Try.prog 51 #[.pointer (some ⟨b, 0, none⟩), i64 n] w fun e w' => e = .returned (.pointer (some ⟨F, 0, none⟩)) ∧ w = w')
    {q d : Int} {cv : Value} {rs an : Bool} (hFl : FlAt w F n q d cv rs an) {R : Ending → World → Prop}
    (hset : ∀ w', FlAt w' F n q d cv x an → Upd [F] w w' →
      Calls Try.prog 52 #[.pointer (some ⟨b, 0, none⟩), .pointer (some ⟨F, 0, none⟩)] w' fun e w'' => e = .returned (.tuple #[]) ∧ R (.returned (i64 0)) w'') :
    Calls Try.prog 13 #[.pointer (some ⟨b, 0, none⟩), i64 n, .bool x] w R := by
  obtain ⟨p0, p1, p2, p3, p4, p5, y0, y1, y2, y3, y4, y5⟩ := cells6 hFl
  have HF := Lib.hid hf
  have HS := Lib.hid (hset (w.setCell ⟨F, 4, none⟩ (.bool x)) (hset6_4 hFl) ((Upd.refl [F] w).setCell (by simp) _))
  clear hf hFl hset
  refine post fun R hR => ?_
  go_enter Try.func13, Try.ntmps13
  go_wp2_with (fail)
  refine HF.out.mono ?_
  rintro e w2 ⟨rfl, rfl⟩
  go_wp2_with (fail)
  refine HS.out.mono ?_
  rintro e w2 ⟨rfl, hr⟩
  go_wp2_with (fail)
  exact hR.out _ _ hr

theorem ddropNone_c {w : World} {b : Nat} {n : Int} (hf : Calls Try.prog 51 #[.pointer (some ⟨b, 0, none⟩), i64 n] w fun e w' => e = .returned (.pointer none) ∧ w = w') :
    Calls Try.prog 24 #[.pointer (some ⟨b, 0, none⟩), i64 n] w fun e w' => e = .returned (i64 0) ∧ w = w' := by
  have HF := Lib.hid hf
  clear hf
  refine post fun R hR => ?_
  go_enter Try.func24, Try.ntmps24
  go_wp2_with (fail)
  refine HF.out.mono ?_
  rintro e w2 ⟨rfl, rfl⟩
  go_wp2_with (fail)
  exact hR.out _ _ ⟨rfl, rfl⟩

set_option maxRecDepth 100000 in
set_option maxHeartbeats 1000000 in
theorem ddrop_c {ty : TypeId} {tl : List Value} (hty : RTy ty) {w : World} {b M N base F : Nat} {rv : Value} {l : List Nat} {f : Int → Option Nat} (hb : w.heap[b]? = some (.cells (.map (some M) :: rv :: tl).toArray ty (0, 0))) (hm : FlMap w M N f) (hMb : M ≠ b) (hMF : M ≠ F) (hMr : M ∉ blkL rv)
    (hs : Sub w base 96 1 rv l.length (evs l)) (hlen : l.length ≤ 100) (hL : ∀ y ∈ l, Lv w y) {n : Int} (hn : 0 ≤ n ∧ n ≤ 8) (hf : f n = some F)
    {q d : Int} {ao : Option Addr} {k cap : Nat} {rs an : Bool} (hFl : FlAt w F n q d (.slice ao k cap) rs an) :
    Calls Try.prog 24 #[.pointer (some ⟨b, 0, none⟩), i64 n] w fun e w' => ∃ rv', e = .returned (i64 k) ∧ w'.heap[b]? = some (.cells (.map (some M) :: rv' :: tl).toArray ty (0, 0)) ∧
      Sub w' base 96 1 rv' (rmv F l).length (evs (rmv F l)) ∧ FlMap w' M N (fun j => if j = n then none else f j) ∧ Upd (M :: b :: F :: blkL rv) w w' ∧ (∀ g ∈ blkL rv', g ∈ blkL rv) := by
  have hk : (Lit.int .i64 n).wf = true := iwf (by omega)
  have hfd := dfind_c hty hb hm (n := n) hk
  rw [hf] at hfd
  have HFD := Lib.hid hfd
  have HLV := Lib.hid (dleave_c hty hb hs hlen hL hFl)
  have HM := Lib.hid hm
  have hML : M ∉ b :: F :: blkL rv := by
    intro h
    rcases List.mem_cons.1 h with h | h
    · exact hMb h
    · rcases List.mem_cons.1 h with h | h
      · exact hMF h
      · exact hMr h
  have HML := Lib.hid hML
  clear hb hm hs hL hf hFl hfd hML
  refine post fun R hR => ?_
  go_enter Try.func24, Try.ntmps24
  go_wp2_with (fail)
  refine HFD.out.mono ?_
  rintro e w2 ⟨rfl, rfl⟩
  rw [show ptrO (some F) = .pointer (some ⟨F, 0, none⟩) from rfl]
  go_wp2_with (fail)
  refine HLV.out.mono ?_
  rintro e w2 ⟨rv', rfl, h1, h2, h3, h4, h5⟩
  have hm2 := HM.out.upd h4 HML.out
  have hMb2 : M ≠ b := by rintro rfl; exact HML.out (by simp)
  have hMF2 : M ≠ F := by rintro rfl; exact HML.out (by simp)
  have hMr2 : M ∉ blkL rv' := fun h => HML.out (by simp [h5 _ h])
  obtain ⟨w3, hrun, hm3, hu3⟩ := hm2.del hk 0
  obtain ⟨c0, -, f0, -⟩ := rcells h1
  have hb3 := hu3.keep h1 (by simpa using hMb2.symm)
  have hf3 := hu3.keep h3 (by simpa using hMF2.symm)
  have hs3 := h2.upd hu3 (by intro g hg hm; simp at hm; subst hm; exact hMr2 hg)
  obtain ⟨p0, p1, p2, p3, p4, p5, y0, y1, y2, y3, y4, y5⟩ := cells6 hf3
  have HB3 := Lib.hid hb3
  have HS3 := Lib.hid hs3
  have HM3 := Lib.hid hm3
  have HU3 := Lib.hid ((h4.mono (S' := M :: b :: F :: blkL rv) (by intro x hx; simp at hx ⊢; rcases hx with h | h | h <;> simp [h])).trans' (hu3.mono (by intro x hx; simp at hx; simp [hx])))
  have H5 := Lib.hid h5
  clear h1 h2 h3 h4 h5 hb3 hf3 hs3 hm3 hu3 hm2
  go_wp2_with (fail)
  exact hR.out _ _ ⟨rv', rfl, HB3.out, HS3.out, HM3.out, HU3.out, H5.out⟩
end Go.Proofs.Ytabhdigannalgaa
