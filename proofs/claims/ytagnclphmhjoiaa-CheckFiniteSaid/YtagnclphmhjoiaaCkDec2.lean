/-
  The contract of decl (chapter 12). Condition: lengths within the machine's bounds.
-/
import Derived.Test.YtagnclphmhjoiaaCkDecl
namespace Go.Proofs.Ytagnclphmhjoiaa
open Go Go.RowKit Go.Maps

def loF (k : Int) : Int := if k = 3 then 0 else 1
def hiF (k : Int) : Int := if k = 3 then 9999 else 255
/-- what is wrong with the k-th field -/
def fErr (ds : List Dc) (q : Dq) (k : Nat) : Int :=
  match q.fs[k]? with
  | none => 0
  | some f => if rowE ((q.fs.take k).map (·.1.tag)) ((q.fs.take k).map (·.1.name)) f.1.tag f.1.name (loF q.d.kind) (hiF q.d.kind) ≠ 0 then rowE ((q.fs.take k).map (·.1.tag)) ((q.fs.take k).map (·.1.name)) f.1.tag f.1.name (loF q.d.kind) (hiF q.d.kind) else fieldE ds q.d.kind f
def mErr (ds : List Dc) (q : Dq) (k : Nat) : Int :=
  match q.ms[k]? with
  | none => 0
  | some m => if rowE (q.fs.map (·.1.tag) ++ (q.ms.take k).map (·.tag)) (q.fs.map (·.1.name) ++ (q.ms.take k).map (·.name)) m.tag m.name (loF q.d.kind) (hiF q.d.kind) ≠ 0 then rowE (q.fs.map (·.1.tag) ++ (q.ms.take k).map (·.tag)) (q.fs.map (·.1.name) ++ (q.ms.take k).map (·.name)) m.tag m.name (loF q.d.kind) (hiF q.d.kind) else methodE ds m
def declE (ds : List Dc) (i : Nat) (q : Dq) : Int :=
  if fndI ds q.d.name ≠ i then 7
  else if ¬ (1 ≤ q.d.kind ∧ q.d.kind ≤ 4) then 4
  else if firstE (fErr ds q) q.fs.length ≠ 0 then firstE (fErr ds q) q.fs.length
  else if firstE (mErr ds q) q.ms.length ≠ 0 then firstE (mErr ds q) q.ms.length
  else if (q.d.kind = 2 ∨ q.d.kind = 3) ∧ q.fs.length = 0 then 12 else 0

theorem Upd.cutM {w a b : World} {S : List Nat} (h : Upd [] w a) (k : Upd S a b) (hs : ∀ x ∈ S, w.heap.size ≤ x) : Upd [] w b := h.trans k fun x hx => .inr (hs x hx)
theorem fErr_at {ds : List Dc} {q : Dq} {k : Nat} (hk : k < q.fs.length) {lo hi : Int} (hlo : loF q.d.kind = lo) (hhi : hiF q.d.kind = hi) {E1 E2 : Int} (h1 : rowE ((q.fs.take k).map (·.1.tag)) ((q.fs.take k).map (·.1.name)) q.fs[k].1.tag q.fs[k].1.name lo hi = E1) (h2 : fieldE ds q.d.kind q.fs[k] = E2) : fErr ds q k = if E1 ≠ 0 then E1 else E2 := by
  unfold fErr
  rw [List.getElem?_eq_getElem hk]
  simp only
  rw [hlo, hhi, h1, h2]
theorem mErr_at {ds : List Dc} {q : Dq} {k : Nat} (hk : k < q.ms.length) {lo hi : Int} (hlo : loF q.d.kind = lo) (hhi : hiF q.d.kind = hi) {E1 E2 : Int} (h1 : rowE (q.fs.map (·.1.tag) ++ (q.ms.take k).map (·.tag)) (q.fs.map (·.1.name) ++ (q.ms.take k).map (·.name)) q.ms[k].tag q.ms[k].name lo hi = E1) (h2 : methodE ds q.ms[k] = E2) : mErr ds q k = if E1 ≠ 0 then E1 else E2 := by
  unfold mErr
  rw [List.getElem?_eq_getElem hk]
  simp only
  rw [hlo, hhi, h1, h2]
theorem take_map_succ {α β : Type} (g : α → β) {l : List α} {k : Nat} (hk : k < l.length) : (l.take (k + 1)).map g = (l.take k).map g ++ [g l[k]] := by
  rw [List.take_succ_eq_append_getElem hk, List.map_append]; rfl

section
variable {w : World} {C : Nat} {ao : Option Addr} {cap T M : Nat} {v : Value} {n : Nat} {D : DataW Unit} {qs : List Dq}

set_option maxRecDepth 100000 in
set_option maxHeartbeats 8000000 in
theorem ckdecl_c (hc : CkAt w C ao cap T M v n D qs) (hfit : ∀ q ∈ qs, q.fs.length ≤ 300 ∧ q.ms.length ≤ 300) {i : Nat} (hi : i < qs.length) (hin : ∀ q ∈ qs, (∀ f ∈ q.fs, inI f.1.tag) ∧ ∀ m ∈ q.ms, inI m.tag) :
    Calls Try.prog 28 #[.pointer (some ⟨C, 0, none⟩), i64 i] w fun e w' => e = .returned (i64 (declE (qs.map Dq.d) i qs[i])) ∧ Upd [] w w' := by
  obtain ⟨ds, hds⟩ : ∃ ds, ds = qs.map Dq.d := ⟨_, rfl⟩
  have hmm := @run_makeMap Try.prog
  have hq := hc.arg.deep qs[i] (List.getElem_mem hi)
  have hft := hfit qs[i] (List.getElem_mem hi)
  have hinq := hin qs[i] (List.getElem_mem hi)
  have hlq := hc.len
  obtain ⟨b, off, hao, hb, hr⟩ : ∃ b off, ao = some ⟨b, off, none⟩ ∧ b < w.heap.size ∧ DRows w b off (qs.map Dq.d) := by
    rcases hc.arg.rows with e | e
    · have : qs.length = 0 := by simpa using congrArg List.length e
      omega
    · exact e
  have hi2 : i < (qs.map Dq.d).length := by simpa using hi
  obtain ⟨r0, r1, r2, r3, r4⟩ := drow hr (Upd.refl [] w) hb (by simp) hi2
  have hqd : (qs.map Dq.d)[i] = qs[i].d := by simp
  rw [hqd] at r0 r1 r2 r3 r4
  have hfc : ∀ w', Upd [] w w' → Calls Try.prog 9 #[.pointer (some ⟨T, 0, none⟩), .string qs[i].d.name] w' fun e w'' => e = .returned (.tuple #[i64 (fndI ds qs[i].d.name), .bool (fndB ds qs[i].d.name)]) ∧ w' = w'' := fun w' hu => by rw [hds]; exact find_c (hc.tab.upd hu) _ hq.name
  have hfdc : ∀ w', Upd [] w w' → ∀ f ∈ qs[i].fs, Calls Try.prog 32 #[.pointer (some ⟨C, 0, none⟩), dv qs[i].d, fdv f.1] w' fun e w'' => e = .returned (i64 (fieldE ds qs[i].d.kind f)) ∧ Upd [] w' w'' := fun w' hu f hf => by rw [hds]; exact ckfield_c (hc.upd0 hu) qs[i].d ((hq.types f hf).2.upd0 hu)
  have hmtc : ∀ w', Upd [] w w' → ∀ m ∈ qs[i].ms, Calls Try.prog 33 #[.pointer (some ⟨C, 0, none⟩), mtv m] w' fun e w'' => e = .returned (i64 (methodE ds m)) ∧ Upd [] w' w'' := fun w' hu m hm => by rw [hds]; exact ckmethod_c (hc.upd0 hu) m (hq.texts m hm).2.1 (hq.texts m hm).2.2
  simp only [dv, fdv] at hfdc
  simp only [mtv] at hmtc
  obtain ⟨z0, z1, -⟩ := cells2 hc.hC
  have hck := fun (w' : World) (hu : Upd [] w w') => cells2 (hu.keep0 hc.hC)
  have hCl : C < w.heap.size := lt_of_heap hc.hC
  rw [← hds]
  rw [hao] at z0 hck
  have HCK := Lib.hid hck
  have HFC := Lib.hid hfc
  have HFD := Lib.hid hfdc
  have HMT := Lib.hid hmtc
  have HQ := Lib.hid hq
  have HIN := Lib.hid hinq
  obtain ⟨hf300, hm300⟩ := hft
  have hil : (i : Int) < qs.length := by omega
  clear hck hfc hfdc hmtc hq hinq hr hqd hi2 hin hfit hc hao hds hlq
  generalize qs[i] = q at *
  have HFN := Lib.hid (show q.d.fn = q.fs.length from by have := HQ.out.fields.1; rw [List.length_map] at this; exact this.symm)
  have HMN := Lib.hid (show q.d.mn = q.ms.length from HQ.out.methods.1.symm)
  have hfx : q.d.fn ≤ 9223372036854775807 := by have := HFN.out; omega
  have hmx : q.d.mn ≤ 9223372036854775807 := by have := HMN.out; omega
  generalize hgfa : q.d.fa = fa at *
  generalize hgma : q.d.ma = ma at *
  generalize q.d.fc = fc at *
  generalize q.d.mc = mc at *
  generalize hgfn : q.d.fn = fn at *
  generalize hgmn : q.d.mn = mn at *
  have HFA := Lib.hid hgfa
  have HMA := Lib.hid hgma
  clear hgfa hgma hgfn hgmn
  have hu := (Upd.refl [] w).alloc (.cells #[i64 q.d.kind, .string q.d.name, .slice fa fn fc, .slice ma mn mc, i64 q.d.at_] 34)
  have hA := heap_alloc_new w (.cells #[i64 q.d.kind, .string q.d.name, .slice fa fn fc, .slice ma mn mc, i64 q.d.at_] 34)
  have HU := Lib.hid hu
  have HA := Lib.hid hA
  clear hu hA
  refine post fun R hR => ?_
  go_enter Try.func28, Try.ntmps28
  go_upto_region 2 with (fail)
  have hu := HU.out
  have hA := HA.out
  clear HU HA r0 r1 r2 r3 r4 z0 z1
  generalize w.alloc (.cells #[i64 q.d.kind, .string q.d.name, .slice fa fn fc, .slice ma mn mc, i64 q.d.at_] 34) = w1 at *
  obtain ⟨A, hAe⟩ : ∃ A, A = w.heap.size := ⟨_, rfl⟩
  rw [← hAe] at hA ⊢
  have HAE := Lib.hid hAe
  clear hAe
  obtain ⟨a0, a1, a2, a3, -⟩ := cells5 hA
  obtain ⟨z0, z1, -⟩ := HCK.out _ hu
  have HA := Lib.hid hA
  have HU := Lib.hid hu
  clear hA hu
  generalize hfi : fndI ds q.d.name = fi at *
  have HFI := Lib.hid hfi
  clear hfi
  go_quiet ((go_at_call 9; refine Calls.quiet_of_same ((HFC.out _ (HU.out.drewN _)).mono fun _ _ h => ⟨h.1, h.2.symm⟩)))
  obtain ⟨w2, hw2⟩ : ∃ w2, w2 = w1.drewN nq := ⟨_, rfl⟩
  have HU2 : Hid (Upd [] w w2) := Lib.hid (by rw [hw2]; exact HU.out.drewN nq)
  have hA2 : w2.heap[A]? = some (.cells #[i64 q.d.kind, .string q.d.name, .slice fa fn fc, .slice ma mn mc, i64 q.d.at_] 34 (0, 0)) := by rw [hw2]; exact HA.out
  rw [← hw2]
  clear a0 a1 a2 a3 z0 z1 hw2 HA HU
  obtain ⟨a0, a1, a2, a3, -⟩ := cells5 hA2
  have HA2 := Lib.hid hA2
  clear hA2
  by_cases hne : fi = i
  · have hq1 : (fi != (i : Int)) = false := by simpa using hne
    by_cases hk : 1 ≤ q.d.kind ∧ q.d.kind ≤ 4
    · have hkk : q.d.kind = 1 ∨ q.d.kind = 2 ∨ q.d.kind = 3 ∨ q.d.kind = 4 := by omega
      have HV0 := Lib.hid (show declE ds i q = (if firstE (fErr ds q) q.fs.length ≠ 0 then firstE (fErr ds q) q.fs.length else if firstE (mErr ds q) q.ms.length ≠ 0 then firstE (mErr ds q) q.ms.length else if (q.d.kind = 2 ∨ q.d.kind = 3) ∧ q.fs.length = 0 then 12 else 0) from by
        unfold declE; rw [if_neg (by rw [HFI.out]; simpa using hne), if_neg (by simpa using hk)])
      clear hk hne
      rcases hkk with h | h | h | h
      · have e1 : (q.d.kind == 1) = true := by rw [h]; rfl
        have e2 : (q.d.kind == 2) = false := by rw [h]; rfl
        have e3 : (q.d.kind == 3) = false := by rw [h]; rfl
        have e4 : (q.d.kind == 4) = false := by rw [h]; rfl
        have HLO := Lib.hid (show loF q.d.kind = 1 from by rw [h]; rfl)
        have HHI := Lib.hid (show hiF q.d.kind = 255 from by rw [h]; rfl)
        have HKD := Lib.hid h
        clear h
        go_upto_region 14 with (fail)
        obtain ⟨M1, hM1⟩ : ∃ M1, M1 = w2.heap.size := ⟨_, rfl⟩
        have hu3 := ((HU2.out.alloc (.map #[] 0)).alloc (.map #[] 0)).alloc (.cells #[.map (some w2.heap.size), .map (some (w2.heap.size + 1))] 73)
        have hB3 : (((w2.alloc (.map #[] 0)).alloc (.map #[] 0)).alloc (.cells #[.map (some w2.heap.size), .map (some (w2.heap.size + 1))] 73)).heap[w2.heap.size + 1 + 1]? = _ := heap_new3 w2 (.map #[] 0) (.map #[] 0) (.cells #[.map (some w2.heap.size), .map (some (w2.heap.size + 1))] 73)
        have hm1 : IMap (((w2.alloc (.map #[] 0)).alloc (.map #[] 0)).alloc (.cells #[.map (some w2.heap.size), .map (some (w2.heap.size + 1))] 73)) w2.heap.size 0 (oneI []) := ⟨_, ((World.ownsMap_made _ _ _ _).alloc _).alloc _, fun k => by simp [oneI]; rfl⟩
        have hm2 : SMap (((w2.alloc (.map #[] 0)).alloc (.map #[] 0)).alloc (.cells #[.map (some w2.heap.size), .map (some (w2.heap.size + 1))] 73)) (w2.heap.size + 1) 0 (oneI []) := by
          have := (World.ownsMap_made (H := Unit) (w2.alloc (.map #[] 0)) Try.prog 9 (plainElem Try.prog 3)).alloc (.cells #[.map (some w2.heap.size), .map (some (w2.heap.size + 1))] 73)
          rw [show (w2.alloc (.map #[] 0)).heap.size = w2.heap.size + 1 from Array.size_push _] at this
          exact ⟨_, this, fun k => by simp [oneI]; rfl⟩
        have hA3 := heap_alloc_old (heap_alloc_old (heap_alloc_old HA2.out (.map #[] 0)) (.map #[] 0)) (.cells #[.map (some w2.heap.size), .map (some (w2.heap.size + 1))] 73)
        have hAM : A < M1 := by rw [hM1]; exact lt_of_heap HA2.out
        have hwM : w.heap.size ≤ M1 := by rw [hM1]; exact HU2.out.size
        rw [← hM1] at hu3 hB3 hm1 hm2 hA3 ⊢
        have hsn : SnAt _ (M1 + 1 + 1) M1 0 (M1 + 1) 0 [] [] := ⟨hB3, hm1, hm2, ⟨by omega, by omega, by omega⟩, by omega, by omega⟩
        clear hM1 hB3 hm1 hm2 a0 a1 a2 a3 hmm HA2 HU2
        generalize ((w2.alloc (.map #[] 0)).alloc (.map #[] 0)).alloc (.cells #[.map (some M1), .map (some (M1 + 1))] 73) = w3 at *
        have HSN := Lib.hid hsn
        have HU3 := Lib.hid hu3
        have HA3 := Lib.hid hA3
        obtain ⟨a0, a1, a2, a3, -⟩ := cells5 hA3
        clear hsn hu3 hA3
        go_upto_region 15 with (fail)
        go_loopw [54] (fun i wr => ∃ (k : Nat), i = i64 k ∧ k ≤ fn ∧ (∀ j, j < k → fErr ds q j = 0) ∧ SnAt wr (M1 + 1 + 1) M1 k (M1 + 1) k ((q.fs.take k).map (·.1.tag)) ((q.fs.take k).map (·.1.name)) ∧ Upd [] w wr ∧ wr.heap[A]? = some (.cells #[i64 q.d.kind, .string q.d.name, .slice fa fn fc, .slice ma mn mc, i64 q.d.at_] 34 (0, 0))) (fun i _ => fn - (intOf i).toNat)
        case atStart => exact ⟨0, rfl, Nat.zero_le _, fun j hj => by omega, HSN.out, HU3.out, HA3.out⟩
        case round =>
          clear a0 a1 a2 a3
          obtain ⟨k, rfl, hk, hz, hsn, hur, hA⟩ := hrel
          have HZ := Lib.hid hz
          clear hz
          have sA := lt_of_heap hA
          by_cases hlt : k < fn
          · have hlf : k < q.fs.length := by have := HFN.out; omega
            obtain ⟨b2, off2, rfl, hb2, hr2⟩ : ∃ b2 off2, fa = some ⟨b2, off2, none⟩ ∧ b2 < w.heap.size ∧ RowsN w b2 off2 5 Fd.cells (q.fs.map (·.1)) := by
              rcases HQ.out.fields.2.2 with e | e
              · have : q.fs.length = 0 := by simpa using congrArg List.length e
                omega
              · rw [HFA.out] at e; exact e
            have hmm : k < (q.fs.map (·.1)).length := by simpa using hlf
            obtain ⟨d0, d1, d2, d3, d4⟩ := frow hr2 hur hb2 hmm
            have hfe : (q.fs.map (·.1))[k] = q.fs[k].1 := by simp
            rw [hfe] at d0 d1 d2 d3 d4
            have hmem : q.fs[k] ∈ q.fs := List.getElem_mem hlf
            have htg := HIN.out.1 _ hmem
            have hnm := (HQ.out.types _ hmem).1
            have hfd5 : ∀ w', Upd [] w w' → Calls Try.prog 32 #[.pointer (some ⟨C, 0, none⟩), .agg #[i64 q.d.kind, .string q.d.name, .slice (some ⟨b2, off2, none⟩) fn fc, .slice ma mn mc, i64 q.d.at_], .agg #[i64 q.fs[k].1.tag, .string q.fs[k].1.name, i64 q.fs[k].1.kind, .string q.fs[k].1.tn, .slice q.fs[k].1.oa q.fs[k].1.on q.fs[k].1.oc]] w' fun e w'' => e = .returned (i64 (fieldE ds q.d.kind q.fs[k])) ∧ Upd [] w' w'' := fun w' hu => HFD.out w' hu _ hmem
            obtain ⟨E1, hE1⟩ : ∃ E1, rowE ((q.fs.take k).map (·.1.tag)) ((q.fs.take k).map (·.1.name)) q.fs[k].1.tag q.fs[k].1.name (loF q.d.kind) (hiF q.d.kind) = E1 := ⟨_, rfl⟩
            obtain ⟨E2, hE2⟩ : ∃ E2, fieldE ds q.d.kind q.fs[k] = E2 := ⟨_, rfl⟩
            have HFE := Lib.hid (fErr_at (ds := ds) hlf rfl rfl hE1 hE2)
            rw [hE2] at hfd5
            have HF5 := Lib.hid hfd5
            have HTK := Lib.hid (And.intro (take_map_succ (·.1.tag) hlf) (take_map_succ (·.1.name) hlf))
            clear hfe hmm hr2 hfd5 hE2
            have hsnx := fun (w' : World) (hu : Upd [] wr w') => row_c (hsn.upd0 hu) (by omega) (by omega) q.fs[k].1.tag q.fs[k].1.name (loF q.d.kind) (hiF q.d.kind) htg hnm
            rw [hE1, HLO.out, HHI.out] at hsnx
            rw [← HTK.out.1, ← HTK.out.2] at hsnx
            have sB := lt_of_heap hsn.hB
            have HROW := Lib.hid hsnx
            have HUR := Lib.hid hur
            have HA := Lib.hid hA
            clear hsnx hur hA hsn hmem htg hnm hE1
            generalize hf : q.fs[k].1 = f at *
            have HF := Lib.hid hf
            clear hf
            go_upto_region 17 with (fail)
            have hX := heap_alloc_new wr (.cells #[i64 f.tag, .string f.name, i64 f.kind, .string f.tn, .slice f.oa f.on f.oc] 60)
            have hux := (Upd.refl [] wr).alloc (.cells #[i64 f.tag, .string f.name, i64 f.kind, .string f.tn, .slice f.oa f.on f.oc] 60)
            have hA4 := heap_alloc_old HA.out (.cells #[i64 f.tag, .string f.name, i64 f.kind, .string f.tn, .slice f.oa f.on f.oc] 60)
            generalize wr.alloc (.cells #[i64 f.tag, .string f.name, i64 f.kind, .string f.tn, .slice f.oa f.on f.oc] 60) = w4 at *
            obtain ⟨X, hXe⟩ : ∃ X, X = wr.heap.size := ⟨_, rfl⟩
            rw [← hXe] at hX sB ⊢
            have hrow := HROW.out _ hux
            have HU4 := Lib.hid (HUR.out.trans' hux)
            have HA4 := Lib.hid hA4
            have HX4 := Lib.hid hX
            have HRW := Lib.hid hrow
            obtain ⟨x0, x1, x2, x3, x4, -⟩ := cells5 hX
            clear hXe hX hux hA4 hrow HROW HA d0 d1 d2 d3 d4 HUR
            go_wp2_with (fail)
            refine HRW.out.mono ?_
            rintro e w5 ⟨rfl, hu5, hsn5⟩
            clear x0 x1 x2 x3 x4
            have hA5 := hu5.keep HA4.out (by simp; omega)
            have hX5 := hu5.keep HX4.out (by simp; omega)
            have hu05 := HU4.out.cutM hu5 (by simp; omega)
            have HSN5 := Lib.hid hsn5
            have HU5 := Lib.hid hu05
            have HA5 := Lib.hid hA5
            have HX5 := Lib.hid hX5
            clear hsn5 hu05 hA5 hX5 hu5 HRW HU4 HA4 HX4
            by_cases hE1 : E1 = 0
            · have hE1b : (E1 != 0) = false := by simpa using hE1
              have HE1 := Lib.hid hE1
              clear hE1
              have hf5 := HF5.out _ HU5.out
              have HF6 := Lib.hid hf5
              clear hf5
              obtain ⟨a0, a1, a2, a3, a4, -⟩ := cells5 HA5.out
              obtain ⟨x0, x1, x2, x3, x4, -⟩ := cells5 HX5.out
              go_upto_region 20 with (fail)
              go_wp2_with (fail)
              refine HF6.out.mono ?_
              rintro e w6 ⟨rfl, hu6⟩
              clear a0 a1 a2 a3 a4 x0 x1 x2 x3 x4
              have HU6 := Lib.hid hu6
              have HU06 := Lib.hid (HU5.out.trans' hu6)
              clear hu6 HF6
              by_cases hE2 : E2 = 0
              · have hE2b : (E2 != 0) = false := by simpa using hE2
                have HE2 := Lib.hid hE2
                clear hE2
                go_wp2_with (fail)
                go_roundw
                case rel =>
                  refine ⟨k + 1, by go_num, by omega, fun j hj => ?_, (HSN5.out HE1.out).upd0 HU6.out, HU06.out, HU6.out.keep0 HA5.out⟩
                  by_cases e : j = k
                  · subst e; rw [HFE.out, HE1.out, HE2.out]; rfl
                  · exact HZ.out j (by omega)
                case measure => simp [intOf]; omega
              · have hE2b : (E2 != 0) = true := by simpa using hE2
                have HV := Lib.hid (show declE ds i q = E2 from by
                  have h1 : fErr ds q k = E2 := by rw [HFE.out, HE1.out]; simp
                  rw [HV0.out, firstE_hit hlf HZ.out (by rw [h1]; exact hE2), h1, if_pos hE2])
                clear hE2
                go_wp2_with (fail)
                exact hR.out _ _ ⟨by rw [HV.out]; rfl, HU06.out⟩
            · have hE1b : (E1 != 0) = true := by simpa using hE1
              have HV := Lib.hid (show declE ds i q = E1 from by
                have h1 : fErr ds q k = E1 := by rw [HFE.out, if_pos hE1]
                rw [HV0.out, firstE_hit hlf HZ.out (by rw [h1]; exact hE1), h1, if_pos hE1])
              clear hE1
              go_wp2_with (fail)
              exact hR.out _ _ ⟨by rw [HV.out]; rfl, HU5.out⟩
          · have HV1 := Lib.hid (show firstE (fErr ds q) q.fs.length = 0 from firstE_all (fun j hj => HZ.out j (by have := HFN.out; omega)))
            have hkF : k = q.fs.length := by have := HFN.out; omega
            rw [hkF, List.take_length] at hsn
            have HSN4 := Lib.hid hsn
            have HU4 := Lib.hid hur
            have HA4 := Lib.hid hA
            clear hkF hsn hur hA HA3 HSN HU3
            obtain ⟨a0, a1, a2, a3, -⟩ := cells5 HA4.out
            go_upto_region 25 with (fail)
            go_loopw [80] (fun i wq => ∃ (k : Nat), i = i64 k ∧ k ≤ mn ∧ (∀ j, j < k → mErr ds q j = 0) ∧ SnAt wq (M1 + 1 + 1) M1 (q.fs.length + k) (M1 + 1) (q.fs.length + k) (q.fs.map (·.1.tag) ++ (q.ms.take k).map (·.tag)) (q.fs.map (·.1.name) ++ (q.ms.take k).map (·.name)) ∧ Upd [] w wq ∧ wq.heap[A]? = some (.cells #[i64 q.d.kind, .string q.d.name, .slice fa fn fc, .slice ma mn mc, i64 q.d.at_] 34 (0, 0))) (fun i _ => mn - (intOf i).toNat)
            case atStart =>
              refine ⟨0, rfl, Nat.zero_le _, fun j hj => by omega, ?_, HU4.out, HA4.out⟩
              rw [List.take_zero, List.map_nil, List.map_nil, List.append_nil, List.append_nil]
              exact HSN4.out
            case round =>
              clear a0 a1 a2 a3 hlt hk HZ sA HSN4 HU4 HA4
              obtain ⟨k, rfl, hk, hz, hsn, hur, hA⟩ := hrel
              have HZ := Lib.hid hz
              clear hz
              have sA := lt_of_heap hA
              by_cases hlt : k < mn
              · have hlf : k < q.ms.length := by have := HMN.out; omega
                obtain ⟨b2, off2, rfl, hb2, hr2⟩ : ∃ b2 off2, ma = some ⟨b2, off2, none⟩ ∧ b2 < w.heap.size ∧ RowsN w b2 off2 5 Mt.cells q.ms := by
                  rcases HQ.out.methods.2.2 with e | e
                  · have : q.ms.length = 0 := by simpa using congrArg List.length e
                    omega
                  · rw [HMA.out] at e; exact e
                obtain ⟨d0, d1, d2, d3, d4⟩ := mrow hr2 hur hb2 hlf
                have hmem : q.ms[k] ∈ q.ms := List.getElem_mem hlf
                have htg := HIN.out.2 _ hmem
                have hnm := (HQ.out.texts _ hmem).1
                have hfd5 : ∀ w', Upd [] w w' → Calls Try.prog 33 #[.pointer (some ⟨C, 0, none⟩), .agg #[i64 q.ms[k].tag, .string q.ms[k].name, .string q.ms[k].inn, .string q.ms[k].out, .bool q.ms[k].ow]] w' fun e w'' => e = .returned (i64 (methodE ds q.ms[k])) ∧ Upd [] w' w'' := fun w' hu => HMT.out w' hu _ hmem
                obtain ⟨E1, hE1⟩ : ∃ E1, rowE (q.fs.map (·.1.tag) ++ (q.ms.take k).map (·.tag)) (q.fs.map (·.1.name) ++ (q.ms.take k).map (·.name)) q.ms[k].tag q.ms[k].name (loF q.d.kind) (hiF q.d.kind) = E1 := ⟨_, rfl⟩
                obtain ⟨E2, hE2⟩ : ∃ E2, methodE ds q.ms[k] = E2 := ⟨_, rfl⟩
                have HFE := Lib.hid (mErr_at (ds := ds) hlf rfl rfl hE1 hE2)
                rw [hE2] at hfd5
                have HF5 := Lib.hid hfd5
                have HTK := Lib.hid (And.intro (take_map_succ (·.tag) hlf) (take_map_succ (·.name) hlf))
                clear hr2 hfd5 hE2
                have hsnx := fun (w' : World) (hu : Upd [] wr w') => row_c (hsn.upd0 hu) (by omega) (by omega) q.ms[k].tag q.ms[k].name (loF q.d.kind) (hiF q.d.kind) htg hnm
                rw [hE1, HLO.out, HHI.out] at hsnx
                rw [List.append_assoc, List.append_assoc, ← HTK.out.1, ← HTK.out.2, Nat.add_assoc] at hsnx
                have sB := lt_of_heap hsn.hB
                have HROW := Lib.hid hsnx
                have HUR := Lib.hid hur
                have HA := Lib.hid hA
                clear hsnx hur hA hsn hmem htg hnm hE1
                generalize hf : q.ms[k] = f at *
                have HF := Lib.hid hf
                clear hf
                go_upto_region 27 with (fail)
                have hX := heap_alloc_new wr (.cells #[i64 f.tag, .string f.name, .string f.inn, .string f.out, .bool f.ow] 42)
                have hux := (Upd.refl [] wr).alloc (.cells #[i64 f.tag, .string f.name, .string f.inn, .string f.out, .bool f.ow] 42)
                have hA4 := heap_alloc_old HA.out (.cells #[i64 f.tag, .string f.name, .string f.inn, .string f.out, .bool f.ow] 42)
                generalize wr.alloc (.cells #[i64 f.tag, .string f.name, .string f.inn, .string f.out, .bool f.ow] 42) = w4 at *
                obtain ⟨X, hXe⟩ : ∃ X, X = wr.heap.size := ⟨_, rfl⟩
                rw [← hXe] at hX sB ⊢
                have hrow := HROW.out _ hux
                have HU4 := Lib.hid (HUR.out.trans' hux)
                have HA4 := Lib.hid hA4
                have HX4 := Lib.hid hX
                have HRW := Lib.hid hrow
                obtain ⟨x0, x1, x2, x3, x4, -⟩ := cells5 hX
                clear hXe hX hux hA4 hrow HROW HA d0 d1 d2 d3 d4 HUR
                go_wp2_with (fail)
                refine HRW.out.mono ?_
                rintro e w5 ⟨rfl, hu5, hsn5⟩
                clear x0 x1 x2 x3 x4
                have hA5 := hu5.keep HA4.out (by simp; omega)
                have hX5 := hu5.keep HX4.out (by simp; omega)
                have hu05 := HU4.out.cutM hu5 (by simp; omega)
                have HSN5 := Lib.hid hsn5
                have HU5 := Lib.hid hu05
                have HA5 := Lib.hid hA5
                have HX5 := Lib.hid hX5
                clear hsn5 hu05 hA5 hX5 hu5 HRW HU4 HA4 HX4
                by_cases hE1 : E1 = 0
                · have hE1b : (E1 != 0) = false := by simpa using hE1
                  have HE1 := Lib.hid hE1
                  clear hE1
                  have hf5 := HF5.out _ HU5.out
                  have HF6 := Lib.hid hf5
                  clear hf5
                  obtain ⟨x0, x1, x2, x3, x4, -⟩ := cells5 HX5.out
                  go_wp2_with (fail)
                  refine HF6.out.mono ?_
                  rintro e w6 ⟨rfl, hu6⟩
                  clear x0 x1 x2 x3 x4
                  have HU6 := Lib.hid hu6
                  have HU06 := Lib.hid (HU5.out.trans' hu6)
                  clear hu6 HF6
                  by_cases hE2 : E2 = 0
                  · have hE2b : (E2 != 0) = false := by simpa using hE2
                    have HE2 := Lib.hid hE2
                    clear hE2
                    go_wp2_with (fail)
                    go_roundw
                    case rel =>
                      refine ⟨k + 1, by go_num, by omega, fun j hj => ?_, (HSN5.out HE1.out).upd0 HU6.out, HU06.out, HU6.out.keep0 HA5.out⟩
                      by_cases e : j = k
                      · subst e; rw [HFE.out, HE1.out, HE2.out]; rfl
                      · exact HZ.out j (by omega)
                    case measure => simp [intOf]; omega
                  · have hE2b : (E2 != 0) = true := by simpa using hE2
                    have HV := Lib.hid (show declE ds i q = E2 from by
                      have h1 : mErr ds q k = E2 := by rw [HFE.out, HE1.out]; simp
                      rw [HV0.out, HV1.out, if_neg (by simp), firstE_hit hlf HZ.out (by rw [h1]; exact hE2), h1, if_pos hE2])
                    clear hE2
                    go_wp2_with (fail)
                    exact hR.out _ _ ⟨by rw [HV.out]; rfl, HU06.out⟩
                · have hE1b : (E1 != 0) = true := by simpa using hE1
                  have HV := Lib.hid (show declE ds i q = E1 from by
                    have h1 : mErr ds q k = E1 := by rw [HFE.out, if_pos hE1]
                    rw [HV0.out, HV1.out, if_neg (by simp), firstE_hit hlf HZ.out (by rw [h1]; exact hE1), h1, if_pos hE1])
                  clear hE1
                  go_wp2_with (fail)
                  exact hR.out _ _ ⟨by rw [HV.out]; rfl, HU5.out⟩
              · have HV2 := Lib.hid (show declE ds i q = if (q.d.kind = 2 ∨ q.d.kind = 3) ∧ q.fs.length = 0 then 12 else 0 from by
                  rw [HV0.out, HV1.out, if_neg (by simp), firstE_all (fun j hj => HZ.out j (by have := HMN.out; omega)), if_neg (by simp)])
                have HUR := Lib.hid hur
                obtain ⟨a0, a1, a2, a3, -⟩ := cells5 hA
                clear hur hA hsn HZ HV0 HV1
                have HV := Lib.hid (show declE ds i q = 0 from by rw [HV2.out, if_neg]; rw [HKD.out]; simp)
                go_wp2_with (fail)
                exact hR.out _ _ ⟨by rw [HV.out]; rfl, HUR.out⟩
      · have e1 : (q.d.kind == 1) = false := by rw [h]; rfl
        have e2 : (q.d.kind == 2) = true := by rw [h]; rfl
        have e3 : (q.d.kind == 3) = false := by rw [h]; rfl
        have e4 : (q.d.kind == 4) = false := by rw [h]; rfl
        have HLO := Lib.hid (show loF q.d.kind = 1 from by rw [h]; rfl)
        have HHI := Lib.hid (show hiF q.d.kind = 255 from by rw [h]; rfl)
        have HKD := Lib.hid h
        clear h
        go_upto_region 14 with (fail)
        obtain ⟨M1, hM1⟩ : ∃ M1, M1 = w2.heap.size := ⟨_, rfl⟩
        have hu3 := ((HU2.out.alloc (.map #[] 0)).alloc (.map #[] 0)).alloc (.cells #[.map (some w2.heap.size), .map (some (w2.heap.size + 1))] 73)
        have hB3 : (((w2.alloc (.map #[] 0)).alloc (.map #[] 0)).alloc (.cells #[.map (some w2.heap.size), .map (some (w2.heap.size + 1))] 73)).heap[w2.heap.size + 1 + 1]? = _ := heap_new3 w2 (.map #[] 0) (.map #[] 0) (.cells #[.map (some w2.heap.size), .map (some (w2.heap.size + 1))] 73)
        have hm1 : IMap (((w2.alloc (.map #[] 0)).alloc (.map #[] 0)).alloc (.cells #[.map (some w2.heap.size), .map (some (w2.heap.size + 1))] 73)) w2.heap.size 0 (oneI []) := ⟨_, ((World.ownsMap_made _ _ _ _).alloc _).alloc _, fun k => by simp [oneI]; rfl⟩
        have hm2 : SMap (((w2.alloc (.map #[] 0)).alloc (.map #[] 0)).alloc (.cells #[.map (some w2.heap.size), .map (some (w2.heap.size + 1))] 73)) (w2.heap.size + 1) 0 (oneI []) := by
          have := (World.ownsMap_made (H := Unit) (w2.alloc (.map #[] 0)) Try.prog 9 (plainElem Try.prog 3)).alloc (.cells #[.map (some w2.heap.size), .map (some (w2.heap.size + 1))] 73)
          rw [show (w2.alloc (.map #[] 0)).heap.size = w2.heap.size + 1 from Array.size_push _] at this
          exact ⟨_, this, fun k => by simp [oneI]; rfl⟩
        have hA3 := heap_alloc_old (heap_alloc_old (heap_alloc_old HA2.out (.map #[] 0)) (.map #[] 0)) (.cells #[.map (some w2.heap.size), .map (some (w2.heap.size + 1))] 73)
        have hAM : A < M1 := by rw [hM1]; exact lt_of_heap HA2.out
        have hwM : w.heap.size ≤ M1 := by rw [hM1]; exact HU2.out.size
        rw [← hM1] at hu3 hB3 hm1 hm2 hA3 ⊢
        have hsn : SnAt _ (M1 + 1 + 1) M1 0 (M1 + 1) 0 [] [] := ⟨hB3, hm1, hm2, ⟨by omega, by omega, by omega⟩, by omega, by omega⟩
        clear hM1 hB3 hm1 hm2 a0 a1 a2 a3 hmm HA2 HU2
        generalize ((w2.alloc (.map #[] 0)).alloc (.map #[] 0)).alloc (.cells #[.map (some M1), .map (some (M1 + 1))] 73) = w3 at *
        have HSN := Lib.hid hsn
        have HU3 := Lib.hid hu3
        have HA3 := Lib.hid hA3
        obtain ⟨a0, a1, a2, a3, -⟩ := cells5 hA3
        clear hsn hu3 hA3
        go_upto_region 15 with (fail)
        go_loopw [54] (fun i wr => ∃ (k : Nat), i = i64 k ∧ k ≤ fn ∧ (∀ j, j < k → fErr ds q j = 0) ∧ SnAt wr (M1 + 1 + 1) M1 k (M1 + 1) k ((q.fs.take k).map (·.1.tag)) ((q.fs.take k).map (·.1.name)) ∧ Upd [] w wr ∧ wr.heap[A]? = some (.cells #[i64 q.d.kind, .string q.d.name, .slice fa fn fc, .slice ma mn mc, i64 q.d.at_] 34 (0, 0))) (fun i _ => fn - (intOf i).toNat)
        case atStart => exact ⟨0, rfl, Nat.zero_le _, fun j hj => by omega, HSN.out, HU3.out, HA3.out⟩
        case round =>
          clear a0 a1 a2 a3
          obtain ⟨k, rfl, hk, hz, hsn, hur, hA⟩ := hrel
          have HZ := Lib.hid hz
          clear hz
          have sA := lt_of_heap hA
          by_cases hlt : k < fn
          · have hlf : k < q.fs.length := by have := HFN.out; omega
            obtain ⟨b2, off2, rfl, hb2, hr2⟩ : ∃ b2 off2, fa = some ⟨b2, off2, none⟩ ∧ b2 < w.heap.size ∧ RowsN w b2 off2 5 Fd.cells (q.fs.map (·.1)) := by
              rcases HQ.out.fields.2.2 with e | e
              · have : q.fs.length = 0 := by simpa using congrArg List.length e
                omega
              · rw [HFA.out] at e; exact e
            have hmm : k < (q.fs.map (·.1)).length := by simpa using hlf
            obtain ⟨d0, d1, d2, d3, d4⟩ := frow hr2 hur hb2 hmm
            have hfe : (q.fs.map (·.1))[k] = q.fs[k].1 := by simp
            rw [hfe] at d0 d1 d2 d3 d4
            have hmem : q.fs[k] ∈ q.fs := List.getElem_mem hlf
            have htg := HIN.out.1 _ hmem
            have hnm := (HQ.out.types _ hmem).1
            have hfd5 : ∀ w', Upd [] w w' → Calls Try.prog 32 #[.pointer (some ⟨C, 0, none⟩), .agg #[i64 q.d.kind, .string q.d.name, .slice (some ⟨b2, off2, none⟩) fn fc, .slice ma mn mc, i64 q.d.at_], .agg #[i64 q.fs[k].1.tag, .string q.fs[k].1.name, i64 q.fs[k].1.kind, .string q.fs[k].1.tn, .slice q.fs[k].1.oa q.fs[k].1.on q.fs[k].1.oc]] w' fun e w'' => e = .returned (i64 (fieldE ds q.d.kind q.fs[k])) ∧ Upd [] w' w'' := fun w' hu => HFD.out w' hu _ hmem
            obtain ⟨E1, hE1⟩ : ∃ E1, rowE ((q.fs.take k).map (·.1.tag)) ((q.fs.take k).map (·.1.name)) q.fs[k].1.tag q.fs[k].1.name (loF q.d.kind) (hiF q.d.kind) = E1 := ⟨_, rfl⟩
            obtain ⟨E2, hE2⟩ : ∃ E2, fieldE ds q.d.kind q.fs[k] = E2 := ⟨_, rfl⟩
            have HFE := Lib.hid (fErr_at (ds := ds) hlf rfl rfl hE1 hE2)
            rw [hE2] at hfd5
            have HF5 := Lib.hid hfd5
            have HTK := Lib.hid (And.intro (take_map_succ (·.1.tag) hlf) (take_map_succ (·.1.name) hlf))
            clear hfe hmm hr2 hfd5 hE2
            have hsnx := fun (w' : World) (hu : Upd [] wr w') => row_c (hsn.upd0 hu) (by omega) (by omega) q.fs[k].1.tag q.fs[k].1.name (loF q.d.kind) (hiF q.d.kind) htg hnm
            rw [hE1, HLO.out, HHI.out] at hsnx
            rw [← HTK.out.1, ← HTK.out.2] at hsnx
            have sB := lt_of_heap hsn.hB
            have HROW := Lib.hid hsnx
            have HUR := Lib.hid hur
            have HA := Lib.hid hA
            clear hsnx hur hA hsn hmem htg hnm hE1
            generalize hf : q.fs[k].1 = f at *
            have HF := Lib.hid hf
            clear hf
            go_upto_region 17 with (fail)
            have hX := heap_alloc_new wr (.cells #[i64 f.tag, .string f.name, i64 f.kind, .string f.tn, .slice f.oa f.on f.oc] 60)
            have hux := (Upd.refl [] wr).alloc (.cells #[i64 f.tag, .string f.name, i64 f.kind, .string f.tn, .slice f.oa f.on f.oc] 60)
            have hA4 := heap_alloc_old HA.out (.cells #[i64 f.tag, .string f.name, i64 f.kind, .string f.tn, .slice f.oa f.on f.oc] 60)
            generalize wr.alloc (.cells #[i64 f.tag, .string f.name, i64 f.kind, .string f.tn, .slice f.oa f.on f.oc] 60) = w4 at *
            obtain ⟨X, hXe⟩ : ∃ X, X = wr.heap.size := ⟨_, rfl⟩
            rw [← hXe] at hX sB ⊢
            have hrow := HROW.out _ hux
            have HU4 := Lib.hid (HUR.out.trans' hux)
            have HA4 := Lib.hid hA4
            have HX4 := Lib.hid hX
            have HRW := Lib.hid hrow
            obtain ⟨x0, x1, x2, x3, x4, -⟩ := cells5 hX
            clear hXe hX hux hA4 hrow HROW HA d0 d1 d2 d3 d4 HUR
            go_wp2_with (fail)
            refine HRW.out.mono ?_
            rintro e w5 ⟨rfl, hu5, hsn5⟩
            clear x0 x1 x2 x3 x4
            have hA5 := hu5.keep HA4.out (by simp; omega)
            have hX5 := hu5.keep HX4.out (by simp; omega)
            have hu05 := HU4.out.cutM hu5 (by simp; omega)
            have HSN5 := Lib.hid hsn5
            have HU5 := Lib.hid hu05
            have HA5 := Lib.hid hA5
            have HX5 := Lib.hid hX5
            clear hsn5 hu05 hA5 hX5 hu5 HRW HU4 HA4 HX4
            by_cases hE1 : E1 = 0
            · have hE1b : (E1 != 0) = false := by simpa using hE1
              have HE1 := Lib.hid hE1
              clear hE1
              have hf5 := HF5.out _ HU5.out
              have HF6 := Lib.hid hf5
              clear hf5
              obtain ⟨a0, a1, a2, a3, a4, -⟩ := cells5 HA5.out
              obtain ⟨x0, x1, x2, x3, x4, -⟩ := cells5 HX5.out
              go_upto_region 20 with (fail)
              go_wp2_with (fail)
              refine HF6.out.mono ?_
              rintro e w6 ⟨rfl, hu6⟩
              clear a0 a1 a2 a3 a4 x0 x1 x2 x3 x4
              have HU6 := Lib.hid hu6
              have HU06 := Lib.hid (HU5.out.trans' hu6)
              clear hu6 HF6
              by_cases hE2 : E2 = 0
              · have hE2b : (E2 != 0) = false := by simpa using hE2
                have HE2 := Lib.hid hE2
                clear hE2
                go_wp2_with (fail)
                go_roundw
                case rel =>
                  refine ⟨k + 1, by go_num, by omega, fun j hj => ?_, (HSN5.out HE1.out).upd0 HU6.out, HU06.out, HU6.out.keep0 HA5.out⟩
                  by_cases e : j = k
                  · subst e; rw [HFE.out, HE1.out, HE2.out]; rfl
                  · exact HZ.out j (by omega)
                case measure => simp [intOf]; omega
              · have hE2b : (E2 != 0) = true := by simpa using hE2
                have HV := Lib.hid (show declE ds i q = E2 from by
                  have h1 : fErr ds q k = E2 := by rw [HFE.out, HE1.out]; simp
                  rw [HV0.out, firstE_hit hlf HZ.out (by rw [h1]; exact hE2), h1, if_pos hE2])
                clear hE2
                go_wp2_with (fail)
                exact hR.out _ _ ⟨by rw [HV.out]; rfl, HU06.out⟩
            · have hE1b : (E1 != 0) = true := by simpa using hE1
              have HV := Lib.hid (show declE ds i q = E1 from by
                have h1 : fErr ds q k = E1 := by rw [HFE.out, if_pos hE1]
                rw [HV0.out, firstE_hit hlf HZ.out (by rw [h1]; exact hE1), h1, if_pos hE1])
              clear hE1
              go_wp2_with (fail)
              exact hR.out _ _ ⟨by rw [HV.out]; rfl, HU5.out⟩
          · have HV1 := Lib.hid (show firstE (fErr ds q) q.fs.length = 0 from firstE_all (fun j hj => HZ.out j (by have := HFN.out; omega)))
            have hkF : k = q.fs.length := by have := HFN.out; omega
            rw [hkF, List.take_length] at hsn
            have HSN4 := Lib.hid hsn
            have HU4 := Lib.hid hur
            have HA4 := Lib.hid hA
            clear hkF hsn hur hA HA3 HSN HU3
            obtain ⟨a0, a1, a2, a3, -⟩ := cells5 HA4.out
            go_upto_region 25 with (fail)
            go_loopw [80] (fun i wq => ∃ (k : Nat), i = i64 k ∧ k ≤ mn ∧ (∀ j, j < k → mErr ds q j = 0) ∧ SnAt wq (M1 + 1 + 1) M1 (q.fs.length + k) (M1 + 1) (q.fs.length + k) (q.fs.map (·.1.tag) ++ (q.ms.take k).map (·.tag)) (q.fs.map (·.1.name) ++ (q.ms.take k).map (·.name)) ∧ Upd [] w wq ∧ wq.heap[A]? = some (.cells #[i64 q.d.kind, .string q.d.name, .slice fa fn fc, .slice ma mn mc, i64 q.d.at_] 34 (0, 0))) (fun i _ => mn - (intOf i).toNat)
            case atStart =>
              refine ⟨0, rfl, Nat.zero_le _, fun j hj => by omega, ?_, HU4.out, HA4.out⟩
              rw [List.take_zero, List.map_nil, List.map_nil, List.append_nil, List.append_nil]
              exact HSN4.out
            case round =>
              clear a0 a1 a2 a3 hlt hk HZ sA HSN4 HU4 HA4
              obtain ⟨k, rfl, hk, hz, hsn, hur, hA⟩ := hrel
              have HZ := Lib.hid hz
              clear hz
              have sA := lt_of_heap hA
              by_cases hlt : k < mn
              · have hlf : k < q.ms.length := by have := HMN.out; omega
                obtain ⟨b2, off2, rfl, hb2, hr2⟩ : ∃ b2 off2, ma = some ⟨b2, off2, none⟩ ∧ b2 < w.heap.size ∧ RowsN w b2 off2 5 Mt.cells q.ms := by
                  rcases HQ.out.methods.2.2 with e | e
                  · have : q.ms.length = 0 := by simpa using congrArg List.length e
                    omega
                  · rw [HMA.out] at e; exact e
                obtain ⟨d0, d1, d2, d3, d4⟩ := mrow hr2 hur hb2 hlf
                have hmem : q.ms[k] ∈ q.ms := List.getElem_mem hlf
                have htg := HIN.out.2 _ hmem
                have hnm := (HQ.out.texts _ hmem).1
                have hfd5 : ∀ w', Upd [] w w' → Calls Try.prog 33 #[.pointer (some ⟨C, 0, none⟩), .agg #[i64 q.ms[k].tag, .string q.ms[k].name, .string q.ms[k].inn, .string q.ms[k].out, .bool q.ms[k].ow]] w' fun e w'' => e = .returned (i64 (methodE ds q.ms[k])) ∧ Upd [] w' w'' := fun w' hu => HMT.out w' hu _ hmem
                obtain ⟨E1, hE1⟩ : ∃ E1, rowE (q.fs.map (·.1.tag) ++ (q.ms.take k).map (·.tag)) (q.fs.map (·.1.name) ++ (q.ms.take k).map (·.name)) q.ms[k].tag q.ms[k].name (loF q.d.kind) (hiF q.d.kind) = E1 := ⟨_, rfl⟩
                obtain ⟨E2, hE2⟩ : ∃ E2, methodE ds q.ms[k] = E2 := ⟨_, rfl⟩
                have HFE := Lib.hid (mErr_at (ds := ds) hlf rfl rfl hE1 hE2)
                rw [hE2] at hfd5
                have HF5 := Lib.hid hfd5
                have HTK := Lib.hid (And.intro (take_map_succ (·.tag) hlf) (take_map_succ (·.name) hlf))
                clear hr2 hfd5 hE2
                have hsnx := fun (w' : World) (hu : Upd [] wr w') => row_c (hsn.upd0 hu) (by omega) (by omega) q.ms[k].tag q.ms[k].name (loF q.d.kind) (hiF q.d.kind) htg hnm
                rw [hE1, HLO.out, HHI.out] at hsnx
                rw [List.append_assoc, List.append_assoc, ← HTK.out.1, ← HTK.out.2, Nat.add_assoc] at hsnx
                have sB := lt_of_heap hsn.hB
                have HROW := Lib.hid hsnx
                have HUR := Lib.hid hur
                have HA := Lib.hid hA
                clear hsnx hur hA hsn hmem htg hnm hE1
                generalize hf : q.ms[k] = f at *
                have HF := Lib.hid hf
                clear hf
                go_upto_region 27 with (fail)
                have hX := heap_alloc_new wr (.cells #[i64 f.tag, .string f.name, .string f.inn, .string f.out, .bool f.ow] 42)
                have hux := (Upd.refl [] wr).alloc (.cells #[i64 f.tag, .string f.name, .string f.inn, .string f.out, .bool f.ow] 42)
                have hA4 := heap_alloc_old HA.out (.cells #[i64 f.tag, .string f.name, .string f.inn, .string f.out, .bool f.ow] 42)
                generalize wr.alloc (.cells #[i64 f.tag, .string f.name, .string f.inn, .string f.out, .bool f.ow] 42) = w4 at *
                obtain ⟨X, hXe⟩ : ∃ X, X = wr.heap.size := ⟨_, rfl⟩
                rw [← hXe] at hX sB ⊢
                have hrow := HROW.out _ hux
                have HU4 := Lib.hid (HUR.out.trans' hux)
                have HA4 := Lib.hid hA4
                have HX4 := Lib.hid hX
                have HRW := Lib.hid hrow
                obtain ⟨x0, x1, x2, x3, x4, -⟩ := cells5 hX
                clear hXe hX hux hA4 hrow HROW HA d0 d1 d2 d3 d4 HUR
                go_wp2_with (fail)
                refine HRW.out.mono ?_
                rintro e w5 ⟨rfl, hu5, hsn5⟩
                clear x0 x1 x2 x3 x4
                have hA5 := hu5.keep HA4.out (by simp; omega)
                have hX5 := hu5.keep HX4.out (by simp; omega)
                have hu05 := HU4.out.cutM hu5 (by simp; omega)
                have HSN5 := Lib.hid hsn5
                have HU5 := Lib.hid hu05
                have HA5 := Lib.hid hA5
                have HX5 := Lib.hid hX5
                clear hsn5 hu05 hA5 hX5 hu5 HRW HU4 HA4 HX4
                by_cases hE1 : E1 = 0
                · have hE1b : (E1 != 0) = false := by simpa using hE1
                  have HE1 := Lib.hid hE1
                  clear hE1
                  have hf5 := HF5.out _ HU5.out
                  have HF6 := Lib.hid hf5
                  clear hf5
                  obtain ⟨x0, x1, x2, x3, x4, -⟩ := cells5 HX5.out
                  go_wp2_with (fail)
                  refine HF6.out.mono ?_
                  rintro e w6 ⟨rfl, hu6⟩
                  clear x0 x1 x2 x3 x4
                  have HU6 := Lib.hid hu6
                  have HU06 := Lib.hid (HU5.out.trans' hu6)
                  clear hu6 HF6
                  by_cases hE2 : E2 = 0
                  · have hE2b : (E2 != 0) = false := by simpa using hE2
                    have HE2 := Lib.hid hE2
                    clear hE2
                    go_wp2_with (fail)
                    go_roundw
                    case rel =>
                      refine ⟨k + 1, by go_num, by omega, fun j hj => ?_, (HSN5.out HE1.out).upd0 HU6.out, HU06.out, HU6.out.keep0 HA5.out⟩
                      by_cases e : j = k
                      · subst e; rw [HFE.out, HE1.out, HE2.out]; rfl
                      · exact HZ.out j (by omega)
                    case measure => simp [intOf]; omega
                  · have hE2b : (E2 != 0) = true := by simpa using hE2
                    have HV := Lib.hid (show declE ds i q = E2 from by
                      have h1 : mErr ds q k = E2 := by rw [HFE.out, HE1.out]; simp
                      rw [HV0.out, HV1.out, if_neg (by simp), firstE_hit hlf HZ.out (by rw [h1]; exact hE2), h1, if_pos hE2])
                    clear hE2
                    go_wp2_with (fail)
                    exact hR.out _ _ ⟨by rw [HV.out]; rfl, HU06.out⟩
                · have hE1b : (E1 != 0) = true := by simpa using hE1
                  have HV := Lib.hid (show declE ds i q = E1 from by
                    have h1 : mErr ds q k = E1 := by rw [HFE.out, if_pos hE1]
                    rw [HV0.out, HV1.out, if_neg (by simp), firstE_hit hlf HZ.out (by rw [h1]; exact hE1), h1, if_pos hE1])
                  clear hE1
                  go_wp2_with (fail)
                  exact hR.out _ _ ⟨by rw [HV.out]; rfl, HU5.out⟩
              · have HV2 := Lib.hid (show declE ds i q = if (q.d.kind = 2 ∨ q.d.kind = 3) ∧ q.fs.length = 0 then 12 else 0 from by
                  rw [HV0.out, HV1.out, if_neg (by simp), firstE_all (fun j hj => HZ.out j (by have := HMN.out; omega)), if_neg (by simp)])
                have HUR := Lib.hid hur
                obtain ⟨a0, a1, a2, a3, -⟩ := cells5 hA
                clear hur hA hsn HZ HV0 HV1
                by_cases hf0 : fn = 0
                · have HV := Lib.hid (show declE ds i q = 12 from by
                    rw [HV2.out, if_pos]
                    exact ⟨by rw [HKD.out]; simp, by rw [← HFN.out]; exact hf0⟩)
                  have hf0b : ((fn : Int) == 0) = true := by simpa using hf0
                  clear hf0
                  go_wp2_with (fail)
                  exact hR.out _ _ ⟨by rw [HV.out]; rfl, HUR.out⟩
                · have HV := Lib.hid (show declE ds i q = 0 from by
                    rw [HV2.out, if_neg]
                    rintro ⟨-, h⟩
                    exact hf0 (by rw [HFN.out]; exact h))
                  have hf0b : ((fn : Int) == 0) = false := by simpa using hf0
                  clear hf0
                  go_wp2_with (fail)
                  exact hR.out _ _ ⟨by rw [HV.out]; rfl, HUR.out⟩
      · have e1 : (q.d.kind == 1) = false := by rw [h]; rfl
        have e2 : (q.d.kind == 2) = false := by rw [h]; rfl
        have e3 : (q.d.kind == 3) = true := by rw [h]; rfl
        have e4 : (q.d.kind == 4) = false := by rw [h]; rfl
        have HLO := Lib.hid (show loF q.d.kind = 0 from by rw [h]; rfl)
        have HHI := Lib.hid (show hiF q.d.kind = 9999 from by rw [h]; rfl)
        have HKD := Lib.hid h
        clear h
        go_upto_region 14 with (fail)
        obtain ⟨M1, hM1⟩ : ∃ M1, M1 = w2.heap.size := ⟨_, rfl⟩
        have hu3 := ((HU2.out.alloc (.map #[] 0)).alloc (.map #[] 0)).alloc (.cells #[.map (some w2.heap.size), .map (some (w2.heap.size + 1))] 73)
        have hB3 : (((w2.alloc (.map #[] 0)).alloc (.map #[] 0)).alloc (.cells #[.map (some w2.heap.size), .map (some (w2.heap.size + 1))] 73)).heap[w2.heap.size + 1 + 1]? = _ := heap_new3 w2 (.map #[] 0) (.map #[] 0) (.cells #[.map (some w2.heap.size), .map (some (w2.heap.size + 1))] 73)
        have hm1 : IMap (((w2.alloc (.map #[] 0)).alloc (.map #[] 0)).alloc (.cells #[.map (some w2.heap.size), .map (some (w2.heap.size + 1))] 73)) w2.heap.size 0 (oneI []) := ⟨_, ((World.ownsMap_made _ _ _ _).alloc _).alloc _, fun k => by simp [oneI]; rfl⟩
        have hm2 : SMap (((w2.alloc (.map #[] 0)).alloc (.map #[] 0)).alloc (.cells #[.map (some w2.heap.size), .map (some (w2.heap.size + 1))] 73)) (w2.heap.size + 1) 0 (oneI []) := by
          have := (World.ownsMap_made (H := Unit) (w2.alloc (.map #[] 0)) Try.prog 9 (plainElem Try.prog 3)).alloc (.cells #[.map (some w2.heap.size), .map (some (w2.heap.size + 1))] 73)
          rw [show (w2.alloc (.map #[] 0)).heap.size = w2.heap.size + 1 from Array.size_push _] at this
          exact ⟨_, this, fun k => by simp [oneI]; rfl⟩
        have hA3 := heap_alloc_old (heap_alloc_old (heap_alloc_old HA2.out (.map #[] 0)) (.map #[] 0)) (.cells #[.map (some w2.heap.size), .map (some (w2.heap.size + 1))] 73)
        have hAM : A < M1 := by rw [hM1]; exact lt_of_heap HA2.out
        have hwM : w.heap.size ≤ M1 := by rw [hM1]; exact HU2.out.size
        rw [← hM1] at hu3 hB3 hm1 hm2 hA3 ⊢
        have hsn : SnAt _ (M1 + 1 + 1) M1 0 (M1 + 1) 0 [] [] := ⟨hB3, hm1, hm2, ⟨by omega, by omega, by omega⟩, by omega, by omega⟩
        clear hM1 hB3 hm1 hm2 a0 a1 a2 a3 hmm HA2 HU2
        generalize ((w2.alloc (.map #[] 0)).alloc (.map #[] 0)).alloc (.cells #[.map (some M1), .map (some (M1 + 1))] 73) = w3 at *
        have HSN := Lib.hid hsn
        have HU3 := Lib.hid hu3
        have HA3 := Lib.hid hA3
        obtain ⟨a0, a1, a2, a3, -⟩ := cells5 hA3
        clear hsn hu3 hA3
        go_upto_region 15 with (fail)
        go_loopw [54] (fun i wr => ∃ (k : Nat), i = i64 k ∧ k ≤ fn ∧ (∀ j, j < k → fErr ds q j = 0) ∧ SnAt wr (M1 + 1 + 1) M1 k (M1 + 1) k ((q.fs.take k).map (·.1.tag)) ((q.fs.take k).map (·.1.name)) ∧ Upd [] w wr ∧ wr.heap[A]? = some (.cells #[i64 q.d.kind, .string q.d.name, .slice fa fn fc, .slice ma mn mc, i64 q.d.at_] 34 (0, 0))) (fun i _ => fn - (intOf i).toNat)
        case atStart => exact ⟨0, rfl, Nat.zero_le _, fun j hj => by omega, HSN.out, HU3.out, HA3.out⟩
        case round =>
          clear a0 a1 a2 a3
          obtain ⟨k, rfl, hk, hz, hsn, hur, hA⟩ := hrel
          have HZ := Lib.hid hz
          clear hz
          have sA := lt_of_heap hA
          by_cases hlt : k < fn
          · have hlf : k < q.fs.length := by have := HFN.out; omega
            obtain ⟨b2, off2, rfl, hb2, hr2⟩ : ∃ b2 off2, fa = some ⟨b2, off2, none⟩ ∧ b2 < w.heap.size ∧ RowsN w b2 off2 5 Fd.cells (q.fs.map (·.1)) := by
              rcases HQ.out.fields.2.2 with e | e
              · have : q.fs.length = 0 := by simpa using congrArg List.length e
                omega
              · rw [HFA.out] at e; exact e
            have hmm : k < (q.fs.map (·.1)).length := by simpa using hlf
            obtain ⟨d0, d1, d2, d3, d4⟩ := frow hr2 hur hb2 hmm
            have hfe : (q.fs.map (·.1))[k] = q.fs[k].1 := by simp
            rw [hfe] at d0 d1 d2 d3 d4
            have hmem : q.fs[k] ∈ q.fs := List.getElem_mem hlf
            have htg := HIN.out.1 _ hmem
            have hnm := (HQ.out.types _ hmem).1
            have hfd5 : ∀ w', Upd [] w w' → Calls Try.prog 32 #[.pointer (some ⟨C, 0, none⟩), .agg #[i64 q.d.kind, .string q.d.name, .slice (some ⟨b2, off2, none⟩) fn fc, .slice ma mn mc, i64 q.d.at_], .agg #[i64 q.fs[k].1.tag, .string q.fs[k].1.name, i64 q.fs[k].1.kind, .string q.fs[k].1.tn, .slice q.fs[k].1.oa q.fs[k].1.on q.fs[k].1.oc]] w' fun e w'' => e = .returned (i64 (fieldE ds q.d.kind q.fs[k])) ∧ Upd [] w' w'' := fun w' hu => HFD.out w' hu _ hmem
            obtain ⟨E1, hE1⟩ : ∃ E1, rowE ((q.fs.take k).map (·.1.tag)) ((q.fs.take k).map (·.1.name)) q.fs[k].1.tag q.fs[k].1.name (loF q.d.kind) (hiF q.d.kind) = E1 := ⟨_, rfl⟩
            obtain ⟨E2, hE2⟩ : ∃ E2, fieldE ds q.d.kind q.fs[k] = E2 := ⟨_, rfl⟩
            have HFE := Lib.hid (fErr_at (ds := ds) hlf rfl rfl hE1 hE2)
            rw [hE2] at hfd5
            have HF5 := Lib.hid hfd5
            have HTK := Lib.hid (And.intro (take_map_succ (·.1.tag) hlf) (take_map_succ (·.1.name) hlf))
            clear hfe hmm hr2 hfd5 hE2
            have hsnx := fun (w' : World) (hu : Upd [] wr w') => row_c (hsn.upd0 hu) (by omega) (by omega) q.fs[k].1.tag q.fs[k].1.name (loF q.d.kind) (hiF q.d.kind) htg hnm
            rw [hE1, HLO.out, HHI.out] at hsnx
            rw [← HTK.out.1, ← HTK.out.2] at hsnx
            have sB := lt_of_heap hsn.hB
            have HROW := Lib.hid hsnx
            have HUR := Lib.hid hur
            have HA := Lib.hid hA
            clear hsnx hur hA hsn hmem htg hnm hE1
            generalize hf : q.fs[k].1 = f at *
            have HF := Lib.hid hf
            clear hf
            go_upto_region 17 with (fail)
            have hX := heap_alloc_new wr (.cells #[i64 f.tag, .string f.name, i64 f.kind, .string f.tn, .slice f.oa f.on f.oc] 60)
            have hux := (Upd.refl [] wr).alloc (.cells #[i64 f.tag, .string f.name, i64 f.kind, .string f.tn, .slice f.oa f.on f.oc] 60)
            have hA4 := heap_alloc_old HA.out (.cells #[i64 f.tag, .string f.name, i64 f.kind, .string f.tn, .slice f.oa f.on f.oc] 60)
            generalize wr.alloc (.cells #[i64 f.tag, .string f.name, i64 f.kind, .string f.tn, .slice f.oa f.on f.oc] 60) = w4 at *
            obtain ⟨X, hXe⟩ : ∃ X, X = wr.heap.size := ⟨_, rfl⟩
            rw [← hXe] at hX sB ⊢
            have hrow := HROW.out _ hux
            have HU4 := Lib.hid (HUR.out.trans' hux)
            have HA4 := Lib.hid hA4
            have HX4 := Lib.hid hX
            have HRW := Lib.hid hrow
            obtain ⟨x0, x1, x2, x3, x4, -⟩ := cells5 hX
            clear hXe hX hux hA4 hrow HROW HA d0 d1 d2 d3 d4 HUR
            go_wp2_with (fail)
            refine HRW.out.mono ?_
            rintro e w5 ⟨rfl, hu5, hsn5⟩
            clear x0 x1 x2 x3 x4
            have hA5 := hu5.keep HA4.out (by simp; omega)
            have hX5 := hu5.keep HX4.out (by simp; omega)
            have hu05 := HU4.out.cutM hu5 (by simp; omega)
            have HSN5 := Lib.hid hsn5
            have HU5 := Lib.hid hu05
            have HA5 := Lib.hid hA5
            have HX5 := Lib.hid hX5
            clear hsn5 hu05 hA5 hX5 hu5 HRW HU4 HA4 HX4
            by_cases hE1 : E1 = 0
            · have hE1b : (E1 != 0) = false := by simpa using hE1
              have HE1 := Lib.hid hE1
              clear hE1
              have hf5 := HF5.out _ HU5.out
              have HF6 := Lib.hid hf5
              clear hf5
              obtain ⟨a0, a1, a2, a3, a4, -⟩ := cells5 HA5.out
              obtain ⟨x0, x1, x2, x3, x4, -⟩ := cells5 HX5.out
              go_upto_region 20 with (fail)
              go_wp2_with (fail)
              refine HF6.out.mono ?_
              rintro e w6 ⟨rfl, hu6⟩
              clear a0 a1 a2 a3 a4 x0 x1 x2 x3 x4
              have HU6 := Lib.hid hu6
              have HU06 := Lib.hid (HU5.out.trans' hu6)
              clear hu6 HF6
              by_cases hE2 : E2 = 0
              · have hE2b : (E2 != 0) = false := by simpa using hE2
                have HE2 := Lib.hid hE2
                clear hE2
                go_wp2_with (fail)
                go_roundw
                case rel =>
                  refine ⟨k + 1, by go_num, by omega, fun j hj => ?_, (HSN5.out HE1.out).upd0 HU6.out, HU06.out, HU6.out.keep0 HA5.out⟩
                  by_cases e : j = k
                  · subst e; rw [HFE.out, HE1.out, HE2.out]; rfl
                  · exact HZ.out j (by omega)
                case measure => simp [intOf]; omega
              · have hE2b : (E2 != 0) = true := by simpa using hE2
                have HV := Lib.hid (show declE ds i q = E2 from by
                  have h1 : fErr ds q k = E2 := by rw [HFE.out, HE1.out]; simp
                  rw [HV0.out, firstE_hit hlf HZ.out (by rw [h1]; exact hE2), h1, if_pos hE2])
                clear hE2
                go_wp2_with (fail)
                exact hR.out _ _ ⟨by rw [HV.out]; rfl, HU06.out⟩
            · have hE1b : (E1 != 0) = true := by simpa using hE1
              have HV := Lib.hid (show declE ds i q = E1 from by
                have h1 : fErr ds q k = E1 := by rw [HFE.out, if_pos hE1]
                rw [HV0.out, firstE_hit hlf HZ.out (by rw [h1]; exact hE1), h1, if_pos hE1])
              clear hE1
              go_wp2_with (fail)
              exact hR.out _ _ ⟨by rw [HV.out]; rfl, HU5.out⟩
          · have HV1 := Lib.hid (show firstE (fErr ds q) q.fs.length = 0 from firstE_all (fun j hj => HZ.out j (by have := HFN.out; omega)))
            have hkF : k = q.fs.length := by have := HFN.out; omega
            rw [hkF, List.take_length] at hsn
            have HSN4 := Lib.hid hsn
            have HU4 := Lib.hid hur
            have HA4 := Lib.hid hA
            clear hkF hsn hur hA HA3 HSN HU3
            obtain ⟨a0, a1, a2, a3, -⟩ := cells5 HA4.out
            go_upto_region 25 with (fail)
            go_loopw [80] (fun i wq => ∃ (k : Nat), i = i64 k ∧ k ≤ mn ∧ (∀ j, j < k → mErr ds q j = 0) ∧ SnAt wq (M1 + 1 + 1) M1 (q.fs.length + k) (M1 + 1) (q.fs.length + k) (q.fs.map (·.1.tag) ++ (q.ms.take k).map (·.tag)) (q.fs.map (·.1.name) ++ (q.ms.take k).map (·.name)) ∧ Upd [] w wq ∧ wq.heap[A]? = some (.cells #[i64 q.d.kind, .string q.d.name, .slice fa fn fc, .slice ma mn mc, i64 q.d.at_] 34 (0, 0))) (fun i _ => mn - (intOf i).toNat)
            case atStart =>
              refine ⟨0, rfl, Nat.zero_le _, fun j hj => by omega, ?_, HU4.out, HA4.out⟩
              rw [List.take_zero, List.map_nil, List.map_nil, List.append_nil, List.append_nil]
              exact HSN4.out
            case round =>
              clear a0 a1 a2 a3 hlt hk HZ sA HSN4 HU4 HA4
              obtain ⟨k, rfl, hk, hz, hsn, hur, hA⟩ := hrel
              have HZ := Lib.hid hz
              clear hz
              have sA := lt_of_heap hA
              by_cases hlt : k < mn
              · have hlf : k < q.ms.length := by have := HMN.out; omega
                obtain ⟨b2, off2, rfl, hb2, hr2⟩ : ∃ b2 off2, ma = some ⟨b2, off2, none⟩ ∧ b2 < w.heap.size ∧ RowsN w b2 off2 5 Mt.cells q.ms := by
                  rcases HQ.out.methods.2.2 with e | e
                  · have : q.ms.length = 0 := by simpa using congrArg List.length e
                    omega
                  · rw [HMA.out] at e; exact e
                obtain ⟨d0, d1, d2, d3, d4⟩ := mrow hr2 hur hb2 hlf
                have hmem : q.ms[k] ∈ q.ms := List.getElem_mem hlf
                have htg := HIN.out.2 _ hmem
                have hnm := (HQ.out.texts _ hmem).1
                have hfd5 : ∀ w', Upd [] w w' → Calls Try.prog 33 #[.pointer (some ⟨C, 0, none⟩), .agg #[i64 q.ms[k].tag, .string q.ms[k].name, .string q.ms[k].inn, .string q.ms[k].out, .bool q.ms[k].ow]] w' fun e w'' => e = .returned (i64 (methodE ds q.ms[k])) ∧ Upd [] w' w'' := fun w' hu => HMT.out w' hu _ hmem
                obtain ⟨E1, hE1⟩ : ∃ E1, rowE (q.fs.map (·.1.tag) ++ (q.ms.take k).map (·.tag)) (q.fs.map (·.1.name) ++ (q.ms.take k).map (·.name)) q.ms[k].tag q.ms[k].name (loF q.d.kind) (hiF q.d.kind) = E1 := ⟨_, rfl⟩
                obtain ⟨E2, hE2⟩ : ∃ E2, methodE ds q.ms[k] = E2 := ⟨_, rfl⟩
                have HFE := Lib.hid (mErr_at (ds := ds) hlf rfl rfl hE1 hE2)
                rw [hE2] at hfd5
                have HF5 := Lib.hid hfd5
                have HTK := Lib.hid (And.intro (take_map_succ (·.tag) hlf) (take_map_succ (·.name) hlf))
                clear hr2 hfd5 hE2
                have hsnx := fun (w' : World) (hu : Upd [] wr w') => row_c (hsn.upd0 hu) (by omega) (by omega) q.ms[k].tag q.ms[k].name (loF q.d.kind) (hiF q.d.kind) htg hnm
                rw [hE1, HLO.out, HHI.out] at hsnx
                rw [List.append_assoc, List.append_assoc, ← HTK.out.1, ← HTK.out.2, Nat.add_assoc] at hsnx
                have sB := lt_of_heap hsn.hB
                have HROW := Lib.hid hsnx
                have HUR := Lib.hid hur
                have HA := Lib.hid hA
                clear hsnx hur hA hsn hmem htg hnm hE1
                generalize hf : q.ms[k] = f at *
                have HF := Lib.hid hf
                clear hf
                go_upto_region 27 with (fail)
                have hX := heap_alloc_new wr (.cells #[i64 f.tag, .string f.name, .string f.inn, .string f.out, .bool f.ow] 42)
                have hux := (Upd.refl [] wr).alloc (.cells #[i64 f.tag, .string f.name, .string f.inn, .string f.out, .bool f.ow] 42)
                have hA4 := heap_alloc_old HA.out (.cells #[i64 f.tag, .string f.name, .string f.inn, .string f.out, .bool f.ow] 42)
                generalize wr.alloc (.cells #[i64 f.tag, .string f.name, .string f.inn, .string f.out, .bool f.ow] 42) = w4 at *
                obtain ⟨X, hXe⟩ : ∃ X, X = wr.heap.size := ⟨_, rfl⟩
                rw [← hXe] at hX sB ⊢
                have hrow := HROW.out _ hux
                have HU4 := Lib.hid (HUR.out.trans' hux)
                have HA4 := Lib.hid hA4
                have HX4 := Lib.hid hX
                have HRW := Lib.hid hrow
                obtain ⟨x0, x1, x2, x3, x4, -⟩ := cells5 hX
                clear hXe hX hux hA4 hrow HROW HA d0 d1 d2 d3 d4 HUR
                go_wp2_with (fail)
                refine HRW.out.mono ?_
                rintro e w5 ⟨rfl, hu5, hsn5⟩
                clear x0 x1 x2 x3 x4
                have hA5 := hu5.keep HA4.out (by simp; omega)
                have hX5 := hu5.keep HX4.out (by simp; omega)
                have hu05 := HU4.out.cutM hu5 (by simp; omega)
                have HSN5 := Lib.hid hsn5
                have HU5 := Lib.hid hu05
                have HA5 := Lib.hid hA5
                have HX5 := Lib.hid hX5
                clear hsn5 hu05 hA5 hX5 hu5 HRW HU4 HA4 HX4
                by_cases hE1 : E1 = 0
                · have hE1b : (E1 != 0) = false := by simpa using hE1
                  have HE1 := Lib.hid hE1
                  clear hE1
                  have hf5 := HF5.out _ HU5.out
                  have HF6 := Lib.hid hf5
                  clear hf5
                  obtain ⟨x0, x1, x2, x3, x4, -⟩ := cells5 HX5.out
                  go_wp2_with (fail)
                  refine HF6.out.mono ?_
                  rintro e w6 ⟨rfl, hu6⟩
                  clear x0 x1 x2 x3 x4
                  have HU6 := Lib.hid hu6
                  have HU06 := Lib.hid (HU5.out.trans' hu6)
                  clear hu6 HF6
                  by_cases hE2 : E2 = 0
                  · have hE2b : (E2 != 0) = false := by simpa using hE2
                    have HE2 := Lib.hid hE2
                    clear hE2
                    go_wp2_with (fail)
                    go_roundw
                    case rel =>
                      refine ⟨k + 1, by go_num, by omega, fun j hj => ?_, (HSN5.out HE1.out).upd0 HU6.out, HU06.out, HU6.out.keep0 HA5.out⟩
                      by_cases e : j = k
                      · subst e; rw [HFE.out, HE1.out, HE2.out]; rfl
                      · exact HZ.out j (by omega)
                    case measure => simp [intOf]; omega
                  · have hE2b : (E2 != 0) = true := by simpa using hE2
                    have HV := Lib.hid (show declE ds i q = E2 from by
                      have h1 : mErr ds q k = E2 := by rw [HFE.out, HE1.out]; simp
                      rw [HV0.out, HV1.out, if_neg (by simp), firstE_hit hlf HZ.out (by rw [h1]; exact hE2), h1, if_pos hE2])
                    clear hE2
                    go_wp2_with (fail)
                    exact hR.out _ _ ⟨by rw [HV.out]; rfl, HU06.out⟩
                · have hE1b : (E1 != 0) = true := by simpa using hE1
                  have HV := Lib.hid (show declE ds i q = E1 from by
                    have h1 : mErr ds q k = E1 := by rw [HFE.out, if_pos hE1]
                    rw [HV0.out, HV1.out, if_neg (by simp), firstE_hit hlf HZ.out (by rw [h1]; exact hE1), h1, if_pos hE1])
                  clear hE1
                  go_wp2_with (fail)
                  exact hR.out _ _ ⟨by rw [HV.out]; rfl, HU5.out⟩
              · have HV2 := Lib.hid (show declE ds i q = if (q.d.kind = 2 ∨ q.d.kind = 3) ∧ q.fs.length = 0 then 12 else 0 from by
                  rw [HV0.out, HV1.out, if_neg (by simp), firstE_all (fun j hj => HZ.out j (by have := HMN.out; omega)), if_neg (by simp)])
                have HUR := Lib.hid hur
                obtain ⟨a0, a1, a2, a3, -⟩ := cells5 hA
                clear hur hA hsn HZ HV0 HV1
                by_cases hf0 : fn = 0
                · have HV := Lib.hid (show declE ds i q = 12 from by
                    rw [HV2.out, if_pos]
                    exact ⟨by rw [HKD.out]; simp, by rw [← HFN.out]; exact hf0⟩)
                  have hf0b : ((fn : Int) == 0) = true := by simpa using hf0
                  clear hf0
                  go_wp2_with (fail)
                  exact hR.out _ _ ⟨by rw [HV.out]; rfl, HUR.out⟩
                · have HV := Lib.hid (show declE ds i q = 0 from by
                    rw [HV2.out, if_neg]
                    rintro ⟨-, h⟩
                    exact hf0 (by rw [HFN.out]; exact h))
                  have hf0b : ((fn : Int) == 0) = false := by simpa using hf0
                  clear hf0
                  go_wp2_with (fail)
                  exact hR.out _ _ ⟨by rw [HV.out]; rfl, HUR.out⟩
      · have e1 : (q.d.kind == 1) = false := by rw [h]; rfl
        have e2 : (q.d.kind == 2) = false := by rw [h]; rfl
        have e3 : (q.d.kind == 3) = false := by rw [h]; rfl
        have e4 : (q.d.kind == 4) = true := by rw [h]; rfl
        have HLO := Lib.hid (show loF q.d.kind = 1 from by rw [h]; rfl)
        have HHI := Lib.hid (show hiF q.d.kind = 255 from by rw [h]; rfl)
        have HKD := Lib.hid h
        clear h
        go_upto_region 14 with (fail)
        obtain ⟨M1, hM1⟩ : ∃ M1, M1 = w2.heap.size := ⟨_, rfl⟩
        have hu3 := ((HU2.out.alloc (.map #[] 0)).alloc (.map #[] 0)).alloc (.cells #[.map (some w2.heap.size), .map (some (w2.heap.size + 1))] 73)
        have hB3 : (((w2.alloc (.map #[] 0)).alloc (.map #[] 0)).alloc (.cells #[.map (some w2.heap.size), .map (some (w2.heap.size + 1))] 73)).heap[w2.heap.size + 1 + 1]? = _ := heap_new3 w2 (.map #[] 0) (.map #[] 0) (.cells #[.map (some w2.heap.size), .map (some (w2.heap.size + 1))] 73)
        have hm1 : IMap (((w2.alloc (.map #[] 0)).alloc (.map #[] 0)).alloc (.cells #[.map (some w2.heap.size), .map (some (w2.heap.size + 1))] 73)) w2.heap.size 0 (oneI []) := ⟨_, ((World.ownsMap_made _ _ _ _).alloc _).alloc _, fun k => by simp [oneI]; rfl⟩
        have hm2 : SMap (((w2.alloc (.map #[] 0)).alloc (.map #[] 0)).alloc (.cells #[.map (some w2.heap.size), .map (some (w2.heap.size + 1))] 73)) (w2.heap.size + 1) 0 (oneI []) := by
          have := (World.ownsMap_made (H := Unit) (w2.alloc (.map #[] 0)) Try.prog 9 (plainElem Try.prog 3)).alloc (.cells #[.map (some w2.heap.size), .map (some (w2.heap.size + 1))] 73)
          rw [show (w2.alloc (.map #[] 0)).heap.size = w2.heap.size + 1 from Array.size_push _] at this
          exact ⟨_, this, fun k => by simp [oneI]; rfl⟩
        have hA3 := heap_alloc_old (heap_alloc_old (heap_alloc_old HA2.out (.map #[] 0)) (.map #[] 0)) (.cells #[.map (some w2.heap.size), .map (some (w2.heap.size + 1))] 73)
        have hAM : A < M1 := by rw [hM1]; exact lt_of_heap HA2.out
        have hwM : w.heap.size ≤ M1 := by rw [hM1]; exact HU2.out.size
        rw [← hM1] at hu3 hB3 hm1 hm2 hA3 ⊢
        have hsn : SnAt _ (M1 + 1 + 1) M1 0 (M1 + 1) 0 [] [] := ⟨hB3, hm1, hm2, ⟨by omega, by omega, by omega⟩, by omega, by omega⟩
        clear hM1 hB3 hm1 hm2 a0 a1 a2 a3 hmm HA2 HU2
        generalize ((w2.alloc (.map #[] 0)).alloc (.map #[] 0)).alloc (.cells #[.map (some M1), .map (some (M1 + 1))] 73) = w3 at *
        have HSN := Lib.hid hsn
        have HU3 := Lib.hid hu3
        have HA3 := Lib.hid hA3
        obtain ⟨a0, a1, a2, a3, -⟩ := cells5 hA3
        clear hsn hu3 hA3
        go_upto_region 15 with (fail)
        go_loopw [54] (fun i wr => ∃ (k : Nat), i = i64 k ∧ k ≤ fn ∧ (∀ j, j < k → fErr ds q j = 0) ∧ SnAt wr (M1 + 1 + 1) M1 k (M1 + 1) k ((q.fs.take k).map (·.1.tag)) ((q.fs.take k).map (·.1.name)) ∧ Upd [] w wr ∧ wr.heap[A]? = some (.cells #[i64 q.d.kind, .string q.d.name, .slice fa fn fc, .slice ma mn mc, i64 q.d.at_] 34 (0, 0))) (fun i _ => fn - (intOf i).toNat)
        case atStart => exact ⟨0, rfl, Nat.zero_le _, fun j hj => by omega, HSN.out, HU3.out, HA3.out⟩
        case round =>
          clear a0 a1 a2 a3
          obtain ⟨k, rfl, hk, hz, hsn, hur, hA⟩ := hrel
          have HZ := Lib.hid hz
          clear hz
          have sA := lt_of_heap hA
          by_cases hlt : k < fn
          · have hlf : k < q.fs.length := by have := HFN.out; omega
            obtain ⟨b2, off2, rfl, hb2, hr2⟩ : ∃ b2 off2, fa = some ⟨b2, off2, none⟩ ∧ b2 < w.heap.size ∧ RowsN w b2 off2 5 Fd.cells (q.fs.map (·.1)) := by
              rcases HQ.out.fields.2.2 with e | e
              · have : q.fs.length = 0 := by simpa using congrArg List.length e
                omega
              · rw [HFA.out] at e; exact e
            have hmm : k < (q.fs.map (·.1)).length := by simpa using hlf
            obtain ⟨d0, d1, d2, d3, d4⟩ := frow hr2 hur hb2 hmm
            have hfe : (q.fs.map (·.1))[k] = q.fs[k].1 := by simp
            rw [hfe] at d0 d1 d2 d3 d4
            have hmem : q.fs[k] ∈ q.fs := List.getElem_mem hlf
            have htg := HIN.out.1 _ hmem
            have hnm := (HQ.out.types _ hmem).1
            have hfd5 : ∀ w', Upd [] w w' → Calls Try.prog 32 #[.pointer (some ⟨C, 0, none⟩), .agg #[i64 q.d.kind, .string q.d.name, .slice (some ⟨b2, off2, none⟩) fn fc, .slice ma mn mc, i64 q.d.at_], .agg #[i64 q.fs[k].1.tag, .string q.fs[k].1.name, i64 q.fs[k].1.kind, .string q.fs[k].1.tn, .slice q.fs[k].1.oa q.fs[k].1.on q.fs[k].1.oc]] w' fun e w'' => e = .returned (i64 (fieldE ds q.d.kind q.fs[k])) ∧ Upd [] w' w'' := fun w' hu => HFD.out w' hu _ hmem
            obtain ⟨E1, hE1⟩ : ∃ E1, rowE ((q.fs.take k).map (·.1.tag)) ((q.fs.take k).map (·.1.name)) q.fs[k].1.tag q.fs[k].1.name (loF q.d.kind) (hiF q.d.kind) = E1 := ⟨_, rfl⟩
            obtain ⟨E2, hE2⟩ : ∃ E2, fieldE ds q.d.kind q.fs[k] = E2 := ⟨_, rfl⟩
            have HFE := Lib.hid (fErr_at (ds := ds) hlf rfl rfl hE1 hE2)
            rw [hE2] at hfd5
            have HF5 := Lib.hid hfd5
            have HTK := Lib.hid (And.intro (take_map_succ (·.1.tag) hlf) (take_map_succ (·.1.name) hlf))
            clear hfe hmm hr2 hfd5 hE2
            have hsnx := fun (w' : World) (hu : Upd [] wr w') => row_c (hsn.upd0 hu) (by omega) (by omega) q.fs[k].1.tag q.fs[k].1.name (loF q.d.kind) (hiF q.d.kind) htg hnm
            rw [hE1, HLO.out, HHI.out] at hsnx
            rw [← HTK.out.1, ← HTK.out.2] at hsnx
            have sB := lt_of_heap hsn.hB
            have HROW := Lib.hid hsnx
            have HUR := Lib.hid hur
            have HA := Lib.hid hA
            clear hsnx hur hA hsn hmem htg hnm hE1
            generalize hf : q.fs[k].1 = f at *
            have HF := Lib.hid hf
            clear hf
            go_upto_region 17 with (fail)
            have hX := heap_alloc_new wr (.cells #[i64 f.tag, .string f.name, i64 f.kind, .string f.tn, .slice f.oa f.on f.oc] 60)
            have hux := (Upd.refl [] wr).alloc (.cells #[i64 f.tag, .string f.name, i64 f.kind, .string f.tn, .slice f.oa f.on f.oc] 60)
            have hA4 := heap_alloc_old HA.out (.cells #[i64 f.tag, .string f.name, i64 f.kind, .string f.tn, .slice f.oa f.on f.oc] 60)
            generalize wr.alloc (.cells #[i64 f.tag, .string f.name, i64 f.kind, .string f.tn, .slice f.oa f.on f.oc] 60) = w4 at *
            obtain ⟨X, hXe⟩ : ∃ X, X = wr.heap.size := ⟨_, rfl⟩
            rw [← hXe] at hX sB ⊢
            have hrow := HROW.out _ hux
            have HU4 := Lib.hid (HUR.out.trans' hux)
            have HA4 := Lib.hid hA4
            have HX4 := Lib.hid hX
            have HRW := Lib.hid hrow
            obtain ⟨x0, x1, x2, x3, x4, -⟩ := cells5 hX
            clear hXe hX hux hA4 hrow HROW HA d0 d1 d2 d3 d4 HUR
            go_wp2_with (fail)
            refine HRW.out.mono ?_
            rintro e w5 ⟨rfl, hu5, hsn5⟩
            clear x0 x1 x2 x3 x4
            have hA5 := hu5.keep HA4.out (by simp; omega)
            have hX5 := hu5.keep HX4.out (by simp; omega)
            have hu05 := HU4.out.cutM hu5 (by simp; omega)
            have HSN5 := Lib.hid hsn5
            have HU5 := Lib.hid hu05
            have HA5 := Lib.hid hA5
            have HX5 := Lib.hid hX5
            clear hsn5 hu05 hA5 hX5 hu5 HRW HU4 HA4 HX4
            by_cases hE1 : E1 = 0
            · have hE1b : (E1 != 0) = false := by simpa using hE1
              have HE1 := Lib.hid hE1
              clear hE1
              have hf5 := HF5.out _ HU5.out
              have HF6 := Lib.hid hf5
              clear hf5
              obtain ⟨a0, a1, a2, a3, a4, -⟩ := cells5 HA5.out
              obtain ⟨x0, x1, x2, x3, x4, -⟩ := cells5 HX5.out
              go_upto_region 20 with (fail)
              go_wp2_with (fail)
              refine HF6.out.mono ?_
              rintro e w6 ⟨rfl, hu6⟩
              clear a0 a1 a2 a3 a4 x0 x1 x2 x3 x4
              have HU6 := Lib.hid hu6
              have HU06 := Lib.hid (HU5.out.trans' hu6)
              clear hu6 HF6
              by_cases hE2 : E2 = 0
              · have hE2b : (E2 != 0) = false := by simpa using hE2
                have HE2 := Lib.hid hE2
                clear hE2
                go_wp2_with (fail)
                go_roundw
                case rel =>
                  refine ⟨k + 1, by go_num, by omega, fun j hj => ?_, (HSN5.out HE1.out).upd0 HU6.out, HU06.out, HU6.out.keep0 HA5.out⟩
                  by_cases e : j = k
                  · subst e; rw [HFE.out, HE1.out, HE2.out]; rfl
                  · exact HZ.out j (by omega)
                case measure => simp [intOf]; omega
              · have hE2b : (E2 != 0) = true := by simpa using hE2
                have HV := Lib.hid (show declE ds i q = E2 from by
                  have h1 : fErr ds q k = E2 := by rw [HFE.out, HE1.out]; simp
                  rw [HV0.out, firstE_hit hlf HZ.out (by rw [h1]; exact hE2), h1, if_pos hE2])
                clear hE2
                go_wp2_with (fail)
                exact hR.out _ _ ⟨by rw [HV.out]; rfl, HU06.out⟩
            · have hE1b : (E1 != 0) = true := by simpa using hE1
              have HV := Lib.hid (show declE ds i q = E1 from by
                have h1 : fErr ds q k = E1 := by rw [HFE.out, if_pos hE1]
                rw [HV0.out, firstE_hit hlf HZ.out (by rw [h1]; exact hE1), h1, if_pos hE1])
              clear hE1
              go_wp2_with (fail)
              exact hR.out _ _ ⟨by rw [HV.out]; rfl, HU5.out⟩
          · have HV1 := Lib.hid (show firstE (fErr ds q) q.fs.length = 0 from firstE_all (fun j hj => HZ.out j (by have := HFN.out; omega)))
            have hkF : k = q.fs.length := by have := HFN.out; omega
            rw [hkF, List.take_length] at hsn
            have HSN4 := Lib.hid hsn
            have HU4 := Lib.hid hur
            have HA4 := Lib.hid hA
            clear hkF hsn hur hA HA3 HSN HU3
            obtain ⟨a0, a1, a2, a3, -⟩ := cells5 HA4.out
            go_upto_region 25 with (fail)
            go_loopw [80] (fun i wq => ∃ (k : Nat), i = i64 k ∧ k ≤ mn ∧ (∀ j, j < k → mErr ds q j = 0) ∧ SnAt wq (M1 + 1 + 1) M1 (q.fs.length + k) (M1 + 1) (q.fs.length + k) (q.fs.map (·.1.tag) ++ (q.ms.take k).map (·.tag)) (q.fs.map (·.1.name) ++ (q.ms.take k).map (·.name)) ∧ Upd [] w wq ∧ wq.heap[A]? = some (.cells #[i64 q.d.kind, .string q.d.name, .slice fa fn fc, .slice ma mn mc, i64 q.d.at_] 34 (0, 0))) (fun i _ => mn - (intOf i).toNat)
            case atStart =>
              refine ⟨0, rfl, Nat.zero_le _, fun j hj => by omega, ?_, HU4.out, HA4.out⟩
              rw [List.take_zero, List.map_nil, List.map_nil, List.append_nil, List.append_nil]
              exact HSN4.out
            case round =>
              clear a0 a1 a2 a3 hlt hk HZ sA HSN4 HU4 HA4
              obtain ⟨k, rfl, hk, hz, hsn, hur, hA⟩ := hrel
              have HZ := Lib.hid hz
              clear hz
              have sA := lt_of_heap hA
              by_cases hlt : k < mn
              · have hlf : k < q.ms.length := by have := HMN.out; omega
                obtain ⟨b2, off2, rfl, hb2, hr2⟩ : ∃ b2 off2, ma = some ⟨b2, off2, none⟩ ∧ b2 < w.heap.size ∧ RowsN w b2 off2 5 Mt.cells q.ms := by
                  rcases HQ.out.methods.2.2 with e | e
                  · have : q.ms.length = 0 := by simpa using congrArg List.length e
                    omega
                  · rw [HMA.out] at e; exact e
                obtain ⟨d0, d1, d2, d3, d4⟩ := mrow hr2 hur hb2 hlf
                have hmem : q.ms[k] ∈ q.ms := List.getElem_mem hlf
                have htg := HIN.out.2 _ hmem
                have hnm := (HQ.out.texts _ hmem).1
                have hfd5 : ∀ w', Upd [] w w' → Calls Try.prog 33 #[.pointer (some ⟨C, 0, none⟩), .agg #[i64 q.ms[k].tag, .string q.ms[k].name, .string q.ms[k].inn, .string q.ms[k].out, .bool q.ms[k].ow]] w' fun e w'' => e = .returned (i64 (methodE ds q.ms[k])) ∧ Upd [] w' w'' := fun w' hu => HMT.out w' hu _ hmem
                obtain ⟨E1, hE1⟩ : ∃ E1, rowE (q.fs.map (·.1.tag) ++ (q.ms.take k).map (·.tag)) (q.fs.map (·.1.name) ++ (q.ms.take k).map (·.name)) q.ms[k].tag q.ms[k].name (loF q.d.kind) (hiF q.d.kind) = E1 := ⟨_, rfl⟩
                obtain ⟨E2, hE2⟩ : ∃ E2, methodE ds q.ms[k] = E2 := ⟨_, rfl⟩
                have HFE := Lib.hid (mErr_at (ds := ds) hlf rfl rfl hE1 hE2)
                rw [hE2] at hfd5
                have HF5 := Lib.hid hfd5
                have HTK := Lib.hid (And.intro (take_map_succ (·.tag) hlf) (take_map_succ (·.name) hlf))
                clear hr2 hfd5 hE2
                have hsnx := fun (w' : World) (hu : Upd [] wr w') => row_c (hsn.upd0 hu) (by omega) (by omega) q.ms[k].tag q.ms[k].name (loF q.d.kind) (hiF q.d.kind) htg hnm
                rw [hE1, HLO.out, HHI.out] at hsnx
                rw [List.append_assoc, List.append_assoc, ← HTK.out.1, ← HTK.out.2, Nat.add_assoc] at hsnx
                have sB := lt_of_heap hsn.hB
                have HROW := Lib.hid hsnx
                have HUR := Lib.hid hur
                have HA := Lib.hid hA
                clear hsnx hur hA hsn hmem htg hnm hE1
                generalize hf : q.ms[k] = f at *
                have HF := Lib.hid hf
                clear hf
                go_upto_region 27 with (fail)
                have hX := heap_alloc_new wr (.cells #[i64 f.tag, .string f.name, .string f.inn, .string f.out, .bool f.ow] 42)
                have hux := (Upd.refl [] wr).alloc (.cells #[i64 f.tag, .string f.name, .string f.inn, .string f.out, .bool f.ow] 42)
                have hA4 := heap_alloc_old HA.out (.cells #[i64 f.tag, .string f.name, .string f.inn, .string f.out, .bool f.ow] 42)
                generalize wr.alloc (.cells #[i64 f.tag, .string f.name, .string f.inn, .string f.out, .bool f.ow] 42) = w4 at *
                obtain ⟨X, hXe⟩ : ∃ X, X = wr.heap.size := ⟨_, rfl⟩
                rw [← hXe] at hX sB ⊢
                have hrow := HROW.out _ hux
                have HU4 := Lib.hid (HUR.out.trans' hux)
                have HA4 := Lib.hid hA4
                have HX4 := Lib.hid hX
                have HRW := Lib.hid hrow
                obtain ⟨x0, x1, x2, x3, x4, -⟩ := cells5 hX
                clear hXe hX hux hA4 hrow HROW HA d0 d1 d2 d3 d4 HUR
                go_wp2_with (fail)
                refine HRW.out.mono ?_
                rintro e w5 ⟨rfl, hu5, hsn5⟩
                clear x0 x1 x2 x3 x4
                have hA5 := hu5.keep HA4.out (by simp; omega)
                have hX5 := hu5.keep HX4.out (by simp; omega)
                have hu05 := HU4.out.cutM hu5 (by simp; omega)
                have HSN5 := Lib.hid hsn5
                have HU5 := Lib.hid hu05
                have HA5 := Lib.hid hA5
                have HX5 := Lib.hid hX5
                clear hsn5 hu05 hA5 hX5 hu5 HRW HU4 HA4 HX4
                by_cases hE1 : E1 = 0
                · have hE1b : (E1 != 0) = false := by simpa using hE1
                  have HE1 := Lib.hid hE1
                  clear hE1
                  have hf5 := HF5.out _ HU5.out
                  have HF6 := Lib.hid hf5
                  clear hf5
                  obtain ⟨x0, x1, x2, x3, x4, -⟩ := cells5 HX5.out
                  go_wp2_with (fail)
                  refine HF6.out.mono ?_
                  rintro e w6 ⟨rfl, hu6⟩
                  clear x0 x1 x2 x3 x4
                  have HU6 := Lib.hid hu6
                  have HU06 := Lib.hid (HU5.out.trans' hu6)
                  clear hu6 HF6
                  by_cases hE2 : E2 = 0
                  · have hE2b : (E2 != 0) = false := by simpa using hE2
                    have HE2 := Lib.hid hE2
                    clear hE2
                    go_wp2_with (fail)
                    go_roundw
                    case rel =>
                      refine ⟨k + 1, by go_num, by omega, fun j hj => ?_, (HSN5.out HE1.out).upd0 HU6.out, HU06.out, HU6.out.keep0 HA5.out⟩
                      by_cases e : j = k
                      · subst e; rw [HFE.out, HE1.out, HE2.out]; rfl
                      · exact HZ.out j (by omega)
                    case measure => simp [intOf]; omega
                  · have hE2b : (E2 != 0) = true := by simpa using hE2
                    have HV := Lib.hid (show declE ds i q = E2 from by
                      have h1 : mErr ds q k = E2 := by rw [HFE.out, HE1.out]; simp
                      rw [HV0.out, HV1.out, if_neg (by simp), firstE_hit hlf HZ.out (by rw [h1]; exact hE2), h1, if_pos hE2])
                    clear hE2
                    go_wp2_with (fail)
                    exact hR.out _ _ ⟨by rw [HV.out]; rfl, HU06.out⟩
                · have hE1b : (E1 != 0) = true := by simpa using hE1
                  have HV := Lib.hid (show declE ds i q = E1 from by
                    have h1 : mErr ds q k = E1 := by rw [HFE.out, if_pos hE1]
                    rw [HV0.out, HV1.out, if_neg (by simp), firstE_hit hlf HZ.out (by rw [h1]; exact hE1), h1, if_pos hE1])
                  clear hE1
                  go_wp2_with (fail)
                  exact hR.out _ _ ⟨by rw [HV.out]; rfl, HU5.out⟩
              · have HV2 := Lib.hid (show declE ds i q = if (q.d.kind = 2 ∨ q.d.kind = 3) ∧ q.fs.length = 0 then 12 else 0 from by
                  rw [HV0.out, HV1.out, if_neg (by simp), firstE_all (fun j hj => HZ.out j (by have := HMN.out; omega)), if_neg (by simp)])
                have HUR := Lib.hid hur
                obtain ⟨a0, a1, a2, a3, -⟩ := cells5 hA
                clear hur hA hsn HZ HV0 HV1
                have HV := Lib.hid (show declE ds i q = 0 from by rw [HV2.out, if_neg]; rw [HKD.out]; simp)
                go_wp2_with (fail)
                exact hR.out _ _ ⟨by rw [HV.out]; rfl, HUR.out⟩
    · have e1 : (q.d.kind == 1) = false := by simp; omega
      have e2 : (q.d.kind == 2) = false := by simp; omega
      have e3 : (q.d.kind == 3) = false := by simp; omega
      have e4 : (q.d.kind == 4) = false := by simp; omega
      have HV := Lib.hid (show declE ds i q = 4 from by unfold declE; rw [if_neg (by rw [HFI.out]; simpa using hne), if_pos hk])
      clear hk hne
      go_wp2_with (fail)
      exact hR.out _ _ ⟨by rw [HV.out]; rfl, HU2.out⟩
  · have hq1 : (fi != (i : Int)) = true := by simpa using hne
    have HV := Lib.hid (show declE ds i q = 7 from by unfold declE; rw [if_pos (by rw [HFI.out]; exact hne)])
    clear hne
    go_wp2_with (fail)
    exact hR.out _ _ ⟨by rw [HV.out]; rfl, HU2.out⟩
end
end Go.Proofs.Ytagnclphmhjoiaa
