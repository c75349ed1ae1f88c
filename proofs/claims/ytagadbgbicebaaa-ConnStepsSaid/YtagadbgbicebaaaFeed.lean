/-
  The contract of (*Feed).Push, at any place of a block. Conditions: the bytes are a million at most.
-/
import Derived.Test.YtagadbgbicebaaaAllF
import Derived.ScopeJumps
import Derived.WalkMore
namespace Go.Proofs.Ytagadbgbicebaaa
open Go Go.RowKit

theorem info_frame : (Try.prog.info? 23).map (fun i => (i.zero, i.size, i.bytes)) = some (some (.agg #[.int .i64 0, .int .i64 0, .string ⟨#[]⟩]), 3, 32) := by kernel_rfl

theorem bs_append (a b : List UInt8) : bs a ++ bs b = bs (a ++ b) := by apply ByteArray.ext; simp
theorem bs_self (s : ByteArray) : bs s.data.toList = s := rfl
theorem bs_drop (l : List UInt8) (n : Nat) : (bs l).extract n (bs l).size = bs (l.drop n) := by
  apply ByteArray.ext
  have : (bs l).size = l.length := size_bs l
  simp [ByteArray.data_extract, this]
  exact List.take_of_length_le (by simp)

theorem Upd.grownBy {w w' : World} (h : Upd [] w w') : w.grownBy w' none := ⟨h.os, h.tape, h.output, h.size, fun k hk _ => h.block k hk (by simp)⟩

/-- the frame at the label -/
def feedFr (b off : Nat) (s t : ByteArray) (v : Value) (a' : Act) : Prop :=
  ∃ (u6 u7 u8 u27 u28 u29 u30 u31 u32 u33 u34 u35 u36 u37 u38 u39 u40 u41 u42 u43 u44 u45 u46 u47 u48 u49 u50 u51 u52 u53 u54 u55 u56 u57 u58 u59 u60 u61 : Value), a' = { tmps := #[.pointer (some ⟨b, off, none⟩), .string t, undef, undef, .slice none 0 0, v, u6, u7, u8, .pointer (some ⟨b, off, none⟩), .bool false, .bool false, .pointer (some ⟨b, off, none⟩), .pointer (some ⟨b, off, none⟩), .pointer (some ⟨b, off + 1, none⟩), i64 0, .bool false, .bool false, undef, .pointer (some ⟨b, off, none⟩), .pointer (some ⟨b, off, none⟩), .pointer (some ⟨b, off, none⟩), .string s, .string t, .string (s ++ t), .pointer (some ⟨b, off, none⟩), .pointer (some ⟨b, off, none⟩), u27, u28, u29, u30, u31, u32, u33, u34, u35, u36, u37, u38, u39, u40, u41, u42, u43, u44, u45, u46, u47, u48, u49, u50, u51, u52, u53, u54, u55, u56, u57, u58, u59, u60, u61], defers := [] }

/-- what holds at the label: cur is what is left, done the frames that are told, of all that there are -/
structure FeedJ (w : World) (b off : Nat) (cs : Array Value) (ty : TypeId) (all : Fed) (s t : ByteArray) (a' : Act) (w' : World) (cur : List UInt8) (done : List Fm) (v : Value) : Prop where
  fr : feedFr b off s t v a'
  heap : w'.heap[b]? = some (.cells (cs.setIfInBounds off (.string (bs cur))) ty (0, 0))
  own : w'.ownsRow w.heap.size 23 3 v done.length (fmCells done)
  upd : Upd [b] w w'
  out : done ++ (allFr cur).out = all.out
  rest : (allFr cur).rest = all.rest
  e : (allFr cur).e = all.e
  len : done.length * 4 + cur.length ≤ 1000000

def curLen (a' : World) (b off : Nat) : Nat := match a'.cell? ⟨b, off, none⟩ with | some (.string s) => s.size | _ => 0

/-- what a push leaves -/
def Pushed (w : World) (b off : Nat) (cs : Array Value) (ty : TypeId) (all : Fed) (e : Ending) (w' : World) : Prop :=
  ∃ v, e = .returned v ∧ w'.ownsRow w.heap.size 23 3 v all.out.length (fmCells all.out) ∧ Upd [b] w w' ∧
    w'.heap[b]? = some (.cells ((cs.setIfInBounds off (.string (bs all.rest))).setIfInBounds (off + 1) (i64 all.e)) ty (0, 0))

set_option maxRecDepth 100000 in
set_option maxHeartbeats 2000000 in
theorem push_c {w : World} {b off : Nat} {cs : Array Value} {ty : TypeId} {s : ByteArray} (hb : w.heap[b]? = some (.cells cs ty (0, 0))) (h0 : cs[off]? = some (.string s)) (h1 : cs[off + 1]? = some (i64 0))
    (t : ByteArray) (hlen : s.size + t.size ≤ 1000000) :
    Calls Try.prog 26 #[.pointer (some ⟨b, off, none⟩), .string t] w (Pushed w b off cs ty (allFr (s.data.toList ++ t.data.toList))) := by
  have c0 := (cellOf hb off).trans h0
  have c1 := (cellOf hb (off + 1)).trans h1
  have f0 := frzOf hb off
  have f1 := frzOf hb (off + 1)
  have hl : (s.data.toList ++ t.data.toList).length = s.size + t.size := by rw [List.length_append]; rfl
  generalize hall : allFr (s.data.toList ++ t.data.toList) = all at *
  have HB := Lib.hid hb
  have H0 := Lib.hid h0
  have H1 := Lib.hid h1
  have HL := Lib.hid hl
  have HALL := Lib.hid hall
  clear hb h0 h1 hl hall
  refine post fun R hR => ?_
  go_enter Try.func26, Try.ntmps26
  go_wp2_with fail
  refine wp_scope_jumps 0 (fun a' w' => ∃ cur done v, FeedJ w b off cs ty all s t a' w' cur done v) (fun _ w' => curLen w' b off) rfl ?_ ?_
  · go_wp2_with fail
    go_step3
    generalize hwr : w.setCell _ _ = wr
    have hst : s ++ t = bs (s.data.toList ++ t.data.toList) := by rw [← bs_append]
    obtain ⟨cur, hcur⟩ : ∃ cur, cur = s.data.toList ++ t.data.toList := ⟨_, rfl⟩
    obtain ⟨v, hv⟩ : ∃ v, v = Value.slice none 0 0 := ⟨_, rfl⟩
    obtain ⟨done, hdone⟩ : ∃ done : List Fm, done = [] := ⟨_, rfl⟩
    have hheap : wr.heap[b]? = some (.cells (cs.setIfInBounds off (.string (bs cur))) ty (0, 0)) := by
      rw [← hwr, hcur, ← hst]; exact heap_setCell HB.out _ _
    have hown : wr.ownsRow w.heap.size 23 3 v done.length (fmCells done) := by rw [hv, hdone]; exact World.ownsRow_nil _ _ _ _
    have hupd : Upd [b] w wr := by rw [← hwr]; exact (Upd.refl _ _).setCell (by simp) _
    have hout : done ++ (allFr cur).out = all.out := by rw [hdone, hcur, HALL.out]; rfl
    have hrest : (allFr cur).rest = all.rest := by rw [hcur, HALL.out]
    have he : (allFr cur).e = all.e := by rw [hcur, HALL.out]
    have hlen2 : done.length * 4 + cur.length ≤ 1000000 := by rw [hdone, hcur, HL.out]; simpa using hlen
    rw [← hv]
    have HV := Lib.hid hv
    clear hwr hst hcur hv hdone c0 c1 f0 f1
    have k0 := (cellOf hheap off).trans (set_self (v := .string (bs cur)) H0.out)
    have hm : curLen wr b off = cur.length := by unfold curLen; rw [k0]; exact size_bs cur
    have HM := Lib.hid hm
    clear hm
    have k1 := (cellOf hheap (off + 1)).trans (set_ne (.string (bs cur)) (by omega) H1.out)
    have g0 := frzOf hheap off
    have g1 := frzOf hheap (off + 1)
    have hfin : (tk cur).e = 0 → 4 ≤ (tk cur).n ∧ (tk cur).n ≤ cur.length ∧ (tk cur).n ≤ 1028 := tk_ok
    have hq : b < wr.heap.size := lt_of_heap hheap
    have HF := Lib.hid hfin
    have hsz := size_bs cur
    have HSZ := Lib.hid hsz
    clear hfin hsz
    go_wp2_with fail
    refine Calls.mono (take3_c cur _ (by unfold maxLen; omega)) ?_
    rintro e w2 ⟨rfl, hu2⟩
    have hheap2 := hu2.keep0 hheap
    have hown2 := hown.kept hu2.grownBy (Classical.em _)
    have hupd2 := hupd.trans hu2 (by simp)
    have k02 := (cellOf hheap2 off).trans (set_self H0.out)
    have k12 := (cellOf hheap2 (off + 1)).trans (set_ne (.string (bs cur)) (by omega) H1.out)
    have g02 := frzOf hheap2 off
    have g12 := frzOf hheap2 (off + 1)
    have s2 : b < w2.heap.size := lt_of_heap hheap2
    have s3 : w.heap.size ≤ w2.heap.size := hupd2.size
    clear k0 k1 g0 g1 hown hu2 hupd
    by_cases e2 : (tk cur).e = 2
    · have hfr2 := allFr_two cur e2
      rw [e2]
      rw [hfr2] at hout hrest he
      have HO := Lib.hid hout
      have HR := Lib.hid hrest
      have HE := Lib.hid he
      clear hout hrest he hfr2 e2
      go_wp2_with fail
      have hfinal : Pushed w b off cs ty all (.returned v) (w2.alloc (.cells #[i64 (tk cur).k, i64 (tk cur).f, .string (bs (tk cur).body)] 23)) := by
        refine ⟨v, rfl, ?_, hupd2.alloc _, ?_⟩
        · rw [← HO.out]; simpa using hown2.alloc _
        · rw [← HR.out, ← HE.out, set_same (set_ne _ (by omega) H1.out)]
          exact heap_alloc_old hheap2 _
      exact hR.out _ _ hfinal
    · by_cases e0 : (tk cur).e = 0
      · have hfr2 := allFr_ok cur e0
        have hk := HF.out e0
        rw [e0]
        rw [hfr2] at hout hrest he
        have HO := Lib.hid hout
        have HR := Lib.hid hrest
        have HE := Lib.hid he
        have hn1 : ((tk cur).n : Int) ≤ (bs cur).size := by rw [HSZ.out]; omega
        have hn2 : (tk cur).n ≤ (bs cur).size := by rw [HSZ.out]; omega
        clear hout hrest he hfr2 e0 e2
        obtain ⟨i0, hi, hz0, hz1, hz2⟩ := info_parts info_frame
        go_wp2_with (at_builtin; refine wpList_append_own _ rfl _ _ 42 rfl w.heap.size 23 i0 (.agg #[.int .i64 0, .int .i64 0, .string ⟨#[]⟩]) 3 32 Try.underlying42 hi hz0 hz1 hz2 rfl (by decide) _ _ _ rfl ((hown2.alloc _).alloc _) ⟨w2.heap.size + 1, 0, none⟩ 1 1 [i64 (tk cur).k, i64 (tk cur).f, .string (bs (tk cur).body)] rfl rfl ?_ ?_ ?_ ?_ ?_ ?_)
        · exact new_cells (heap_new2 w2 _ _)
        · intro u hu
          simp only [List.mem_cons, List.not_mem_nil, or_false] at hu
          rcases hu with rfl | rfl | rfl <;> rfl
        · unfold maxLen; omega
        · omega
        · simp; omega
        · intro v' w3 hown3 hg _
          have hupd3 : Upd [b] w w3 := ((hupd2.alloc _).alloc _).grown hg (fun k hk => .inr (hown2.lt k hk).1)
          have hne : some b ≠ v.ownBlock := fun e => by
            have h1 := (hown2.lt b e.symm).1
            have h2 := lt_of_heap HB.out
            omega
          have hheap3 := (hg.block b (by simp; omega) hne).trans (heap_alloc_old (heap_alloc_old hheap2 (.cells #[i64 (tk cur).k, i64 (tk cur).f, .string (bs (tk cur).body)] 23)) (.cells #[i64 (tk cur).k, i64 (tk cur).f, .string (bs (tk cur).body)] 23))
          have k03 := (cellOf hheap3 off).trans (set_self H0.out)
          have g03 := frzOf hheap3 off
          clear hheap2 hown2 hupd2 k02 k12 g02 g12 hg
          go_wp2_with fail
          have hd : (bs cur).extract (tk cur).n cur.length = bs (cur.drop (tk cur).n) := by rw [← bs_drop, HSZ.out]
          rw [hd]
          have hvb : v'.ownBlock ≠ some b := fun e => by
            have h1 := (hown3.lt b e).1
            have h2 := lt_of_heap HB.out
            omega
          have hheap4 : (w3.setCell ⟨b, off, none⟩ (.string (bs (cur.drop (tk cur).n)))).heap[b]? = some (.cells (cs.setIfInBounds off (.string (bs (cur.drop (tk cur).n)))) ty (0, 0)) := by
            have := heap_setCell hheap3 off (.string (bs (cur.drop (tk cur).n)))
            rw [Array.setIfInBounds_setIfInBounds] at this
            exact this
          have hJ : ∀ a', feedFr b off s t v' a' → FeedJ w b off cs ty all s t a' (w3.setCell ⟨b, off, none⟩ (.string (bs (cur.drop (tk cur).n)))) (cur.drop (tk cur).n) (done ++ [⟨(tk cur).k, (tk cur).f, (tk cur).body⟩]) v' := fun a' hfr =>
            ⟨hfr, hheap4, by rw [fmCells_append, List.length_append]; exact ownsRow_setCell_other hown3 hvb _,
              hupd3.setCell (by simp) _, by rw [List.append_assoc]; exact HO.out, HR.out, HE.out, by rw [List.length_append, List.length_drop]; simp; omega⟩
          have hv0 := HV.out; subst hv0
          go_step3
          exact ⟨rfl, _, _, _, hJ _ ⟨_, _, _, _, _, _, _, _, _, _, _, _, _, _, _, _, _, _, _, _, _, _, _, _, _, _, _, _, _, _, _, _, _, _, _, _, _, _, rfl⟩⟩
      · have hfr2 := allFr_bad cur e2 e0
        rw [hfr2] at hout hrest he
        have HO := Lib.hid hout
        have HR := Lib.hid hrest
        have HE := Lib.hid he
        have q0 : ((tk cur).e == 0) = false := by simpa using e0
        have q2 : ((tk cur).e == 2) = false := by simpa using e2
        clear hout hrest he hfr2 e0 e2
        go_wp2_with fail
        have hvb : v.ownBlock ≠ some b := fun e => by
          have h1 := (hown2.lt b e).1
          have h2 := lt_of_heap HB.out
          omega
        refine hR.out _ _ ⟨v, rfl, ?_, ?_, ?_⟩
        · rw [← HO.out, List.append_nil]
          exact (ownsRow_setCell_other (ownsRow_setCell_other hown2 hvb _) hvb _).alloc _
        · refine Upd.alloc (Upd.setCell (Upd.setCell hupd2 (by simp) _) (by simp) _) _
        · rw [← HR.out, ← HE.out]
          have := heap_setCell (heap_setCell hheap2 off (.string ⟨#[]⟩)) (off + 1) (i64 (tk cur).e)
          rw [Array.setIfInBounds_setIfInBounds] at this
          exact heap_alloc_old this _
  · rintro a' wr ⟨cur, done, v, hJ⟩
    obtain ⟨hfr, hheap, hown, hupd, hout, hrest, he, hlen2⟩ := hJ
    obtain ⟨u6, u7, u8, u27, u28, u29, u30, u31, u32, u33, u34, u35, u36, u37, u38, u39, u40, u41, u42, u43, u44, u45, u46, u47, u48, u49, u50, u51, u52, u53, u54, u55, u56, u57, u58, u59, u60, u61, rfl⟩ := hfr
    clear c0 c1 f0 f1
    have k0 := (cellOf hheap off).trans (set_self (v := .string (bs cur)) H0.out)
    have hm : curLen wr b off = cur.length := by unfold curLen; rw [k0]; exact size_bs cur
    have HM := Lib.hid hm
    clear hm
    have k1 := (cellOf hheap (off + 1)).trans (set_ne (.string (bs cur)) (by omega) H1.out)
    have g0 := frzOf hheap off
    have g1 := frzOf hheap (off + 1)
    have hfin : (tk cur).e = 0 → 4 ≤ (tk cur).n ∧ (tk cur).n ≤ cur.length ∧ (tk cur).n ≤ 1028 := tk_ok
    have hq : b < wr.heap.size := lt_of_heap hheap
    have HF := Lib.hid hfin
    have hsz := size_bs cur
    have HSZ := Lib.hid hsz
    clear hfin hsz
    go_wp2_with fail
    refine Calls.mono (take3_c cur _ (by unfold maxLen; omega)) ?_
    rintro e w2 ⟨rfl, hu2⟩
    have hheap2 := hu2.keep0 hheap
    have hown2 := hown.kept hu2.grownBy (Classical.em _)
    have hupd2 := hupd.trans hu2 (by simp)
    have k02 := (cellOf hheap2 off).trans (set_self H0.out)
    have k12 := (cellOf hheap2 (off + 1)).trans (set_ne (.string (bs cur)) (by omega) H1.out)
    have g02 := frzOf hheap2 off
    have g12 := frzOf hheap2 (off + 1)
    have s2 : b < w2.heap.size := lt_of_heap hheap2
    have s3 : w.heap.size ≤ w2.heap.size := hupd2.size
    clear k0 k1 g0 g1 hown hu2 hupd
    by_cases e2 : (tk cur).e = 2
    · have hfr2 := allFr_two cur e2
      rw [e2]
      rw [hfr2] at hout hrest he
      have HO := Lib.hid hout
      have HR := Lib.hid hrest
      have HE := Lib.hid he
      clear hout hrest he hfr2 e2
      go_wp2_with fail
      have hfinal : Pushed w b off cs ty all (.returned v) (w2.alloc (.cells #[i64 (tk cur).k, i64 (tk cur).f, .string (bs (tk cur).body)] 23)) := by
        refine ⟨v, rfl, ?_, hupd2.alloc _, ?_⟩
        · rw [← HO.out]; simpa using hown2.alloc _
        · rw [← HR.out, ← HE.out, set_same (set_ne _ (by omega) H1.out)]
          exact heap_alloc_old hheap2 _
      exact hR.out _ _ hfinal
    · by_cases e0 : (tk cur).e = 0
      · have hfr2 := allFr_ok cur e0
        have hk := HF.out e0
        rw [e0]
        rw [hfr2] at hout hrest he
        have HO := Lib.hid hout
        have HR := Lib.hid hrest
        have HE := Lib.hid he
        have hn1 : ((tk cur).n : Int) ≤ (bs cur).size := by rw [HSZ.out]; omega
        have hn2 : (tk cur).n ≤ (bs cur).size := by rw [HSZ.out]; omega
        clear hout hrest he hfr2 e0 e2
        obtain ⟨i0, hi, hz0, hz1, hz2⟩ := info_parts info_frame
        go_wp2_with (at_builtin; refine wpList_append_own _ rfl _ _ 42 rfl w.heap.size 23 i0 (.agg #[.int .i64 0, .int .i64 0, .string ⟨#[]⟩]) 3 32 Try.underlying42 hi hz0 hz1 hz2 rfl (by decide) _ _ _ rfl ((hown2.alloc _).alloc _) ⟨w2.heap.size + 1, 0, none⟩ 1 1 [i64 (tk cur).k, i64 (tk cur).f, .string (bs (tk cur).body)] rfl rfl ?_ ?_ ?_ ?_ ?_ ?_)
        · exact new_cells (heap_new2 w2 _ _)
        · intro u hu
          simp only [List.mem_cons, List.not_mem_nil, or_false] at hu
          rcases hu with rfl | rfl | rfl <;> rfl
        · unfold maxLen; omega
        · omega
        · simp; omega
        · intro v' w3 hown3 hg _
          have hupd3 : Upd [b] w w3 := ((hupd2.alloc _).alloc _).grown hg (fun k hk => .inr (hown2.lt k hk).1)
          have hne : some b ≠ v.ownBlock := fun e => by
            have h1 := (hown2.lt b e.symm).1
            have h2 := lt_of_heap HB.out
            omega
          have hheap3 := (hg.block b (by simp; omega) hne).trans (heap_alloc_old (heap_alloc_old hheap2 (.cells #[i64 (tk cur).k, i64 (tk cur).f, .string (bs (tk cur).body)] 23)) (.cells #[i64 (tk cur).k, i64 (tk cur).f, .string (bs (tk cur).body)] 23))
          have k03 := (cellOf hheap3 off).trans (set_self H0.out)
          have g03 := frzOf hheap3 off
          clear hheap2 hown2 hupd2 k02 k12 g02 g12 hg
          go_wp2_with fail
          have hd : (bs cur).extract (tk cur).n cur.length = bs (cur.drop (tk cur).n) := by rw [← bs_drop, HSZ.out]
          rw [hd]
          have hvb : v'.ownBlock ≠ some b := fun e => by
            have h1 := (hown3.lt b e).1
            have h2 := lt_of_heap HB.out
            omega
          have hheap4 : (w3.setCell ⟨b, off, none⟩ (.string (bs (cur.drop (tk cur).n)))).heap[b]? = some (.cells (cs.setIfInBounds off (.string (bs (cur.drop (tk cur).n)))) ty (0, 0)) := by
            have := heap_setCell hheap3 off (.string (bs (cur.drop (tk cur).n)))
            rw [Array.setIfInBounds_setIfInBounds] at this
            exact this
          have hJ : ∀ a', feedFr b off s t v' a' → FeedJ w b off cs ty all s t a' (w3.setCell ⟨b, off, none⟩ (.string (bs (cur.drop (tk cur).n)))) (cur.drop (tk cur).n) (done ++ [⟨(tk cur).k, (tk cur).f, (tk cur).body⟩]) v' := fun a' hfr =>
            ⟨hfr, hheap4, by rw [fmCells_append, List.length_append]; exact ownsRow_setCell_other hown3 hvb _,
              hupd3.setCell (by simp) _, by rw [List.append_assoc]; exact HO.out, HR.out, HE.out, by rw [List.length_append, List.length_drop]; simp; omega⟩
          skip
          go_step3
          exact ⟨rfl, ⟨_, _, _, hJ _ ⟨_, _, _, _, _, _, _, _, _, _, _, _, _, _, _, _, _, _, _, _, _, _, _, _, _, _, _, _, _, _, _, _, _, _, _, _, _, _, rfl⟩⟩, by rw [HM.out]; unfold curLen; rw [(cellOf hheap4 off).trans (set_self H0.out)]; show (bs _).size < _; rw [size_bs, List.length_drop]; omega⟩
      · have hfr2 := allFr_bad cur e2 e0
        rw [hfr2] at hout hrest he
        have HO := Lib.hid hout
        have HR := Lib.hid hrest
        have HE := Lib.hid he
        have q0 : ((tk cur).e == 0) = false := by simpa using e0
        have q2 : ((tk cur).e == 2) = false := by simpa using e2
        clear hout hrest he hfr2 e0 e2
        go_wp2_with fail
        have hvb : v.ownBlock ≠ some b := fun e => by
          have h1 := (hown2.lt b e).1
          have h2 := lt_of_heap HB.out
          omega
        refine hR.out _ _ ⟨v, rfl, ?_, ?_, ?_⟩
        · rw [← HO.out, List.append_nil]
          exact (ownsRow_setCell_other (ownsRow_setCell_other hown2 hvb _) hvb _).alloc _
        · refine Upd.alloc (Upd.setCell (Upd.setCell hupd2 (by simp) _) (by simp) _) _
        · rw [← HR.out, ← HE.out]
          have := heap_setCell (heap_setCell hheap2 off (.string ⟨#[]⟩)) (off + 1) (i64 (tk cur).e)
          rw [Array.setIfInBounds_setIfInBounds] at this
          exact heap_alloc_old this _
end Go.Proofs.Ytagadbgbicebaaa
