/-
  FeedPieces: in whichever pieces the same bytes come, the frames are the same, and the feed is broken alike, and fewer bytes wait than a frame has at most. For every list. No condition.
-/
import Derived.Test.YtagadbgbicebaaaFeedTxt
namespace Go.Proofs.Ytagadbgbicebaaa
open Go Go.RowKit Go.ChangeShapes Go.WideShapes Go.ChangeAt

/-- the frames that all the bytes A tell, in a row -/
def OutAt (w : World) (base : Nat) (v : Value) (A : List UInt8) : Prop := ∃ ao cap, v = .slice ao (allFr A).out.length cap ∧ Sub w base 23 3 v (allFr A).out.length (fmCells (allFr A).out)

/-- the feeds F (behind A), G (behind B), the third, new, and the rows a, b -/
structure FP (w : World) (F G H : Nat) (wr : World) (A B : List UInt8) (a b : Value) : Prop where
  f : FeedAt wr F A
  g : FeedAt wr G B
  h : FeedAt wr H []
  oa : OutAt wr w.heap.size a A
  ob : OutAt wr w.heap.size b B
  dis : ∀ x ∈ blkL a, x ∉ blkL b
  upd : Upd [] w wr
  ds : w.heap.size ≤ F ∧ F < G ∧ G < H

theorem FeedAt.keep {S : List Nat} {w w' : World} {b : Nat} {A : List UInt8} (h : FeedAt w b A) (hu : Upd S w w') (hb : b ∉ S) : FeedAt w' b A := hu.keep h hb
theorem OutAt.keep {S : List Nat} {w w' : World} {base : Nat} {v : Value} {A : List UInt8} (h : OutAt w base v A) (hu : Upd S w w') (hb : ∀ g ∈ blkL v, g ∉ S) : OutAt w' base v A := by
  obtain ⟨ao, cap, rfl, hs⟩ := h
  exact ⟨ao, cap, rfl, hs.upd hu hb⟩
theorem OutAt.ne {w : World} {base b : Nat} {v : Value} {A B : List UInt8} (h : OutAt w base v A) (hf : FeedAt w b B) : b ∉ blkL v := fun hm => by
  obtain ⟨ao, cap, rfl, hs⟩ := h
  obtain ⟨cs, hc⟩ := hs.ty _ hm
  unfold FeedAt at hf
  rw [hf] at hc; injection hc with hc; injection hc with _ hc; cases hc

theorem FP.keep0 {w wr w' : World} {F G H : Nat} {A B : List UInt8} {a b : Value} (h : FP w F G H wr A B a b) (hu : Upd [] wr w') : FP w F G H w' A B a b :=
  ⟨h.f.keep hu (by simp), h.g.keep hu (by simp), h.h.keep hu (by simp), h.oa.keep hu (by simp), h.ob.keep hu (by simp), h.dis, h.upd.trans' hu, h.ds⟩

/-- behind a push into the first: what is to be appended -/
structure FPa (w : World) (F G H : Nat) (wr : World) (A B : List UInt8) (t : List UInt8) (ys : List Fm) (a b : Value) (ao : Option Addr) (cap : Nat) : Prop where
  f : FeedAt wr F (A ++ t)
  g : FeedAt wr G B
  h : FeedAt wr H []
  oa : OutAt wr w.heap.size a A
  ob : OutAt wr w.heap.size b B
  dis : ∀ x ∈ blkL a, x ∉ blkL b
  src : Src wr ao ys.length cap (fmCells ys)
  out : (allFr (A ++ t)).out = (allFr A).out ++ ys
  upd : Upd [] w wr
  ds : w.heap.size ≤ F ∧ F < G ∧ G < H
structure FPb (w : World) (F G H : Nat) (wr : World) (A B : List UInt8) (t : List UInt8) (ys : List Fm) (a b : Value) (ao : Option Addr) (cap : Nat) : Prop where
  f : FeedAt wr F A
  g : FeedAt wr G (B ++ t)
  h : FeedAt wr H []
  oa : OutAt wr w.heap.size a A
  ob : OutAt wr w.heap.size b B
  dis : ∀ x ∈ blkL a, x ∉ blkL b
  src : Src wr ao ys.length cap (fmCells ys)
  out : (allFr (B ++ t)).out = (allFr B).out ++ ys
  upd : Upd [] w wr
  ds : w.heap.size ≤ F ∧ F < G ∧ G < H

theorem pushF_c {w wr : World} {F G H : Nat} {A B : List UInt8} {a b : Value} (h : FP w F G H wr A B a b) (t : ByteArray) (hlen : A.length + t.size ≤ 1000000) :
    Calls Try.prog 26 #[.pointer (some ⟨F, 0, none⟩), .string t] wr fun e w' => ∃ ao cap ys, e = .returned (.slice ao ys.length cap) ∧ FPa w F G H w' A B t.data.toList ys a b ao cap := by
  refine Calls.mono (pushAll_c h.f t hlen) ?_
  rintro e w' ⟨ao, cap, ys, rfl, h1, h2, h3, h4⟩
  have hds := h.ds
  have hne := h.oa.ne h.f
  have hnb := h.ob.ne h.f
  exact ⟨ao, cap, ys, rfl, h3, h.g.keep h2 (by simp; omega), h.h.keep h2 (by simp; omega), h.oa.keep h2 (by intro x hx hm; simp at hm; subst hm; exact hne hx), h.ob.keep h2 (by intro x hx hm; simp at hm; subst hm; exact hnb hx), h.dis, h1.src, h4, h.upd.trans h2 (by intro g hg; simp at hg; exact .inr (by omega)), h.ds⟩

theorem pushG_c {w wr : World} {F G H : Nat} {A B : List UInt8} {a b : Value} (h : FP w F G H wr A B a b) (t : ByteArray) (hlen : B.length + t.size ≤ 1000000) :
    Calls Try.prog 26 #[.pointer (some ⟨G, 0, none⟩), .string t] wr fun e w' => ∃ ao cap ys, e = .returned (.slice ao ys.length cap) ∧ FPb w F G H w' A B t.data.toList ys a b ao cap := by
  refine Calls.mono (pushAll_c h.g t hlen) ?_
  rintro e w' ⟨ao, cap, ys, rfl, h1, h2, h3, h4⟩
  have hds := h.ds
  have hne := h.oa.ne h.g
  have hnb := h.ob.ne h.g
  exact ⟨ao, cap, ys, rfl, h.f.keep h2 (by simp; omega), h3, h.h.keep h2 (by simp; omega), h.oa.keep h2 (by intro x hx hm; simp at hm; subst hm; exact hne hx), h.ob.keep h2 (by intro x hx hm; simp at hm; subst hm; exact hnb hx), h.dis, h1.src, h4, h.upd.trans h2 (by intro g hg; simp at hg; exact .inr (by omega)), h.ds⟩

theorem fm_one (l : List Fm) : ∀ u ∈ fmCells l, u.oneCell' = true := by
  intro u hu
  unfold fmCells at hu
  obtain ⟨x, _, hx⟩ := List.mem_flatMap.1 hu
  simp [Fm.cells] at hx
  rcases hx with rfl | rfl | rfl <;> rfl

theorem fpa_done {w wr w5 : World} {F G H : Nat} {A B t : List UInt8} {ys : List Fm} {a b : Value} {ao ao' : Option Addr} {cap cap' : Nat} (h : FPa w F G H wr A B t ys a b ao cap)
    (hs : Sub w5 w.heap.size 23 3 (.slice ao' ((allFr A).out.length + ys.length) cap') ((allFr A).out.length + ys.length) (fmCells (allFr A).out ++ fmCells ys)) (hu : Upd (blkL a) wr w5)
    (hb : blkL (.slice ao' ((allFr A).out.length + ys.length) cap') = blkL a ∨ ∃ g, blkL (.slice ao' ((allFr A).out.length + ys.length) cap') = [g] ∧ wr.heap.size ≤ g) :
    FP w F G H w5 (A ++ t) B (.slice ao' ((allFr A).out.length + ys.length) cap') b := by
  have hl : (allFr (A ++ t)).out.length = (allFr A).out.length + ys.length := by rw [h.out, List.length_append]
  refine ⟨h.f.keep hu (h.oa.ne h.f), h.g.keep hu (h.oa.ne h.g), h.h.keep hu (h.oa.ne h.h), ⟨ao', cap', by rw [hl], ?_⟩, h.ob.keep hu (fun x hx hm => h.dis x hm hx), ?_, ?_, h.ds⟩
  · rw [hl, h.out, fmCells_append]; exact hs
  · intro x hx hm
    rcases hb with q | ⟨g, q, q2⟩
    · rw [q] at hx; exact h.dis x hx hm
    · rw [q] at hx
      simp at hx
      obtain ⟨_, _, rfl, hsb⟩ := h.ob
      have := (hsb.lt x hm).2
      omega
  · obtain ⟨_, _, rfl, hsa⟩ := h.oa
    exact h.upd.trans hu (fun g hg => .inr (hsa.lt g hg).1)

theorem fpb_done {w wr w5 : World} {F G H : Nat} {A B t : List UInt8} {ys : List Fm} {a b : Value} {ao ao' : Option Addr} {cap cap' : Nat} (h : FPb w F G H wr A B t ys a b ao cap)
    (hs : Sub w5 w.heap.size 23 3 (.slice ao' ((allFr B).out.length + ys.length) cap') ((allFr B).out.length + ys.length) (fmCells (allFr B).out ++ fmCells ys)) (hu : Upd (blkL b) wr w5)
    (hb : blkL (.slice ao' ((allFr B).out.length + ys.length) cap') = blkL b ∨ ∃ g, blkL (.slice ao' ((allFr B).out.length + ys.length) cap') = [g] ∧ wr.heap.size ≤ g) :
    FP w F G H w5 A (B ++ t) a (.slice ao' ((allFr B).out.length + ys.length) cap') := by
  have hl : (allFr (B ++ t)).out.length = (allFr B).out.length + ys.length := by rw [h.out, List.length_append]
  refine ⟨h.f.keep hu (h.ob.ne h.f), h.g.keep hu (h.ob.ne h.g), h.h.keep hu (h.ob.ne h.h), h.oa.keep hu (fun x hx hm => h.dis x hx hm), ⟨ao', cap', by rw [hl], ?_⟩, ?_, ?_, h.ds⟩
  · rw [hl, h.out, fmCells_append]; exact hs
  · intro x hx hm
    rcases hb with q | ⟨g, q, q2⟩
    · rw [q] at hm; exact h.dis x hx hm
    · rw [q] at hm
      simp at hm
      obtain ⟨_, _, rfl, hsa⟩ := h.oa
      have := (hsa.lt x hx).2
      omega
  · obtain ⟨_, _, rfl, hsb⟩ := h.ob
    exact h.upd.trans hu (fun g hg => .inr (hsb.lt g hg).1)

theorem piece_snoc (s : ByteArray) (j : Nat) : s.data.toList.take j ++ (s.extract j (j + 1)).data.toList = s.data.toList.take (j + 1) := by
  have h2 : (s.extract j (j + 1)).data.toList = (s.data.toList.drop j).take 1 := by simp [ByteArray.data_extract]
  rw [h2, ← List.take_add]

theorem txt_cell {w wr : World} {b off : Nat} {l : List ByteArray} (h : TxtAt w b off l) (hu : Upd [] w wr) (hb : b < w.heap.size) {k : Nat} (hk : k < l.length) : wr.cell? ⟨b, off + k, none⟩ = some (.string l[k]) :=
  (hu.below.cell (p := ⟨b, off + k, none⟩) hb).trans (h k _ (List.getElem?_eq_getElem hk))

set_option maxRecDepth 100000 in
set_option maxHeartbeats 4000000 in
theorem fpieces_c (ao : Option Addr) (b off cap : Nat) (l : List ByteArray) (w : World) (hao : l = [] ∨ ao = some ⟨b, off, none⟩) (hrows : TxtAt w b off l) (hb : l = [] ∨ b < w.heap.size) (hg : ∀ s ∈ l, s.size ≤ reachBytes) (hlen : l.length ≤ maxLen) :
    Trues 7 #[.slice ao l.length cap] w := by
  unfold Trues
  have hm := much_c (w := w) (cap := cap) hao hrows hg hlen
  by_cases hmB : muchB l = true
  · rw [hmB] at hm
    have HM := Lib.hid hm
    clear hm hmB hrows hg hao
    refine post fun R hR => ?_
    go_enter Try.func7, Try.ntmps7
    go_wp2_with (fail)
    refine HM.out.mono ?_
    rintro e w2 ⟨rfl, rfl⟩
    go_wp2_with (fail)
    refine (feedAwake_c _).mono ?_
    rintro e w5 ⟨rfl, hu5⟩
    go_wp2_with (fail)
    exact hR.out _ _ ⟨rfl, hu5⟩
  · have hmB' : muchB l = false := by simpa using hmB
    rw [hmB'] at hm
    have hn : l.length ≤ 200 ∧ tot l ≤ 20000 := by
      unfold muchB at hmB'
      simp at hmB'
      omega
    obtain ⟨hn1, hn2⟩ := hn
    have HM := Lib.hid hm
    have HRows := Lib.hid hrows
    have HAO := Lib.hid hao
    clear hm hmB hmB' hrows hg hlen hao
    refine post fun R hR => ?_
    go_enter Try.func7, Try.ntmps7
    go_wp2_with (fail)
    refine HM.out.mono ?_
    rintro e w2 ⟨rfl, rfl⟩
    go_wp2_with (fail)
    refine Calls.mono (fnew_c _) ?_
    rintro e w1 ⟨rfl, hu1, hh1⟩
    go_wp2_with (fail)
    refine Calls.mono (fnew_c _) ?_
    rintro e w2 ⟨rfl, hu2, hh2⟩
    go_wp2_with (fail)
    have hs1 := hu1.size
    have hs2 := hu2.size
    have hl1 := lt_of_heap hh1
    have hl2 := lt_of_heap hh2
    have h0 : FP w w.heap.size w1.heap.size w2.heap.size (w2.alloc (.cells #[.string ⟨#[]⟩, i64 0] 50)) [] [] (.slice none 0 0) (.slice none 0 0) :=
      ⟨heap_alloc_old (hu2.keep0 hh1) _, heap_alloc_old hh2 _, heap_alloc_new _ _, ⟨none, 0, rfl, sub_nil _ _ _ _⟩, ⟨none, 0, rfl, sub_nil _ _ _ _⟩, by simp [blkL], (hu1.trans' hu2).alloc _, by omega⟩
    have HBW := Lib.hid hb
    clear hb hu1 hu2 hh1 hh2 hs1 hs2 hl1 hl2
    generalize w.heap.size = F at h0 ⊢
    generalize w1.heap.size = G at h0 ⊢
    generalize w2.heap.size = H at h0 ⊢
    generalize w2.alloc (.cells #[.string ⟨#[]⟩, i64 0] 50) = w3 at h0 ⊢
    have hcat : ∀ k, k ≤ l.length → (cat (l.take k)).length ≤ 20000 := fun k _ => by rw [cat_len]; have := tot_take l k; omega
    have HCAT := Lib.hid hcat
    clear hcat hn2
    obtain ⟨i0, hi, hz0, hz1, hz2⟩ := info_parts info_frame
    go_loopw [6, 7, 8, 9] (fun all a bb i wr => ∃ k : Nat, i = i64 k ∧ k ≤ l.length ∧ all = .string (bs (cat (l.take k))) ∧ FP w F G H wr (cat (l.take k)) (cat (l.take k)) a bb) (fun _ _ _ i _ => l.length - (intOf i).toNat)
    case atStart => exact ⟨0, rfl, Nat.zero_le _, rfl, h0⟩
    case round =>
      clear h0
      obtain ⟨k, rfl, hk, rfl, hfp⟩ := hrel
      by_cases hlt : k < l.length
      · have hl0 : l ≠ [] := by rintro rfl; simp at hlt
        obtain rfl := HAO.out.resolve_left hl0
        have hbw := HBW.out.resolve_left hl0
        have HBW2 := Lib.hid hbw
        clear hl0 hbw
        have c1 := txt_cell HRows.out hfp.upd HBW2.out hlt
        have hsn := cat_snoc l k hlt
        have hc1 := HCAT.out (k + 1) (by omega)
        rw [hsn, List.length_append] at hc1
        have HSN := Lib.hid hsn
        clear hsn
        generalize cat (l.take k) = A at *
        have hs1 : (l[k].data.toList).length = l[k].size := rfl
        rw [hs1] at hc1
        clear hs1
        generalize l[k] = s at *
        have hp := pushF_c hfp s (by omega)
        have hpc : ∀ w', Upd [] w w' → w'.cell? ⟨b, off + k, none⟩ = some (.string s) := fun w' hu => by
          have hx := txt_cell HRows.out hfp.upd HBW2.out hlt
          have hy := txt_cell HRows.out hu HBW2.out hlt
          rw [c1] at hx
          rw [hy, hx]
        have HPC := Lib.hid hpc
        have HP := Lib.hid hp
        have hst : bs A ++ s = bs (A ++ s.data.toList) := by rw [← bs_append]
        have HST := Lib.hid hst
        obtain ⟨aoa, capa, rfl, hsa⟩ := hfp.oa
        clear hp hpc hst hfp hsa
        go_wp2_with (fail)
        refine HP.out.mono ?_
        rintro e w4 ⟨ao4, cap4, ys, rfl, hfa⟩
        obtain ⟨_, _, hv4, hsa⟩ := hfa.oa
        have c4 := HPC.out _ hfa.upd
        have hw4 := hfa.upd.size
        have ho4 := rest_le A
        have ho5 := rest_le (A ++ s.data.toList)
        rw [hfa.out, List.length_append, List.length_append, show s.data.toList.length = s.size from rfl] at ho5
        have hmx : (allFr A).out.length + ys.length ≤ maxLen := by unfold maxLen; omega
        have HFA := Lib.hid hfa
        have HSA := Lib.hid hsa
        have HMX := Lib.hid hmx
        clear hfa hsa hmx hv4 HP
        generalize hn : (allFr A).out.length = n at *
        go_wp2_with (at_builtin; refine wpList_append_sub _ rfl _ _ 42 rfl w.heap.size 23 i0 _ 3 32 Try.underlying42 hi hz0 hz1 hz2 rfl (by decide) (.slice aoa n capa) n _ rfl HSA.out _ ys.length cap4 (fmCells ys) rfl HFA.out.src (fmCells_len ys) (fm_one ys) HMX.out (by omega) hw4 ?_; intro ao' cap' w5 hs5 hu5 hb5; have hc5 : w5.cell? ⟨b, off + k, none⟩ = some (.string s) := HPC.out _ (HFA.out.upd.trans hu5 (fun g hg => .inr (HSA.out.lt g hg).1)); have HS5 := Lib.hid hs5; have HU5 := Lib.hid hu5; have HB5 := Lib.hid hb5; clear hs5 hu5 hb5)
        have hfp5 := fpa_done (by rw [hn] at *; exact HFA.out) (by rw [hn]; exact HS5.out) HU5.out (by rw [hn]; exact HB5.out)
        rw [hn] at hfp5
        have hst := HST.out
        rw [hst]
        have hl5 : (A ++ s.data.toList).length ≤ 20000 := by rw [List.length_append]; exact hc1
        have HL5 := Lib.hid hl5
        clear HFA HSA HMX HS5 HU5 HB5 hn ho4 ho5 c4 hw4 hst hl5 HST
        generalize hla : Value.slice ao' (n + ys.length) cap' = a5 at *
        clear hla
        have hss : s.size ≤ 20000 := by omega
        go_loopw [8, 10] (fun bb kk wi => ∃ j : Nat, kk = i64 j ∧ j ≤ s.size ∧ FP w F G H wi (A ++ s.data.toList) (A ++ s.data.toList.take j) a5 bb) (fun _ kk _ => s.size - (intOf kk).toNat)
        case atStart => exact ⟨0, rfl, Nat.zero_le _, by simpa using hfp5⟩
        case round =>
          clear hfp5 c1 hc5
          obtain ⟨j, rfl, hj, hfi⟩ := hrel
          by_cases hjl : j < s.size
          · have c6 := HPC.out _ hfi.upd
            have hsj := piece_snoc s j
            have hlj : (A ++ s.data.toList.take j).length + (s.extract j (j + 1)).size ≤ 1000000 := by
              rw [List.length_append, List.length_take, ByteArray.size_extract]; omega
            have hp := pushG_c hfi (s.extract j (j + 1)) hlj
            obtain ⟨aob, capb, rfl, hsb⟩ := hfi.ob
            have HSJ := Lib.hid hsj
            have HP := Lib.hid hp
            clear hp hlj hsj hfi hsb
            go_wp2_with (fail)
            refine HP.out.mono ?_
            rintro e w6 ⟨ao6, cap6, zs, rfl, hfb⟩
            obtain ⟨_, _, hv6, hsb⟩ := hfb.ob
            have c6' := HPC.out _ hfb.upd
            have hw6 := hfb.upd.size
            have ho6 := rest_le (A ++ s.data.toList.take j)
            have ho7 := rest_le ((A ++ s.data.toList.take j) ++ (s.extract j (j + 1)).data.toList)
            have hl6 : ((A ++ s.data.toList.take j) ++ (s.extract j (j + 1)).data.toList).length ≤ 20000 := by
              rw [List.append_assoc, HSJ.out, List.length_append, List.length_take]
              have : s.data.toList.length = s.size := rfl
              omega
            have hl7 : (A ++ s.data.toList.take j).length ≤ 20000 := by
              rw [List.length_append, List.length_take]
              have : s.data.toList.length = s.size := rfl
              omega
            rw [hfb.out, List.length_append] at ho7
            have hmx : (allFr (A ++ s.data.toList.take j)).out.length + zs.length ≤ maxLen := by unfold maxLen; omega
            have hmb : ((allFr (A ++ s.data.toList.take j)).out.length + zs.length) * 32 ≤ 140737488355328 := by omega
            have HFB := Lib.hid hfb
            have HSB := Lib.hid hsb
            have HMX := Lib.hid hmx
            have HMB := Lib.hid hmb
            clear hfb hsb hmx hmb hv6 HP ho6 ho7 hl6 hl7 c6
            generalize hn : (allFr (A ++ s.data.toList.take j)).out.length = n2 at *
            go_wp2_with (at_builtin; refine wpList_append_sub _ rfl _ _ 42 rfl w.heap.size 23 i0 _ 3 32 Try.underlying42 hi hz0 hz1 hz2 rfl (by decide) (.slice aob n2 capb) n2 _ rfl HSB.out _ zs.length cap6 (fmCells zs) rfl HFB.out.src (fmCells_len zs) (fm_one zs) HMX.out HMB.out hw6 ?_; intro ao7 cap7 w7 hs7 hu7 hb7; have HS7 := Lib.hid hs7; have HU7 := Lib.hid hu7; have HB7 := Lib.hid hb7; clear hs7 hu7 hb7)
            have hfp7 := fpb_done (by rw [hn] at *; exact HFB.out) (by rw [hn]; exact HS7.out) HU7.out (by rw [hn]; exact HB7.out)
            rw [hn, List.append_assoc, HSJ.out] at hfp7
            have HFP7 := Lib.hid hfp7
            clear hfp7
            go_roundw
            case rel => exact ⟨j + 1, by go_num, by omega, HFP7.out⟩
            case measure => simp [intOf]; omega
          · have hts : s.data.toList.take j = s.data.toList := List.take_of_length_le (by have : s.data.toList.length = s.size := rfl; omega)
            rw [hts] at hfi
            have HFI := Lib.hid hfi
            have c6 := HPC.out _ hfi.upd
            clear hfi hts
            go_wp2_with (fail)
            go_roundw
            case rel => exact ⟨k + 1, by go_num, by omega, by rw [HSN.out], by rw [HSN.out]; exact HFI.out⟩
            case measure => simp [intOf]; omega
      · have hkl : l.take k = l := List.take_of_length_le (by omega)
        rw [hkl] at hfp ⊢
        have hcl := HCAT.out l.length (Nat.le_refl _)
        rw [List.take_of_length_le (Nat.le_refl _)] at hcl
        generalize cat l = A at *
        obtain ⟨aoa, capa, rfl, hsa⟩ := hfp.oa
        obtain ⟨aob, capb, rfl, hsb⟩ := hfp.ob
        have hp := pushAll_c hfp.h (bs A) (by rw [size_bs]; simp; omega)
        have hsh : (allFr A).rest.length < 1028 := tk_two_short (allFr_rest A.length A (Nat.le_refl _))
        have HFP := Lib.hid hfp
        have HP := Lib.hid hp
        have HSH := Lib.hid hsh
        clear hfp hp hsh hsa hsb hkl
        go_wp2_with (fail)
        refine HP.out.mono ?_
        rintro e w8 ⟨ao8, cap8, ys, rfl, hs8, hu8, hf8, ho8⟩
        rw [List.nil_append] at hf8 ho8
        have hnil : (allFr []).out = [] := rfl
        rw [hnil, List.nil_append] at ho8
        subst ho8
        have hds := HFP.out.ds
        have hfF : FeedAt w8 F A := HFP.out.f.keep hu8 (by simp; omega)
        have hfG : FeedAt w8 G A := HFP.out.g.keep hu8 (by simp; omega)
        have hneA := HFP.out.oa.ne HFP.out.h
        have hneB := HFP.out.ob.ne HFP.out.h
        obtain ⟨xo, xc, hvx, hsa⟩ := HFP.out.oa
        obtain ⟨yo, yc, hvy, hsb⟩ := HFP.out.ob
        have hsa8 := hsa.upd hu8 (by intro x hx hm; simp at hm; subst hm; exact hneA hx)
        have hsb8 := hsb.upd hu8 (by intro x hx hm; simp at hm; subst hm; exact hneB hx)
        have hu8w : Upd [] w w8 := HFP.out.upd.trans hu8 (by intro g hg; simp at hg; exact .inr (by omega))
        have hlo : (allFr A).out.length ≤ 100000 := by have := rest_le A; omega
        have h1 := rsameF_c hsa8 hs8 hlo
        have h2 : ∀ w9, Upd [] w8 w9 → _ := fun w9 hu => rsameF_c (hsb8.upd0 hu) (hs8.upd0 hu) hlo
        have hF : ∀ w9, Upd [] w8 w9 → _ := fun w9 hu => hfF.keep hu (by simp)
        have hG : ∀ w9, Upd [] w8 w9 → _ := fun w9 hu => hfG.keep hu (by simp)
        have hH : ∀ w9, Upd [] w8 w9 → _ := fun w9 hu => hf8.keep hu (by simp)
        have H1 := Lib.hid h1
        have H2 := Lib.hid h2
        have HF := Lib.hid hF
        have HG := Lib.hid hG
        have HH := Lib.hid hH
        have HU8 := Lib.hid hu8w
        clear h1 h2 hF hG hH hu8w hlo hsa8 hsb8 hsa hsb hvx hvy hneA hneB hfF hfG hf8 hs8 hu8 hnil HP HFP hds
        go_wp2_with (fail)
        refine H1.out.mono ?_
        rintro e w9 ⟨rfl, hu9⟩
        go_wp2_with (fail)
        refine (H2.out _ hu9).mono ?_
        rintro e w10 ⟨rfl, hu10⟩
        have hu10' := hu9.trans' hu10
        have hbF := fbroken_c (HF.out _ hu10')
        have hbG := fbroken_c (HG.out _ hu10')
        have hbH := fbroken_c (HH.out _ hu10')
        have hwF := fwaits_c (HF.out _ hu10')
        have hwG := fwaits_c (HG.out _ hu10')
        have hwH := fwaits_c (HH.out _ hu10')
        have hsh := HSH.out
        clear HSH HF HG HH H1 H2
        generalize (allFr A).e = E at hbF hbG hbH
        generalize (allFr A).rest.length = N at hwF hwG hwH hsh
        have BF := Lib.hid hbF
        have BG := Lib.hid hbG
        have BH := Lib.hid hbH
        have WF := Lib.hid hwF
        have WG := Lib.hid hwG
        have WH := Lib.hid hwH
        clear hbF hbG hbH hwF hwG hwH
        go_wp2_with (fail)
        refine BF.out.mono ?_
        rintro e w11 ⟨rfl, rfl⟩
        go_wp2_with (fail)
        refine BH.out.mono ?_
        rintro e w11 ⟨rfl, rfl⟩
        go_wp2_with (fail)
        refine BG.out.mono ?_
        rintro e w11 ⟨rfl, rfl⟩
        go_wp2_with (fail)
        refine BH.out.mono ?_
        rintro e w11 ⟨rfl, rfl⟩
        go_wp2_with (fail)
        refine WF.out.mono ?_
        rintro e w11 ⟨rfl, rfl⟩
        go_wp2_with (fail)
        refine WH.out.mono ?_
        rintro e w11 ⟨rfl, rfl⟩
        go_wp2_with (fail)
        refine WG.out.mono ?_
        rintro e w11 ⟨rfl, rfl⟩
        go_wp2_with (fail)
        refine WH.out.mono ?_
        rintro e w11 ⟨rfl, rfl⟩
        go_wp2_with (fail)
        refine WH.out.mono ?_
        rintro e w11 ⟨rfl, rfl⟩
        go_wp2_with (fail)
        refine (feedAwake_c _).mono ?_
        rintro e w12 ⟨rfl, hu12⟩
        go_wp2_with (fail)
        exact hR.out _ _ ⟨rfl, (HU8.out.trans' hu10').trans' hu12⟩

set_option maxRecDepth 100000 in
theorem feedPieces_walk {H : Type} {enc : TypeId × Value → H} {W : World} {base : Nat} {args : Array Value} {ds gs : List (DataW H)} {before : List MemPlace}
    (hval : ∀ (j : Nat) t v, Try.f7.params[j]? = some t → args[j]? = some v → Value.okWide Try.prog W .any base t v)
    (hW : DataW.Whole enc Try.prog Try.f7.params.toList [] false W args.toList ds gs before)
    (hsz : (DataW.weightsEach Try.prog (Try.f7.params.toList ++ []) (ds ++ gs)).all (· ≤ reachBytes) = true) : Trues 7 args W := by
  obtain ⟨p, q, hA, hV, rfl, -, -⟩ := hW
  obtain ⟨rfl, rfl⟩ := trodVars_none hV
  rw [Try.params7] at hA hval hsz
  obtain ⟨v0, d0, rfl, rfl, h0⟩ := trodAll_one hA
  obtain ⟨ao, cap, l, rfl, hg, hl, hc⟩ := open_texts hsz (j := 0) rfl rfl Try.underlying38 Try.underlying9 (by kernel_rfl) (hval 0 38 v0 rfl rfl) h0
  rcases hc with rfl | ⟨b, off, rfl, hr⟩
  · exact fpieces_c ao 0 0 cap [] W (.inl rfl) (by intro i s hi; simp at hi) (.inl rfl) hg hl
  · refine fpieces_c _ b off cap l W (.inr rfl) hr ?_ hg hl
    cases l with
    | nil => exact .inl rfl
    | cons x r => exact .inr (World.block_lt_of_cell? W _ (hr 0 x rfl))

set_option maxRecDepth 100000 in
theorem feedPieces_lifted (os : Os) (started : os.Started) (H : Type) (enc : TypeId × Value → H) :
    ReturnsInHanded {} Try.checked os 7 .any (Rows.feedPiecesSpec.pre6 enc Try.prog Try.f7 Rows.feedPiecesRow.domain false) (Rows.feedPiecesSpec.post enc Try.prog Try.f7 false true false false) := by
  refine returnsInHanded_of_change_sized (C := Try.checked) own started (by kernel_rfl) Try.func7
    (ChangeSpec.witness6 (enc := enc) (C := Try.checked) false ⟨#[], #[.slice none 0 0], []⟩ 8 (by kernel_rfl) (by kernel_rfl) (by kernel_rfl) (by kernel_rfl)) ?_
  intro W base args ds gs before hval hW hcnd hsz _
  refine Calls.mono (feedPieces_walk hval hW hsz) fun e W' ⟨he, hu⟩ => ?_
  exact ⟨_, he, law_post rfl rfl (by kernel_rfl) hW (fun ds h => by match ds, h with | [_], _ => rfl) hu⟩

set_option maxRecDepth 100000 in
theorem feedPieces_over : Rows.feedPiecesRow.holds Try.pinned (OpenSpec.ofChange Rows.feedPiecesSpec) :=
  OpenClaim.holds_of_wide 7 Try.f7 rfl rfl rfl rfl rfl rfl rfl ⟨rfl, rfl, rfl, rfl, rfl⟩ rfl rfl rfl rfl rfl (by kernel_rfl) Try.func7 (by kernel_rfl)
    (of_decide_eq_true (by kernel_rfl)) (by unfold Func.isWrapper; first | (rw [if_pos (by decide +kernel)]; kernel_rfl) | (rw [if_neg (by decide +kernel)]; exact ⟨rfl, rfl⟩))
    (fun os started H enc _ => feedPieces_lifted os started H enc)

theorem feedPieces_proved : Rows.FeedPiecesSaid := feedPieces_over
end Go.Proofs.Ytagadbgbicebaaa
