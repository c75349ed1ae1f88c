/-
  The contracts of the cache's Put and Ids. Conditions: the cache is one that its own functions made.
-/
import Derived.Test.YtipcgddcbnhejaaDedGet
namespace Go.Proofs.Ytipcgddcbnhejaa
open Go Go.RowKit

/-- a cache that holds the responses l, at the head of block b -/
def DedAt (w : World) (b : Nat) (l : List Kp) : Prop := ∃ ring next n, w.heap[b]? = some (.cells (ccells ring next n) 32 (0, 0)) ∧ ring.length = 8 ∧ n ≤ 8 ∧ next < 8 ∧ (n < 8 → next = n) ∧ keptOf ring next n = l

theorem DedAt.keep {w w' : World} {b : Nat} {l : List Kp} {S : List Nat} (h : DedAt w b l) (hu : Upd S w w') (hb : b ∉ S) : DedAt w' b l := by
  obtain ⟨ring, next, n, h1, h2⟩ := h
  exact ⟨ring, next, n, hu.keep h1 hb, h2⟩
theorem DedAt.lt {w : World} {b : Nat} {l : List Kp} (h : DedAt w b l) : b < w.heap.size := by
  obtain ⟨ring, next, n, h1, h2⟩ := h
  exact lt_of_heap h1
theorem DedAt.len {w : World} {b : Nat} {l : List Kp} (h : DedAt w b l) : l.length ≤ 8 := by
  obtain ⟨ring, next, n, h1, h2, h3, h4, h5, rfl⟩ := h
  rw [keptOf_len h2 h3 h4]; exact h3

theorem get2_c {w : World} {b : Nat} {l : List Kp} (h : DedAt w b l) (id : Int) :
    Calls Try.prog 10 #[.pointer (some ⟨b, 0, none⟩), .int .u64 id] w fun e w' => e = .returned (.tuple #[.string (kgS l id), .bool (kgB l id)]) ∧ Upd [] w w' := by
  obtain ⟨ring, next, n, h1, h2, h3, h4, h5, rfl⟩ := h
  exact get_c h1 h2 h3 h4 id
theorem len2_c {w : World} {b : Nat} {l : List Kp} (h : DedAt w b l) :
    Calls Try.prog 11 #[.pointer (some ⟨b, 0, none⟩)] w fun e w' => e = .returned (i64 l.length) ∧ Upd [] w w' := by
  obtain ⟨ring, next, n, h1, h2, h3, h4, h5, rfl⟩ := h
  exact len_c h1 h2 h3 h4

def ring0 : List Kp := List.replicate 8 ⟨0, ⟨#[]⟩⟩
theorem dedAt_new {w : World} {b : Nat} (h : w.heap[b]? = some (.cells #[.int .u64 0, .string ⟨#[]⟩, .int .u64 0, .string ⟨#[]⟩, .int .u64 0, .string ⟨#[]⟩, .int .u64 0, .string ⟨#[]⟩, .int .u64 0, .string ⟨#[]⟩, .int .u64 0, .string ⟨#[]⟩, .int .u64 0, .string ⟨#[]⟩, .int .u64 0, .string ⟨#[]⟩, i64 0, i64 0] 32 (0, 0))) : DedAt w b [] :=
  ⟨ring0, 0, 0, h, rfl, by omega, by omega, fun _ => rfl, rfl⟩

theorem dnew_c (w : World) : Calls Try.prog 12 #[] w fun e w' => e = .returned (.pointer (some ⟨w.heap.size, 0, none⟩)) ∧ Upd [] w w' ∧ DedAt w' w.heap.size [] := by
  refine post fun R hR => ?_
  go_enter Try.func12, Try.ntmps12
  go_wp2_with fail
  exact hR.out _ _ ⟨rfl, (Upd.refl _ _).alloc _, dedAt_new (heap_alloc_new _ _)⟩

set_option maxRecDepth 100000 in
set_option maxHeartbeats 1000000 in
theorem put_c {w : World} {b : Nat} {l : List Kp} (h : DedAt w b l) (id : Int) (s : ByteArray) :
    Calls Try.prog 9 #[.pointer (some ⟨b, 0, none⟩), .int .u64 id, .string s] w fun e w' => e = .returned (i64 (if kgB l id = true then 7 else 0)) ∧ Upd [b] w w' ∧ DedAt w' b (if kgB l id = true then l else last8 (l ++ [⟨id, s⟩])) := by
  have hget := get2_c h id
  by_cases hB : kgB l id = true
  · rw [if_pos hB, if_pos hB]
    rw [hB] at hget
    have HG := Lib.hid hget
    clear hget hB
    refine post fun R hR => ?_
    go_enter Try.func9, Try.ntmps9
    go_wp2_with fail
    refine HG.out.mono ?_
    rintro e w1 ⟨rfl, hu⟩
    go_wp2_with fail
    exact hR.out _ _ ⟨rfl, hu.mono (by simp), h.keep hu (by simp)⟩
  · rw [if_neg hB, if_neg hB]
    have hB' : kgB l id = false := by simpa using hB
    rw [hB'] at hget
    have HG := Lib.hid hget
    clear hget hB hB'
    obtain ⟨ring, next, n, h1, hr, hn, hx, hi, rfl⟩ := h
    have hpk := put_kept hr hn hx hi ⟨id, s⟩
    have hpc := put_cells (n := n) hr hx ⟨id, s⟩ ((next + 1) % 8) (min (n + 1) 8)
    have hcz : (ccells ring next n).size = 18 := by obtain ⟨_, _, _, _, _, _, _, _, rfl⟩ := kp8 hr; rfl
    have HPK := Lib.hid hpk
    have HPC := Lib.hid hpc
    clear hpk hpc hi
    refine post fun R hR => ?_
    go_enter Try.func9, Try.ntmps9
    go_wp2_with fail
    refine HG.out.mono ?_
    rintro e w1 ⟨rfl, hu⟩
    have h2 := hu.keep0 h1
    clear h1
    have c16 := (cellOf h2 16).trans (cc16 hr)
    have c17 := (cellOf h2 17).trans (cc17 hr)
    have ca := (cellOf h2 (next * 2)).trans ((Array.getElem?_eq_getElem (by omega)))
    have cb := (cellOf h2 (next * 2 + 1)).trans ((Array.getElem?_eq_getElem (by omega)))
    have fa := frzOf h2 (next * 2)
    have fb := frzOf h2 (next * 2 + 1)
    have f16 := frzOf h2 16
    have f17 := frzOf h2 17
    go_wp2_with fail
    go_region
    have h3 := heap_drew (heap_setCell (heap_setCell h2 (next * 2) (.int .u64 id)) (next * 2 + 1) (.string s))
    have hu3 : Upd [b] w ((w1.setCell ⟨b, next * 2, none⟩ (.int .u64 id)).setCell ⟨b, next * 2 + 1, none⟩ (.string s)).drew := ((((hu.mono (by simp)).setCell (by simp) _).setCell (by simp) _)).drew
    generalize ((w1.setCell ⟨b, next * 2, none⟩ (.int .u64 id)).setCell ⟨b, next * 2 + 1, none⟩ (.string s)).drew = w3 at *
    clear c16 c17 ca cb fa fb f16 f17 h2 hu
    have c16 := (cellOf h3 16).trans (set_ne _ (by omega) (set_ne _ (by omega) (cc16 hr)))
    have c17 := (cellOf h3 17).trans (set_ne _ (by omega) (set_ne _ (by omega) (cc17 hr)))
    have f16 := frzOf h3 16
    have f17 := frzOf h3 17
    have hfin : ∀ m : Int, m = ((min (n + 1) 8 : Nat) : Int) → (((w3.setCell ⟨b, 16, none⟩ (i64 (((next : Int) + 1) % 8))).setCell ⟨b, 17, none⟩ (i64 m)).heap[b]? = some (.cells (ccells (ring.set next ⟨id, s⟩) ((next + 1) % 8) (min (n + 1) 8)) 32 (0, 0))) := by
      intro m hm
      rw [← HPC.out, hm, show (((next : Int) + 1) % 8) = (((next + 1) % 8 : Nat) : Int) by omega]
      exact heap_setCell (heap_setCell h3 16 _) 17 _
    have HFIN := Lib.hid hfin
    clear hfin
    have hlast : ∀ m : Int, m = ((min (n + 1) 8 : Nat) : Int) → DedAt ((w3.setCell ⟨b, 16, none⟩ (i64 (((next : Int) + 1) % 8))).setCell ⟨b, 17, none⟩ (i64 m)) b (last8 (keptOf ring next n ++ [⟨id, s⟩])) := fun m hm =>
      ⟨_, _, _, HFIN.out m hm, by simpa using hr, by omega, by omega, HPK.out.2, HPK.out.1⟩
    have HL := Lib.hid hlast
    clear hlast
    by_cases h8 : n = 8
    · subst h8
      go_wp2_with fail
      exact hR.out _ _ ⟨rfl, (hu3.setCell (by simp) _).setCell (by simp) _, HL.out 8 (by omega)⟩
    · have hn7 : n < 8 := by omega
      go_wp2_with fail
      exact hR.out _ _ ⟨rfl, (hu3.setCell (by simp) _).setCell (by simp) _, HL.out (n + 1) (by omega)⟩

def kpIds (l : List Kp) : List Value := l.map fun k => .int .u64 k.id
theorem info_u64 : (Try.prog.info? 22).map (fun i => (i.zero, i.size, i.bytes)) = some (some (.int .u64 0), 1, 8) := by kernel_rfl

set_option maxRecDepth 100000 in
set_option maxHeartbeats 1000000 in
theorem ids_c {w : World} {b : Nat} {l : List Kp} (h : DedAt w b l) :
    Calls Try.prog 16 #[.pointer (some ⟨b, 0, none⟩)] w fun e w' => ∃ v, e = .returned v ∧ Sub w' w.heap.size 22 1 v l.length (kpIds l) ∧ Upd [] w w' := by
  have hll := h.len
  obtain ⟨ring, next, n, h1, hr, hn, hx, hi, rfl⟩ := h
  have hall := all_c h1 hr hn hx
  generalize keptOf ring next n = l at *
  have HALL := Lib.hid hall
  clear hall
  obtain ⟨i0, hi0, hz0, hz1, hz2⟩ := info_parts info_u64
  refine post fun R hR => ?_
  go_enter Try.func16, Try.ntmps16
  go_wp2_with fail
  refine HALL.out.mono ?_
  rintro e w1 ⟨v, rfl, ⟨ao, cap, rfl, hrow⟩, hu⟩
  go_wp2_with fail
  by_cases h0 : 0 < l.length
  · obtain ⟨g, off, rfl, hg, hgl, hcs⟩ := hrow h0
    have HCS := Lib.hid hcs
    clear hcs hrow
    go_loopw [3, 9] (fun v i wr => ∃ k : Nat, i = i64 k ∧ k ≤ l.length ∧ wr.ownsRow w1.heap.size 22 1 v k (kpIds (l.take k)) ∧ Upd [] w1 wr) (fun _ i _ => l.length - (intOf i).toNat)
    case atStart => exact ⟨0, rfl, Nat.zero_le _, World.ownsRow_nil _ _ _ _, Upd.refl _ _⟩
    case round =>
      obtain ⟨k, rfl, hk, hown, hur⟩ := hrel
      by_cases hlt : k < l.length
      · obtain ⟨e1, e2⟩ := kpCells_get hlt
        have c1 := (World.cell?_of_block (a := ⟨g, off + k * 2, none⟩) (hur.block g hgl (by simp))).trans (HCS.out _ _ e1)
        have c2 := (World.cell?_of_block (a := ⟨g, off + k * 2 + 1, none⟩) (hur.block g hgl (by simp))).trans (HCS.out _ _ e2)
        have hsn : kpIds (l.take (k + 1)) = kpIds (l.take k) ++ [.int .u64 l[k].id] := by rw [List.take_succ_eq_append_getElem hlt]; unfold kpIds; rw [List.map_append]; rfl
        have HSN := Lib.hid hsn
        clear e1 e2 hsn
        generalize l[k].id = ix at *
        generalize l[k].s = sx at *
        have hs1 := hur.size
        go_wp2_with (at_builtin; refine wpList_append_own _ rfl _ _ 43 rfl w1.heap.size 22 i0 (.int .u64 0) 1 8 Try.underlying43 hi0 hz0 hz1 hz2 rfl (by decide) _ _ _ rfl ((hown.alloc _).alloc _) ⟨wr.heap.size + 1, 0, none⟩ 1 1 [.int .u64 ix] rfl rfl ?_ ?_ ?_ ?_ ?_ ?_)
        · exact new_cells (heap_new2 wr _ _)
        · intro u hu; simp at hu; subst hu; rfl
        · unfold maxLen; omega
        · omega
        · simp; omega
        · intro v' w3 hown3 hgr _
          have hu3 : Upd [] w1 w3 := ((hur.alloc _).alloc _).grown hgr (fun q hq => .inr (by
            rcases hown.2 with ⟨rfl, _⟩ | ⟨g', cap', cur, rfl, hg', _⟩
            · simp [Value.ownBlock] at hq
            · simp [Value.ownBlock] at hq; omega))
          clear c1 c2 hgr hown
          go_wp2_with (fail)
          go_roundw
          case rel => exact ⟨k + 1, by go_num, by omega, by rw [HSN.out]; exact hown3, hu3⟩
          case measure => simp [intOf]; omega
      · have hkl : k = l.length := by omega
        subst hkl
        rw [List.take_length] at hown
        have HO := Lib.hid hown
        clear hown
        go_wp2_with (fail)
        exact hR.out _ _ ⟨_, rfl, (sub_of_own HO.out).mono hu.size, hu.trans' hur⟩
  · obtain rfl : l = [] := List.eq_nil_of_length_eq_zero (by omega)
    refine wp_loop_once ?_
    go_wp2_with (fail)
    exact hR.out _ _ ⟨_, rfl, sub_nil _ _ _ _, hu⟩
end Go.Proofs.Ytipcgddcbnhejaa
