/-
  The contracts of Method and of Twice (chapter 11), the program's and the document's. Condition: lengths within the machine's bounds.
-/
import Derived.Test.YtagnclphmhjoiaaParts
namespace Go.Proofs.Ytagnclphmhjoiaa
open Go Go.RowKit

def Mt.zero : Mt := ⟨0, ⟨#[]⟩, ⟨#[]⟩, ⟨#[]⟩, false⟩
abbrev mv (m : Mt) : Value := .agg #[i64 m.tag, .string m.name, .string m.inn, .string m.out, .bool m.ow]
/-- the place of a method; the list's length: none -/
def mix (l : List Mt) (s : ByteArray) : Nat := l.findIdx (fun m => decide (m.name = s))
theorem mix_hit {l : List Mt} {s : ByteArray} {k : Nat} (hk : k < l.length) (h : l[k].name = s) (hn : ∀ j, j < k → ∀ h : j < l.length, l[j].name ≠ s) : mix l s = k := by
  unfold mix
  rw [List.findIdx_eq hk]
  exact ⟨by simpa using h, fun j hj => by simpa using hn j hj (by omega)⟩
theorem mix_miss {l : List Mt} {s : ByteArray} (hn : ∀ j (h : j < l.length), l[j].name ≠ s) : l[mix l s]? = none := by
  apply List.getElem?_eq_none
  unfold mix
  rcases Nat.lt_or_ge (List.findIdx (fun m => decide (m.name = s)) l) l.length with g | g
  · rw [List.findIdx_lt_length] at g
    obtain ⟨x, hx, hp⟩ := g
    obtain ⟨i, hi, rfl⟩ := List.getElem_of_mem hx
    exact (hn i hi (by simpa using hp)).elim
  · exact g
/-- the method that is found -/
def metO (l : List Dc) (ms : List Mt) (s m : ByteArray) : Option Mt := if fnd l s < l.length ∧ kindOf l s = 4 then ms[mix ms m]? else none
def metR (l : List Dc) (ms : List Mt) (s m : ByteArray) : Mt := (metO l ms s m).getD Mt.zero
def metB (l : List Dc) (ms : List Mt) (s m : ByteArray) : Bool := (metO l ms s m).isSome
theorem met_none {l : List Dc} {ms : List Mt} {s m : ByteArray} (h : metO l ms s m = none) : metR l ms s m = Mt.zero ∧ metB l ms s m = false := by unfold metR metB; rw [h]; exact ⟨rfl, rfl⟩
theorem met_some {l : List Dc} {ms : List Mt} {s m : ByteArray} {x : Mt} (h : metO l ms s m = some x) : metR l ms s m = x ∧ metB l ms s m = true := by unfold metR metB; rw [h]; exact ⟨rfl, rfl⟩

set_option maxRecDepth 100000 in
set_option maxHeartbeats 4000000 in
theorem method_c {ao : Option Addr} {cap : Nat} {l : List Dc} {w : World} (h : DArg w ao l) (hlen : l.length ≤ 2000000000000) (hgood : ∀ x ∈ l, x.name.size ≤ maxLen) (s m : ByteArray) (hs : s.size ≤ maxLen) (ms : List Mt)
    (hms : ∀ hx : fnd l s < l.length, Inn w Mt.cells 5 l[fnd l s].ma l[fnd l s].mn ms) :
    Calls Try.prog 17 #[.slice ao l.length cap, .string s, .string m] w fun e w' => e = .returned (.tuple #[mv (metR l ms s m), .bool (metB l ms s m)]) ∧ Upd [] w w' := by
  have hof := fun (w' : World) (hu : Upd [] w w') => ofA_c (cap := cap) (h.upd hu) hlen hgood
  have HOF := Lib.hid hof
  have hA := heap_alloc_new w (.cells #[i64 0, .string ⟨#[]⟩, .string ⟨#[]⟩, .string ⟨#[]⟩, .bool false] 42)
  have hu := (Upd.refl [] w).alloc (.cells #[i64 0, .string ⟨#[]⟩, .string ⟨#[]⟩, .string ⟨#[]⟩, .bool false] 42)
  obtain ⟨A, hAe⟩ : ∃ A, A = w.heap.size := ⟨_, rfl⟩
  rw [← hAe] at hA
  have hAw : w.heap.size ≤ A := by omega
  by_cases hf : fnd l s < l.length
  · obtain ⟨b, off, rfl, hb, hr⟩ : ∃ b off, ao = some ⟨b, off, none⟩ ∧ b < w.heap.size ∧ DRows w b off l := by
      rcases h with e | e
      · rw [e] at hf; simp at hf
      · exact e
    have hfi : fndI l s = (fnd l s : Int) := by unfold fndI; rw [if_pos hf]
    have hfb : fndB l s = true := by unfold fndB; simpa using hf
    have hko : kindOf l s = l[fnd l s].kind := by unfold kindOf; rw [List.getElem?_eq_getElem hf]; rfl
    have hmi := hms hf
    obtain ⟨c0, -, -, c3, -⟩ := drow hr (Upd.refl [] w) hb (by simp) hf
    have hdw : ∀ w', Upd [] w w' → w'.cell? ⟨b, off + fnd l s * 5, none⟩ = some (i64 l[fnd l s].kind) ∧ w'.cell? ⟨b, off + fnd l s * 5 + 3, none⟩ = some (.slice l[fnd l s].ma l[fnd l s].mn l[fnd l s].mc) := fun w' hu => by
      obtain ⟨c0, -, -, c3, -⟩ := drow hr hu hb (by simp) hf
      exact ⟨c0, c3⟩
    have hmo : metO l ms s m = if l[fnd l s].kind = 4 then ms[mix ms m]? else none := by
      unfold metO; rw [hko]
      by_cases h4 : l[fnd l s].kind = 4
      · rw [if_pos ⟨hf, h4⟩, if_pos h4]
      · rw [if_neg (fun q => h4 q.2), if_neg h4]
    obtain ⟨hl1, hl2, hrow⟩ := hmi
    unfold maxLen at hl2
    clear c0 c3 hko hms h
    generalize hF : fnd l s = F at *
    have HFF := Lib.hid hF
    clear hF
    have hFl : F < l.length := hf
    generalize l[F].kind = kd at *
    generalize l[F].ma = ma at *
    generalize l[F].mn = mn at *
    generalize l[F].mc = mc at *
    subst hl1
    have HDW := Lib.hid hdw
    have HROW := Lib.hid hrow
    have HMO := Lib.hid hmo
    have HU := Lib.hid hu
    have HA := Lib.hid hA
    clear hdw hrow hmo hu hA hof hr
    refine post fun R hR => ?_
    go_enter Try.func17, Try.ntmps17
    go_upto_region 1 with (fail)
    rw [← hAe]
    clear hAe
    have hu := HU.out
    have hA := HA.out
    clear HU HA
    generalize w.alloc (.cells #[i64 0, .string ⟨#[]⟩, .string ⟨#[]⟩, .string ⟨#[]⟩, .bool false] 42) = w1 at *
    go_wp2_with (fail)
    refine Calls.mono (HOF.out _ hu) ?_
    rintro e w2 ⟨T, M, v, nn, D, rfl, hT, hu2⟩
    have hA2 := hu2.keep0 hA
    have hx2 := hu.trans' hu2
    have hfc := find_c hT s hs
    rw [hfi, hfb] at hfc
    have HFC := Lib.hid hfc
    clear hfc hT hu hu2 hA hfi hfb
    go_wp2_with (fail)
    refine HFC.out.mono ?_
    rintro e w3 ⟨rfl, rfl⟩
    obtain ⟨c0, c3⟩ := HDW.out _ hx2
    obtain ⟨a0, a1, a2, a3, a4, y0, y1, y2, y3, y4⟩ := cells5 hA2
    have t1 := lt_of_heap hA2
    by_cases h4 : kd = 4
    · have hmo := HMO.out
      rw [if_pos h4] at hmo
      have hMO := Lib.hid hmo
      clear hmo HMO
      rw [h4] at c0
      have HX2 := Lib.hid hx2
      have HA2 := Lib.hid hA2
      clear hx2 hA2 h4
      go_wp2_with (fail)
      go_loopw [36] (fun i wr => ∃ k : Nat, i = i64 k ∧ k ≤ ms.length ∧ (∀ j, j < k → ∀ h : j < ms.length, ms[j].name ≠ m) ∧ Upd [] w2 wr) (fun i _ => ms.length - (intOf i).toNat)
      case atStart => exact ⟨0, rfl, Nat.zero_le _, fun j hj => by omega, Upd.refl _ _⟩
      case round =>
        clear a0 a1 a2 a3 a4 y0 y1 y2 y3 y4 t1 c0 c3
        obtain ⟨k, rfl, hk, hno, hur⟩ := hrel
        have HNO := Lib.hid hno
        clear hno
        have hA3 := hur.keep0 HA2.out
        by_cases hlt : k < ms.length
        · obtain ⟨bm, om, rfl, hbm, hrm⟩ : ∃ b off, ma = some ⟨b, off, none⟩ ∧ b < w.heap.size ∧ RowsN w b off 5 Mt.cells ms := by
            rcases HROW.out with e | e
            · rw [e] at hlt; simp at hlt
            · exact e
          obtain ⟨c0, c1, c2, c3, c4⟩ := mrow hrm (HX2.out.trans' hur) hbm hlt
          clear hrm
          by_cases he : ms[k].name = m
          · have hxm := mix_hit hlt he HNO.out
            have hmo := hMO.out
            rw [hxm, List.getElem?_eq_getElem hlt] at hmo
            obtain ⟨m1, m2⟩ := met_some hmo
            have M1 := Lib.hid m1
            have M2 := Lib.hid m2
            have hq := str_eq he
            clear he hmo m1 m2 hxm
            generalize ms[k] = x at *
            go_upto_region 8 with (fail)
            have hA4 := heap_alloc_old hA3 (.cells #[i64 x.tag, .string x.name, .string x.inn, .string x.out, .bool x.ow] 42)
            have hB4 := heap_alloc_new wr (.cells #[i64 x.tag, .string x.name, .string x.inn, .string x.out, .bool x.ow] 42)
            have hu4 := (HX2.out.trans' hur).alloc (.cells #[i64 x.tag, .string x.name, .string x.inn, .string x.out, .bool x.ow] 42)
            have hAr := lt_of_heap hA3
            generalize wr.alloc (.cells #[i64 x.tag, .string x.name, .string x.inn, .string x.out, .bool x.ow] 42) = w4 at *
            generalize wr.heap.size = X at *
            clear hur hA3 c0 c1 c2 c3 c4
            have t1 := lt_of_heap hA4
            have t2 := lt_of_heap hB4
            obtain ⟨a0, a1, a2, a3, a4, y0, y1, y2, y3, y4⟩ := cells5 hA4
            obtain ⟨b0, b1, b2, b3, b4, -⟩ := cells5 hB4
            go_wp2_with (fail)
            have hK := hset5_4 (v := .bool x.ow) (hset5_3 (v := .string x.out) (hset5_2 (v := .string x.inn) (hset5_1 (v := .string x.name) (hset5_0 (v := i64 x.tag) hA4))))
            obtain ⟨k0, k1, k2, k3, k4, -⟩ := cells5 hK
            clear a0 a1 a2 a3 a4 y0 y1 y2 y3 y4
            refine bodyPost_ret (v := .tuple #[mv x, .bool true]) (by simp [results, Try.results17, go_sem, *]) rfl ?_
            refine hR.out _ _ ?_
            refine ⟨by rw [M1.out, M2.out], hu4.trans (S' := [A]) ?_ (fun x hx => .inr (by have := List.mem_singleton.1 hx; omega))⟩
            exact (((((Upd.refl _ _).setCell (by simp) _).setCell (by simp) _).setCell (by simp) _).setCell (by simp) _).setCell (by simp) _
          · have HE := Lib.hid he
            have hq := str_ne he
            clear he
            generalize hx : ms[k] = x at c0 c1 c2 c3 c4 hq
            clear hx
            go_wp2_with (fail)
            go_roundw
            case rel =>
              refine ⟨k + 1, by go_num, by omega, fun j hj h => ?_, hur.alloc _⟩
              by_cases e : j = k
              · subst e; exact HE.out
              · exact HNO.out j (by omega) h
            case measure => simp [intOf]; omega
        · have hxm := mix_miss (l := ms) (s := m) (fun j h => HNO.out j (by omega) h)
          have hmo := hMO.out
          rw [hxm] at hmo
          obtain ⟨m1, m2⟩ := met_none hmo
          have M1 := Lib.hid m1
          have M2 := Lib.hid m2
          have hu4 := HX2.out.trans' hur
          clear hxm hmo m1 m2
          obtain ⟨a0, a1, a2, a3, a4, y0, y1, y2, y3, y4⟩ := cells5 hA3
          have t1 := lt_of_heap hA3
          go_wp2_with (fail)
          have hK := hset5_4 (v := .bool false) (hset5_3 (v := .string ⟨#[]⟩) (hset5_2 (v := .string ⟨#[]⟩) (hset5_1 (v := .string ⟨#[]⟩) (hset5_0 (v := i64 0) hA3))))
          obtain ⟨k0, k1, k2, k3, k4, -⟩ := cells5 hK
          clear a0 a1 a2 a3 a4 y0 y1 y2 y3 y4
          refine bodyPost_ret (v := .tuple #[.agg #[i64 0, .string ⟨#[]⟩, .string ⟨#[]⟩, .string ⟨#[]⟩, .bool false], .bool false]) (by simp [results, Try.results17, go_sem, *]) rfl ?_
          refine hR.out _ _ ?_
          refine ⟨by rw [M1.out, M2.out]; rfl, hu4.trans (S' := [A]) ?_ (fun x hx => .inr (by have := List.mem_singleton.1 hx; omega))⟩
          exact (((((Upd.refl _ _).setCell (by simp) _).setCell (by simp) _).setCell (by simp) _).setCell (by simp) _).setCell (by simp) _
    · have hmo := HMO.out
      rw [if_neg h4] at hmo
      obtain ⟨m1, m2⟩ := met_none hmo
      have hkn : (kd != 4) = true := by simpa using h4
      have M1 := Lib.hid m1
      have M2 := Lib.hid m2
      clear hmo HMO m1 m2 h4
      go_wp2_with (fail)
      have hK := hset5_4 (v := .bool false) (hset5_3 (v := .string ⟨#[]⟩) (hset5_2 (v := .string ⟨#[]⟩) (hset5_1 (v := .string ⟨#[]⟩) (hset5_0 (v := i64 0) hA2))))
      obtain ⟨k0, k1, k2, k3, k4, -⟩ := cells5 hK
      clear a0 a1 a2 a3 a4 y0 y1 y2 y3 y4
      refine bodyPost_ret (v := .tuple #[.agg #[i64 0, .string ⟨#[]⟩, .string ⟨#[]⟩, .string ⟨#[]⟩, .bool false], .bool false]) (by simp [results, Try.results17, go_sem, *]) rfl ?_
      refine hR.out _ _ ?_
      refine ⟨by rw [M1.out, M2.out]; rfl, hx2.trans (S' := [A]) ?_ (fun x hx => .inr (by have := List.mem_singleton.1 hx; omega))⟩
      exact (((((Upd.refl _ _).setCell (by simp) _).setCell (by simp) _).setCell (by simp) _).setCell (by simp) _).setCell (by simp) _
  · have hfb : fndB l s = false := by unfold fndB; simpa using hf
    have hfi : fndI l s = 0 := by unfold fndI; rw [if_neg hf]
    have hmo : metO l ms s m = none := by unfold metO; rw [if_neg (fun q => hf q.1)]
    obtain ⟨m1, m2⟩ := met_none hmo
    have M1 := Lib.hid m1
    have M2 := Lib.hid m2
    have HU := Lib.hid hu
    have HA := Lib.hid hA
    clear hmo m1 m2 hof hms h hu hA hf
    refine post fun R hR => ?_
    go_enter Try.func17, Try.ntmps17
    go_upto_region 1 with (fail)
    rw [← hAe]
    clear hAe
    have hu := HU.out
    have hA := HA.out
    clear HU HA
    generalize w.alloc (.cells #[i64 0, .string ⟨#[]⟩, .string ⟨#[]⟩, .string ⟨#[]⟩, .bool false] 42) = w1 at *
    go_wp2_with (fail)
    refine Calls.mono (HOF.out _ hu) ?_
    rintro e w2 ⟨T, M, v, nn, D, rfl, hT, hu2⟩
    have hA2 := hu2.keep0 hA
    have hx2 := hu.trans' hu2
    have hfc := find_c hT s hs
    rw [hfi, hfb] at hfc
    have HFC := Lib.hid hfc
    clear hfc hT hu hu2 hA hfi hfb
    go_wp2_with (fail)
    refine HFC.out.mono ?_
    rintro e w3 ⟨rfl, rfl⟩
    obtain ⟨a0, a1, a2, a3, a4, y0, y1, y2, y3, y4⟩ := cells5 hA2
    have t1 := lt_of_heap hA2
    go_wp2_with (fail)
    have hK := hset5_4 (v := .bool false) (hset5_3 (v := .string ⟨#[]⟩) (hset5_2 (v := .string ⟨#[]⟩) (hset5_1 (v := .string ⟨#[]⟩) (hset5_0 (v := i64 0) hA2))))
    obtain ⟨k0, k1, k2, k3, k4, -⟩ := cells5 hK
    clear a0 a1 a2 a3 a4 y0 y1 y2 y3 y4
    refine bodyPost_ret (v := .tuple #[.agg #[i64 0, .string ⟨#[]⟩, .string ⟨#[]⟩, .string ⟨#[]⟩, .bool false], .bool false]) (by simp [results, Try.results17, go_sem, *]) rfl ?_
    refine hR.out _ _ ?_
    refine ⟨by rw [M1.out, M2.out]; rfl, hx2.trans (S' := [A]) ?_ (fun x hx => .inr (by have := List.mem_singleton.1 hx; omega))⟩
    exact (((((Upd.refl _ _).setCell (by simp) _).setCell (by simp) _).setCell (by simp) _).setCell (by simp) _).setCell (by simp) _

set_option maxRecDepth 100000 in
set_option maxHeartbeats 4000000 in
theorem rmethod_c {ao : Option Addr} {cap : Nat} {l : List Dc} {w : World} (h : DArg w ao l) (hlen : l.length ≤ 2000000000000) (s m : ByteArray) (ms : List Mt)
    (hms : ∀ hx : fnd l s < l.length, Inn w Mt.cells 5 l[fnd l s].ma l[fnd l s].mn ms) :
    Calls Try.prog 18 #[.slice ao l.length cap, .string s, .string m] w fun e w' => e = .returned (.tuple #[mv (metR l ms s m), .bool (metB l ms s m)]) ∧ Upd [] w w' := by
  have hof := fun (w' : World) (hu : Upd [] w w') => rfindA_c (cap := cap) (h.upd hu) s hlen
  have hA := heap_alloc_new w (.cells #[i64 0, .string ⟨#[]⟩, .string ⟨#[]⟩, .string ⟨#[]⟩, .bool false] 42)
  have hu := (Upd.refl [] w).alloc (.cells #[i64 0, .string ⟨#[]⟩, .string ⟨#[]⟩, .string ⟨#[]⟩, .bool false] 42)
  obtain ⟨A, hAe⟩ : ∃ A, A = w.heap.size := ⟨_, rfl⟩
  rw [← hAe] at hA
  have hAw : w.heap.size ≤ A := by omega
  by_cases hf : fnd l s < l.length
  · obtain ⟨b, off, rfl, hb, hr⟩ : ∃ b off, ao = some ⟨b, off, none⟩ ∧ b < w.heap.size ∧ DRows w b off l := by
      rcases h with e | e
      · rw [e] at hf; simp at hf
      · exact e
    have hfi : fndR l s = (fnd l s : Int) := by unfold fndR; rw [if_pos hf]
    rw [hfi] at hof
    have hko : kindOf l s = l[fnd l s].kind := by unfold kindOf; rw [List.getElem?_eq_getElem hf]; rfl
    have hmi := hms hf
    have hdw : ∀ w', Upd [] w w' → w'.cell? ⟨b, off + fnd l s * 5, none⟩ = some (i64 l[fnd l s].kind) ∧ w'.cell? ⟨b, off + fnd l s * 5 + 3, none⟩ = some (.slice l[fnd l s].ma l[fnd l s].mn l[fnd l s].mc) := fun w' hu => by
      obtain ⟨c0, -, -, c3, -⟩ := drow hr hu hb (by simp) hf
      exact ⟨c0, c3⟩
    have hmo : metO l ms s m = if l[fnd l s].kind = 4 then ms[mix ms m]? else none := by
      unfold metO; rw [hko]
      by_cases h4 : l[fnd l s].kind = 4
      · rw [if_pos ⟨hf, h4⟩, if_pos h4]
      · rw [if_neg (fun q => h4 q.2), if_neg h4]
    obtain ⟨hl1, hl2, hrow⟩ := hmi
    unfold maxLen at hl2
    clear hko hms h hfi
    generalize hF : fnd l s = F at *
    have HFF := Lib.hid hF
    clear hF
    have hFl : F < l.length := hf
    generalize l[F].kind = kd at *
    generalize l[F].ma = ma at *
    generalize l[F].mn = mn at *
    generalize l[F].mc = mc at *
    subst hl1
    have HOF := Lib.hid hof
    have HROW := Lib.hid hrow
    have HMO := Lib.hid hmo
    have HU := Lib.hid hu
    have HA := Lib.hid hA
    have HDW := Lib.hid hdw
    clear hrow hmo hu hA hof hr hdw
    refine post fun R hR => ?_
    go_enter Try.func18, Try.ntmps18
    go_upto_region 1 with (fail)
    rw [← hAe]
    clear hAe
    have hu := HU.out
    have hA := HA.out
    clear HU HA
    generalize w.alloc (.cells #[i64 0, .string ⟨#[]⟩, .string ⟨#[]⟩, .string ⟨#[]⟩, .bool false] 42) = w1 at *
    go_wp2_with (fail)
    refine Calls.mono (HOF.out _ hu) ?_
    rintro e w2 ⟨rfl, rfl⟩
    obtain ⟨d0, d3⟩ := HDW.out _ hu
    obtain ⟨a0, a1, a2, a3, a4, y0, y1, y2, y3, y4⟩ := cells5 hA
    have t1 := lt_of_heap hA
    by_cases h4 : kd = 4
    · have hmo := HMO.out
      rw [if_pos h4] at hmo
      have hMO := Lib.hid hmo
      rw [h4] at d0
      have HX := Lib.hid hu
      clear hmo HMO h4 hu
      go_wp2_with (fail)
      go_loop [9] (fun i => ∃ k : Nat, i = i64 k ∧ k ≤ ms.length ∧ (∀ j, j < k → ∀ h : j < ms.length, ms[j].name ≠ m)) (fun i => ms.length - (intOf i).toNat)
      case atStart => exact ⟨0, rfl, Nat.zero_le _, fun j hj => by omega⟩
      case round =>
        obtain ⟨k, rfl, hk, hno⟩ := hrel
        have HNO := Lib.hid hno
        clear hno
        by_cases hlt : k < ms.length
        · obtain ⟨bm, om, rfl, hbm, hrm⟩ : ∃ b off, ma = some ⟨b, off, none⟩ ∧ b < w.heap.size ∧ RowsN w b off 5 Mt.cells ms := by
            rcases HROW.out with e | e
            · rw [e] at hlt; simp at hlt
            · exact e
          obtain ⟨c0, c1, c2, c3, c4⟩ := mrow hrm HX.out hbm hlt
          clear hrm
          by_cases he : ms[k].name = m
          · have hxm := mix_hit hlt he HNO.out
            have hmo := hMO.out
            rw [hxm, List.getElem?_eq_getElem hlt] at hmo
            obtain ⟨m1, m2⟩ := met_some hmo
            have M1 := Lib.hid m1
            have M2 := Lib.hid m2
            have hq := str_eq he
            clear he hmo m1 m2 hxm
            generalize ms[k] = x at *
            go_wp2_with (fail)
            have hK := hset5_4 (v := .bool x.ow) (hset5_3 (v := .string x.out) (hset5_2 (v := .string x.inn) (hset5_1 (v := .string x.name) (hset5_0 (v := i64 x.tag) hA))))
            obtain ⟨k0, k1, k2, k3, k4, -⟩ := cells5 hK
            clear a0 a1 a2 a3 a4 y0 y1 y2 y3 y4 c0 c1 c2 c3 c4 d0 d3
            refine bodyPost_ret (v := .tuple #[mv x, .bool true]) (by simp [results, Try.results18, go_sem, *]) rfl ?_
            refine hR.out _ _ ?_
            refine ⟨by rw [M1.out, M2.out], HX.out.trans (S' := [A]) ?_ (fun x hx => .inr (by have := List.mem_singleton.1 hx; omega))⟩
            exact (((((Upd.refl _ _).setCell (by simp) _).setCell (by simp) _).setCell (by simp) _).setCell (by simp) _).setCell (by simp) _
          · have HE := Lib.hid he
            have hq := str_ne he
            clear he
            generalize hx : ms[k] = x at c0 c1 c2 c3 c4 hq
            clear hx
            go_wp2_with (fail)
            go_round
            case rel =>
              refine ⟨k + 1, by go_num, by omega, fun j hj h => ?_⟩
              by_cases e : j = k
              · subst e; exact HE.out
              · exact HNO.out j (by omega) h
            case measure => simp [intOf]; omega
        · have hxm := mix_miss (l := ms) (s := m) (fun j h => HNO.out j (by omega) h)
          have hmo := hMO.out
          rw [hxm] at hmo
          obtain ⟨m1, m2⟩ := met_none hmo
          have M1 := Lib.hid m1
          have M2 := Lib.hid m2
          clear hxm hmo m1 m2
          go_wp2_with (fail)
          have hK := hset5_4 (v := .bool false) (hset5_3 (v := .string ⟨#[]⟩) (hset5_2 (v := .string ⟨#[]⟩) (hset5_1 (v := .string ⟨#[]⟩) (hset5_0 (v := i64 0) hA))))
          obtain ⟨k0, k1, k2, k3, k4, -⟩ := cells5 hK
          clear a0 a1 a2 a3 a4 y0 y1 y2 y3 y4
          refine bodyPost_ret (v := .tuple #[.agg #[i64 0, .string ⟨#[]⟩, .string ⟨#[]⟩, .string ⟨#[]⟩, .bool false], .bool false]) (by simp [results, Try.results18, go_sem, *]) rfl ?_
          refine hR.out _ _ ?_
          refine ⟨by rw [M1.out, M2.out]; rfl, HX.out.trans (S' := [A]) ?_ (fun x hx => .inr (by have := List.mem_singleton.1 hx; omega))⟩
          exact (((((Upd.refl _ _).setCell (by simp) _).setCell (by simp) _).setCell (by simp) _).setCell (by simp) _).setCell (by simp) _
    · have hmo := HMO.out
      rw [if_neg h4] at hmo
      obtain ⟨m1, m2⟩ := met_none hmo
      have hkn : (kd != 4) = true := by simpa using h4
      have M1 := Lib.hid m1
      have M2 := Lib.hid m2
      clear hmo HMO m1 m2 h4
      go_wp2_with (fail)
      have hK := hset5_4 (v := .bool false) (hset5_3 (v := .string ⟨#[]⟩) (hset5_2 (v := .string ⟨#[]⟩) (hset5_1 (v := .string ⟨#[]⟩) (hset5_0 (v := i64 0) hA))))
      obtain ⟨k0, k1, k2, k3, k4, -⟩ := cells5 hK
      clear a0 a1 a2 a3 a4 y0 y1 y2 y3 y4
      refine bodyPost_ret (v := .tuple #[.agg #[i64 0, .string ⟨#[]⟩, .string ⟨#[]⟩, .string ⟨#[]⟩, .bool false], .bool false]) (by simp [results, Try.results18, go_sem, *]) rfl ?_
      refine hR.out _ _ ?_
      refine ⟨by rw [M1.out, M2.out]; rfl, hu.trans (S' := [A]) ?_ (fun x hx => .inr (by have := List.mem_singleton.1 hx; omega))⟩
      exact (((((Upd.refl _ _).setCell (by simp) _).setCell (by simp) _).setCell (by simp) _).setCell (by simp) _).setCell (by simp) _
  · have hfi : fndR l s = -1 := by unfold fndR; rw [if_neg hf]
    have hmo : metO l ms s m = none := by unfold metO; rw [if_neg (fun q => hf q.1)]
    obtain ⟨m1, m2⟩ := met_none hmo
    rw [hfi] at hof
    have M1 := Lib.hid m1
    have M2 := Lib.hid m2
    have HU := Lib.hid hu
    have HA := Lib.hid hA
    have HOF := Lib.hid hof
    clear hmo m1 m2 hof hms h hu hA hf hfi
    refine post fun R hR => ?_
    go_enter Try.func18, Try.ntmps18
    go_upto_region 1 with (fail)
    rw [← hAe]
    clear hAe
    have hu := HU.out
    have hA := HA.out
    clear HU HA
    generalize w.alloc (.cells #[i64 0, .string ⟨#[]⟩, .string ⟨#[]⟩, .string ⟨#[]⟩, .bool false] 42) = w1 at *
    go_wp2_with (fail)
    refine Calls.mono (HOF.out _ hu) ?_
    rintro e w2 ⟨rfl, rfl⟩
    obtain ⟨a0, a1, a2, a3, a4, y0, y1, y2, y3, y4⟩ := cells5 hA
    have t1 := lt_of_heap hA
    go_wp2_with (fail)
    have hK := hset5_4 (v := .bool false) (hset5_3 (v := .string ⟨#[]⟩) (hset5_2 (v := .string ⟨#[]⟩) (hset5_1 (v := .string ⟨#[]⟩) (hset5_0 (v := i64 0) hA))))
    obtain ⟨k0, k1, k2, k3, k4, -⟩ := cells5 hK
    clear a0 a1 a2 a3 a4 y0 y1 y2 y3 y4
    refine bodyPost_ret (v := .tuple #[.agg #[i64 0, .string ⟨#[]⟩, .string ⟨#[]⟩, .string ⟨#[]⟩, .bool false], .bool false]) (by simp [results, Try.results18, go_sem, *]) rfl ?_
    refine hR.out _ _ ?_
    refine ⟨by rw [M1.out, M2.out]; rfl, hu.trans (S' := [A]) ?_ (fun x hx => .inr (by have := List.mem_singleton.1 hx; omega))⟩
    exact (((((Upd.refl _ _).setCell (by simp) _).setCell (by simp) _).setCell (by simp) _).setCell (by simp) _).setCell (by simp) _

set_option maxRecDepth 100000 in
set_option maxHeartbeats 2000000 in
theorem rtwice_c {ao : Option Addr} {cap : Nat} {l : List Dc} {w : World} (h : DArg w ao l) (hlen : l.length ≤ 2000000000000) :
    Calls Try.prog 19 #[.slice ao l.length cap] w fun e w' => e = .returned (i64 (twice l)) ∧ w = w' := by
  have hof := fun (s : ByteArray) => rfindA_c (cap := cap) h s hlen
  have HOF := Lib.hid hof
  rcases h with rfl | ⟨b, off, rfl, hb, hr⟩
  · clear hof
    refine post fun R hR => ?_
    go_enter Try.func19, Try.ntmps19
    go_wp2_with fail
    refine wp_loop_once ?_
    go_wp2_with fail
    exact hR.out _ _ ⟨rfl, rfl⟩
  · have HRows := Lib.hid hr
    clear hof hr
    refine post fun R hR => ?_
    go_enter Try.func19, Try.ntmps19
    go_wp2_with fail
    go_loop [3] (fun i => ∃ k : Nat, i = i64 k ∧ k ≤ l.length ∧ (∀ j, j < k → fnd l (nameAt l j) = j)) (fun i => l.length - (intOf i).toNat)
    case atStart => exact ⟨0, rfl, Nat.zero_le _, fun j hj => by omega⟩
    case round =>
      obtain ⟨k, rfl, hk, hno⟩ := hrel
      have HNO := Lib.hid hno
      clear hno
      by_cases hlt : k < l.length
      · obtain ⟨c0, c1, c2, c3, c4⟩ := drow HRows.out (Upd.refl [] w) hb (by simp) hlt
        have hna := nameAt_eq hlt
        have hfo := fnd_own hlt
        rw [← hna] at c1
        have hfi : fndR l (nameAt l k) = (fnd l (nameAt l k) : Int) := by unfold fndR; rw [if_pos (by omega)]
        have hfind := HOF.out (nameAt l k)
        rw [hfi] at hfind
        have HFIND := Lib.hid hfind
        clear hna hfi hfind c0 c2 c3 c4
        by_cases hown : fnd l (nameAt l k) = k
        · have hx : ∀ j, j = k → fnd l (nameAt l j) = j := fun j e => by subst e; exact hown
          have HOWN := Lib.hid hx
          rw [hown] at HFIND
          clear hx
          clear hown hfo
          generalize nameAt l k = nk at *
          go_wp2_with fail
          refine Calls.mono (HFIND.out) ?_
          rintro e w3 ⟨rfl, rfl⟩
          go_wp2_with fail
          go_round
          case rel =>
            refine ⟨k + 1, by go_num, by omega, fun j hj => ?_⟩
            by_cases e : j = k
            · exact HOWN.out j e
            · exact HNO.out j (by omega)
          case measure => simp [intOf]; omega
        · have ht := twice_hit hlt hown HNO.out
          have hlt2 : fnd l (nameAt l k) < k := by omega
          have HT := Lib.hid ht
          clear ht hown hfo
          generalize nameAt l k = nk at *
          generalize fnd l nk = F at *
          go_wp2_with fail
          refine Calls.mono (HFIND.out) ?_
          rintro e w3 ⟨rfl, rfl⟩
          go_wp2_with fail
          exact hR.out _ _ ⟨ret_i HT.out.symm, rfl⟩
      · have ht := twice_miss (l := l) (fun j h => HNO.out j (by omega))
        have HT := Lib.hid ht
        clear ht
        go_wp2_with fail
        exact hR.out _ _ ⟨ret_i HT.out.symm, rfl⟩
end Go.Proofs.Ytagnclphmhjoiaa
