/-
  Chapter 12's examples. No condition.
-/
import Derived.Test.YtagnclphmhjoiaaCkChk
namespace Go.Proofs.Ytagnclphmhjoiaa
open Go Go.RowKit Go.Maps

/-- one declaration of one field, as a literal lays it down -/
abbrev lit1 (Fb : Nat) (k : Int) (tn : ByteArray) (oa : Option Addr) (on oc : Nat) (t : Ty) : Dq := ⟨⟨1, ⟨#[80]⟩, some ⟨Fb, 0, none⟩, 1, 1, none, 0, 0, 0⟩, [(⟨1, ⟨#[112]⟩, k, tn, oa, on, oc⟩, t)], []⟩
theorem lit1_arg {w : World} {Db Fb : Nat} {k : Int} {tn : ByteArray} {oa : Option Addr} {on oc : Nat} {t : Ty} (hD : w.heap[Db]? = some (.cells #[i64 1, .string ⟨#[80]⟩, .slice (some ⟨Fb, 0, none⟩) 1 1, .slice none 0 0, i64 0] 34 (0, 0)))
    (hF : w.heap[Fb]? = some (.cells #[i64 1, .string ⟨#[112]⟩, i64 k, .string tn, .slice oa on oc] 60 (0, 0))) (ht : TyRep w ⟨k, tn, oa, on, oc⟩ t) : QArg w (some ⟨Db, 0, none⟩) [lit1 Fb k tn oa on oc t] := by
  refine ⟨.inr ⟨Db, 0, rfl, lt_of_heap hD, ?_⟩, ?_⟩
  · intro i s hs j hj
    rw [cellOf hD]
    match i, hs with
    | 0, hs => simp at hs; subst hs; match j, hj with
      | 0, _ => rfl
      | 1, _ => rfl
      | 2, _ => rfl
      | 3, _ => rfl
      | 4, _ => rfl
    | i + 1, hs => simp at hs
  · intro q hq
    simp only [List.mem_singleton] at hq
    subst hq
    refine ⟨by show (1 : Nat) ≤ maxLen; decide, ⟨rfl, by show (1 : Nat) ≤ maxLen; decide, .inr ⟨Fb, 0, rfl, lt_of_heap hF, ?_⟩⟩, ?_, ⟨rfl, by show (0 : Nat) ≤ maxLen; decide, .inl rfl⟩, fun m hm => by simp at hm, ?_, fun m hm => by simp at hm⟩
    · intro i s hs j hj
      rw [cellOf hF]
      match i, hs with
      | 0, hs => simp at hs; subst hs; match j, hj with
        | 0, _ => rfl
        | 1, _ => rfl
        | 2, _ => rfl
        | 3, _ => rfl
        | 4, _ => rfl
      | i + 1, hs => simp at hs
    · intro f hf
      simp only [List.mem_singleton] at hf
      subst hf
      exact ⟨by show (1 : Nat) ≤ maxLen; decide, ht⟩
    · intro f hf
      simp only [List.mem_singleton] at hf
      subst hf
      exact ⟨by show (-9223372036854775808 : Int) ≤ 1; decide, by show (1 : Int) ≤ 9223372036854775807; decide⟩
theorem ty_p (w : World) : TyRep w ⟨6, ⟨#[80]⟩, none, 0, 0⟩ (.mk 6 ⟨#[80]⟩ []) := .mk ⟨6, ⟨#[80]⟩, none, 0, 0⟩ [] [] (by decide) ⟨rfl, by decide, .inl rfl⟩ rfl (fun i h => by simp at h)
theorem ty_o {w : World} {Tb : Nat} (hT : w.heap[Tb]? = some (.cells #[i64 6, .string ⟨#[80]⟩, .slice none 0 0] 58 (0, 0))) : TyRep w ⟨9, ⟨#[]⟩, some ⟨Tb, 0, none⟩, 1, 1⟩ (.mk 9 ⟨#[]⟩ [.mk 6 ⟨#[80]⟩ []]) := by
  refine .mk ⟨9, ⟨#[]⟩, some ⟨Tb, 0, none⟩, 1, 1⟩ [⟨6, ⟨#[80]⟩, none, 0, 0⟩] [.mk 6 ⟨#[80]⟩ []] (by show (0 : Nat) ≤ maxLen; decide) ⟨rfl, by show (1 : Nat) ≤ maxLen; decide, .inr ⟨Tb, 0, rfl, lt_of_heap hT, ?_⟩⟩ rfl ?_
  · intro i s hs j hj
    rw [cellOf hT]
    match i, hs with
    | 0, hs => simp at hs; subst hs; match j, hj with
      | 0, _ => rfl
      | 1, _ => rfl
      | 2, _ => rfl
    | i + 1, hs => simp at hs
  · intro i h1 h2
    match i, h1 with
    | 0, _ => exact ty_p w
theorem lit1_fit {Fb : Nat} {k : Int} {tn : ByteArray} {oa : Option Addr} {on oc : Nat} {t : Ty} : Fit [lit1 Fb k tn oa on oc t] := ⟨by simp, fun q hq => by simp only [List.mem_singleton] at hq; subst hq; simp⟩
theorem litA_e (Fb : Nat) : checkE [lit1 Fb 6 ⟨#[80]⟩ none 0 0 (.mk 6 ⟨#[80]⟩ [])] = 10 := by
  rfl
theorem litB_e (Fb Tb : Nat) : checkE [lit1 Fb 9 ⟨#[]⟩ (some ⟨Tb, 0, none⟩) 1 1 (.mk 9 ⟨#[]⟩ [.mk 6 ⟨#[80]⟩ []])] = 0 := by
  rfl

theorem fault_err (a b : Int) (w : World) : (Instr.field 50 (.agg #[i64 a, i64 b]) 0).run Try.prog w = .ok (i64 a) w := by kernel_rfl

set_option maxRecDepth 100000 in
set_option maxHeartbeats 2000000 in
theorem n12awake_c (w : World) : Calls Try.prog 21 #[] w fun e w' => e = .returned (.bool true) ∧ Upd [] w w' := by
  have hfe := fault_err
  refine post fun R hR => ?_
  go_enter Try.func21, Try.ntmps21
  go_upto_region 2 with (fail)
  have hP := heap_alloc_new w (.cells #[i64 6, .string ⟨#[80]⟩, .slice none 0 0] 58)
  have hu1 := (Upd.refl [] w).alloc (.cells #[i64 6, .string ⟨#[80]⟩, .slice none 0 0] 58)
  generalize w.alloc (.cells #[i64 6, .string ⟨#[80]⟩, .slice none 0 0] 58) = w1 at *
  generalize w.heap.size = P at *
  obtain ⟨p0, p1, p2, -⟩ := cells3 hP
  go_upto_region 3 with (fail)
  have hF1 := heap_alloc_old (heap_alloc_new w1 (.cells #[i64 1, .string ⟨#[112]⟩, i64 6, .string ⟨#[80]⟩, .slice none 0 0] 60)) (.cells #[i64 1, .string ⟨#[80]⟩, .slice (some ⟨w1.heap.size, 0, none⟩) 1 1, .slice none 0 0, i64 0] 34)
  have hD1 := heap_new2 w1 (.cells #[i64 1, .string ⟨#[112]⟩, i64 6, .string ⟨#[80]⟩, .slice none 0 0] 60) (.cells #[i64 1, .string ⟨#[80]⟩, .slice (some ⟨w1.heap.size, 0, none⟩) 1 1, .slice none 0 0, i64 0] 34)
  have hu2 := ((Upd.refl [] w1).alloc (.cells #[i64 1, .string ⟨#[112]⟩, i64 6, .string ⟨#[80]⟩, .slice none 0 0] 60)).alloc (.cells #[i64 1, .string ⟨#[80]⟩, .slice (some ⟨w1.heap.size, 0, none⟩) 1 1, .slice none 0 0, i64 0] 34)
  have hQ1 := lit1_arg hD1 hF1 (ty_p _)
  clear hF1 hD1 p0 p1 p2
  generalize (w1.alloc (.cells #[i64 1, .string ⟨#[112]⟩, i64 6, .string ⟨#[80]⟩, .slice none 0 0] 60)).alloc (.cells #[i64 1, .string ⟨#[80]⟩, .slice (some ⟨w1.heap.size, 0, none⟩) 1 1, .slice none 0 0, i64 0] 34) = w2 at *
  generalize w1.heap.size = F1 at *
  obtain ⟨p0, p1, p2, -⟩ := cells3 (hu2.keep0 hP)
  go_upto_region 4 with (fail)
  have hT2 := heap_alloc_old (heap_alloc_old (heap_alloc_new w2 (.cells #[i64 6, .string ⟨#[80]⟩, .slice none 0 0] 58)) (.cells #[i64 1, .string ⟨#[112]⟩, i64 9, .string ⟨#[]⟩, .slice (some ⟨w2.heap.size, 0, none⟩) 1 1] 60)) (.cells #[i64 1, .string ⟨#[80]⟩, .slice (some ⟨w2.heap.size + 1, 0, none⟩) 1 1, .slice none 0 0, i64 0] 34)
  have hF2 := heap_alloc_old (heap_new2 w2 (.cells #[i64 6, .string ⟨#[80]⟩, .slice none 0 0] 58) (.cells #[i64 1, .string ⟨#[112]⟩, i64 9, .string ⟨#[]⟩, .slice (some ⟨w2.heap.size, 0, none⟩) 1 1] 60)) (.cells #[i64 1, .string ⟨#[80]⟩, .slice (some ⟨w2.heap.size + 1, 0, none⟩) 1 1, .slice none 0 0, i64 0] 34)
  have hD2 := heap_new3 w2 (.cells #[i64 6, .string ⟨#[80]⟩, .slice none 0 0] 58) (.cells #[i64 1, .string ⟨#[112]⟩, i64 9, .string ⟨#[]⟩, .slice (some ⟨w2.heap.size, 0, none⟩) 1 1] 60) (.cells #[i64 1, .string ⟨#[80]⟩, .slice (some ⟨w2.heap.size + 1, 0, none⟩) 1 1, .slice none 0 0, i64 0] 34)
  have hu3 := (((Upd.refl [] w2).alloc (.cells #[i64 6, .string ⟨#[80]⟩, .slice none 0 0] 58)).alloc (.cells #[i64 1, .string ⟨#[112]⟩, i64 9, .string ⟨#[]⟩, .slice (some ⟨w2.heap.size, 0, none⟩) 1 1] 60)).alloc (.cells #[i64 1, .string ⟨#[80]⟩, .slice (some ⟨w2.heap.size + 1, 0, none⟩) 1 1, .slice none 0 0, i64 0] 34)
  have hQ2 := lit1_arg hD2 hF2 (ty_o hT2)
  clear hF2 hD2 hT2 p0 p1 p2
  generalize ((w2.alloc (.cells #[i64 6, .string ⟨#[80]⟩, .slice none 0 0] 58)).alloc (.cells #[i64 1, .string ⟨#[112]⟩, i64 9, .string ⟨#[]⟩, .slice (some ⟨w2.heap.size, 0, none⟩) 1 1] 60)).alloc (.cells #[i64 1, .string ⟨#[80]⟩, .slice (some ⟨w2.heap.size + 1, 0, none⟩) 1 1, .slice none 0 0, i64 0] 34) = w3 at *
  generalize w2.heap.size = T2 at *
  have HC1 := Lib.hid (check_c (cap := 1) (hQ1.upd0 hu3) lit1_fit)
  have HC2 := Lib.hid (fun w' (hu : Upd [] w3 w') => check_c (cap := 1) (hQ2.upd0 hu) lit1_fit)
  have HU := Lib.hid ((hu1.trans' hu2).trans' hu3)
  rw [litA_e] at HC1
  simp only [litB_e] at HC2
  clear hQ1 hQ2 hu1 hu2 hu3 hP
  go_wp2_with (first | (go_at_call 24; refine HC1.out.mono ?_; rintro e w4 ⟨at1, rfl, hu4⟩; clear HC1) | (go_at_call 24; refine (HC2.out w4 hu4).mono ?_; rintro e w5 ⟨at2, rfl, hu5⟩; clear HC2))
  exact hR.out _ _ ⟨rfl, HU.out.trans' (hu4.trans' hu5)⟩
end Go.Proofs.Ytagnclphmhjoiaa
