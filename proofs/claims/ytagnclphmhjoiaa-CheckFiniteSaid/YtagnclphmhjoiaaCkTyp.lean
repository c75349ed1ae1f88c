/-
  The checker in memory, and the contracts of arity, keyed, typ (chapter 12). Condition: lengths within the machine's bounds.
-/
import Derived.Test.YtagnclphmhjoiaaGreat
import Derived.Deep.QuietTactic
namespace Go.Proofs.Ytagnclphmhjoiaa
open Go Go.RowKit

/-- a checker of the declarations qs -/
structure CkAt (w : World) (C : Nat) (ao : Option Addr) (cap T M : Nat) (v : Value) (n : Nat) (D : DataW Unit) (qs : List Dq) : Prop where
  hC : w.heap[C]? = some (.cells #[.slice ao qs.length cap, .pointer (some ⟨T, 0, none⟩)] 64 (0, 0))
  tab : TabAt w T M v n D (qs.map Dq.d)
  arg : QArg w ao qs
  len : qs.length ≤ 100
theorem CkAt.upd0 {w w' : World} {C : Nat} {ao : Option Addr} {cap T M : Nat} {v : Value} {n : Nat} {D : DataW Unit} {qs : List Dq} (h : CkAt w C ao cap T M v n D qs) (hu : Upd [] w w') : CkAt w' C ao cap T M v n D qs :=
  ⟨hu.keep0 h.hC, h.tab.upd hu, h.arg.upd0 hu, h.len⟩

def arityF (k : Int) : Int := if 1 ≤ k ∧ k ≤ 6 then 0 else if k = 7 ∨ k = 9 then 1 else if k = 8 then 2 else -1
def keyedF (ds : List Dc) (k : Int) (nm : ByteArray) : Bool := decide (1 ≤ k ∧ k ≤ 4) || (decide (k = 6) && decide (kindOf ds nm = 3))
mutual
def typE (ds : List Dc) : Ty → Bool → Int
  | .mk k nm l, inner =>
    if (l.length : Int) ≠ arityF k ∨ (k ≠ 6 ∧ nm ≠ ⟨#[]⟩) then 8
    else if k = 6 then (if kindOf ds nm = 1 ∨ kindOf ds nm = 2 ∨ kindOf ds nm = 3 then 0 else if fnd ds nm < ds.length then 8 else 6)
    else if k = 9 ∧ inner = true then 8
    else if k = 8 ∧ keyL ds l = false then 8
    else typsE ds l
def typsE (ds : List Dc) : List Ty → Int
  | [] => 0
  | t :: r => if typE ds t true ≠ 0 then typE ds t true else typsE ds r
def keyL (ds : List Dc) : List Ty → Bool
  | [] => false
  | .mk k nm _ :: _ => keyedF ds k nm
end

theorem str_emp {a : ByteArray} (h : a = ⟨#[]⟩) : a.toList.isEmpty = true := by rw [h]; simp
theorem str_nemp {a : ByteArray} (h : a ≠ ⟨#[]⟩) : a.toList.isEmpty = false := by
  have h2 := str_ne h
  cases hx : a.toList with
  | nil => rw [hx] at h2; simp at h2
  | cons => rfl

theorem arity_c (k : Int) (w : World) : Calls Try.prog 35 #[i64 k] w fun e w' => e = .returned (i64 (arityF k)) ∧ w = w' := by
  by_cases h1 : 1 ≤ k ∧ k ≤ 6
  · rw [show arityF k = 0 from by unfold arityF; rw [if_pos h1]]
    have hk : k = 1 ∨ k = 2 ∨ k = 3 ∨ k = 4 ∨ k = 5 ∨ k = 6 := by omega
    rcases hk with rfl | rfl | rfl | rfl | rfl | rfl
    all_goals
      refine post fun R hR => ?_
      go_enter Try.func35, Try.ntmps35
      go_wp2_with (fail)
      exact hR.out _ _ ⟨rfl, rfl⟩
  · by_cases h7 : k = 7
    · subst h7
      refine post fun R hR => ?_
      go_enter Try.func35, Try.ntmps35
      go_wp2_with (fail)
      exact hR.out _ _ ⟨rfl, rfl⟩
    · by_cases h9 : k = 9
      · subst h9
        refine post fun R hR => ?_
        go_enter Try.func35, Try.ntmps35
        go_wp2_with (fail)
        exact hR.out _ _ ⟨rfl, rfl⟩
      · by_cases h8 : k = 8
        · subst h8
          refine post fun R hR => ?_
          go_enter Try.func35, Try.ntmps35
          go_wp2_with (fail)
          exact hR.out _ _ ⟨rfl, rfl⟩
        · rw [show arityF k = -1 from by unfold arityF; rw [if_neg h1, if_neg (by omega), if_neg h8]]
          have e1 : (k == 1) = false := by simp; omega
          have e2 : (k == 2) = false := by simp; omega
          have e3 : (k == 3) = false := by simp; omega
          have e4 : (k == 4) = false := by simp; omega
          have e5 : (k == 5) = false := by simp; omega
          have e6 : (k == 6) = false := by simp; omega
          have e7 : (k == 7) = false := by simp; omega
          have e8 : (k == 8) = false := by simp; omega
          have e9 : (k == 9) = false := by simp; omega
          clear h1 h7 h9 h8
          refine post fun R hR => ?_
          go_enter Try.func35, Try.ntmps35
          go_wp2_with (fail)
          exact hR.out _ _ ⟨rfl, rfl⟩

section
variable {w : World} {C : Nat} {ao : Option Addr} {cap T M : Nat} {v : Value} {n : Nat} {D : DataW Unit} {qs : List Dq}

set_option maxRecDepth 100000 in
set_option maxHeartbeats 1000000 in
theorem keyed_c (h : CkAt w C ao cap T M v n D qs) (c : Tc) (hnm : c.name.size ≤ maxLen) : Calls Try.prog 36 #[.pointer (some ⟨C, 0, none⟩), tv c] w fun e w' => e = .returned (.bool (keyedF (qs.map Dq.d) c.kind c.name)) ∧ Upd [] w w' := by
  obtain ⟨k, nm, oa, on, oc⟩ := c
  simp only at hnm ⊢
  have hA := heap_alloc_new w (.cells #[i64 k, .string nm, .slice oa on oc] 58)
  have hu := (Upd.refl [] w).alloc (.cells #[i64 k, .string nm, .slice oa on oc] 58)
  have HA := Lib.hid hA
  have HU := Lib.hid hu
  have H := Lib.hid h
  clear hA hu h
  by_cases h4 : 1 ≤ k ∧ k ≤ 4
  · rw [show keyedF (qs.map Dq.d) k nm = true from by unfold keyedF; rw [decide_eq_true h4]; rfl]
    have hk : k = 1 ∨ k = 2 ∨ k = 3 ∨ k = 4 := by omega
    rcases hk with rfl | rfl | rfl | rfl
    all_goals
      refine post fun R hR => ?_
      go_enter Try.func36, Try.ntmps36
      go_upto_region 1 with (fail)
      have hA := HA.out
      have hu := HU.out
      generalize w.alloc _ = w1 at *
      obtain ⟨a0, -⟩ := cells3 hA
      go_wp2_with (fail)
      exact hR.out _ _ ⟨rfl, hu⟩
  · have e1 : (k == 1) = false := by simp; omega
    have e2 : (k == 2) = false := by simp; omega
    have e3 : (k == 3) = false := by simp; omega
    have e4 : (k == 4) = false := by simp; omega
    by_cases h6 : k = 6
    · subst h6
      rw [show keyedF (qs.map Dq.d) 6 nm = (kindOf (qs.map Dq.d) nm == 3) from by unfold keyedF; simp only [show decide ((1 : Int) ≤ 6 ∧ (6 : Int) ≤ 4) = false from by decide, Bool.false_or, decide_true, Bool.true_and]; by_cases e : kindOf (qs.map Dq.d) nm = 3 <;> simp [e]]
      clear h4 e1 e2 e3 e4
      have hkc : ∀ w', Upd [] w w' → Calls Try.prog 11 #[.pointer (some ⟨T, 0, none⟩), .string nm] w' fun e w'' => e = .returned (i64 (kindOf (qs.map Dq.d) nm)) ∧ w' = w'' := fun w' hu => kind_c (H.out.tab.upd hu) nm hnm (by have := H.out.len; simp; omega)
      have HK := Lib.hid hkc
      clear hkc
      generalize kindOf (qs.map Dq.d) nm = kk at *
      refine post fun R hR => ?_
      go_enter Try.func36, Try.ntmps36
      go_upto_region 1 with (fail)
      have hA := HA.out
      have hu := HU.out
      have hC := hu.keep0 H.out.hC
      clear HA HU
      generalize w.alloc _ = w1 at *
      obtain ⟨a0, a1, -⟩ := cells3 hA
      obtain ⟨-, c1, -⟩ := cells2 hC
      go_wp2_with (fail)
      go_quiet ((go_at_call 11; refine Calls.quiet_of_same ((HK.out _ (hu.drewN _)).mono fun _ _ h => ⟨h.1, h.2.symm⟩)))
      go_wp2_with (fail)
      exact hR.out _ _ ⟨rfl, hu.drewN _⟩
    · have e6 : (k == 6) = false := by simp; omega
      rw [show keyedF (qs.map Dq.d) k nm = false from by unfold keyedF; rw [decide_eq_false h4, decide_eq_false h6]; rfl]
      clear h4 h6
      refine post fun R hR => ?_
      go_enter Try.func36, Try.ntmps36
      go_upto_region 1 with (fail)
      have hA := HA.out
      have hu := HU.out
      clear HA HU
      generalize w.alloc _ = w1 at *
      obtain ⟨a0, -⟩ := cells3 hA
      go_wp2_with (fail)
      exact hR.out _ _ ⟨rfl, hu⟩

theorem keyL_get {ds : List Dc} {l : List Ty} (h : 0 < l.length) : keyL ds l = keyedF ds (l[0]).kind (l[0]).name := by
  cases l with
  | nil => simp at h
  | cons t r => cases t with | mk k nm o => rfl
theorem typsE_take {ds : List Dc} : ∀ (l : List Ty) (k : Nat) (_ : k < l.length), (∀ j (_ : j < l.length), j < k → typE ds l[j] true = 0) → typE ds l[k] true ≠ 0 → typsE ds l = typE ds l[k] true
  | [], k, h, _, _ => by simp at h
  | t :: r, 0, h, _, h2 => by
    have h2' : typE ds t true ≠ 0 := h2
    show typsE ds (t :: r) = typE ds t true
    rw [typsE, if_pos h2']
  | t :: r, k + 1, h, h1, h2 => by
    have h0 : typE ds t true = 0 := h1 0 (by simp) (by omega)
    rw [typsE, if_neg (by rw [h0]; simp)]
    exact typsE_take r k (by simpa using h) (fun j hj hk => h1 (j + 1) (by simpa using hj) (by omega)) h2
theorem typsE_all {ds : List Dc} : ∀ (l : List Ty), (∀ j (_ : j < l.length), typE ds l[j] true = 0) → typsE ds l = 0
  | [], _ => by rw [typsE]
  | t :: r, h => by
    have h0 : typE ds t true = 0 := h 0 (by simp)
    rw [typsE, if_neg (by rw [h0]; simp)]
    exact typsE_all r fun j hj => h (j + 1) (by simpa using hj)

theorem kindOf_lt {ds : List Dc} {s : ByteArray} (h : kindOf ds s ≠ 0) : fnd ds s < ds.length := by
  rcases Nat.lt_or_ge (fnd ds s) ds.length with q | q
  · exact q
  · exact (h (by unfold kindOf; rw [List.getElem?_eq_none q]; rfl)).elim

set_option maxRecDepth 100000 in
set_option maxHeartbeats 4000000 in
theorem typ_c (hc : CkAt w C ao cap T M v n D qs) {c : Tc} {t : Ty} (h : TyRep w c t) : ∀ (w1 : World) (inner : Bool), Upd [] w w1 → Calls Try.prog 34 #[.pointer (some ⟨C, 0, none⟩), tv c, .bool inner] w1 fun e w' => e = .returned (i64 (typE (qs.map Dq.d) t inner)) ∧ Upd [] w1 w' := by
  induction h with
  | mk c cs l hn hcs hl hrec ih =>
    intro w1 inner hu1
    have hcs0 := hcs
    obtain ⟨kd, nm, oa, on, oc⟩ := c
    simp only at hcs hn hcs0 ⊢
    obtain ⟨rfl, hmx, hrow⟩ := hcs
    unfold maxLen at hmx
    have HROW := Lib.hid hrow
    have HU1 := Lib.hid hu1
    have HIH := Lib.hid ih
    have HREC := Lib.hid hrec
    have HC := Lib.hid hc
    have HN := Lib.hid hn
    have hlq := hc.len
    clear hrow hrec hu1 ih hc hcs0
    have hA := heap_alloc_new w1 (.cells #[i64 kd, .string nm, .slice oa cs.length oc] 58)
    have hu := (Upd.refl [] w1).alloc (.cells #[i64 kd, .string nm, .slice oa cs.length oc] 58)
    have HA := Lib.hid hA
    have HU := Lib.hid hu
    clear hA hu
    have hds : ∃ ds, ds = qs.map Dq.d := ⟨_, rfl⟩
    obtain ⟨ds, hds⟩ := hds
    have har : ∃ ar, ar = arityF kd := ⟨_, rfl⟩
    obtain ⟨ar, har⟩ := har
    have HAR := Lib.hid (fun w' => by rw [har]; exact arity_c kd w' : ∀ w', Calls Try.prog 35 #[i64 kd] w' fun e w'' => e = .returned (i64 ar) ∧ w' = w'')
    rw [← hds] at HIH ⊢
    have HDS := Lib.hid hds
    have HAE := Lib.hid har
    clear hds har
    refine post fun R hR => ?_
    go_enter Try.func34, Try.ntmps34
    go_upto_region 1 with (fail)
    have hA := HA.out
    have hu := HU.out
    clear HA HU
    generalize w1.alloc (.cells #[i64 kd, .string nm, .slice oa cs.length oc] 58) = w2 at *
    obtain ⟨A, hAe⟩ : ∃ A, A = w1.heap.size := ⟨_, rfl⟩
    rw [← hAe] at hA ⊢
    clear hAe
    obtain ⟨a0, a1, a2, -⟩ := cells3 hA
    have HA := Lib.hid hA
    have HU2 := Lib.hid hu
    clear hA hu
    by_cases har : (cs.length : Int) = ar
    · have hq1 : ((cs.length : Int) != ar) = false := by simpa using har
      have har' : ¬ (l.length : Int) ≠ arityF kd := by rw [hl, ← HAE.out]; simpa using har
      have HARL := Lib.hid har'
      have HARQ := Lib.hid har
      clear har har'
      by_cases h6 : kd = 6
      · subst h6
        have hkc : ∀ w', Upd [] w w' → Calls Try.prog 11 #[.pointer (some ⟨T, 0, none⟩), .string nm] w' fun e w'' => e = .returned (i64 (kindOf ds nm)) ∧ w' = w'' := fun w' hu => by rw [HDS.out]; exact kind_c (HC.out.tab.upd hu) nm HN.out (by simp; omega)
        have hfc : ∀ w', Upd [] w w' → Calls Try.prog 9 #[.pointer (some ⟨T, 0, none⟩), .string nm] w' fun e w'' => e = .returned (.tuple #[i64 (fndI ds nm), .bool (fndB ds nm)]) ∧ w' = w'' := fun w' hu => by rw [HDS.out]; exact find_c (HC.out.tab.upd hu) nm HN.out
        have hv : typE ds (.mk 6 nm l) inner = (if kindOf ds nm = 1 ∨ kindOf ds nm = 2 ∨ kindOf ds nm = 3 then 0 else if fnd ds nm < ds.length then 8 else 6) := by
          rw [typE, if_neg (by rintro (q | ⟨q, -⟩); exact HARL.out q; exact q rfl), if_pos rfl]
        have HK := Lib.hid hkc
        have HF := Lib.hid hfc
        have HV := Lib.hid hv
        clear hkc hfc hv
        generalize hkk : kindOf ds nm = kk at *
        generalize fndI ds nm = fi at *
        generalize hfb : fndB ds nm = fb at *
        have HFB := Lib.hid hfb
        clear hkk hfb
        go_wp2_with (fail)
        obtain ⟨kd, hkd⟩ : ∃ kd : Int, kd = 6 := ⟨_, rfl⟩
        rw [← hkd] at HA HAR a0 ⊢
        have hk6 : (kd != 6) = false := by rw [hkd]; rfl
        have hk6' : (kd == 6) = true := by rw [hkd]; rfl
        clear hkd
        go_quiet ((go_at_call 35; refine Calls.quiet_of_same ((HAR.out _).mono fun _ _ h => ⟨h.1, h.2.symm⟩)))
        obtain ⟨w3, hw3⟩ : ∃ w3, w3 = w2.drewN nq := ⟨_, rfl⟩
        have HU3 : Hid (Upd [] w1 w3) := Lib.hid (by rw [hw3]; exact HU2.out.drewN nq)
        have hA3 : w3.heap[A]? = some (.cells #[i64 kd, .string nm, .slice oa cs.length oc] 58 (0, 0)) := by rw [hw3]; exact HA.out
        rw [← hw3]
        clear a0 a1 a2 hw3
        obtain ⟨a0, a1, a2, -⟩ := cells3 hA3
        have HA3 := Lib.hid hA3
        obtain ⟨z0, z1, -⟩ := cells2 (HU3.out.keep0 (HU1.out.keep0 HC.out.hC))
        clear hA3
        go_wp2_with (fail)
        go_quiet ((go_at_call 11; refine Calls.quiet_of_same ((HK.out _ ((HU1.out.trans' HU3.out).drewN _)).mono fun _ _ h => ⟨h.1, h.2.symm⟩)))
        by_cases k1 : kk = 1
        · subst k1
          go_wp2_with (fail)
          exact hR.out _ _ ⟨by rw [HV.out]; rfl, HU3.out.drewN _⟩
        · by_cases k2 : kk = 2
          · subst k2
            go_wp2_with (fail)
            exact hR.out _ _ ⟨by rw [HV.out]; rfl, HU3.out.drewN _⟩
          · by_cases k3 : kk = 3
            · subst k3
              go_wp2_with (fail)
              exact hR.out _ _ ⟨by rw [HV.out]; rfl, HU3.out.drewN _⟩
            · have e1 : (kk == 1) = false := by simpa using k1
              have e2 : (kk == 2) = false := by simpa using k2
              have e3 : (kk == 3) = false := by simpa using k3
              have hv := HV.out
              rw [if_neg (by omega)] at hv
              have HV2 := Lib.hid hv
              clear k1 k2 k3 hv
              go_wp2_with (fail)
              obtain ⟨w4, hw4⟩ : ∃ w4, w4 = w3.drewN nq := ⟨_, rfl⟩
              have HU4 : Hid (Upd [] w1 w4) := Lib.hid (by rw [hw4]; exact HU3.out.drewN nq)
              have hA4 : w4.heap[A]? = some (.cells #[i64 kd, .string nm, .slice oa cs.length oc] 58 (0, 0)) := by rw [hw4]; exact HA3.out
              rw [← hw4]
              clear a0 a1 a2 z0 z1 hw4
              obtain ⟨a0, a1, a2, -⟩ := cells3 hA4
              have HA4 := Lib.hid hA4
              obtain ⟨z0, z1, -⟩ := cells2 (HU4.out.keep0 (HU1.out.keep0 HC.out.hC))
              clear hA4
              go_quiet ((go_at_call 9; refine Calls.quiet_of_same ((HF.out _ ((HU1.out.trans' HU4.out).drewN _)).mono fun _ _ h => ⟨h.1, h.2.symm⟩)))
              cases fb with
              | true =>
                go_wp2_with (fail)
                have := HFB.out
                unfold fndB at this
                exact hR.out _ _ ⟨by rw [HV2.out, if_pos (of_decide_eq_true this)]; rfl, HU4.out.drewN _⟩
              | false =>
                go_wp2_with (fail)
                have := HFB.out
                unfold fndB at this
                exact hR.out _ _ ⟨by rw [HV2.out, if_neg (of_decide_eq_false this)]; rfl, HU4.out.drewN _⟩
      · have k6 : (kd != 6) = true := by simpa using h6
        have k6' : (kd == 6) = false := by simpa using h6
        by_cases hnm : nm = ⟨#[]⟩
        · have hs := str_emp hnm
          have hv0 : typE ds (.mk kd nm l) inner = (if kd = 9 ∧ inner = true then 8 else if kd = 8 ∧ keyL ds l = false then 8 else typsE ds l) := by
            rw [typE, if_neg (by rintro (q | ⟨-, q⟩); exact HARL.out q; exact q hnm), if_neg h6]
          have HV0 := Lib.hid hv0
          clear hv0 hnm
          go_wp2_with (fail)
          go_quiet ((go_at_call 35; refine Calls.quiet_of_same ((HAR.out _).mono fun _ _ h => ⟨h.1, h.2.symm⟩)))
          obtain ⟨w3, hw3⟩ : ∃ w3, w3 = w2.drewN nq := ⟨_, rfl⟩
          have HU3 : Hid (Upd [] w1 w3) := Lib.hid (by rw [hw3]; exact HU2.out.drewN nq)
          have hA3 : w3.heap[A]? = some (.cells #[i64 kd, .string nm, .slice oa cs.length oc] 58 (0, 0)) := by rw [hw3]; exact HA.out
          rw [← hw3]
          clear a0 a1 a2 hw3
          obtain ⟨a0, a1, a2, -⟩ := cells3 hA3
          have HA3 := Lib.hid hA3
          obtain ⟨z0, z1, -⟩ := cells2 (HU3.out.keep0 (HU1.out.keep0 HC.out.hC))
          clear hA3
          by_cases h9 : kd = 9
          · have k9 : (kd == 9) = true := by simpa using h9
            cases inner with
            | true =>
              have hv := HV0.out
              rw [if_pos ⟨h9, rfl⟩] at hv
              have HV := Lib.hid hv
              clear hv h6 h9
              go_wp2_with (fail)
              exact hR.out _ _ ⟨by rw [HV.out]; try rfl, HU3.out⟩
            | false =>
              have hv := HV0.out
              rw [if_neg (fun q => by have := q.2; cases this), if_neg (fun q => by have := q.1; omega)] at hv
              clear h6 h9 z0 z1
              have HV := Lib.hid hv
              have HA3' := HA3
              have hu13 := HU1.out.trans' HU3.out
              have HU13 := Lib.hid hu13
              clear hv hu13
              go_wp2_with (fail)
              go_loopw [71] (fun i wr => ∃ k : Nat, i = i64 k ∧ k ≤ cs.length ∧ (∀ j (_ : j < l.length), j < k → typE ds l[j] true = 0) ∧ Upd [] w3 wr) (fun i _ => cs.length - (intOf i).toNat)
              case atStart => exact ⟨0, rfl, Nat.zero_le _, fun j _ hj => by omega, Upd.refl _ _⟩
              case round =>
                obtain ⟨k, rfl, hk, hz, hur⟩ := hrel
                have HZ := Lib.hid hz
                clear hz
                by_cases hlt : k < cs.length
                · obtain ⟨b, off, rfl, hb, hr⟩ : ∃ b off, oa = some ⟨b, off, none⟩ ∧ b < w.heap.size ∧ RowsN w b off 3 Tc.cells cs := by
                    rcases HROW.out with e | e
                    · rw [e] at hlt; simp at hlt
                    · exact e
                  have huw := HU13.out.trans' hur
                  obtain ⟨c0, c1, c2⟩ := trow hr huw hb hlt
                  have hkl : k < l.length := by omega
                  have hrc := HIH.out k hlt hkl (wr.alloc (.cells #[i64 cs[k].kind, .string cs[k].name, .slice cs[k].oa cs[k].on cs[k].oc] 58)) true (huw.alloc _)
                  unfold tv at hrc
                  have HRC := Lib.hid hrc
                  have HUR := Lib.hid (hur.alloc (.cells #[i64 cs[k].kind, .string cs[k].name, .slice cs[k].oa cs[k].on cs[k].oc] 58))
                  clear hrc huw hr hur
                  generalize hxe : typE ds l[k] true = E at *
                  have HXE := Lib.hid hxe
                  clear hxe
                  generalize cs[k] = x at *
                  go_wp2_with (fail)
                  refine HRC.out.mono ?_
                  rintro e w5 ⟨rfl, hu5⟩
                  have HU5 := Lib.hid (HUR.out.trans' hu5)
                  clear hu5 HRC c0 c1 c2
                  by_cases hE : E = 0
                  · subst hE
                    go_wp2_with (fail)
                    go_roundw
                    case rel =>
                      refine ⟨k + 1, by go_num, by omega, fun j hj hjk => ?_, HU5.out⟩
                      by_cases e : j = k
                      · subst e; exact HXE.out
                      · exact HZ.out j hj (by omega)
                    case measure => simp [intOf]; omega
                  · have hqE : (E != 0) = true := by simpa using hE
                    have hfin := typsE_take l k hkl HZ.out (by rw [HXE.out]; exact hE)
                    have HFIN := Lib.hid hfin
                    clear hE hfin
                    go_wp2_with (fail)
                    exact hR.out _ _ ⟨by rw [HV.out, HFIN.out, HXE.out]; try rfl, HU3.out.trans' HU5.out⟩
                · have hfin := typsE_all l fun j hj => HZ.out j hj (by omega)
                  have HFIN := Lib.hid hfin
                  clear hfin
                  go_wp2_with (fail)
                  exact hR.out _ _ ⟨by rw [HV.out, HFIN.out]; rfl, HU3.out.trans' hur⟩
          · have k9 : (kd == 9) = false := by simpa using h9
            by_cases h8 : kd = 8
            · have k8 : (kd == 8) = true := by simpa using h8
              have hl2 : cs.length = 2 := by have h1 := HARQ.out; have h2 := HAE.out; rw [h8] at h2; have h3 : arityF 8 = 2 := rfl; omega
              have h0c : 0 < cs.length := by omega
              obtain ⟨b0, off0, hoa, hb0, hr0⟩ : ∃ b off, oa = some ⟨b, off, none⟩ ∧ b < w.heap.size ∧ RowsN w b off 3 Tc.cells cs := by
                rcases HROW.out with e | e
                · rw [e] at h0c; simp at h0c
                · exact e
              obtain ⟨c0, c1, c2⟩ := trow hr0 (HU1.out.trans' HU3.out) hb0 h0c
              rw [Nat.zero_mul, Nat.add_zero] at c0 c1 c2
              have h0l : 0 < l.length := by omega
              obtain ⟨t1, t2, t3, -⟩ := (HREC.out 0 h0c h0l).head
              have hky := keyed_c (HC.out.upd0 (HU1.out.trans' HU3.out)) cs[0] t3
              rw [← t1, ← t2, ← HDS.out, ← keyL_get h0l] at hky
              unfold tv at hky
              have HKY := Lib.hid hky
              have hn0 : (0 : Int) < cs.length := by omega
              clear hky t1 t2 t3 hr0
              generalize cs[0] = x0 at *
              generalize hkl : keyL ds l = kl at *
              rw [hoa] at a2
              cases kl with
              | false =>
                have hv := HV0.out
                rw [if_neg (fun q => h9 q.1), if_pos ⟨h8, rfl⟩] at hv
                have HV := Lib.hid hv
                clear hv h6 h9 h8
                go_wp2_with (fail)
                refine HKY.out.mono ?_
                rintro e w4 ⟨rfl, hu4⟩
                go_wp2_with (fail)
                exact hR.out _ _ ⟨by rw [HV.out]; try rfl, HU3.out.trans' hu4⟩
              | true =>
                have hv := HV0.out
                rw [if_neg (fun q => h9 q.1), if_neg (fun q => by have := q.2; cases this)] at hv
                have HVV := Lib.hid hv
                clear hv h6 h9 h8 hkl
                go_wp2_with (fail)
                refine HKY.out.mono ?_
                rintro e w4 ⟨rfl, hu4⟩
                have HU4 := Lib.hid (HU3.out.trans' hu4)
                have hA4 := hu4.keep0 HA3.out
                clear HU3 HA3 a0 a1 a2 c0 c1 c2 z0 z1 hu4 HKY
                have HU3 := HU4
                have HA3 := Lib.hid hA4
                obtain ⟨a0, a1, a2, -⟩ := cells3 hA4
                clear HU4 hA4 hoa hn0
                generalize w4 = w3 at *
                have hv := HVV.out
                clear HVV
                have HV := Lib.hid hv
                have HA3' := HA3
                have hu13 := HU1.out.trans' HU3.out
                have HU13 := Lib.hid hu13
                clear hv hu13
                go_wp2_with (fail)
                go_loopw [71] (fun i wr => ∃ k : Nat, i = i64 k ∧ k ≤ cs.length ∧ (∀ j (_ : j < l.length), j < k → typE ds l[j] true = 0) ∧ Upd [] w3 wr) (fun i _ => cs.length - (intOf i).toNat)
                case atStart => exact ⟨0, rfl, Nat.zero_le _, fun j _ hj => by omega, Upd.refl _ _⟩
                case round =>
                  obtain ⟨k, rfl, hk, hz, hur⟩ := hrel
                  have HZ := Lib.hid hz
                  clear hz
                  by_cases hlt : k < cs.length
                  · obtain ⟨b, off, rfl, hb, hr⟩ : ∃ b off, oa = some ⟨b, off, none⟩ ∧ b < w.heap.size ∧ RowsN w b off 3 Tc.cells cs := by
                      rcases HROW.out with e | e
                      · rw [e] at hlt; simp at hlt
                      · exact e
                    have huw := HU13.out.trans' hur
                    obtain ⟨c0, c1, c2⟩ := trow hr huw hb hlt
                    have hkl : k < l.length := by omega
                    have hrc := HIH.out k hlt hkl (wr.alloc (.cells #[i64 cs[k].kind, .string cs[k].name, .slice cs[k].oa cs[k].on cs[k].oc] 58)) true (huw.alloc _)
                    unfold tv at hrc
                    have HRC := Lib.hid hrc
                    have HUR := Lib.hid (hur.alloc (.cells #[i64 cs[k].kind, .string cs[k].name, .slice cs[k].oa cs[k].on cs[k].oc] 58))
                    clear hrc huw hr hur
                    generalize hxe : typE ds l[k] true = E at *
                    have HXE := Lib.hid hxe
                    clear hxe
                    generalize cs[k] = x at *
                    go_wp2_with (fail)
                    refine HRC.out.mono ?_
                    rintro e w5 ⟨rfl, hu5⟩
                    have HU5 := Lib.hid (HUR.out.trans' hu5)
                    clear hu5 HRC c0 c1 c2
                    by_cases hE : E = 0
                    · subst hE
                      go_wp2_with (fail)
                      go_roundw
                      case rel =>
                        refine ⟨k + 1, by go_num, by omega, fun j hj hjk => ?_, HU5.out⟩
                        by_cases e : j = k
                        · subst e; exact HXE.out
                        · exact HZ.out j hj (by omega)
                      case measure => simp [intOf]; omega
                    · have hqE : (E != 0) = true := by simpa using hE
                      have hfin := typsE_take l k hkl HZ.out (by rw [HXE.out]; exact hE)
                      have HFIN := Lib.hid hfin
                      clear hE hfin
                      go_wp2_with (fail)
                      exact hR.out _ _ ⟨by rw [HV.out, HFIN.out, HXE.out]; try rfl, HU3.out.trans' HU5.out⟩
                  · have hfin := typsE_all l fun j hj => HZ.out j hj (by omega)
                    have HFIN := Lib.hid hfin
                    clear hfin
                    go_wp2_with (fail)
                    exact hR.out _ _ ⟨by rw [HV.out, HFIN.out]; rfl, HU3.out.trans' hur⟩
            · have k8 : (kd == 8) = false := by simpa using h8
              have hv := HV0.out
              rw [if_neg (fun q => h9 q.1), if_neg (fun q => h8 q.1)] at hv
              clear h6 h9 h8 z0 z1
              have HV := Lib.hid hv
              have HA3' := HA3
              have hu13 := HU1.out.trans' HU3.out
              have HU13 := Lib.hid hu13
              clear hv hu13
              go_wp2_with (fail)
              go_loopw [71] (fun i wr => ∃ k : Nat, i = i64 k ∧ k ≤ cs.length ∧ (∀ j (_ : j < l.length), j < k → typE ds l[j] true = 0) ∧ Upd [] w3 wr) (fun i _ => cs.length - (intOf i).toNat)
              case atStart => exact ⟨0, rfl, Nat.zero_le _, fun j _ hj => by omega, Upd.refl _ _⟩
              case round =>
                obtain ⟨k, rfl, hk, hz, hur⟩ := hrel
                have HZ := Lib.hid hz
                clear hz
                by_cases hlt : k < cs.length
                · obtain ⟨b, off, rfl, hb, hr⟩ : ∃ b off, oa = some ⟨b, off, none⟩ ∧ b < w.heap.size ∧ RowsN w b off 3 Tc.cells cs := by
                    rcases HROW.out with e | e
                    · rw [e] at hlt; simp at hlt
                    · exact e
                  have huw := HU13.out.trans' hur
                  obtain ⟨c0, c1, c2⟩ := trow hr huw hb hlt
                  have hkl : k < l.length := by omega
                  have hrc := HIH.out k hlt hkl (wr.alloc (.cells #[i64 cs[k].kind, .string cs[k].name, .slice cs[k].oa cs[k].on cs[k].oc] 58)) true (huw.alloc _)
                  unfold tv at hrc
                  have HRC := Lib.hid hrc
                  have HUR := Lib.hid (hur.alloc (.cells #[i64 cs[k].kind, .string cs[k].name, .slice cs[k].oa cs[k].on cs[k].oc] 58))
                  clear hrc huw hr hur
                  generalize hxe : typE ds l[k] true = E at *
                  have HXE := Lib.hid hxe
                  clear hxe
                  generalize cs[k] = x at *
                  go_wp2_with (fail)
                  refine HRC.out.mono ?_
                  rintro e w5 ⟨rfl, hu5⟩
                  have HU5 := Lib.hid (HUR.out.trans' hu5)
                  clear hu5 HRC c0 c1 c2
                  by_cases hE : E = 0
                  · subst hE
                    go_wp2_with (fail)
                    go_roundw
                    case rel =>
                      refine ⟨k + 1, by go_num, by omega, fun j hj hjk => ?_, HU5.out⟩
                      by_cases e : j = k
                      · subst e; exact HXE.out
                      · exact HZ.out j hj (by omega)
                    case measure => simp [intOf]; omega
                  · have hqE : (E != 0) = true := by simpa using hE
                    have hfin := typsE_take l k hkl HZ.out (by rw [HXE.out]; exact hE)
                    have HFIN := Lib.hid hfin
                    clear hE hfin
                    go_wp2_with (fail)
                    exact hR.out _ _ ⟨by rw [HV.out, HFIN.out, HXE.out]; try rfl, HU3.out.trans' HU5.out⟩
                · have hfin := typsE_all l fun j hj => HZ.out j hj (by omega)
                  have HFIN := Lib.hid hfin
                  clear hfin
                  go_wp2_with (fail)
                  exact hR.out _ _ ⟨by rw [HV.out, HFIN.out]; rfl, HU3.out.trans' hur⟩
        · have hs := str_nemp hnm
          have hv : typE ds (.mk kd nm l) inner = 8 := by rw [typE, if_pos (.inr ⟨h6, hnm⟩)]
          have HV := Lib.hid hv
          clear hv hnm h6
          go_wp2_with (fail)
          go_quiet ((go_at_call 35; refine Calls.quiet_of_same ((HAR.out _).mono fun _ _ h => ⟨h.1, h.2.symm⟩)))
          go_wp2_with (fail)
          exact hR.out _ _ ⟨by rw [HV.out]; rfl, HU2.out.drewN _⟩
    · have hq1 : ((cs.length : Int) != ar) = true := by simpa using har
      have hv : typE ds (.mk kd nm l) inner = 8 := by rw [typE, if_pos (.inl (by rw [hl, ← HAE.out]; exact har))]
      have HV := Lib.hid hv
      clear har hv
      go_wp2_with (fail)
      go_quiet ((go_at_call 35; refine Calls.quiet_of_same ((HAR.out _).mono fun _ _ h => ⟨h.1, h.2.symm⟩)))
      go_wp2_with (fail)
      exact hR.out _ _ ⟨by rw [HV.out]; rfl, HU2.out.drewN _⟩
end
end Go.Proofs.Ytagnclphmhjoiaa
