/-
  The contracts of the ring's functions, but Turn and Active, on a ring in memory as one notion. Condition: the ring is one that its own functions made, by some hundred steps at most.
-/
import Derived.Test.YtabhdigannalgaaRing
namespace Go.Proofs.Ytabhdigannalgaa
open Go Go.RowKit Go.Maps

def inI (n : Int) : Prop := -9223372036854775808 ≤ n ∧ n ≤ 9223372036854775807

section
variable {w : World} {Z : Nat → Prop} {b : Nat} {ty : TypeId} {tl : List Value} {N : Nat} {r : Rg} {blk : Int → Nat} {mv rv : Value} {cv : Int → Value}

theorem RingX.rowL (h : RingX w Z b ty tl N r blk mv rv cv) : Sub w 0 96 1 rv (r.row.map blk).length (evs (r.row.map blk)) := by rw [List.length_map]; exact h.row
theorem RingX.cvOff (hty : RTy ty) (h : RingX w Z b ty tl N r blk mv rv cv) {n : Int} (hn : r.fl n ≠ none) : ∀ x ∈ blkL (cv n), x ∉ b :: blk n :: blkL rv := by
  intro x hx hm
  cases hf : r.fl n with
  | none => exact hn hf
  | some f =>
    obtain ⟨h1, h2, -, -⟩ := h.fl n f hf
    obtain ⟨cs, hxt⟩ := h2.ty _ hx
    rcases List.mem_cons.1 hm with e | e
    · subst e; exact cells_ne h.hb hxt hty.i rfl
    · rcases List.mem_cons.1 e with e | e
      · subst e; exact cells_ne h1 hxt (by decide) rfl
      · obtain ⟨cs2, q⟩ := h.row.ty _ e
        exact cells_ne q hxt (by decide) rfl

theorem ringx_settle (hty : RTy ty) (h : RingX w Z b ty tl N r blk mv rv cv) (hlen : r.row.length ≤ 9) (hrow : ∀ m ∈ r.row, r.fl m ≠ none) {n : Int} {f : Fl} (hf : r.fl n = some f) :
    Calls Try.prog 52 #[.pointer (some ⟨b, 0, none⟩), .pointer (some ⟨blk n, 0, none⟩)] w fun e w' => e = .returned (.tuple #[]) ∧ UpdP Z w w' ∧ ∃ rv', RingX w' (grow Z w) b ty tl N (r.settle n f) blk mv rv' cv := by
  have hn : r.fl n ≠ none := by rw [hf]; exact fun e => (by cases e)
  obtain ⟨h1, h2, h3, h4⟩ := h.fl n f hf
  obtain ⟨ao, cap, hcv, -, -⟩ := h2.form
  have hoff := h.cvOff hty hn
  have hlen2 : (r.row.map blk).length ≤ 100 := by rw [List.length_map]; omega
  have hsame : (fun j => if j = n then cv n else cv j) = cv := blk_same cv n
  rw [hcv] at h1
  by_cases ha : f.act = true
  · have ha2 := ha
    unfold Fl.act at ha2
    simp only [Bool.and_eq_true, decide_eq_true_eq, Bool.not_eq_true'] at ha2
    obtain ⟨hk, hrs⟩ := ha2
    by_cases hr : n ∈ r.row
    · rw [hrs] at h1
      refine Calls.mono (dsettleHas_c hty h.hb h.rowL hlen2 (h.lv hrow) ((h.mem hrow hn).2 hr) h1 hk) ?_
      rintro e w' ⟨rfl, rfl⟩
      have := h.change1 hty (n := n) (S := []) (f := f) (row' := r.row) (rv' := rv) (cvn := cv n) (Upd.refl _ _) hn (fun x q => by cases q) h.hb h.row (fun x q => .inl q) (by rw [hcv, hrs]; exact h1) h2 (fun x q => .inl q)
      rw [hsame] at this
      refine ⟨rfl, this.2, rv, ?_⟩
      rw [show r.settle n f = ⟨r.put n (some f), r.row⟩ from by unfold Rg.settle; rw [if_pos ha, if_pos hr]]
      exact this.1
    · rw [hrs] at h1
      refine Calls.mono (dsettle_c hty h.hb h.rowL hlen2 (h.lv hrow) (fun q => hr ((h.mem hrow hn).1 q)) h1 hk (Nat.zero_le _)) ?_
      rintro e w' ⟨rv', rfl, g1, g2, g3, g4, g5⟩
      have := h.change1 hty (n := n) (f := { f with d := 0, an := true }) (row' := r.row ++ [n]) (rv' := rv') (cvn := cv n) g4 hn
        (fun x q => by
          rcases List.mem_cons.1 q with e | e
          · exact .inl e
          · rcases List.mem_cons.1 e with e | e
            · exact .inr (.inl e)
            · exact .inr (.inr (.inl e))) g1
        (by rw [List.map_append, List.length_append]; rw [List.length_map] at g2; exact g2) g5 (by show FlAt w' (blk n) n f.q 0 (cv n) f.rs true; rw [hcv, hrs]; exact g3) (h2.upd g4 hoff) (fun x q => .inl q)
      rw [hsame] at this
      refine ⟨rfl, this.2, rv', ?_⟩
      rw [show r.settle n f = ⟨r.put n (some { f with d := 0, an := true }), r.row ++ [n]⟩ from by unfold Rg.settle; rw [if_pos ha, if_neg hr]]
      exact this.1
  · have ha2 : (decide (0 < f.cs.length) && !f.rs) = false := by unfold Fl.act at ha; simpa using ha
    refine Calls.mono (dsettleOff_c hty h.hb h.rowL hlen2 (h.lv hrow) h1 ha2) ?_
    rintro e w' ⟨rv', rfl, g1, g2, g3, g4, g5⟩
    rw [h.off hrow hn] at g2
    have := h.change1 hty (n := n) (f := { f with d := 0 }) (row' := offR n r.row) (rv' := rv') (cvn := cv n) g4 hn
      (fun x q => by
        rcases List.mem_cons.1 q with e | e
        · exact .inl e
        · rcases List.mem_cons.1 e with e | e
          · exact .inr (.inl e)
          · exact .inr (.inr (.inl e))) g1
      (by rw [List.length_map] at g2; exact g2) (fun x q => .inl (g5 x q)) (by show FlAt w' (blk n) n f.q 0 (cv n) f.rs f.an; rw [hcv]; exact g3) (h2.upd g4 hoff) (fun x q => .inl q)
    rw [hsame] at this
    refine ⟨rfl, this.2, rv', ?_⟩
    rw [show r.settle n f = ⟨r.put n (some { f with d := 0 }), offR n r.row⟩ from by unfold Rg.settle; rw [if_neg ha]]
    exact this.1

theorem settle_put (r : Rg) (n : Int) (f g : Fl) : (Rg.mk (r.put n (some f)) r.row).settle n g = r.settle n g := by
  have e : ∀ o, (Rg.mk (r.put n (some f)) r.row).put n o = r.put n o := fun o => by
    funext j
    unfold Rg.put
    by_cases e : j = n
    · rw [if_pos e, if_pos e]
    · rw [if_neg e, if_neg e]; show (if j = n then some f else r.fl j) = r.fl j; rw [if_neg e]
  unfold Rg.settle
  rw [e, e, e]

theorem ringx_find (hty : RTy ty) (h : RingX w Z b ty tl N r blk mv rv cv) {n : Int} (hn : inI n) :
    Calls Try.prog 51 #[.pointer (some ⟨b, 0, none⟩), i64 n] w fun e w' => e = .returned (ptrO ((r.fl n).map fun _ => blk n)) ∧ w = w' := by
  rcases h.map with ⟨e, h1⟩ | ⟨M, e, h1, h2⟩
  · rw [h1 n]
    have hb := h.hb
    rw [e] at hb
    exact dfind0_c hty hb (iwf hn)
  · have hb := h.hb
    rw [e] at hb
    exact dfind_c hty hb h2 (iwf hn)
end

section
variable {w : World} {Z : Nat → Prop} {b : Nat} {ty : TypeId} {tl : List Value} {K : Nat} {r : Rg}

theorem grow_sub (Z : Nat → Prop) (w : World) : ∀ x, Z x → grow Z w x := fun _ h => .inl h
theorem grow2 {Z : Nat → Prop} {w w' : World} (h : w.heap.size ≤ w'.heap.size) : ∀ x, grow (grow Z w) w' x → grow Z w x := fun x q => by
  rcases q with q | q
  · exact q
  · exact .inr (Nat.le_trans h q)

theorem Rg.ok.rowfl (h : r.ok) : ∀ m ∈ r.row, r.fl m ≠ none := fun m hm => by
  obtain ⟨f, hf, -⟩ := (h.mem m).1 hm
  rw [hf]; exact fun e => (by cases e)

set_option maxHeartbeats 1000000 in
theorem ring_set_c (h : RingAt w Z b ty tl K r) (hK : K ≤ 900) (n q : Int) :
    Calls Try.prog 11 #[.pointer (some ⟨b, 0, none⟩), i64 n, i64 q] w fun e w' => e = .returned (i64 (setE n q)) ∧ UpdP Z w w' ∧ RingAt w' (grow Z w) b ty tl (K + 1) (r.set n q) := by
  by_cases hbad : n < 0 ∨ 8 < n ∨ q < 1 ∨ 1048576 < q
  · refine Calls.mono (dsetBad_c hbad) ?_
    rintro e w' ⟨rfl, rfl⟩
    rw [show setE n q = 1 from by unfold setE; rw [if_pos hbad], show r.set n q = r from by unfold Rg.set; rw [if_pos hbad]]
    exact ⟨rfl, UpdP.refl _ _, h.more (grow_sub Z w) (by omega)⟩
  · have hn : 0 ≤ n ∧ n ≤ 8 := by omega
    have hq : 1 ≤ q ∧ q ≤ 1048576 := by omega
    obtain ⟨hty, hok, hsm, M0, blk, mv, rv, cv, hMK, hX⟩ := h
    have hok' := hok.set n q
    have hsm' := (hsm.set n q).mono (Nat.le_succ K)
    have e1 : setE n q = 0 := by unfold setE; rw [if_neg hbad]
    have e2 : r.set n q = ⟨r.put n (some (Fl.reset q (r.fl n))), r.row⟩ := by unfold Rg.set; rw [if_neg hbad]
    rw [e1]
    cases hf : r.fl n with
    | none =>
      have hnr : n ∉ r.row := fun hm => hok.rowfl n hm hf
      rw [hf] at e2
      have hmapeq : ∀ (F : Nat) (row : List Int), n ∉ row → row.map (fun j => if j = n then F else blk j) = row.map blk := by
        intro F row hrow
        apply List.map_congr_left
        intro j hj
        rw [if_neg (by rintro rfl; exact hrow hj)]
      rcases hX.map with ⟨e, h1⟩ | ⟨M, e, h1, h2⟩
      · have hb := hX.hb
        rw [e] at hb
        refine Calls.mono (dset0_c hty hb hn hq) ?_
        rintro e' w' ⟨M, F, rfl, g1, g2, g3, g4, g5, g6, g7⟩
        have hrow := hX.row.upd g7 (by
          intro x hx hm
          simp at hm; subst hm
          obtain ⟨cs, q⟩ := hX.row.ty _ hx
          exact cells_ne hX.hb q hty.p rfl)
        have := hX.change hty (n := n) (F := F) (o := some (Fl.reset q none)) (row' := r.row) (mv' := .map (some M)) (rv' := rv) (cvn := .slice none 0 0) (N' := 1) g7 (.inr g3)
          (fun x hx => by simp at hx; exact .inl hx) g1
          (.inr ⟨M, rfl, .inr g2, by
            rw [show (fun j => (r.put n (some (Fl.reset q none)) j).map fun _ => if j = n then F else blk j) = fun j => if j = n then some F else none from by
              funext j
              by_cases ej : j = n <;> simp [Rg.put, ej, h1]]
            exact g5⟩)
          (by rw [hmapeq F r.row hnr]; exact hrow) (fun x hx => .inl hx)
          (fun g hg => by
            injection hg with hg; subst hg
            exact ⟨g6, sub_nil _ _ _ _, fun x hx => (by simp [blkL] at hx)⟩)
        have q3 := this.1
        rw [← e2] at q3
        exact ⟨rfl, this.2, hty, hok', hsm', 1, _, _, _, _, by omega, q3⟩
      · have hb := hX.hb
        rw [e] at hb
        have hMb : M ≠ b := h2.ne hX.hb
        have hMr : ∀ x ∈ blkL rv, x ∉ [M] := fun x hx hm => by
          simp at hm; subst hm
          obtain ⟨cs, q⟩ := hX.row.ty _ hx
          exact h2.ne q rfl
        refine Calls.mono (dset1_c hty hb h2 hMb (by unfold maxLen; omega) hn hq (by rw [hf]; rfl)) ?_
        rintro e' w' ⟨rfl, g1, g5, g6, g7⟩
        have hrow := hX.row.upd g7 hMr
        have := hX.change hty (n := n) (F := w.heap.size) (o := some (Fl.reset q none)) (row' := r.row) (mv' := .map (some M)) (rv' := rv) (cvn := .slice none 0 0) (N' := M0 + 1) g7 (.inr (Nat.le_refl _))
          (fun x hx => by simp at hx; subst hx; exact .inr (.inr (.inr (.inr e)))) g1
          (.inr ⟨M, rfl, .inl e, by
            rw [show (fun j => (r.put n (some (Fl.reset q none)) j).map fun _ => if j = n then w.heap.size else blk j) = fun j => if j = n then some w.heap.size else (r.fl j).map fun _ => blk j from by
              funext j
              by_cases ej : j = n <;> simp [Rg.put, ej]]
            exact g5⟩)
          (by rw [hmapeq w.heap.size r.row hnr]; exact hrow) (fun x hx => .inl hx)
          (fun g hg => by
            injection hg with hg; subst hg
            exact ⟨g6, sub_nil _ _ _ _, fun x hx => (by simp [blkL] at hx)⟩)
        have q3 := this.1
        rw [← e2] at q3
        exact ⟨rfl, this.2, hty, hok', hsm', M0 + 1, _, _, _, _, by omega, q3⟩
    | some f =>
      have hne : r.fl n ≠ none := by rw [hf]; exact fun e => (by cases e)
      rw [hf] at e2
      obtain ⟨k1, k2, k3, k4⟩ := hX.fl n f hf
      rcases hX.map with ⟨e, h1⟩ | ⟨M, e, h1, h2⟩
      · exact (hne (h1 n)).elim
      · have hb := hX.hb
        rw [e] at hb
        refine Calls.mono (dset2_c hb h2 hn hq (by rw [hf]; rfl) k1) ?_
        rintro e' w' ⟨rfl, g1, g2⟩
        have := hX.change1 hty (n := n) (f := Fl.reset q (some f)) (row' := r.row) (rv' := rv) (cvn := cv n) g2 hne (fun x hx => by simp at hx; exact .inr (.inl hx))
          (g2.keep hX.hb (by simp; exact cells_ne hX.hb k1 hty.f)) (hX.row.upd g2 (by
            intro x hx hm
            simp at hm; subst hm
            obtain ⟨cs, q⟩ := hX.row.ty _ hx
            exact cells_ne q k1 (by decide) rfl)) (fun x q => .inl q) g1 (k2.upd g2 (by
            intro x hx hm
            simp at hm; subst hm
            obtain ⟨cs, q⟩ := k2.ty _ hx
            exact cells_ne q k1 (by decide) rfl)) (fun x q => .inl q)
        have q3 := this.1
        rw [← e2] at q3
        exact ⟨rfl, this.2, hty, hok', hsm', M0, _, _, _, _, by omega, q3⟩

set_option maxHeartbeats 1000000 in
theorem ring_push_c (h : RingAt w Z b ty tl K r) (hK : K ≤ 900) {n : Int} (hn : inI n) (c : Int) :
    Calls Try.prog 12 #[.pointer (some ⟨b, 0, none⟩), i64 n, i64 c] w fun e w' => e = .returned (i64 (r.pushE n c)) ∧ UpdP Z w w' ∧ RingAt w' (grow Z w) b ty tl (K + 1) (r.push n c) := by
  obtain ⟨hty, hok, hsm, M0, blk, mv, rv, cv, hMK, hX⟩ := h
  have hfd := ringx_find hty hX hn
  by_cases hbad : c < 1 ∨ 1040 < c
  · refine Calls.mono (dpushBad_c hfd hbad) ?_
    rintro e w' ⟨rfl, rfl⟩
    rw [show r.pushE n c = 1 from by unfold Rg.pushE; rw [if_pos hbad], show r.push n c = r from by unfold Rg.push; rw [if_pos hbad]]
    exact ⟨rfl, UpdP.refl _ _, hty, hok, hsm.mono (by omega), M0, blk, mv, rv, cv, by omega, hX.mono (grow_sub Z w)⟩
  · have hc : 1 ≤ c ∧ c ≤ 1040 := by omega
    have hok' := hok.push n c
    have hsm' := hsm.push n c
    cases hf : r.fl n with
    | none =>
      rw [hf] at hfd
      refine Calls.mono (dpushNone_c hfd hc) ?_
      rintro e w' ⟨rfl, rfl⟩
      rw [show r.pushE n c = 12 from by unfold Rg.pushE; rw [if_neg hbad, if_pos hf], show r.push n c = r from by unfold Rg.push; rw [if_neg hbad, hf]]
      exact ⟨rfl, UpdP.refl _ _, hty, hok, hsm.mono (by omega), M0, blk, mv, rv, cv, by omega, hX.mono (grow_sub Z w)⟩
    | some f =>
      have hne : r.fl n ≠ none := by rw [hf]; exact fun e => (by cases e)
      have hfK := hsm n f hf
      have hnr := hok.rng n f hf
      obtain ⟨k1, k2, k3, k4⟩ := hX.fl n f hf
      rcases hX.map with ⟨e, h1⟩ | ⟨M, e, h1, h2⟩
      · exact (hne (h1 n)).elim
      · have hb := hX.hb
        rw [e] at hb
        have e1 : r.pushE n c = 0 := by unfold Rg.pushE; rw [if_neg hbad, if_neg hne]
        have e2 : r.push n c = r.settle n { f with cs := f.cs ++ [c] } := by unfold Rg.push; rw [if_neg hbad, hf]
        rw [e1]
        refine dpushPre_c hty hb h2 hnr hc (by rw [hf]; rfl) k1 k2 (by omega) (Nat.zero_le _) ?_
        intro w' ao' cap' g1 g2 g3 g4
        have hfc : ∀ x ∈ blkL (cv n), ∃ cs, w.heap[x]? = some (.cells cs 3 (0, 0)) := k2.ty
        have hx1 := hX.change1 hty (n := n) (f := { f with cs := f.cs ++ [c] }) (row' := r.row) (rv' := rv) (cvn := .slice ao' (f.cs.length + 1) cap') g3 hne
          (fun x hx => by
            rcases List.mem_cons.1 hx with q | q
            · exact .inr (.inl q)
            · exact .inr (.inr (.inr q)))
          (g3.keep hX.hb (fun hm => by
            rcases List.mem_cons.1 hm with q | q
            · exact cells_ne hX.hb k1 hty.f q
            · obtain ⟨cs, z⟩ := hfc _ q
              exact cells_ne hX.hb z hty.i rfl))
          (hX.row.upd g3 (fun x hx hm => by
            obtain ⟨cs, z⟩ := hX.row.ty _ hx
            rcases List.mem_cons.1 hm with q | q
            · subst q; exact cells_ne z k1 (by decide) rfl
            · obtain ⟨cs2, z2⟩ := hfc _ q
              exact cells_ne z z2 (by decide) rfl)) (fun x q => .inl q) g1
          (by show Sub w' 0 3 1 (.slice ao' (f.cs.length + 1) cap') (f.cs ++ [c]).length ((f.cs ++ [c]).map i64); rw [List.length_append, List.map_append]; exact g2) g4
        have hst := ringx_settle hty hx1.1 (n := n) (f := { f with cs := f.cs ++ [c] }) hok.len (fun m hm => by
          by_cases q : m = n
          · subst q; show r.put m _ m ≠ none; rw [Rg.put_same]; exact fun e => (by cases e)
          · show r.put n _ m ≠ none; rw [Rg.put_other r _ q]; exact hok.rowfl m hm) (Rg.put_same _ _ _)
        refine Calls.mono hst ?_
        rintro e' w2 ⟨rfl, q1, rv', q2⟩
        rw [settle_put] at q2
        have q3 := q2.mono (grow2 hx1.2.size)
        rw [← e2] at q3
        exact ⟨rfl, rfl, hx1.2.trans q1 (fun x hx => hx), hty, hok', hsm', M0, blk, mv, rv', _, by omega, q3⟩

set_option maxHeartbeats 1000000 in
theorem ring_rest_c (h : RingAt w Z b ty tl K r) (_hK : K ≤ 900) {n : Int} (hn : inI n) (x : Bool) :
    Calls Try.prog 13 #[.pointer (some ⟨b, 0, none⟩), i64 n, .bool x] w fun e w' => e = .returned (i64 (r.restE n)) ∧ UpdP Z w w' ∧ RingAt w' (grow Z w) b ty tl (K + 1) (r.rest n x) := by
  obtain ⟨hty, hok, hsm, M0, blk, mv, rv, cv, hMK, hX⟩ := h
  have hfd := ringx_find hty hX hn
  have hok' := hok.rest n x
  have hsm' := (hsm.rest n x).mono (Nat.le_succ K)
  cases hf : r.fl n with
  | none =>
    rw [hf] at hfd
    refine Calls.mono (drestNone_c hfd) ?_
    rintro e w' ⟨rfl, rfl⟩
    rw [show r.restE n = 12 from by unfold Rg.restE; rw [if_pos hf], show r.rest n x = r from by unfold Rg.rest; rw [hf]]
    exact ⟨rfl, UpdP.refl _ _, hty, hok, hsm.mono (by omega), M0, blk, mv, rv, cv, by omega, hX.mono (grow_sub Z w)⟩
  | some f =>
    have hne : r.fl n ≠ none := by rw [hf]; exact fun e => (by cases e)
    obtain ⟨k1, k2, k3, k4⟩ := hX.fl n f hf
    rw [hf] at hfd
    have e1 : r.restE n = 0 := by unfold Rg.restE; rw [if_neg hne]
    have e2 : r.rest n x = r.settle n { f with rs := x } := by unfold Rg.rest; rw [hf]
    rw [e1]
    refine drestPre_c hfd k1 ?_
    intro w' g1 g3
    have hx1 := hX.change1 hty (n := n) (f := { f with rs := x }) (row' := r.row) (rv' := rv) (cvn := cv n) g3 hne
      (fun x hx => by simp at hx; exact .inr (.inl hx))
      (g3.keep hX.hb (by simp; exact cells_ne hX.hb k1 hty.f))
      (hX.row.upd g3 (fun x hx hm => by
        obtain ⟨cs, z⟩ := hX.row.ty _ hx
        simp at hm; subst hm; exact cells_ne z k1 (by decide) rfl)) (fun x q => .inl q) g1
      (k2.upd g3 (fun x hx hm => by
        obtain ⟨cs, z⟩ := k2.ty _ hx
        simp at hm; subst hm; exact cells_ne z k1 (by decide) rfl)) (fun x q => .inl q)
    have hst := ringx_settle hty hx1.1 (n := n) (f := { f with rs := x }) hok.len (fun m hm => by
      by_cases q : m = n
      · subst q; show r.put m _ m ≠ none; rw [Rg.put_same]; exact fun e => (by cases e)
      · show r.put n _ m ≠ none; rw [Rg.put_other r _ q]; exact hok.rowfl m hm) (Rg.put_same _ _ _)
    refine Calls.mono hst ?_
    rintro e' w2 ⟨rfl, q1, rv', q2⟩
    rw [settle_put] at q2
    have q3 := q2.mono (grow2 hx1.2.size)
    rw [← e2] at q3
    exact ⟨rfl, rfl, hx1.2.trans q1 (fun x hx => hx), hty, hok', hsm', M0, blk, mv, rv', _, by omega, q3⟩

set_option maxHeartbeats 1000000 in
theorem ring_drop_c (h : RingAt w Z b ty tl K r) (_hK : K ≤ 900) {n : Int} (hn : inI n) :
    Calls Try.prog 24 #[.pointer (some ⟨b, 0, none⟩), i64 n] w fun e w' => e = .returned (i64 (r.waits n)) ∧ UpdP Z w w' ∧ RingAt w' (grow Z w) b ty tl (K + 1) (r.drop n) := by
  obtain ⟨hty, hok, hsm, M0, blk, mv, rv, cv, hMK, hX⟩ := h
  have hfd := ringx_find hty hX hn
  have hok' := hok.drop n
  have hsm' := (hsm.drop n).mono (Nat.le_succ K)
  cases hf : r.fl n with
  | none =>
    rw [hf] at hfd
    refine Calls.mono (ddropNone_c hfd) ?_
    rintro e w' ⟨rfl, rfl⟩
    rw [show r.waits n = 0 from by unfold Rg.waits; rw [hf], show r.drop n = r from by unfold Rg.drop; rw [if_pos hf]]
    exact ⟨rfl, UpdP.refl _ _, hty, hok, hsm.mono (by omega), M0, blk, mv, rv, cv, by omega, hX.mono (grow_sub Z w)⟩
  | some f =>
    have hne : r.fl n ≠ none := by rw [hf]; exact fun e => (by cases e)
    have hnr := hok.rng n f hf
    obtain ⟨k1, k2, k3, k4⟩ := hX.fl n f hf
    have e1 : r.waits n = f.cs.length := by unfold Rg.waits; rw [hf]
    have e2 : r.drop n = ⟨r.put n none, offR n r.row⟩ := by unfold Rg.drop; rw [if_neg hne]
    rw [e1]
    rcases hX.map with ⟨e, h1⟩ | ⟨M, e, h1, h2⟩
    · exact (hne (h1 n)).elim
    · have hb := hX.hb
      rw [e] at hb
      obtain ⟨ao, cap, hcv, -, -⟩ := k2.form
      rw [hcv] at k1
      have hlen2 : (r.row.map blk).length ≤ 100 := by rw [List.length_map]; have := hok.len; omega
      refine Calls.mono (ddrop_c hty hb h2 (h2.ne hX.hb) (h2.ne k1) (fun hm => by
        obtain ⟨cs, z⟩ := hX.row.ty _ hm
        exact h2.ne z rfl) hX.rowL hlen2 (hX.lv hok.rowfl) hnr (by rw [hf]; rfl) k1) ?_
      rintro e' w' ⟨rv', rfl, g1, g2, g3, g4, g5⟩
      rw [hX.off hok.rowfl hne] at g2
      have hsame : (fun j => if j = n then blk n else blk j) = blk := blk_same blk n
      have := hX.change hty (n := n) (F := blk n) (o := none) (row' := offR n r.row) (mv' := .map (some M)) (rv' := rv') (cvn := cv n) (N' := M0) g4 (.inl ⟨hne, rfl⟩)
        (fun x hx => by
          rcases List.mem_cons.1 hx with q | q
          · subst q; exact .inr (.inr (.inr (.inr e)))
          · rcases List.mem_cons.1 q with q | q
            · exact .inl q
            · rcases List.mem_cons.1 q with q | q
              · exact .inr (.inl q)
              · exact .inr (.inr (.inl q))) g1
        (.inr ⟨M, rfl, .inl e, by
          rw [show (fun j => (r.put n none j).map fun _ => if j = n then blk n else blk j) = fun j => if j = n then none else (r.fl j).map fun _ => blk j from by
            funext j
            by_cases ej : j = n <;> simp [Rg.put, ej]]
          exact g3⟩)
        (by rw [hsame]; rw [List.length_map] at g2; exact g2) (fun x hx => .inl (g5 x hx)) (fun g hg => by cases hg)
      have q3 := this.1
      rw [← e2] at q3
      exact ⟨rfl, this.2, hty, hok', hsm', M0, _, _, _, _, by omega, q3⟩

theorem ring_waits_c (h : RingAt w Z b ty tl K r) {n : Int} (hn : inI n) :
    Calls Try.prog 18 #[.pointer (some ⟨b, 0, none⟩), i64 n] w fun e w' => e = .returned (i64 (r.waits n)) ∧ w = w' := by
  obtain ⟨hty, hok, hsm, M0, blk, mv, rv, cv, hMK, hX⟩ := h
  have hfd := ringx_find hty hX hn
  unfold Rg.waits
  cases hf : r.fl n with
  | none =>
    rw [hf] at hfd
    have HF := Lib.hid hfd
    clear hfd hX hok hsm hf
    refine post fun R hR => ?_
    go_enter Try.func18, Try.ntmps18
    go_wp2_with (fail)
    refine HF.out.mono ?_
    rintro e w2 ⟨rfl, rfl⟩
    rw [show (Option.map (fun _ => blk n) (none : Option Fl)) = none from rfl, show ptrO none = .pointer none from rfl]
    go_wp2_with (fail)
    exact hR.out _ _ ⟨rfl, rfl⟩
  | some f =>
    rw [hf] at hfd
    obtain ⟨k1, k2, k3, k4⟩ := hX.fl n f hf
    obtain ⟨ao, cap, hcv, -, -⟩ := k2.form
    rw [hcv] at k1
    obtain ⟨p0, p1, p2, p3, p4, p5, -⟩ := cells6 k1
    have HF := Lib.hid hfd
    clear hfd hX hok hsm hf k1 k2 k4 hcv
    refine post fun R hR => ?_
    go_enter Try.func18, Try.ntmps18
    go_wp2_with (fail)
    refine HF.out.mono ?_
    rintro e w2 ⟨rfl, rfl⟩
    rw [show ptrO (Option.map (fun _ => blk n) (some f)) = .pointer (some ⟨blk n, 0, none⟩) from rfl]
    go_wp2_with (fail)
    exact hR.out _ _ ⟨rfl, rfl⟩

theorem ring_deficit_c (h : RingAt w Z b ty tl K r) {n : Int} (hn : inI n) :
    Calls Try.prog 17 #[.pointer (some ⟨b, 0, none⟩), i64 n] w fun e w' => e = .returned (i64 (r.deficit n)) ∧ w = w' := by
  obtain ⟨hty, hok, hsm, M0, blk, mv, rv, cv, hMK, hX⟩ := h
  have hfd := ringx_find hty hX hn
  unfold Rg.deficit
  cases hf : r.fl n with
  | none =>
    rw [hf] at hfd
    have HF := Lib.hid hfd
    clear hfd hX hok hsm hf
    refine post fun R hR => ?_
    go_enter Try.func17, Try.ntmps17
    go_wp2_with (fail)
    refine HF.out.mono ?_
    rintro e w2 ⟨rfl, rfl⟩
    rw [show (Option.map (fun _ => blk n) (none : Option Fl)) = none from rfl, show ptrO none = .pointer none from rfl]
    go_wp2_with (fail)
    exact hR.out _ _ ⟨rfl, rfl⟩
  | some f =>
    rw [hf] at hfd
    obtain ⟨k1, k2, k3, k4⟩ := hX.fl n f hf
    obtain ⟨p0, p1, p2, p3, p4, p5, -⟩ := cells6 k1
    have HF := Lib.hid hfd
    clear hfd hX hok hsm hf k1 k2 k4
    refine post fun R hR => ?_
    go_enter Try.func17, Try.ntmps17
    go_wp2_with (fail)
    refine HF.out.mono ?_
    rintro e w2 ⟨rfl, rfl⟩
    rw [show ptrO (Option.map (fun _ => blk n) (some f)) = .pointer (some ⟨blk n, 0, none⟩) from rfl]
    go_wp2_with (fail)
    exact hR.out _ _ ⟨rfl, rfl⟩
end
end Go.Proofs.Ytabhdigannalgaa
