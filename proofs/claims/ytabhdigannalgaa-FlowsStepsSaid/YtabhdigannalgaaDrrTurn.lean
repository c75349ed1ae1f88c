/-
  The contract of the ring's Turn, where the front flow can pay. Condition: the ring is one that its own functions made.
-/
import Derived.Test.YtabhdigannalgaaDrrServe
import Derived.Deep.RegionHeld3
namespace Go.Proofs.Ytabhdigannalgaa
open Go Go.RowKit Go.Maps

set_option maxRecDepth 100000 in
set_option maxHeartbeats 2000000 in
theorem dturnOld_c {ty : TypeId} {tl : List Value} (_hty : RTy ty) {w : World} {b base F : Nat} {mv rv : Value} {l : List Nat} (hb : w.heap[b]? = some (.cells (mv :: rv :: tl).toArray ty (0, 0))) (hs : Sub w base 96 1 rv (l.length + 1) (evs (F :: l))) (hlen : l.length ≤ 100)
    {n q d c : Int} {cv : Value} {rs : Bool} {k base2 : Nat} {xs : List Value} (hFl : FlAt w F n q d cv rs false) (ho : Sub w base2 3 1 cv (k + 1) (i64 c :: xs)) (hk : k ≤ 1000) (hd : c ≤ d) {R : Ending → World → Prop}
    (hserve : ∀ w', FlAt w' F n q d cv rs false → Upd [] w w' → Calls Try.prog 53 #[.pointer (some ⟨b, 0, none⟩), .pointer (some ⟨F, 0, none⟩)] w' fun e w'' => e = .returned (i64 c) ∧ w''.cell? ⟨F, 0, none⟩ = some (i64 n) ∧ R (.returned (.tuple #[i64 n, i64 c, .bool true])) w'') :
    Calls Try.prog 14 #[.pointer (some ⟨b, 0, none⟩)] w R := by
  obtain ⟨-, c1, -, f1⟩ := rcells hb
  obtain ⟨p0, p1, p2, p3, p4, p5, y0, y1, y2, y3, y4, y5⟩ := cells6 hFl
  obtain ⟨ao, cap, rfl, hcap, hrow⟩ := hs.form
  obtain ⟨g, off, rfl, -, -, hcs⟩ := hrow (by omega)
  have r0 := hcs 0 _ rfl
  rw [Nat.add_zero] at r0
  obtain ⟨ao2, cap2, rfl, hcap2, hrow2⟩ := ho.form
  obtain ⟨g2, off2, rfl, -, -, hcs2⟩ := hrow2 (by omega)
  have o0 := hcs2 0 _ rfl
  rw [Nat.add_zero] at o0
  have HFL := Lib.hid hFl
  have HSV := Lib.hid hserve
  clear hb hs ho hrow hrow2 hcs hcs2 hserve hFl
  refine post fun R hR => ?_
  go_enter Try.func14, Try.ntmps14
  go_wp2_with (fail)
  refine wp_loop_once ?_
  go_wp2_with (fail)
  go_quiet (fail)
  rename_i nq
  have hf1 : FlAt (w.drewN nq) F n q d _ rs false := heap_drewN HFL.out nq
  have hsv := HSV.out (w.drewN nq).drew (heap_drew hf1) (((Upd.refl [] w).drewN nq).drew)
  clear p0 p1 p2 p3 p4 p5 y0 y1 y2 y3 y4 y5 c1 f1 r0 o0 HSV HFL
  generalize w.drewN nq = w1 at *
  obtain ⟨p0, -⟩ := cells6 hf1
  have HSV := Lib.hid hsv
  clear hsv hf1
  go_wp2_with (fail)
  go_region_held3 (fun w' => w'.cell? ⟨F, 0, none⟩ = some (i64 n))
    ((first | exact p0 | exact hp3))
    ((first
      | (go_at_call 53; (with_reducible refine Calls.mono (HSV.out) ?_); rintro e w3 ⟨rfl, hp3, hr3⟩)))
  all_goals go_wp2_with (fail)
  exact hR.out _ _ hr3
set_option maxRecDepth 100000 in
set_option maxHeartbeats 2000000 in
theorem dturnNew_c {ty : TypeId} {tl : List Value} (_hty : RTy ty) {w : World} {b base F : Nat} {mv rv : Value} {l : List Nat} (hb : w.heap[b]? = some (.cells (mv :: rv :: tl).toArray ty (0, 0))) (hs : Sub w base 96 1 rv (l.length + 1) (evs (F :: l))) (hlen : l.length ≤ 100)
    {n q d c : Int} {cv : Value} {rs : Bool} {k base2 : Nat} {xs : List Value} (hFl : FlAt w F n q d cv rs true) (ho : Sub w base2 3 1 cv (k + 1) (i64 c :: xs)) (hk : k ≤ 1000) (hd : c ≤ d + q) (hdq : 0 ≤ d ∧ d ≤ 2097152 ∧ 0 ≤ q ∧ q ≤ 1048576) {R : Ending → World → Prop}
    (hserve : ∀ w', FlAt w' F n q (d + q) cv rs false → Upd [F] w w' → Calls Try.prog 53 #[.pointer (some ⟨b, 0, none⟩), .pointer (some ⟨F, 0, none⟩)] w' fun e w'' => e = .returned (i64 c) ∧ w''.cell? ⟨F, 0, none⟩ = some (i64 n) ∧ R (.returned (.tuple #[i64 n, i64 c, .bool true])) w'') :
    Calls Try.prog 14 #[.pointer (some ⟨b, 0, none⟩)] w R := by
  obtain ⟨-, c1, -, f1⟩ := rcells hb
  obtain ⟨p0, p1, p2, p3, p4, p5, y0, y1, y2, y3, y4, y5⟩ := cells6 hFl
  obtain ⟨ao, cap, rfl, hcap, hrow⟩ := hs.form
  obtain ⟨g, off, rfl, -, -, hcs⟩ := hrow (by omega)
  have r0 := hcs 0 _ rfl
  rw [Nat.add_zero] at r0
  obtain ⟨ao2, cap2, rfl, hcap2, hrow2⟩ := ho.form
  obtain ⟨g2, off2, rfl, -, -, hcs2⟩ := hrow2 (by omega)
  have o0 := hcs2 0 _ rfl
  rw [Nat.add_zero] at o0
  have hFg : F ≠ g2 := by
    rintro rfl
    obtain ⟨cs, hc⟩ := ho.ty F (by simp [blkL])
    have hx := hFl.symm.trans hc; injection hx with hx; injection hx with _ hx; cases hx
  have hgF : g2 ≠ F := fun e => hFg e.symm
  have HFL := Lib.hid hFl
  have HSV := Lib.hid hserve
  clear hb hs ho hrow hrow2 hcs hcs2 hserve hFl
  refine post fun R hR => ?_
  go_enter Try.func14, Try.ntmps14
  go_wp2_with (fail)
  refine wp_loop_once ?_
  go_wp2_with (fail)
  go_region
  have hf2 : FlAt (w.setCell ⟨F, 2, none⟩ (i64 (d + q))).drew F n q (d + q) _ rs true := heap_drew (hset6_2 HFL.out)
  have hu2 : Upd [F] w (w.setCell ⟨F, 2, none⟩ (i64 (d + q))).drew := ((Upd.refl [F] w).setCell (by simp) _).drew
  have o2 : (w.setCell ⟨F, 2, none⟩ (i64 (d + q))).drew.cell? ⟨g2, off2, none⟩ = some (i64 c) := (World.cell?_of_block (a := ⟨g2, off2, none⟩) (hu2.block g2 (World.block_lt_of_cell? w _ o0) (by simpa using hgF))).trans o0
  clear p0 p1 p2 p3 p4 p5 y0 y1 y2 y3 y4 y5 c1 f1 r0 o0 HFL
  generalize (w.setCell ⟨F, 2, none⟩ (i64 (d + q))).drew = w2 at *
  obtain ⟨p0, p1, p2, p3, p4, p5, y0, y1, y2, y3, y4, y5⟩ := cells6 hf2
  have hf3 : FlAt (w2.setCell ⟨F, 5, none⟩ (.bool false)) F n q (d + q) _ rs false := hset6_5 hf2
  have hu3 : Upd [F] w (w2.setCell ⟨F, 5, none⟩ (.bool false)) := hu2.setCell (by simp) _
  have HF3 := Lib.hid hf3
  have HU3 := Lib.hid hu3
  clear hf3 hu3 hf2 hu2
  go_wp2_with (fail)
  go_quiet (fail)
  rename_i nq
  have hf1 : FlAt ((w2.setCell ⟨F, 5, none⟩ (.bool false)).drewN nq) F n q (d + q) _ rs false := heap_drewN HF3.out nq
  have hsv := HSV.out ((w2.setCell ⟨F, 5, none⟩ (.bool false)).drewN nq).drew (heap_drew hf1) ((HU3.out.drewN nq).drew)
  clear p0 p1 p2 p3 p4 p5 y0 y1 y2 y3 y4 y5 o2 HSV HF3 HU3
  generalize (w2.setCell ⟨F, 5, none⟩ (.bool false)).drewN nq = w1 at *
  obtain ⟨p0, -⟩ := cells6 hf1
  have HSV := Lib.hid hsv
  clear hsv hf1
  go_wp2_with (fail)
  go_region_held3 (fun w' => w'.cell? ⟨F, 0, none⟩ = some (i64 n))
    ((first | exact p0 | exact hp3))
    ((first
      | (go_at_call 53; (with_reducible refine Calls.mono (HSV.out) ?_); rintro e w3 ⟨rfl, hp3, hr3⟩)))
  all_goals go_wp2_with (fail)
  exact hR.out _ _ hr3
end Go.Proofs.Ytabhdigannalgaa
