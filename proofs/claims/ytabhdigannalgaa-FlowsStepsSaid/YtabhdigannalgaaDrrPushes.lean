/-
  The contract of the ring's Push onto a flow that is not in the row, and does not rest. Condition: the ring is one that its own functions made.
-/
import Derived.Test.YtabhdigannalgaaDrrTurn
namespace Go.Proofs.Ytabhdigannalgaa
open Go Go.RowKit Go.Maps

set_option maxRecDepth 100000 in
set_option maxHeartbeats 1000000 in
theorem dpushNew_c {ty : TypeId} {tl : List Value} (hty : RTy ty) {w : World} {b M N base : Nat} {rv : Value} {f : Int → Option Nat} {l : List Nat} (hb : w.heap[b]? = some (.cells (.map (some M) :: rv :: tl).toArray ty (0, 0))) (hm : FlMap w M N f) (hs : Sub w base 96 1 rv l.length (evs l)) (hlen : l.length ≤ 100) (hL : ∀ y ∈ l, Lv w y) (hbase : base ≤ w.heap.size)
    {n c : Int} {F : Nat} (hn : 0 ≤ n ∧ n ≤ 8) (hc : 1 ≤ c ∧ c ≤ 1040) (hf : f n = some F) (hF : F ∉ l)
    {q d : Int} {cv : Value} {an : Bool} {k base2 : Nat} {xs : List Value} (hFl : FlAt w F n q d cv false an) (ho : Sub w base2 3 1 cv k xs) (hk : k ≤ 1000) (hb2 : base2 ≤ w.heap.size) :
    Calls Try.prog 12 #[.pointer (some ⟨b, 0, none⟩), i64 n, i64 c] w fun e w' => ∃ rv' ao cap, e = .returned (i64 0) ∧ w'.heap[b]? = some (.cells (.map (some M) :: rv' :: tl).toArray ty (0, 0)) ∧
      Sub w' base 96 1 rv' (l.length + 1) (evs (l ++ [F])) ∧ FlAt w' F n q 0 (.slice ao (k + 1) cap) false true ∧ Sub w' base2 3 1 (.slice ao (k + 1) cap) (k + 1) (xs ++ [i64 c]) ∧
      Upd (b :: F :: (blkL rv ++ blkL cv)) w w' ∧ (∀ g ∈ blkL rv', g ∈ blkL rv ∨ w.heap.size ≤ g) ∧ (∀ g ∈ blkL (.slice ao (k + 1) cap), g ∈ blkL cv ∨ w.heap.size ≤ g) := by
  have hbF : b ≠ F := cells_ne hb hFl hty.f
  have hbc : b ∉ blkL cv := fun hm => by obtain ⟨cs, hx⟩ := ho.ty _ hm; exact cells_ne hb hx hty.i rfl
  have hrF : ∀ g ∈ blkL rv, g ≠ F := fun g hg => by obtain ⟨cs, hx⟩ := hs.ty _ hg; exact cells_ne hx hFl (by decide)
  have hrc : ∀ g ∈ blkL rv, g ∉ blkL cv := fun g hg hm => by obtain ⟨cs, hx⟩ := hs.ty _ hg; obtain ⟨cs2, hy⟩ := ho.ty _ hm; exact cells_ne hx hy (by decide) rfl
  have hlb := lt_of_heap hb
  have hlF := lt_of_heap hFl
  refine dpushPre_c hty hb hm hn hc hf hFl ho hk hb2 ?_
  intro w' ao cap h1 h2 h3 h4
  have hL' : ∀ y ∈ l, Lv w' y := fun y hy => by
    obtain ⟨cs, hx⟩ := hL y hy
    refine ⟨cs, h3.keep hx ?_⟩
    intro hm
    rcases List.mem_cons.1 hm with e | e
    · subst e; exact hF hy
    · obtain ⟨cs2, hy2⟩ := ho.ty _ e; exact cells_ne hx hy2 (by decide) rfl
  refine Calls.mono (dsettle_c hty (h3.keep hb (by simp [hbF, hbc])) (hs.upd h3 (by intro g hg hm; rcases List.mem_cons.1 hm with e | e; exact hrF g hg e; exact hrc g hg e)) hlen hL' hF h1 (by omega) (Nat.le_trans hbase h3.size)) ?_
  rintro e w2 ⟨rv', rfl, g1, g2, g3, g4, g5⟩
  refine ⟨rfl, rv', ao, cap, rfl, g1, g2, g3, h2.upd g4 ?_, ?_, ?_, h4⟩
  · intro g hg hm
    obtain ⟨cs, hx⟩ := h2.ty _ hg
    rcases List.mem_cons.1 hm with e | e
    · subst e; exact cells_ne hx (h3.keep hb (by simp [hbF, hbc])) hty.i.symm rfl
    · rcases List.mem_cons.1 e with e | e
      · subst e; exact cells_ne hx h1 (by decide) rfl
      · obtain ⟨cs2, hy⟩ := hs.ty _ e
        have hy2 := h3.keep hy (by intro hm; rcases List.mem_cons.1 hm with q | q; exact hrF g e q; exact hrc g e q)
        exact cells_ne hx hy2 (by decide) rfl
  · exact (h3.mono (by intro x hx; simp at hx ⊢; rcases hx with h | h <;> simp [h])).trans' (g4.mono (by intro x hx; simp at hx ⊢; rcases hx with h | h | h <;> simp [h]))
  · intro g hg
    rcases g5 g hg with h | h
    · exact .inl h
    · exact .inr (Nat.le_trans h3.size h)

set_option maxRecDepth 100000 in
set_option maxHeartbeats 1000000 in
/-- .. onto one that is in the row -/
theorem dpushHas_c {ty : TypeId} {tl : List Value} (hty : RTy ty) {w : World} {b M N base : Nat} {rv : Value} {f : Int → Option Nat} {l : List Nat} (hb : w.heap[b]? = some (.cells (.map (some M) :: rv :: tl).toArray ty (0, 0))) (hm : FlMap w M N f) (hs : Sub w base 96 1 rv l.length (evs l)) (hlen : l.length ≤ 100) (hL : ∀ y ∈ l, Lv w y)
    {n c : Int} {F : Nat} (hn : 0 ≤ n ∧ n ≤ 8) (hc : 1 ≤ c ∧ c ≤ 1040) (hf : f n = some F) (hF : F ∈ l)
    {q d : Int} {cv : Value} {an : Bool} {k base2 : Nat} {xs : List Value} (hFl : FlAt w F n q d cv false an) (ho : Sub w base2 3 1 cv k xs) (hk : k ≤ 1000) (hb2 : base2 ≤ w.heap.size) :
    Calls Try.prog 12 #[.pointer (some ⟨b, 0, none⟩), i64 n, i64 c] w fun e w' => ∃ ao cap, e = .returned (i64 0) ∧ FlAt w' F n q d (.slice ao (k + 1) cap) false an ∧ Sub w' base2 3 1 (.slice ao (k + 1) cap) (k + 1) (xs ++ [i64 c]) ∧
      Upd (F :: blkL cv) w w' ∧ (∀ g ∈ blkL (.slice ao (k + 1) cap), g ∈ blkL cv ∨ w.heap.size ≤ g) := by
  have hbF : b ≠ F := cells_ne hb hFl hty.f
  have hbc : b ∉ blkL cv := fun hm => by obtain ⟨cs, hx⟩ := ho.ty _ hm; exact cells_ne hb hx hty.i rfl
  have hrF : ∀ g ∈ blkL rv, g ≠ F := fun g hg => by obtain ⟨cs, hx⟩ := hs.ty _ hg; exact cells_ne hx hFl (by decide)
  have hrc : ∀ g ∈ blkL rv, g ∉ blkL cv := fun g hg hm => by obtain ⟨cs, hx⟩ := hs.ty _ hg; obtain ⟨cs2, hy⟩ := ho.ty _ hm; exact cells_ne hx hy (by decide) rfl
  refine dpushPre_c hty hb hm hn hc hf hFl ho hk hb2 ?_
  intro w' ao cap h1 h2 h3 h4
  have hL' : ∀ y ∈ l, Lv w' y := fun y hy => by
    by_cases e : y = F
    · subst e; exact lv_of h1
    · obtain ⟨cs, hx⟩ := hL y hy
      refine ⟨cs, h3.keep hx ?_⟩
      intro hm
      rcases List.mem_cons.1 hm with e2 | e2
      · exact e e2
      · obtain ⟨cs2, hy2⟩ := ho.ty _ e2; exact cells_ne hx hy2 (by decide) rfl
  refine Calls.mono (dsettleHas_c hty (h3.keep hb (by simp [hbF, hbc])) (hs.upd h3 (by intro g hg hm; rcases List.mem_cons.1 hm with e | e; exact hrF g hg e; exact hrc g hg e)) hlen hL' hF h1 (by omega)) ?_
  rintro e w2 ⟨rfl, rfl⟩
  exact ⟨rfl, ao, cap, rfl, h1, h2, h3, h4⟩
end Go.Proofs.Ytabhdigannalgaa
