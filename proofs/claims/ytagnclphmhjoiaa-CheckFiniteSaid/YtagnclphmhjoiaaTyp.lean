/-
  Types within types as a law's argument (chapter 12): what lies in memory behind a declaration, as plain trees. No condition.
-/
import Derived.Test.YtagnclphmhjoiaaPartsM
namespace Go.Proofs.Ytagnclphmhjoiaa
open Go Go.RowKit Go.ChangeShapes Go.WideShapes Go.ChangeAt

/-- how an inner slice reads, with so much fuel at most -/
def SlF {H : Type} (enc : TypeId × Value → H) (P : Program) (w : World) (base : Nat) (n : Nat) (e : TypeId) (v : Value) : Prop :=
  ∃ (t : TypeId) (fuel : Nat) (x : DataW H × List MemPlace), fuel ≤ n ∧ P.underlying t = some (.slice e) ∧ DataW.trod enc P w base (fun _ => true) true fuel t [v] = some x
theorem SlF.mono {H : Type} {enc : TypeId × Value → H} {P : Program} {w : World} {base n m : Nat} {e : TypeId} {v : Value} (h : SlF enc P w base n e v) (hm : n ≤ m) : SlF enc P w base m e v := by
  obtain ⟨t, fuel, x, h1, h2⟩ := h
  exact ⟨t, fuel, x, Nat.le_trans h1 hm, h2⟩
theorem OKN.imp {S S' : TypeId → Value → Prop} (hs : ∀ e v, S e v → S' e v) {k : TypeDesc} {v : Value} (h : OKN S k v) : OKN S' k v := by
  cases k <;> first | exact h | (exact ⟨h.1, hs _ _ h.2⟩)
theorem AllOKN.imp {S S' : TypeId → Value → Prop} (hs : ∀ e v, S e v → S' e v) : ∀ {ks : List TypeDesc} {vs : List Value}, AllOKN S ks vs → AllOKN S' ks vs
  | [], [], _ => trivial
  | _ :: _, _ :: _, h => ⟨h.1.imp hs, AllOKN.imp hs h.2⟩
  | [], _ :: _, h => h.elim
  | _ :: _, [], h => h.elim

theorem flatFieldsN_okF {H : Type} {enc : TypeId × Value → H} {P : Program} {w : World} {base : Nat} {f : Nat}
    (ih : ∀ t ks, flatN P f t = some ks → ∀ fuel cs x, DataW.trod enc P w base (fun _ => true) true fuel t cs = some x → AllOKN (SlF enc P w base fuel) ks cs) (fuel : Nat) (cs : List Value) :
    ∀ (gs : List Field) (off : Nat) (ks : List TypeDesc) (xs : List (DataW H × List MemPlace)), flatFieldsN P (flatN P f) gs off = some ks →
      (gs.mapM fun g => DataW.trod enc P w base (fun _ => true) true fuel g.type ((cs.drop g.offset).take (P.cellsOf g.type))) = some xs → AllOKN (SlF enc P w base fuel) ks ((cs.drop off).take ks.length)
  | [], off, ks, xs, h, _ => by
    simp only [flatFieldsN, Option.some.injEq] at h
    subst h; simp [AllOKN]
  | g :: gs, off, ks, xs, h, hx => by
    simp only [flatFieldsN] at h
    split at h
    · rename_i hoff
      subst hoff
      cases ha : flatN P f g.type with
      | none => simp [ha] at h
      | some a =>
        simp only [ha, Option.bind_some] at h
        split at h
        · rename_i hlen
          cases hr : flatFieldsN P (flatN P f) gs (g.offset + P.cellsOf g.type) with
          | none => simp [hr] at h
          | some r =>
            simp only [hr, Option.map_some, Option.some.injEq] at h
            subst h
            simp only [List.mapM_cons, bind, Option.bind_eq_some_iff, pure] at hx
            obtain ⟨y, hy, ys, hys, _⟩ := hx
            have h1 := ih _ _ ha _ _ _ hy
            have h2 := flatFieldsN_okF ih fuel cs gs _ _ _ hr hys
            have e : (cs.drop g.offset).take (a ++ r).length = (cs.drop g.offset).take (P.cellsOf g.type) ++ (cs.drop (g.offset + P.cellsOf g.type)).take r.length := by
              rw [List.length_append, hlen, List.take_add, List.drop_drop]
            rw [e]
            exact h1.append h2
        · simp at h
    · simp at h

theorem flatN_okF {H : Type} {enc : TypeId × Value → H} {P : Program} {w : World} {base : Nat} :
    ∀ (f : Nat) (t : TypeId) (ks : List TypeDesc), flatN P f t = some ks → ∀ (fuel : Nat) (cs : List Value) (x : DataW H × List MemPlace), DataW.trod enc P w base (fun _ => true) true fuel t cs = some x → AllOKN (SlF enc P w base fuel) ks cs
  | 0, _, _, h => by simp [flatN] at h
  | f + 1, t, ks, h => fun fuel cs x hx => by
    unfold flatN at h
    split at h
    · rename_i hu
      obtain ⟨b, rfl, _⟩ := DataW.trod_bool hu hx
      simp only [Option.some.injEq] at h; subst h
      exact ⟨⟨b, rfl⟩, trivial⟩
    · rename_i k hu
      obtain ⟨n, rfl, _, hw⟩ := DataW.trod_int hu hx
      simp only [Option.some.injEq] at h; subst h
      exact ⟨⟨n, rfl, hw⟩, trivial⟩
    · rename_i hu
      obtain ⟨s, rfl, _, hs⟩ := DataW.trod_string hu hx
      simp only [Option.some.injEq] at h; subst h
      exact ⟨⟨s, rfl, hs⟩, trivial⟩
    · rename_i e hu
      simp only [Option.some.injEq] at h; subst h
      have hx0 := hx
      rcases DataW.trod_slice hu hx with ⟨rfl, _⟩ | ⟨a, len', cap', elems, rest, n, _, rfl, _⟩
      · exact ⟨⟨⟨_, _, _, rfl⟩, ⟨t, fuel, x, Nat.le_refl _, hu, hx0⟩⟩, trivial⟩
      · exact ⟨⟨⟨_, _, _, rfl⟩, ⟨t, fuel, x, Nat.le_refl _, hu, hx0⟩⟩, trivial⟩
    · rename_i fs hu
      cases hf : flatFieldsN P (flatN P f) fs.toList 0 with
      | none => simp [hf] at h
      | some ks' =>
        simp only [hf, Option.bind_some] at h
        split at h
        · rename_i hl
          simp only [Option.some.injEq] at h; subst h
          obtain ⟨fuel', xs, hle, hc, hm⟩ : ∃ fuel' xs, fuel' ≤ fuel ∧ cs.length = P.cellsOf t ∧ (fs.toList.mapM fun g => DataW.trod enc P w base (fun _ => true) true fuel' g.type ((cs.drop g.offset).take (P.cellsOf g.type))) = some xs := by
            cases fuel with
            | zero => simp [DataW.trod] at hx
            | succ n =>
              simp only [DataW.trod, hu] at hx
              split at hx
              · rename_i hc
                cases hm : (fs.toList.mapM fun g => DataW.trod enc P w base (fun _ => true) true n g.type ((cs.drop g.offset).take (P.cellsOf g.type))) with
                | none => simp [hm] at hx
                | some xs => exact ⟨n, xs, Nat.le_succ n, hc, hm⟩
              · simp at hx
          have := flatFieldsN_okF (flatN_okF f) fuel' cs fs.toList 0 ks' xs hf hm
          rw [List.drop_zero, List.take_of_length_le (by omega)] at this
          exact this.imp fun e v h => h.mono hle
        · simp at h
    · simp at h

theorem open_innerF {α : Type} {toC : α → List Value} {Good : α → Prop} {ks : List TypeDesc} {H : Type} {enc : TypeId × Value → H} {P : Program} {W : World} {base fuel : Nat} (hparse : ∀ n, n < fuel → ∀ vs, AllOKN (SlF enc P W base n) ks vs → ∃ s, toC s = vs ∧ Good s)
    {t e : TypeId} {f : Nat} (ht : P.underlying t = some (.slice e)) (hf : flatN P f e = some ks) (hk : P.cellsOf e = ks.length) (hpos : 0 < ks.length) {ao : Option Addr} {len cap : Nat} {x : DataW H × List MemPlace}
    (hx : DataW.trod enc P W base (fun _ => true) true fuel t [.slice ao len cap] = some x) :
    ∃ (l : List α), l.length = len ∧ l.length ≤ cap ∧ cap ≤ maxLen ∧ (∀ x ∈ l, Good x) ∧
      (l = [] ∨ ∃ b off, ao = some ⟨b, off, none⟩ ∧ RowsN W b off ks.length toC l) := by
  rcases DataW.trod_slice ht hx with ⟨hcs, _⟩ | ⟨a, len', cap', elems, rest, n, hfn, hcs, _, _, hl, hc, hlen, hel, _⟩
  · injection hcs with h1
    injection h1 with h1 h2 h3
    subst h1; subst h2; subst h3
    exact ⟨[], rfl, Nat.le_refl _, by unfold maxLen; omega, by simp, .inl rfl⟩
  · injection hcs with h1
    injection h1 with h1 h2 h3
    subst h1; subst h2; subst h3
    have hrow : ∀ i, i < len → ∃ s : α, Good s ∧ ∀ j, j < ks.length → W.cell? ((a.add (i * ks.length)).add j) = (toC s)[j]? := by
      intro i hi
      have h1 := hel i hi
      rw [List.getElem?_eq_getElem (by omega), hk, Option.bind_eq_some_iff] at h1
      obtain ⟨cs, h1, h2⟩ := h1
      have h3 := flatN_okF f e ks hf _ _ _ h2
      obtain ⟨s, rfl, hg⟩ := hparse n (by omega) cs h3
      exact ⟨s, hg, (World.cells?_some h1).2.2⟩
    by_cases h0 : len = 0
    · subst h0
      exact ⟨[], rfl, Nat.zero_le _, hc, by simp, .inl rfl⟩
    · obtain ⟨s0, _, hs0⟩ := hrow 0 (by omega)
      have hlen0 : ∃ v, W.cell? a = some v := by
        have h1 := hel 0 (by omega)
        rw [List.getElem?_eq_getElem (by omega), hk, Option.bind_eq_some_iff] at h1
        obtain ⟨cs, h1, _⟩ := h1
        obtain ⟨_, hl1, h1⟩ := World.cells?_some h1
        have h2 := h1 0 hpos
        have e0 : ((a.add (0 * ks.length)).add 0) = a := by simp [Addr.add]
        rw [e0] at h2
        exact ⟨cs[0], h2.trans (List.getElem?_eq_getElem (by omega))⟩
      obtain ⟨v0, hv0⟩ := hlen0
      have ha := cellN_spot hv0
      have : Inhabited α := ⟨s0⟩
      obtain ⟨F, hF⟩ := Deep.choose_lt hrow
      refine ⟨(List.range len).map F, by simp, by simpa using hl, hc, ?_, .inr ⟨a.block, a.off, congrArg some ha, ?_⟩⟩
      · intro x hx
        simp only [List.mem_map, List.mem_range] at hx
        obtain ⟨i, hi, rfl⟩ := hx
        exact (hF i hi).1
      · intro i s hs j hj
        have hi : i < len := by
          rcases Nat.lt_or_ge i len with g | g
          · exact g
          · rw [List.getElem?_eq_none (by simpa using g)] at hs; cases hs
        rw [List.getElem?_map, List.getElem?_range hi] at hs
        simp only [Option.map_some, Option.some.injEq] at hs
        subst hs
        rw [← (hF i hi).2 j hj]
        generalize a.block = ab at *
        generalize a.off = ao at *
        subst ha
        simp only [Addr.add]
        by_cases g1 : i * ks.length = 0
        · rw [if_pos g1]
          by_cases g2 : j = 0
          · rw [if_pos g2, g1, g2]; simp only [Nat.add_zero]
          · rw [if_neg g2, g1]; simp only [Nat.add_zero]
        · rw [if_neg g1]
          by_cases g2 : j = 0
          · rw [if_pos g2, g2]; simp only [Nat.add_zero]
          · rw [if_neg g2]

/-- a type -/
inductive Ty where
  | mk (kind : Int) (name : ByteArray) (of : List Ty)
def Ty.kind : Ty → Int | .mk k _ _ => k
def Ty.name : Ty → ByteArray | .mk _ n _ => n
def Ty.of : Ty → List Ty | .mk _ _ l => l
/-- .. as it lies in memory -/
structure Tc where
  kind : Int
  name : ByteArray
  oa : Option Addr
  on : Nat
  oc : Nat
def Tc.cells (t : Tc) : List Value := [i64 t.kind, .string t.name, .slice t.oa t.on t.oc]
inductive TyRep (w : World) : Tc → Ty → Prop
  | mk (c : Tc) (cs : List Tc) (l : List Ty) (hn : c.name.size ≤ maxLen) (hcs : Inn w Tc.cells 3 c.oa c.on cs) (hl : l.length = cs.length) (hrec : ∀ i (h1 : i < cs.length) (h2 : i < l.length), TyRep w cs[i] l[i]) : TyRep w c (.mk c.kind c.name l)
theorem TyRep.upd0 {w w' : World} {c : Tc} {t : Ty} (h : TyRep w c t) (hu : Upd [] w w') : TyRep w' c t := by
  induction h with
  | mk c cs l hn hcs hl hrec ih => exact .mk c cs l hn (hcs.upd0 hu) hl ih
theorem TyRep.head {w : World} {c : Tc} {t : Ty} (h : TyRep w c t) : t.kind = c.kind ∧ t.name = c.name ∧ c.name.size ≤ maxLen ∧ t.of.length = c.on := by
  cases h with
  | mk _ cs l hn hcs hl hrec => exact ⟨rfl, rfl, hn, by show l.length = _; rw [hl]; exact hcs.1⟩

theorem list_choose {α β : Type} {R : α → β → Prop} : ∀ (l : List α), (∀ x ∈ l, ∃ y, R x y) → ∃ m : List β, m.length = l.length ∧ ∀ i (h1 : i < l.length) (h2 : i < m.length), R l[i] m[i]
  | [], _ => ⟨[], rfl, fun i h => by simp at h⟩
  | a :: r, h => by
    obtain ⟨y, hy⟩ := h a (by simp)
    obtain ⟨m, h1, h2⟩ := list_choose r (fun x hx => h x (by simp [hx]))
    refine ⟨y :: m, by simp [h1], fun i g1 g2 => ?_⟩
    cases i with
    | zero => exact hy
    | succ i => exact h2 i (by simpa using g1) (by simpa using g2)
theorem inn_ofC {α : Type} {W : World} {toC : α → List Value} {ao : Option Addr} {n cap c : Nat} {l : List α} (h1 : l.length = n) (h2 : l.length ≤ cap) (h3 : cap ≤ maxLen) (hc : 0 < c) (hpos : ∀ x : α, 0 < (toC x).length) (h : l = [] ∨ ∃ b off, ao = some ⟨b, off, none⟩ ∧ RowsN W b off c toC l) : Inn W toC c ao n l := by
  refine ⟨h1, by omega, ?_⟩
  cases l with
  | nil => exact .inl rfl
  | cons x r =>
    rcases h with h | ⟨b, off, e, hr⟩
    · cases h
    · refine .inr ⟨b, off, e, ?_, hr⟩
      have h0 := hr 0 x rfl 0 hc
      rw [List.getElem?_eq_getElem (hpos x)] at h0
      exact World.block_lt_of_cell? W _ h0

theorem flat_type : flatN Try.prog 6 58 = some [.int .i64, .string, .slice 58] := by kernel_rfl
theorem cells_type : Try.prog.cellsOf 58 = 3 := by kernel_rfl
theorem ty_parse {H : Type} {enc : TypeId × Value → H} {W : World} {base : Nat} : ∀ (n : Nat) (vs : List Value), AllOKN (SlF enc Try.prog W base n) [.int .i64, .string, .slice 58] vs → ∃ s, Tc.cells s = vs ∧ ∃ t, TyRep W s t := by
  intro n
  induction n using Nat.strongRecOn with
  | ind n ih =>
    intro vs h
    obtain ⟨a, r, rfl, ha, h⟩ := h.i64
    obtain ⟨b, r, rfl, hb, h⟩ := h.str
    obtain ⟨oa, on, oc, r, rfl, hs, h⟩ := h.sl
    obtain rfl := h.none
    obtain ⟨t, fuel, x, hle, ht, hx⟩ := hs
    obtain ⟨cs, h1, h2, h3, h4, h5⟩ := open_innerF (fun m hm => ih m (by omega)) ht flat_type cells_type (by decide) hx
    obtain ⟨l, h6, h7⟩ := list_choose cs h4
    exact ⟨⟨a, b, oa, on, oc⟩, rfl, _, .mk ⟨a, b, oa, on, oc⟩ cs l hb (inn_ofC h1 h2 h3 (by omega) (fun _ => by show 0 < 3; omega) h5) h6 h7⟩

def Fd.tc (f : Fd) : Tc := ⟨f.kind, f.tn, f.oa, f.on, f.oc⟩
def inI (x : Int) : Prop := -9223372036854775808 ≤ x ∧ x ≤ 9223372036854775807
/-- a declaration with all that lies behind it -/
structure Dq where
  d : Dc
  fs : List (Fd × Ty)
  ms : List Mt
structure DqR (w : World) (q : Dq) : Prop where
  name : q.d.name.size ≤ maxLen
  fields : Inn w Fd.cells 5 q.d.fa q.d.fn (q.fs.map (·.1))
  types : ∀ f ∈ q.fs, f.1.name.size ≤ maxLen ∧ TyRep w f.1.tc f.2
  methods : Inn w Mt.cells 5 q.d.ma q.d.mn q.ms
  texts : ∀ m ∈ q.ms, m.name.size ≤ maxLen ∧ m.inn.size ≤ maxLen ∧ m.out.size ≤ maxLen
  ftags : ∀ f ∈ q.fs, inI f.1.tag
  mtags : ∀ m ∈ q.ms, inI m.tag
theorem DqR.upd0 {w w' : World} {q : Dq} (h : DqR w q) (hu : Upd [] w w') : DqR w' q := ⟨h.name, h.fields.upd0 hu, fun f hf => ⟨(h.types f hf).1, (h.types f hf).2.upd0 hu⟩, h.methods.upd0 hu, h.texts, h.ftags, h.mtags⟩

theorem fd_parse {H : Type} {enc : TypeId × Value → H} {W : World} {base n : Nat} (vs : List Value) (h : AllOKN (SlF enc Try.prog W base n) [.int .i64, .string, .int .i64, .string, .slice 58] vs) : ∃ s, Fd.cells s = vs ∧ (s.name.size ≤ maxLen ∧ inI s.tag ∧ ∃ t, TyRep W s.tc t) := by
  obtain ⟨a, r, rfl, ha, h⟩ := h.i64
  obtain ⟨b, r, rfl, hb, h⟩ := h.str
  obtain ⟨s, hs, t, ht⟩ := ty_parse n r h
  obtain ⟨k, tn, oa, on, oc⟩ := s
  unfold Tc.cells at hs
  subst hs
  exact ⟨⟨a, b, k, tn, oa, on, oc⟩, rfl, hb, ha, t, ht⟩
theorem mt_parse {Sl : TypeId → Value → Prop} (vs : List Value) (h : AllOKN Sl [.int .i64, .string, .string, .string, .bool] vs) : ∃ s, Mt.cells s = vs ∧ ((s.name.size ≤ maxLen ∧ s.inn.size ≤ maxLen ∧ s.out.size ≤ maxLen) ∧ inI s.tag) := by
  obtain ⟨a, r, rfl, ha, h⟩ := h.i64
  obtain ⟨b, r, rfl, hb, h⟩ := h.str
  obtain ⟨c, r, rfl, hc, h⟩ := h.str
  obtain ⟨d, r, rfl, hd, h⟩ := h.str
  obtain ⟨e, r2, rfl, h2⟩ := h.boo
  obtain rfl := h2.none
  exact ⟨⟨a, b, c, d, e⟩, rfl, ⟨hb, hc, hd⟩, ha⟩
theorem dq_parse {H : Type} {enc : TypeId × Value → H} {W : World} {base : Nat} (vs : List Value) (h : AllOKN (SlOK enc Try.prog W base (fun _ => true) true) [.int .i64, .string, .slice 60, .slice 42, .int .i64] vs) : ∃ s, Dc.cells s = vs ∧ ∃ q, q.d = s ∧ DqR W q := by
  obtain ⟨a, r, rfl, ha, h⟩ := h.i64
  obtain ⟨b, r, rfl, hb, h⟩ := h.str
  obtain ⟨fa, fn, fc, r, rfl, hf, h⟩ := h.sl
  obtain ⟨ma, mn, mc, r, rfl, hm, h⟩ := h.sl
  obtain ⟨c, r, rfl, hc, h⟩ := h.i64
  obtain rfl := h.none
  refine ⟨⟨a, b, fa, fn, fc, ma, mn, mc, c⟩, rfl, ?_⟩
  obtain ⟨t, fuel, x, ht, hx⟩ := hf
  obtain ⟨l, h1, h2, h3, h4, h5⟩ := open_innerF (fun m _ => fd_parse (n := m)) ht flat_field cells_field (by decide) hx
  obtain ⟨t2, fuel2, x2, ht2, hx2⟩ := hm
  obtain ⟨l2, g1, g2, g3, g4, g5⟩ := open_inner mt_parse ht2 flat_method cells_method (by decide) hx2
  obtain ⟨ts, h6, h7⟩ := list_choose l (fun x hx => (h4 x hx).2.2)
  have hmap : (l.zip ts).map (·.1) = l := by rw [List.map_fst_zip]; omega
  refine ⟨⟨⟨a, b, fa, fn, fc, ma, mn, mc, c⟩, l.zip ts, l2⟩, rfl, hb, ?_, ?_, inn_of g1 g2 g3 (fun _ => rfl) g5, fun m hm => (g4 m hm).1, ?_, fun m hm => (g4 m hm).2⟩
  · show Inn W Fd.cells 5 fa fn ((l.zip ts).map (·.1))
    rw [hmap]
    exact inn_of h1 h2 h3 (fun _ => rfl) h5
  · intro f hf
    obtain ⟨i, hi, e⟩ := List.getElem_of_mem hf
    rw [List.length_zip] at hi
    have e2 : f = (l[i]'(by omega), ts[i]'(by omega)) := by rw [← e]; exact List.getElem_zip
    rw [e2]
    exact ⟨(h4 _ (List.getElem_mem _)).1, h7 i (by omega) (by omega)⟩
  · intro f hf
    exact (h4 f.1 (by rw [← hmap]; exact List.mem_map_of_mem hf)).2.1

/-- the declarations of a law's argument -/
structure QArg (w : World) (ao : Option Addr) (qs : List Dq) : Prop where
  rows : DArg w ao (qs.map Dq.d)
  deep : ∀ q ∈ qs, DqR w q
theorem QArg.upd0 {w w' : World} {ao : Option Addr} {qs : List Dq} (h : QArg w ao qs) (hu : Upd [] w w') : QArg w' ao qs := ⟨h.rows.upd hu, fun q hq => (h.deep q hq).upd0 hu⟩
theorem qarg_of {W : World} {ao : Option Addr} {l : List Dc} (hg : ∀ x ∈ l, ∃ q, q.d = x ∧ DqR W q) (h : l = [] ∨ ∃ b off, ao = some ⟨b, off, none⟩ ∧ RowsN W b off 5 Dc.cells l) : ∃ qs : List Dq, qs.map Dq.d = l ∧ QArg W ao qs := by
  obtain ⟨qs, h1, h2⟩ := list_choose l hg
  have e : qs.map Dq.d = l := by
    apply List.ext_getElem (by simpa using h1)
    intro i g1 g2
    rw [List.getElem_map]
    exact (h2 i g2 (by simpa using g1)).1
  refine ⟨qs, e, by rw [e]; exact darg_of h, fun q hq => ?_⟩
  obtain ⟨i, hi, rfl⟩ := List.getElem_of_mem hq
  exact (h2 i (by omega) hi).2
end Go.Proofs.Ytagnclphmhjoiaa
