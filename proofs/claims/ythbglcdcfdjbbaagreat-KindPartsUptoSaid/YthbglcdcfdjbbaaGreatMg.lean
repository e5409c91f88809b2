/- KindPartsUptoSaid: of any type what it holds, for each text, value, number and key of bulk at most 1048576. This text: Op, Op2, N1, N2, N3, N4, N5, N6, N7, L6. -/
import Derived.Test.YthbglcdcfdjbbaaGreatMf
import Derived.Test.YthbglcdcfdjbbaaGreatRows
import Derived.WideKeyArgs
import Derived.ChangeArms
import Derived.ProofKit
import Derived.OpenShut
import Derived.HandedShaped
import Derived.JoinedCond
/- Arguments that are read as data, opened: what they are. -/
namespace Go.AV0
open Go.Proofs Go.Proofs.YthbglcdcfdjbbaaGreat

/-- struct fields, one behind the other -/
def ShpF (S : TypeId → List AV → Nat → Prop) : List (Nat × TypeId) → Nat → List AV → Nat → Prop
  | [], _, xs, _ => xs = []
  | (o, t) :: fs, k, xs, m => o = k ∧ ∃ ys zs m1 m2, xs = ys ++ zs ∧ S t ys m1 ∧ ShpF S fs (k + ys.length) zs m2 ∧ m1 + m2 ≤ m
/-- a slice's elements -/
def ShpE (S : List AV → Nat → Prop) : List (List AV) → Nat → Prop
  | [], _ => True
  | e :: es, m => ∃ m1 m2, S e m1 ∧ ShpE S es m2 ∧ m1 + m2 ≤ m

/-- cells that stand for a value of a type, of a bulk that is at most m -/
def Shp (T : TT) : Nat → TypeId → List AV → Nat → Prop
  | 0, _, _, _ => False
  | n + 1, t, xs, m => match T.find t with
    | none => False
    | some i => match i.k with
      | .bl => ∃ b, xs = [.c (.bool b)] ∧ 1 ≤ m
      | .int k => ∃ z, (Lit.int k z).wf = true ∧ xs = [.c (.int k z)] ∧ 1 ≤ m
      | .str => ∃ s : ByteArray, xs = [.c (.string s)] ∧ s.size + 1 ≤ m
      | .sl e => ∃ els, xs = [.sl els] ∧ els.length + 1 ≤ m ∧ ShpE (Shp T n e) els (m - 1)
      | .st fs => 1 ≤ m ∧ ShpF (Shp T n) fs 0 xs (m - 1)
      | _ => False

def seqF (T : TT) : List (Nat × TypeId) → Nat → Option Nat
  | [], k => some k
  | (o, t) :: fs, k => if o = k then (match T.find t with | some i => seqF T fs (k + i.size) | none => none) else none

/-- types whose values can be opened -/
def okS (T : TT) (S : List TypeId) : Bool := S.all fun t => match T.find t with
  | none => false
  | some i => match i.k with
    | .bl => true
    | .int _ => true
    | .str => true
    | .sl e => S.contains e && (match T.find e with | some j => Nat.blt 0 j.size | none => false)
    | .st fs => fs.all (fun f => S.contains f.2) && decide (seqF T fs 0 = some i.size)
    | _ => false

section
variable {H : Type} {enc : TypeId × Value → H} {P : Program} {w : World} {sp : Nat → Bool} {held : Bool}

theorem bulk_one (d : DataW H) : 1 ≤ Rows.uptoBulk d := by
  cases d with
  | lit l => cases l <;> simp [Rows.uptoBulk]
  | nil => simp [Rows.uptoBulk]
  | ptr d => simp [Rows.uptoBulk]
  | slice elems spare => simp [Rows.uptoBulk]
  | agg parts => simp [Rows.uptoBulk]
  | iface t d => simp [Rows.uptoBulk]
  | map entries => simp [Rows.uptoBulk]
  | held h => simp [Rows.uptoBulk]

theorem bulk_len (l : List (DataW H)) : l.length ≤ Rows.uptoBulkAll l := by
  induction l with
  | nil => simp [Rows.uptoBulkAll]
  | cons x r ih => have := bulk_one x; simp only [Rows.uptoBulkAll, List.length_cons]; omega

theorem cellsOf_tok {P : Program} {t : TypeId} {i : TI} (h : TOk P t i) : P.cellsOf t = i.size := by
  obtain ⟨f, d, z, h1, h2, h3, _⟩ := h.ex
  simp [Program.cellsOf, h1, h3]

theorem add_at (b off i : Nat) : (⟨b, off, none⟩ : Addr).add i = ⟨b, off + i, none⟩ := by
  unfold Addr.add
  split
  · rename_i h; subst h; rfl
  · rfl

theorem repAt_cells {M : Nat → Prop} {b : Nat} (hM : ¬ M b) : ∀ {xs : List AV} {cs : List Value} {off : Nat}, RepL w M xs cs → (∀ i, i < cs.length → w.cell? ⟨b, off + i, none⟩ = cs[i]?) → RepAt w M b xs off
  | [], cs, off, _, _ => by simp [RepAt]
  | x :: xs, cs, off, h, hc => by
    simp only [RepL] at h
    obtain ⟨c, cs', rfl, h1, h2⟩ := h
    simp only [RepAt]
    refine ⟨⟨hM, c, hc 0 (by simp), h1⟩, repAt_cells hM h2 fun i hi => ?_⟩
    have := hc (i + 1) (by simpa using hi)
    rwa [show off + (i + 1) = off + 1 + i by omega] at this

theorem shp_els {M : Nat → Prop} {b z n : Nat} {e : TypeId} (hM : ¬ M b) (hz : P.cellsOf e = z) {S : List AV → Nat → Prop}
    (ih : ∀ cs x, DataW.trod enc P w 0 sp held n e cs = some x → ∃ xs, S xs (Rows.uptoBulk x.1) ∧ RepL w M xs cs) :
    ∀ (elems : List (DataW H × List MemPlace)) (off : Nat), (∀ i, i < elems.length → (w.cells? 0 ⟨b, off + i * z, none⟩ z).bind (DataW.trod enc P w 0 sp held n e) = elems[i]?) →
      ∃ els, els.length = elems.length ∧ ShpE S els (Rows.uptoBulkAll (elems.map (·.1))) ∧ RepEls w M b z els off
  | [], off, _ => ⟨[], rfl, trivial, by simp [RepEls]⟩
  | x :: elems, off, h => by
    have h0 := h 0 (by simp)
    simp only [Nat.zero_mul, Nat.add_zero, List.getElem?_cons_zero, Option.bind_eq_some_iff] at h0
    obtain ⟨cs, h1, h2⟩ := h0
    obtain ⟨_, hl, hc⟩ := World.cells?_some h1
    obtain ⟨xs, h3, h4⟩ := ih cs x h2
    obtain ⟨els, k1, k2, k3⟩ := shp_els hM hz ih elems (off + z) fun i hi => by
      have := h (i + 1) (by simpa using hi)
      rw [show off + (i + 1) * z = off + z + i * z by rw [Nat.add_mul]; omega] at this
      simpa using this
    refine ⟨xs :: els, by simp [k1], ⟨_, _, h3, k2, Nat.le_refl _⟩, ?_⟩
    simp only [RepEls]
    refine ⟨⟨by rw [← hl]; exact h4.length.symm, repAt_cells hM h4 fun i hi => ?_⟩, k3⟩
    have := hc i (by omega)
    rwa [add_at] at this

theorem shp_fields {M : Nat → Prop} {T : TT} {S : TypeId → List AV → Nat → Prop} {n : Nat} (hT : T.all P = true) (cs : List Value) :
    ∀ (fs : List (Nat × TypeId)) (k sz : Nat) (xs : List (DataW H × List MemPlace)), seqF T fs k = some sz → sz = cs.length → xs.length = fs.length →
      (∀ (i : Nat) f, fs[i]? = some f → DataW.trod enc P w 0 sp held n f.2 ((cs.drop f.1).take (P.cellsOf f.2)) = xs[i]?) →
      (∀ f ∈ fs, ∀ cs x, DataW.trod enc P w 0 sp held n f.2 cs = some x → ∃ ys, S f.2 ys (Rows.uptoBulk x.1) ∧ RepL w M ys cs) →
      ∃ ys, ShpF S fs k ys (Rows.uptoBulkAll (xs.map (·.1))) ∧ RepL w M ys (cs.drop k) ∧ k ≤ sz
  | [], k, sz, xs, h1, h2, h3, h4, ih => by
    simp only [seqF, Option.some.injEq] at h1
    refine ⟨[], rfl, ?_, by omega⟩
    simp only [RepL]
    exact List.drop_eq_nil_of_le (by omega)
  | (o, t) :: fs, k, sz, xs, h1, h2, h3, h4, ih => by
    simp only [seqF] at h1
    split at h1
    · rename_i hok
      subst hok
      split at h1
      · rename_i i hi
        have hcells := cellsOf_tok (TT.ok hT t i hi)
        match xs, h3 with
        | x :: xs, h3 =>
          have h0 := h4 0 (o, t) rfl
          simp only [List.getElem?_cons_zero] at h0
          obtain ⟨ys, q1, q2⟩ := ih (o, t) (by simp) _ _ h0
          obtain ⟨zs, r1, r2, r3⟩ := shp_fields hT cs fs (o + i.size) sz xs h1 h2 (by simpa using h3) (fun j f hf => by simpa using h4 (j + 1) f (by simpa using hf)) (fun f hf => ih f (by simp [hf]))
          have hlen : ys.length = i.size := by
            have := q2.length
            rw [hcells, List.length_take, List.length_drop] at this
            omega
          refine ⟨ys ++ zs, ⟨rfl, ys, zs, _, _, rfl, q1, by rw [hlen]; exact r1, Nat.le_refl _⟩, ?_, by omega⟩
          have e : cs.drop o = (cs.drop o).take i.size ++ cs.drop (o + i.size) := by
            rw [← List.drop_drop, List.take_append_drop]
          rw [e]
          rw [hcells] at q2
          exact q2.append r2
      · cases h1
    · cases h1

theorem shp_open {T : TT} {S : List TypeId} (hT : T.all P = true) (hS : okS T S = true) : ∀ (n : Nat) (t : TypeId) (cs : List Value) (x : DataW H × List MemPlace), t ∈ S → DataW.trod enc P w 0 sp held n t cs = some x →
    ∃ xs, Shp T n t xs (Rows.uptoBulk x.1) ∧ RepL w (fun _ => False) xs cs
  | 0, t, cs, x, _, h => by simp [DataW.trod] at h
  | n + 1, t, cs, x, ht, h => by
    have hS' := List.all_eq_true.1 hS t ht
    split at hS'
    · cases hS'
    rename_i i hi
    obtain ⟨f, d, zv, g1, g2, g3, g4, g5, g6, g7, g8⟩ := (TT.ok hT t i hi).ex
    have hcells := cellsOf_tok (TT.ok hT t i hi)
    simp only [Shp, hi]
    split at hS'
    · rename_i hk
      rw [hk] at g5
      have g2 : P.underlying t = some .bool := by rw [g2]; cases d <;> simp [tkOk] at g5 ⊢
      obtain ⟨b, rfl, rfl⟩ := DataW.trod_bool g2 h
      exact ⟨_, ⟨b, rfl, by simp [Rows.uptoBulk]⟩, by simp [RepL, Rep]⟩
    · rename_i k hk
      rw [hk] at g5
      have g2 : P.underlying t = some (.int k) := by rw [g2]; cases d <;> simp [tkOk] at g5 ⊢; exact g5.symm
      obtain ⟨z, rfl, rfl, hwf⟩ := DataW.trod_int g2 h
      exact ⟨_, ⟨z, hwf, rfl, by simp [Rows.uptoBulk]⟩, by simp [RepL, Rep]⟩
    · rename_i hk
      rw [hk] at g5
      have g2 : P.underlying t = some .string := by rw [g2]; cases d <;> simp [tkOk] at g5 ⊢
      obtain ⟨s, rfl, rfl, hs⟩ := DataW.trod_string g2 h
      refine ⟨_, ⟨s, rfl, ?_⟩, by simp [RepL, Rep]⟩
      simp only [Rows.uptoBulk]
      have : s.data.toList.length = s.size := by simp
      omega
    · rename_i e hk
      rw [hk] at g5
      have g2 : P.underlying t = some (.slice e) := by rw [g2]; cases d <;> simp [tkOk] at g5 ⊢; exact g5.symm
      simp only [Bool.and_eq_true, List.contains_iff_mem] at hS'
      obtain ⟨he, hz⟩ := hS'
      split at hz
      · rename_i j hj
        have hz : 0 < j.size := by simpa using hz
        have hce := cellsOf_tok (TT.ok hT e j hj)
        rcases DataW.trod_slice g2 h with ⟨rfl, rfl⟩ | ⟨a, len, cap, elems, rest, m, hm, rfl, rfl, hb, hlc, hcm, hl, hel, _, _⟩
        · refine ⟨[.sl []], ⟨[], rfl, by simp [Rows.uptoBulk], trivial⟩, ?_⟩
          simp only [RepL, Rep]
          exact ⟨_, [], rfl, ⟨none, 0, rfl, Nat.le_refl _, .inl trivial⟩, rfl⟩
        · cases hm
          have hbl := bulk_len (elems.map (·.1))
          have key : ∃ els, els.length = elems.length ∧ ShpE (Shp T n e) els (Rows.uptoBulkAll (elems.map (·.1))) ∧ (els = [] ∨ ∃ b off z, some a = some (⟨b, off, none⟩ : Addr) ∧ RepEls w (fun _ => False) b z els off) := by
            cases elems with
            | nil => exact ⟨[], rfl, trivial, .inl rfl⟩
            | cons x0 elems =>
              obtain ⟨b, off, spot⟩ := a
              have h0 := hel 0 (by simp at hl; omega)
              simp only [Nat.zero_mul, List.getElem?_cons_zero, Option.bind_eq_some_iff] at h0
              obtain ⟨cs0, c1, _⟩ := h0
              obtain ⟨_, _, c2⟩ := World.cells?_some c1
              have hsp : spot = none := by
                cases spot with
                | none => rfl
                | some q =>
                  have c3 := c2 0 (by omega)
                  have hl0 : cs0.length = P.cellsOf e := (World.cells?_some c1).2.1
                  rw [List.getElem?_eq_getElem (by omega)] at c3
                  unfold World.cell? at c3
                  simp only [Addr.add] at c3
                  split at c3 <;> simp at c3
              subst hsp
              obtain ⟨els, k1, k2, k3⟩ := shp_els (M := fun _ => False) (b := b) (z := P.cellsOf e) (fun h => h) rfl (S := Shp T n e) (fun cs x hx => shp_open hT hS n e cs x he hx) (x0 :: elems) off fun i hi => by have := hel i (by omega); rwa [add_at] at this
              exact ⟨els, k1, k2, .inr ⟨b, off, _, rfl, k3⟩⟩
          obtain ⟨els, k1, k2, k3⟩ := key
          refine ⟨[.sl els], ⟨els, rfl, ?_, ?_⟩, ?_⟩
          · simp only [Rows.uptoBulk]
            simp only [List.length_map] at hbl
            omega
          · refine ShpE_mono ?_ k2
            simp only [Rows.uptoBulk]; omega
          · simp only [RepL, Rep]
            refine ⟨_, [], rfl, ⟨some a, cap, by rw [k1, hl], by omega, ?_⟩, rfl⟩
            rcases k3 with k3 | ⟨b, off, z, k3, k4⟩
            · exact .inl k3
            · exact .inr ⟨b, off, z, k3, k4⟩
      · cases hz
    · rename_i fs hk
      rw [hk] at g5
      obtain ⟨a, rfl, g5'⟩ : ∃ a, d = .struct a ∧ (a.toList.map fun f => (f.offset, f.type)) = fs := by
        cases d <;> simp [tkOk] at g5
        exact ⟨_, rfl, g5⟩
      simp only [Bool.and_eq_true, List.all_eq_true, List.contains_iff_mem, decide_eq_true_eq] at hS'
      obtain ⟨h1, h2⟩ := hS'
      obtain ⟨xs, m, hm, rfl, hl, hxl, hxs⟩ := DataW.trod_struct g2 h
      cases hm
      have hxl' : xs.length = fs.length := by rw [hxl, ← g5']; simp
      obtain ⟨ys, k1, k2, _⟩ := shp_fields (M := fun _ => False) (S := Shp T n) (enc := enc) (sp := sp) (held := held) (w := w) (n := n) hT cs fs 0 i.size xs h2 (by omega) hxl' (fun j f hf => by
          rw [← g5', List.getElem?_map] at hf
          simp only [Option.map_eq_some_iff] at hf
          obtain ⟨g, hg, rfl⟩ := hf
          exact hxs j g (by simpa using hg)) (fun f hf cs x hx => shp_open hT hS n f.2 cs x (h1 f hf) hx)
      refine ⟨ys, ⟨by simp [Rows.uptoBulk], ?_⟩, by simpa using k2⟩
      simp only [Rows.uptoBulk, Nat.add_sub_cancel]
      exact k1
    · cases hS'
where
  ShpE_mono {S : List AV → Nat → Prop} : ∀ {els : List (List AV)} {m m' : Nat}, m ≤ m' → ShpE S els m → ShpE S els m'
  | [], _, _, _, _ => trivial
  | _ :: _, _, _, hm, ⟨m1, m2, a, b, c⟩ => ⟨m1, m2, a, b, Nat.le_trans c hm⟩
end

end Go.AV0
/- Laws of arguments that are read as data, out of contracts: the same for each law. -/
namespace Go.AV0
open Go.Proofs Go.Proofs.YthbglcdcfdjbbaaGreat Go.ChangeShapes Go.WideShapes Go.ChangeAt Go.RowKit

/-- an argument as it is handed over -/
def argOf (i : TI) (xs : List AV) : AV :=
  match i.k with
  | .st _ => .agg xs
  | _ => match xs with
    | [x] => x
    | _ => .agg xs

def ShpA (T : TT) : List TypeId → List AV → Nat → Prop
  | [], avs, _ => avs = []
  | t :: ts, avs, m => ∃ n i xs rest m1 m2, T.find t = some i ∧ avs = argOf i xs :: rest ∧ Shp T n t xs m1 ∧ ShpA T ts rest m2 ∧ m1 + m2 ≤ m

section
variable {H : Type} {enc : TypeId × Value → H} {P : Program}

theorem rep_arg {w : World} {x : AV} {v : Value} (hn : ∀ cs, v ≠ .agg cs) (h : RepL w (fun _ => False) [x] v.cells.toList) : Rep w (fun _ => False) x v := by
  have e : v.cells.toList = [v] := by cases v <;> first | rfl | exact absurd rfl (hn _)
  rw [e] at h
  simp only [RepL] at h
  obtain ⟨c, cs, h1, h2, _⟩ := h
  cases h1; exact h2

theorem arg_open {w : World} {base : Nat} {sp : Nat → Bool} {held : Bool} {T : TT} {S : List TypeId} (hT : T.all P = true) (hS : okS T S = true) {t : TypeId} (ht : t ∈ S) {v : Value} {d : DataW H} {ps : List MemPlace}
    (hval : Value.okWide P w .any base t v) (h : DataW.Trod enc P w 0 sp held t v d ps) : ∃ n i xs, T.find t = some i ∧ Rep w (fun _ => False) (argOf i xs) v ∧ Shp T n t xs (Rows.uptoBulk d) := by
  obtain ⟨n, h⟩ := h
  obtain ⟨xs, h1, h2⟩ := shp_open hT hS n t _ _ ht h
  cases n with
  | zero => exact h1.elim
  | succ n =>
    cases hi : T.find t with
    | none => simp only [Shp, hi] at h1
    | some i =>
      refine ⟨n + 1, i, xs, rfl, ?_, h1⟩
      have hok := TT.ok hT t i hi
      simp only [Shp, hi] at h1
      unfold argOf
      cases hk : i.k with
      | st fs =>
        obtain ⟨a, ha, _⟩ := und_st hok hk
        obtain ⟨cs, rfl, _⟩ := okWide_struct ha hval
        simp only [Rep]
        exact ⟨cs, rfl, h2⟩
      | bl =>
        simp only [hk] at h1
        obtain ⟨b, rfl, _⟩ := h1
        refine rep_arg (fun cs e => ?_) h2
        subst e
        simp [Value.okWide, und_bl hok hk, Cell.okWide, Cell.ok] at hval
      | int k =>
        simp only [hk] at h1
        obtain ⟨b, _, rfl, _⟩ := h1
        refine rep_arg (fun cs e => ?_) h2
        subst e
        simp [Value.okWide, und_int hok hk, Cell.okWide, Cell.ok] at hval
      | str =>
        simp only [hk] at h1
        obtain ⟨b, rfl, _⟩ := h1
        refine rep_arg (fun cs e => ?_) h2
        subst e
        simp [Value.okWide, und_str hok hk, Cell.okWide, Cell.ok] at hval
      | sl e =>
        simp only [hk] at h1
        obtain ⟨b, rfl, _⟩ := h1
        refine rep_arg (fun cs e => ?_) h2
        subst e
        simp [Value.okWide, und_sl hok hk, Cell.okWide, Cell.ok] at hval
      | _ => simp [hk] at h1

theorem args_open {w : World} {base : Nat} {T : TT} {S : List TypeId} (hT : T.all P = true) (hS : okS T S = true) : ∀ {ts : List TypeId} {vs : List Value} {ds : List (DataW H)} {ps : List MemPlace}, (∀ t ∈ ts, t ∈ S) →
    (∀ (j : Nat) t v, ts[j]? = some t → vs[j]? = some v → Value.okWide P w .any base t v) → DataW.TrodAll enc P w 0 (fun _ => true) true ts vs ds ps → ∃ avs, RepL w (fun _ => False) avs vs ∧ ShpA T ts avs (Rows.uptoBulkAll ds)
  | [], vs, ds, ps, _, _, h => by
    obtain ⟨rfl, rfl, rfl⟩ := trodAll_nil h
    exact ⟨[], by simp [RepL], rfl⟩
  | t :: ts, vs, ds, ps, hts, hval, h => by
    obtain ⟨v, vs', d, ds', p, q, rfl, rfl, rfl, h1, h2⟩ := trodAll_cons h
    obtain ⟨n, i, xs, g1, g2, g3⟩ := arg_open hT hS (hts t (by simp)) (hval 0 t v rfl rfl) h1
    obtain ⟨avs, g4, g5⟩ := args_open hT hS (fun t ht => hts t (by simp [ht])) (fun j t v ht hv => hval (j + 1) t v (by simpa using ht) (by simpa using hv)) h2
    refine ⟨argOf i xs :: avs, ?_, n, i, xs, avs, _, _, g1, rfl, g3, g5, by simp only [Rows.uptoBulkAll]; omega⟩
    simp only [RepL]
    exact ⟨v, vs', rfl, g2, g4⟩

theorem below_same {W W' : World} (hb : Below W.heap.size W W') {p : MemPlace} (hp : p.block < W.heap.size) : W.sameAt W' p := by
  cases p with
  | cell b off =>
    simp only [World.sameAt, World.cell?]
    rw [hb.block b hp]
  | map b => exact hb.block b hp

theorem args_stay {W W' : World} (hl : laidOutB P = true) (hb : Below W.heap.size W W') : ∀ {ts : List TypeId} {vs : List Value} {ds : List (DataW H)} {ps : List MemPlace}, (ts.all fun t => P.readableRec t && decide (t < P.types.size)) = true →
    (∀ p ∈ ps, p.block < W.heap.size) → DataW.TrodAll enc P W 0 (fun _ => true) true ts vs ds ps → DataW.TrodAll enc P W' 0 (fun b => decide (b < W.heap.size)) true ts vs ds ps
  | [], vs, ds, ps, _, _, h => by
    obtain ⟨rfl, rfl, rfl⟩ := trodAll_nil h
    exact trodAll_mk0
  | t :: ts, vs, ds, ps, hts, hlt, h => by
    obtain ⟨v, vs', d, ds', p, q, rfl, rfl, rfl, h1, h2⟩ := trodAll_cons h
    simp only [List.all_cons, Bool.and_eq_true, decide_eq_true_eq] at hts
    refine trodAll_cons_mk (WideElems.Trod_stays hl hts.1.1 hts.1.2 h1 (fun x hx => below_same hb (hlt x (by simp [hx]))) fun x hx => by simpa using hlt x (by simp [hx])) (args_stay hl hb (by simpa using hts.2) (fun x hx => hlt x (by simp [hx])) h2)

/-- what a law's contract gives for each argument of that bulk -/
theorem law_contract {T : TT} {S : List TypeId} {f : FuncId} {fn : Func} {s : ChangeSpec} {bt : TypeId} {ts : List TypeId} (hT : T.all P = true) (hS : okS T S = true) (hl : laidOutB P = true) (hts : (ts.all fun t => S.contains t && (P.readableRec t && decide (t < P.types.size))) = true)
    (hp : fn.params.toList = ts) (hr : fn.resultTypes = #[bt]) (hbt : P.underlying bt = some .bool) (hvars : s.vars = [])
    (hspec : ∀ (H : Type) (ds : List (DataW H)), ds.length = ts.length → (s.fn H ds).results = [.lit (.bool true)] ∧ (s.fn H ds).args = ds ∧ (s.fn H ds).vars = [])
    (hlaw : ∀ avs m, m ≤ 1048576 → ShpA T ts avs m → APure P f avs (fun r => r = .c (.bool true)))
    (W : World) (hG : GW W) (base : Nat) (args : Array Value) (ds gs : List (DataW H)) (before : List MemPlace)
    (hval : ∀ (j : Nat) t v, fn.params[j]? = some t → args[j]? = some v → Value.okWide P W .any base t v)
    (hW : DataW.Whole enc P fn.params.toList s.vars false W args.toList ds gs before) (hk : Rows.uptoSmall H (ds ++ gs) = true) :
    Calls P f args W fun e W' => ∃ v, e = .returned v ∧ s.post enc P fn false true false false W args v W' := by
  have hW' := hW
  have hlt := hW.lt
  obtain ⟨p, q, hA, hV, rfl, hfz, hnd⟩ := hW
  rw [hvars] at hV
  obtain ⟨rfl, rfl⟩ := trodVars_none hV
  simp only [List.append_nil] at hW' hlt hk
  rw [hp] at hA
  have hts1 : ∀ t ∈ ts, t ∈ S := fun t ht => by
    have := List.all_eq_true.1 hts t ht
    simp only [Bool.and_eq_true, List.contains_iff_mem] at this
    exact this.1
  have hts2 : (ts.all fun t => P.readableRec t && decide (t < P.types.size)) = true := List.all_eq_true.2 fun t ht => by
    have := List.all_eq_true.1 hts t ht
    simp only [Bool.and_eq_true] at this
    simp only [Bool.and_eq_true]; exact this.2
  obtain ⟨avs, g1, g2⟩ := args_open (w := W) (base := base) hT hS hts1 (fun j t v ht hv => hval j t v (by rw [← hp] at ht; simpa using ht) (by simpa using hv)) hA
  have hm : Rows.uptoBulkAll ds ≤ 1048576 := of_decide_eq_true hk
  have hlaw := hlaw avs _ hm g2
  have hdl : ds.length = ts.length := trodAll_len hA
  obtain ⟨s1, s2, s3⟩ := hspec H ds hdl
  have hcall := hlaw.2 W (fun _ => False) args.toList (fun _ h => h.elim) (GOk.start hG) g1
  rw [show args.toList.toArray = args by simp] at hcall
  refine hcall.mono ?_
  rintro e W' ⟨c, v, rfl, rfl, hb, hv⟩
  simp only [Rep] at hv
  subst hv
  refine ⟨_, rfl, ds, [], p, [], p, [], hW', ?_, ?_, ?_, hb.frame _, fun h => by cases h⟩
  · rw [List.append_nil, s1, hr]
    exact trodAll_mk1 (shut_bool hbt _)
  · rw [List.append_nil, s2, hp]
    exact args_stay hl hb hts2 hlt hA
  · rw [List.append_nil, s3, hvars]
    rfl
where
  trodAll_len {w : World} {b : Nat} {sp : Nat → Bool} {hd : Bool} : ∀ {ts : List TypeId} {vs : List Value} {ds : List (DataW H)} {ps : List MemPlace}, DataW.TrodAll enc P w b sp hd ts vs ds ps → ds.length = ts.length
  | [], vs, ds, ps, h => by obtain ⟨rfl, rfl, rfl⟩ := trodAll_nil h; rfl
  | t :: ts, vs, ds, ps, h => by
    obtain ⟨v, vs', d, ds', p, q, rfl, rfl, rfl, h1, h2⟩ := trodAll_cons h
    simp [trodAll_len h2]
/-- a law's statement of the second form, but for its frame -/
theorem law_lifted {C : Checked} {os : Os} {F : Stop.Interp} {T : TT} {S : List TypeId} {f : FuncId} {fn : Func} {s : ChangeSpec} {bt : TypeId} {ts : List TypeId} {conds : List PathCond} (own : ownKnob C.prog.godebug = none) (started : os.Started) (noInit : C.prog.inits.idxOf? f = none) (hfn : C.prog.funcs[f]? = some fn)
    (hT : T.all C.prog = true) (hS : okS T S = true) (hl : laidOutB C.prog = true) (hts : (ts.all fun t => S.contains t && (C.prog.readableRec t && decide (t < C.prog.types.size))) = true)
    (hp : fn.params.toList = ts) (hr : fn.resultTypes = #[bt]) (hbt : C.prog.underlying bt = some .bool) (hvars : s.vars = [])
    (hspec : ∀ (H : Type) (ds : List (DataW H)), ds.length = ts.length → (s.fn H ds).results = [.lit (.bool true)] ∧ (s.fn H ds).args = ds ∧ (s.fn H ds).vars = [])
    (witness : ∃ (w : World) (tape : Tape) (i : Input), w.os = os ∧ (w.forCall tape i).Shaped C.prog ∧ i.vars = [] ∧ Input.okWide C.prog (w.forCall tape i) .any w.heap.size f i ∧
      (Rows.OpenSpec.upto s).pre6 enc C.prog fn conds false (w.forCall tape i).memory i.args ∧ Assume.holds {} C.prog (lone (Frame.enter C.prog f i.args .normal) [] (w.forCall tape i)))
    (hlaw : ∀ avs m, m ≤ 1048576 → ShpA T ts avs m → APure C.prog f avs (fun r => r = .c (.bool true))) :
    ReturnsInHanded {} C os f .any ((Rows.OpenSpec.upto s).pre6 enc C.prog fn conds false) (((Rows.OpenSpec.upto s).at F).post enc C.prog fn false true false false) := by
  refine returnsInHanded_of_cond (C := C) (s := Rows.OpenSpec.upto s) (k := Rows.uptoSmall) rfl own started noInit hfn witness ?_
  intro W base args ds gs before hval hW _ hk _
  exact law_contract hT hS hl hts hp hr hbt hvars hspec hlaw W trivial base args ds gs before hval hW hk
end

end Go.AV0
/- the document's values: how much they hold; how many, how deep. -/
namespace Go.AV0
open Go.Proofs

def bulkK : List ByteArray → Nat
  | [] => 0
  | k :: ks => k.size + 1 + bulkK ks
mutual
/-- how much a value holds -/
def bulkR : RV → Nat
  | .mk _ _ _ _ s l ks => s.size + bulkRL l + bulkK ks + 3
def bulkRL : List RV → Nat
  | [] => 0
  | r :: l => bulkR r + bulkRL l
end

theorem bulkRL_mem {l : List RV} {x : RV} (h : x ∈ l) : bulkR x ≤ bulkRL l := by
  induction l with
  | nil => cases h
  | cons y l ih =>
    simp only [bulkRL]
    rcases List.mem_cons.1 h with rfl | h
    · omega
    · have := ih h; omega
theorem bulkRL_len : ∀ (l : List RV), 3 * l.length ≤ bulkRL l
  | [] => by simp
  | r :: l => by
    obtain ⟨k, b, n, m, s, l', ks⟩ := r
    have := bulkRL_len l
    simp only [bulkRL, bulkR, List.length_cons]; omega
theorem bulkK_len : ∀ (l : List ByteArray), l.length ≤ bulkK l
  | [] => by simp
  | r :: l => by have := bulkK_len l; simp only [bulkK, List.length_cons]; omega
theorem bulkK_mem {l : List ByteArray} {x : ByteArray} (h : x ∈ l) : x.size + 1 ≤ bulkK l := by
  induction l with
  | nil => cases h
  | cons y l ih =>
    simp only [bulkK]
    rcases List.mem_cons.1 h with rfl | h
    · omega
    · have := ih h; omega

mutual
def sizeR : RV → Nat
  | .mk _ _ _ _ _ l _ => sizeRL l + 1
def sizeRL : List RV → Nat
  | [] => 0
  | r :: l => sizeR r + sizeRL l
end
mutual
def deepR : RV → Nat
  | .mk _ _ _ _ _ l _ => deepRL l + 1
def deepRL : List RV → Nat
  | [] => 0
  | r :: l => max (deepR r) (deepRL l)
end
theorem sizeRL_snoc : ∀ (l : List RV) (x : RV), sizeRL (l ++ [x]) = sizeRL l + sizeR x
  | [], x => by simp [sizeRL]
  | r :: l, x => by simp only [List.cons_append, sizeRL, sizeRL_snoc l x]; omega
theorem deepRL_snoc : ∀ (l : List RV) (x : RV), deepRL (l ++ [x]) = max (deepRL l) (deepR x)
  | [], x => by simp [deepRL]
  | r :: l, x => by simp only [List.cons_append, deepRL, deepRL_snoc l x]; omega
theorem sizeRL_take : ∀ (l : List RV) (i : Nat), sizeRL (l.take i) ≤ sizeRL l
  | [], i => by simp
  | r :: l, 0 => by simp [sizeRL]
  | r :: l, i + 1 => by have := sizeRL_take l i; simp only [List.take_succ_cons, sizeRL]; omega
theorem size_bulk : ∀ r : RV, sizeR r ≤ bulkR r ∧ deepR r ≤ bulkR r := by
  intro r
  induction r using RV.ind with
  | _ k b n m s l ks ih =>
  have : sizeRL l ≤ bulkRL l ∧ deepRL l ≤ bulkRL l := by
    clear s ks
    induction l with
    | nil => simp [sizeRL, deepRL]
    | cons x l ih2 =>
      have h1 := ih x (by simp)
      have h2 := ih2 fun y hy => ih y (by simp [hy])
      simp only [sizeRL, deepRL, bulkRL]; omega
  simp only [sizeR, deepR, bulkR]; omega

def SizeRC (r : RV) : Prop := bulkR r ≤ 4000000 → APure Tryz.prog 19 [.agg (rvA r)] (fun x => x = .c (.int .i64 (sizeR r : Int)))

theorem size_r : ∀ (r : RV), SizeRC r := by
  intro r
  induction r using RV.ind with
  | _ k b n m s l ks ih =>
  intro hb
  have hlen := bulkRL_len l
  have hbl : bulkRL l ≤ 4000000 := by simp only [bulkR] at hb; omega
  have hsz : sizeRL l ≤ 4000000 := by have := (size_bulk (.mk k b n m s l ks)).1; simp only [sizeR] at this; omega
  refine apure_of hTS Tryz.func19 (by kernel_rfl) rfl rfl rfl ?_
  refine loop_on hTS (X := Nat) (fun i => i ≤ l.length)
    (fun i => ⟨[(1, .ref 0 0), (3, .v (.c (.int .i64 ((sizeRL (l.take i) + 1 : Nat) : Int)))), (4, .v (.c (.int .i64 (i : Int))))], []⟩)
    (fun _ => [.cells [.v (.c (.int .i64 k)), .v (.c (.bool b)), .v (.c (.int .i64 n)), .v (.c (.int .i64 m)), .v (.c (.string s)), .v (.sl (rvL l)), .v (.sl (nmA ks))]]) (fun i => l.length - i) 0 (Nat.zero_le _) ⟨rfl, rfl, (by (repeat' (first | exact trivial | refine ⟨⟨?_, rfl⟩, ?_⟩ | fail)); all_goals (first | (show some (SV.v (AV.c (Value.int .i64 (IntKind.i64.wrap _)))) = _; rw [inc (by omega)]; try rfl) | rfl)), ⟨_, rfl⟩, rfl⟩ ?_
  intro i hi
  refine bsplit_d (fun h1 _ => ?_) (fun h1 _ => ?_)
  · rw [rvL_len] at h1
    obtain ⟨x, hx⟩ : ∃ x, l[i]? = some x := ⟨_, List.getElem?_eq_getElem (by omega)⟩
    have hmem := List.mem_of_getElem? hx
    refine elev (Int.natCast_nonneg _) (rvA x) (rvL_get _ _ _ hx) ?_
    obtain ⟨xk, xb, xn, xm, xs, xl, xks⟩ := x
    refine call_pure (ih _ hmem (by have := bulkRL_mem hmem; omega)) rfl ?_
    rintro _ rfl
    have ht := sizeRL_take l (i + 1)
    rw [take_succ hx, sizeRL_snoc] at ht
    refine ⟨i + 1, by omega, (by dsimp only; omega), ⟨rfl, rfl, ⟨⟨rfl, rfl⟩, ⟨?_, rfl⟩, ⟨congrArg (fun x => some (SV.v (AV.c (.int .i64 x)))) (inc (k := i) (by omega)), rfl⟩, trivial⟩, ⟨_, rfl⟩, rfl⟩⟩
    show some (SV.v (AV.c (.int .i64 (IntKind.i64.wrap _)))) = _
    rw [take_succ hx, sizeRL_snoc, wr (by omega) (by omega)]
    congr 5; omega
  · rw [rvL_len] at h1
    have hil : i = l.length := by omega
    subst hil
    show AV.c (.int .i64 ((sizeRL (l.take l.length) + 1 : Nat) : Int)) = _
    rw [List.take_length]; rfl

def DeepRC (r : RV) : Prop := bulkR r ≤ 4000000 → APure Tryz.prog 20 [.agg (rvA r)] (fun x => x = .c (.int .i64 (deepR r : Int)))

theorem deep_r : ∀ (r : RV), DeepRC r := by
  intro r
  induction r using RV.ind with
  | _ k b n m s l ks ih =>
  intro hb
  have hlen := bulkRL_len l
  have hbl : bulkRL l ≤ 4000000 := by simp only [bulkR] at hb; omega
  have hsz : deepRL l ≤ 4000000 := by have := (size_bulk (.mk k b n m s l ks)).2; simp only [deepR] at this; omega
  refine apure_of hTS Tryz.func20 (by kernel_rfl) rfl rfl rfl ?_
  refine loop_on hTS (X := Nat) (fun i => i ≤ l.length)
    (fun i => ⟨[(1, .ref 0 0), (3, .v (.c (.int .i64 ((deepRL (l.take i) : Nat) : Int)))), (4, .v (.c (.int .i64 (i : Int))))], []⟩)
    (fun _ => [.cells [.v (.c (.int .i64 k)), .v (.c (.bool b)), .v (.c (.int .i64 n)), .v (.c (.int .i64 m)), .v (.c (.string s)), .v (.sl (rvL l)), .v (.sl (nmA ks))]]) (fun i => l.length - i) 0 (Nat.zero_le _) ⟨rfl, rfl, (by (repeat' (first | exact trivial | refine ⟨⟨?_, rfl⟩, ?_⟩ | fail)); all_goals (first | (show some (SV.v (AV.c (Value.int .i64 (IntKind.i64.wrap _)))) = _; rw [inc (by omega)]; try rfl) | rfl)), ⟨_, rfl⟩, rfl⟩ ?_
  intro i hi
  refine bsplit_d (fun h1 _ => ?_) (fun h1 _ => ?_)
  · rw [rvL_len] at h1
    obtain ⟨x, hx⟩ : ∃ x, l[i]? = some x := ⟨_, List.getElem?_eq_getElem (by omega)⟩
    have hmem := List.mem_of_getElem? hx
    refine elev (Int.natCast_nonneg _) (rvA x) (rvL_get _ _ _ hx) ?_
    obtain ⟨xk, xb, xn, xm, xs, xl, xks⟩ := x
    refine call_pure (ih _ hmem (by have := bulkRL_mem hmem; omega)) rfl ?_
    rintro _ rfl
    refine ⟨i + 1, by omega, (by dsimp only; omega), ⟨rfl, rfl, ⟨⟨rfl, rfl⟩, ⟨?_, rfl⟩, ⟨congrArg (fun x => some (SV.v (AV.c (.int .i64 x)))) (inc (k := i) (by omega)), rfl⟩, trivial⟩, ⟨_, rfl⟩, rfl⟩⟩
    show some (SV.v (AV.c (.int .i64 (max _ _)))) = _
    rw [take_succ hx, deepRL_snoc]
    congr 5; omega
  · rw [rvL_len] at h1
    have hil : i = l.length := by omega
    subst hil
    show AV.c (.int .i64 (IntKind.i64.wrap ((deepRL (l.take l.length) : Int) + 1))) = _
    rw [List.take_length, inc (by omega)]; rfl

/-! ### arguments of these types -/
theorem shp_keys {n : Nat} : ∀ {els : List (List AV)} {m : Nat}, ShpE (Shp TS n 9) els m → ∃ ks, els = nmA ks ∧ bulkK ks ≤ m
  | [], m, _ => ⟨[], rfl, by simp [bulkK]⟩
  | e :: els, m, ⟨m1, m2, h1, h2, h3⟩ => by
    obtain ⟨ks, rfl, h4⟩ := shp_keys h2
    cases n with
    | zero => exact h1.elim
    | succ n =>
      obtain ⟨s, rfl, h5⟩ := h1
      exact ⟨s :: ks, rfl, by simp only [bulkK]; omega⟩

theorem shp_val : ∀ {n : Nat} {xs : List AV} {m : Nat}, Shp TS n 25 xs m → ∃ r, xs = rvA r ∧ bulkR r ≤ m := by
  intro n
  induction n using Nat.strongRecOn with
  | _ n ih =>
  intro xs m h
  match n, ih, h with
  | n + 1, ih, h =>
    obtain ⟨hm, h⟩ := h
    obtain ⟨_, y0, z0, a0, b0, rfl, c0, h, d0⟩ := h
    obtain ⟨_, y1, z1, a1, b1, rfl, c1, h, d1⟩ := h
    obtain ⟨_, y2, z2, a2, b2, rfl, c2, h, d2⟩ := h
    obtain ⟨_, y3, z3, a3, b3, rfl, c3, h, d3⟩ := h
    obtain ⟨_, y4, z4, a4, b4, rfl, c4, h, d4⟩ := h
    obtain ⟨_, y5, z5, a5, b5, rfl, c5, h, d5⟩ := h
    obtain ⟨_, y6, z6, a6, b6, rfl, c6, h, d6⟩ := h
    cases h
    match n, ih, c0, c1, c2, c3, c4, c5, c6 with
    | n + 1, ih, c0, c1, c2, c3, c4, c5, c6 =>
      obtain ⟨k, _, rfl, _⟩ := c0
      obtain ⟨b, rfl, _⟩ := c1
      obtain ⟨x, _, rfl, _⟩ := c2
      obtain ⟨y, _, rfl, _⟩ := c3
      obtain ⟨s, rfl, e4⟩ := c4
      obtain ⟨els, rfl, _, e5⟩ := c5
      obtain ⟨kels, rfl, _, e6⟩ := c6
      obtain ⟨ks, rfl, g6⟩ := shp_keys e6
      have key : ∀ {els : List (List AV)} {m : Nat}, ShpE (Shp TS n 25) els m → ∃ l, els = rvL l ∧ bulkRL l ≤ m := by
        intro els
        induction els with
        | nil => intro m _; exact ⟨[], rfl, by simp [bulkRL]⟩
        | cons e els ih2 =>
          rintro m ⟨m1, m2, h1, h2, h3⟩
          obtain ⟨l, rfl, h4⟩ := ih2 h2
          obtain ⟨r, rfl, h5⟩ := ih n (by omega) h1
          exact ⟨r :: l, rfl, by simp only [bulkRL]; omega⟩
      obtain ⟨l, rfl, g5⟩ := key e5
      exact ⟨.mk k b x y s l ks, rfl, by simp only [bulkR]; omega⟩

end Go.AV0
/- the document's values: how much is more than is asked of. -/
namespace Go.AV0
open Go.Proofs

mutual
/-- nothing is more than is asked of -/
def fitR : RV → Prop
  | .mk k b n m s l ks => (l.length ≤ 70 ∧ ks.length ≤ 70 ∧ s.size ≤ 300 ∧ sizeR (.mk k b n m s l ks) ≤ 200 ∧ deepR (.mk k b n m s l ks) ≤ 12 ∧ ∀ x ∈ ks, x.size ≤ 300) ∧ fitRL l
def fitRL : List RV → Prop
  | [] => True
  | r :: l => fitR r ∧ fitRL l
end
theorem fitRL_of : ∀ {l : List RV}, (∀ x ∈ l, fitR x) → fitRL l
  | [], _ => trivial
  | r :: l, h => ⟨h r (by simp), fitRL_of fun x hx => h x (by simp [hx])⟩
theorem bulkK_take : ∀ (l : List ByteArray) (i : Nat), bulkK (l.take i) ≤ bulkK l
  | [], i => by simp
  | r :: l, 0 => by simp [bulkK]
  | r :: l, i + 1 => by have := bulkK_take l i; simp only [List.take_succ_cons, bulkK]; omega
theorem bulkK_snoc : ∀ (l : List ByteArray) (x : ByteArray), bulkK (l ++ [x]) = bulkK l + x.size + 1
  | [], x => by simp [bulkK]
  | r :: l, x => by simp only [List.cons_append, bulkK, bulkK_snoc l x]; omega

def GreatC (r : RV) : Prop := bulkR r ≤ 4000000 → APure Tryz.prog 4 [.agg (rvA r)] (fun x => ∃ n : Nat, n ≤ 6 * bulkR r ∧ x = .c (.int .i64 (n : Int)) ∧ (n = 0 → fitR r))

theorem mx (a : Nat) (b : Nat) (ha : a ≤ 4000000) (hb : b ≤ 1000) : max (IntKind.i64.wrap ((a : Int) - (b : Int))) 0 = ((a - b : Nat) : Int) := by
  rw [wr (by omega) (by omega)]; omega
theorem wadd (a b : Nat) (h : a + b ≤ 4000000000) : IntKind.i64.wrap ((a : Int) + (b : Int)) = ((a + b : Nat) : Int) := by
  rw [wr (by omega) (by omega)]; omega

set_option maxHeartbeats 4000000 in
theorem great_r : ∀ (r : RV), GreatC r := by
  intro r
  induction r using RV.ind with
  | _ k b n m s l ks ih =>
  intro hb
  have hlen := bulkRL_len l
  have hkl := bulkK_len ks
  have hsb := size_bulk (.mk k b n m s l ks)
  have hbl : bulkRL l ≤ 4000000 ∧ bulkK ks ≤ 4000000 ∧ s.size ≤ 4000000 := by simp only [bulkR] at hb; omega
  have hbr : s.size + bulkRL l + bulkK ks + 3 = bulkR (.mk k b n m s l ks) := by simp only [bulkR]
  refine apure_of hTS Tryz.func4 (by kernel_rfl) rfl rfl rfl ?_
  refine draw_ev hTS (by kernel_rfl) (.pur 0 (.pur 5 (.pur 11 (.part [] [] (.take 1 (.take 2 (.pur 3 (.pur 4 (.take 6 (.take 7 (.pur 8 (.pur 9 (.pur 10 (.take 12 (.take 13 (.pur 14 (.pur 15 (.pur 16 (.take 17 (.take 22 (.one 18 (.pur 19 (.pur 20 (.pur 21 (.one 23 (.pur 24 (.pur 25 (.pur 26 (.pur 27 .done))))))))))))))))))))))))))))) (by kernel_rfl) ?_
  refine call_pure (size_r _ hb) rfl ?_
  rintro _ rfl
  refine call_pure (deep_r _ hb) rfl ?_
  rintro _ rfl
  refine loop_on hTS (X := Nat × Nat) (fun (i, v) => i ≤ ks.length ∧ i ≤ 80 ∧ v ≤ 5 * bulkR (.mk k b n m s l ks) + bulkK (ks.take i) ∧ (v = 0 → l.length ≤ 70 ∧ ks.length ≤ 70 ∧ s.size ≤ 300 ∧ sizeR (.mk k b n m s l ks) ≤ 200 ∧ deepR (.mk k b n m s l ks) ≤ 12 ∧ ∀ j x, j < i → ks[j]? = some x → x.size ≤ 300))
    (fun (i, v) => ⟨[(1, .ref 0 0), (3, .v (.c (.int .i64 (v : Int)))), (4, .v (.c (.int .i64 (i : Int))))], []⟩)
    (fun _ => [.cells [.v (.c (.int .i64 k)), .v (.c (.bool b)), .v (.c (.int .i64 n)), .v (.c (.int .i64 m)), .v (.c (.string s)), .v (.sl (rvL l)), .v (.sl (nmA ks))]]) (fun (i, _) => ks.length - i)
    (0, (l.length - 70) + (ks.length - 70) + (s.size - 300) + (sizeR (.mk k b n m s l ks) - 200) + (deepR (.mk k b n m s l ks) - 12)) ?_ ?_ ?_
  · refine ⟨Nat.zero_le _, Nat.zero_le _, by omega, fun h => ⟨by omega, by omega, by omega, by omega, by omega, fun j x hj => absurd hj (Nat.not_lt_zero _)⟩⟩
  · refine ⟨rfl, rfl, ⟨⟨rfl, rfl⟩, ⟨?_, rfl⟩, ⟨rfl, rfl⟩, trivial⟩, ⟨[], rfl⟩, rfl⟩
    show some (SV.v (AV.c (.int .i64 (IntKind.i64.wrap (IntKind.i64.wrap (IntKind.i64.wrap (IntKind.i64.wrap (max (IntKind.i64.wrap (((rvL l).length : Int) - (70 : Nat))) 0 + max (IntKind.i64.wrap (((nmA ks).length : Int) - (70 : Nat))) 0) + max (IntKind.i64.wrap ((s.size : Int) - (300 : Nat))) 0) + max (IntKind.i64.wrap (((sizeR (.mk k b n m s l ks) : Nat) : Int) - (200 : Nat))) 0) + max (IntKind.i64.wrap (((deepR (.mk k b n m s l ks) : Nat) : Int) - (12 : Nat))) 0))))) = _
    rw [rvL_len, nmA_len, mx _ _ (by omega) (by omega), mx _ _ (by omega) (by omega), mx _ _ (by omega) (by omega), mx _ _ (by omega) (by omega), mx _ _ (by omega) (by omega), wadd _ _ (by omega), wadd _ _ (by omega), wadd _ _ (by omega), wadd _ _ (by omega)]
  rintro ⟨i, v⟩ ⟨hi, h80, hv, hz⟩
  dsimp only at hi h80 hv hz ⊢
  have hbt := bulkK_take ks i
  refine bsplit_d (fun h1 e1 => ?_) (fun h1 e1 => ?_)
  case' refine_1 =>
    rw [nmA_len] at h1
    repeat' (first | refine bsplit_t (by first | with_reducible assumption | with_reducible rfl | with_reducible exact Bool.not_true | with_reducible exact Bool.not_false) ?_ | refine bsplit_f (by first | with_reducible assumption | with_reducible rfl | with_reducible exact Bool.not_true | with_reducible exact Bool.not_false) ?_ | fail)
    refine bsplit_d (fun h2 e2 => ?_) (fun h2 e2 => ?_)
    · obtain ⟨x, hx⟩ : ∃ x, ks[i]? = some x := ⟨_, List.getElem?_eq_getElem (by omega)⟩
      have hxs := bulkK_mem (List.mem_of_getElem? hx)
      have ht : bulkK (ks.take (i + 1)) = bulkK (ks.take i) + x.size + 1 := by rw [take_succ hx, bulkK_snoc]
      refine elev (Int.natCast_nonneg _) [AV.c (.string x)] (nmA_get _ _ _ hx) ?_
      refine ⟨(i + 1, v + (x.size - 300)), ⟨by omega, by omega, by dsimp only; omega, ?_⟩, (by dsimp only; omega), ⟨rfl, rfl, ⟨⟨rfl, rfl⟩, ⟨?_, rfl⟩, ⟨congrArg (fun x => some (SV.v (AV.c (.int .i64 x)))) (inc (k := i) (by omega)), rfl⟩, trivial⟩, ⟨_, rfl⟩, rfl⟩⟩
      · intro h0
        obtain ⟨q1, q2, q3, q4, q5, q6⟩ := hz (by omega)
        refine ⟨q1, q2, q3, q4, q5, fun j y hj hy => ?_⟩
        rcases Nat.lt_or_ge j i with h9 | h9
        · exact q6 j y h9 hy
        · have : j = i := by omega
          subst this
          rw [hx] at hy; cases hy; omega
      · show some (SV.v (AV.c (.int .i64 (IntKind.i64.wrap ((v : Int) + max (IntKind.i64.wrap ((x.size : Int) - (300 : Nat))) 0))))) = _
        rw [mx _ _ (by omega) (by omega), wadd _ _ (by omega)]
  all_goals
    repeat' (first | refine bsplit_t (by first | with_reducible assumption | with_reducible rfl | with_reducible exact Bool.not_true | with_reducible exact Bool.not_false) ?_ | refine bsplit_f (by first | with_reducible assumption | with_reducible rfl | with_reducible exact Bool.not_true | with_reducible exact Bool.not_false) ?_ | fail)
    have hz' : v = 0 → l.length ≤ 70 ∧ ks.length ≤ 70 ∧ s.size ≤ 300 ∧ sizeR (.mk k b n m s l ks) ≤ 200 ∧ deepR (.mk k b n m s l ks) ≤ 12 ∧ ∀ x ∈ ks, x.size ≤ 300 := by
      intro h0
      obtain ⟨q1, q2, q3, q4, q5, q6⟩ := hz h0
      refine ⟨q1, q2, q3, q4, q5, fun x hx => ?_⟩
      obtain ⟨j, hj⟩ := List.mem_iff_getElem?.1 hx
      have h1' : ¬ i < ks.length := by first | (rw [nmA_len] at h1; omega) | omega
      exact q6 j x (by have := get_lt hj; omega) hj
    clear hz hi h80 h1 e1
    refine loop_on hTS (X := Nat × Nat) (fun (i, v) => i ≤ l.length ∧ v ≤ 6 * bulkR (.mk k b n m s l ks) ∧ (v = 0 → l.length ≤ 70 ∧ ks.length ≤ 70 ∧ s.size ≤ 300 ∧ sizeR (.mk k b n m s l ks) ≤ 200 ∧ deepR (.mk k b n m s l ks) ≤ 12 ∧ (∀ x ∈ ks, x.size ≤ 300) ∧ ∀ j x, j < i → l[j]? = some x → fitR x))
      (fun (i, v) => ⟨[(1, .ref 0 0), (3, .v (.c (.int .i64 (v : Int)))), (5, .v (.c (.int .i64 (i : Int))))], []⟩)
      (fun _ => [.cells [.v (.c (.int .i64 k)), .v (.c (.bool b)), .v (.c (.int .i64 n)), .v (.c (.int .i64 m)), .v (.c (.string s)), .v (.sl (rvL l)), .v (.sl (nmA ks))]]) (fun (i, _) => l.length - i)
      (0, v) ⟨Nat.zero_le _, by omega, fun h => let ⟨q1, q2, q3, q4, q5, q6⟩ := hz' h; ⟨q1, q2, q3, q4, q5, q6, fun j x hj => absurd hj (Nat.not_lt_zero _)⟩⟩ ⟨rfl, rfl, (by (repeat' (first | exact trivial | refine ⟨⟨?_, rfl⟩, ?_⟩ | fail)); all_goals (first | (show some (SV.v (AV.c (Value.int .i64 (IntKind.i64.wrap _)))) = _; rw [inc (by omega)]; try rfl) | rfl)), ⟨_, rfl⟩, rfl⟩ ?_
    clear hz' hv v
    rintro ⟨i, v⟩ ⟨hi, hv, hz⟩
    dsimp only at hi hv hz ⊢
    refine bsplit_d (fun h1 e1 => ?_) (fun h1 e1 => ?_)
    case' refine_1 =>
      rw [rvL_len] at h1
      repeat' (first | refine bsplit_t (by first | with_reducible assumption | with_reducible rfl | with_reducible exact Bool.not_true | with_reducible exact Bool.not_false) ?_ | refine bsplit_f (by first | with_reducible assumption | with_reducible rfl | with_reducible exact Bool.not_true | with_reducible exact Bool.not_false) ?_ | fail)
      refine bsplit_d (fun h2 e2 => ?_) (fun h2 e2 => ?_)
      · have hv0 : v = 0 := by omega
        subst hv0
        obtain ⟨x, hx⟩ : ∃ x, l[i]? = some x := ⟨_, List.getElem?_eq_getElem (by omega)⟩
        have hmem := List.mem_of_getElem? hx
        obtain ⟨xk, xb, xn, xm, xs, xl, xks⟩ := x
        have hxb := bulkRL_mem hmem
        refine elev (Int.natCast_nonneg _) (rvA _) (rvL_get _ _ _ hx) ?_
        refine call_pure (ih _ hmem (by omega)) rfl ?_
        rintro _ ⟨w, hw, rfl, hwf⟩
        refine ⟨(i + 1, w), ⟨by omega, by omega, ?_⟩, (by dsimp only; omega), ⟨rfl, rfl, ⟨⟨rfl, rfl⟩, ⟨?_, rfl⟩, ⟨congrArg (fun x => some (SV.v (AV.c (.int .i64 x)))) (inc (k := i) (by omega)), rfl⟩, trivial⟩, ⟨_, rfl⟩, rfl⟩⟩
        · intro h0
          obtain ⟨q1, q2, q3, q4, q5, q6, q7⟩ := hz rfl
          refine ⟨q1, q2, q3, q4, q5, q6, fun j y hj hy => ?_⟩
          rcases Nat.lt_or_ge j i with h9 | h9
          · exact q7 j y h9 hy
          · have : j = i := by omega
            subst this
            rw [hx] at hy; cases hy; exact hwf h0
        · show some (SV.v (AV.c (.int .i64 (IntKind.i64.wrap (((0 : Nat) : Int) + (w : Int)))))) = _
          rw [wadd _ _ (by omega), Nat.zero_add]
    all_goals
      repeat' (first | refine bsplit_t (by first | with_reducible assumption | with_reducible rfl | with_reducible exact Bool.not_true | with_reducible exact Bool.not_false) ?_ | refine bsplit_f (by first | with_reducible assumption | with_reducible rfl | with_reducible exact Bool.not_true | with_reducible exact Bool.not_false) ?_ | fail)
      refine ⟨v, hv, rfl, fun h0 => ?_⟩
      obtain ⟨q1, q2, q3, q4, q5, q6, q7⟩ := hz h0
      refine ⟨⟨q1, q2, q3, q4, q5, q6⟩, fitRL_of fun x hx => ?_⟩
      obtain ⟨j, hj⟩ := List.mem_iff_getElem?.1 hx
      have h1' : ¬ i < l.length := by first | (rw [rvL_len] at h1; omega) | omega
      exact q7 j x (by have := get_lt hj; omega) hj

end Go.AV0
/- the document's values: cleaned. -/
namespace Go.AV0
open Go.Proofs

def cut53 (n : Int) : Int := min (max n (-9007199254740992)) 9007199254740992
/-- a key's place -/
def insAt (ks : List ByteArray) (k : ByteArray) : Nat := (ks.takeWhile (fun a => slt a k)).length
def insK (p : List ByteArray × List RV) (k : ByteArray) (v : RV) : List ByteArray × List RV :=
  if p.1[insAt p.1 k]? = some k then p else (p.1.take (insAt p.1 k) ++ [k] ++ p.1.drop (insAt p.1 k), p.2.take (insAt p.1 k) ++ [v] ++ p.2.drop (insAt p.1 k))

mutual
def cleanR : RV → RV
  | .mk k b n m s l ks => if k = 1 then rv0 1 else if k = 2 then .mk 2 b 0 0 noBytes [] [] else if k = 3 then .mk 3 false n 0 noBytes [] [] else if k = 4 then .mk 4 false (cut53 n) (cut53 m) noBytes [] []
      else if k = 5 then .mk 5 false 0 0 s [] [] else if k = 6 then .mk 6 false 0 0 noBytes (cleanRL l) []
      else if k = 7 then .mk 7 false 0 0 noBytes (cleanRM l ks ([], [])).2 (cleanRM l ks ([], [])).1 else rv0 0
def cleanRL : List RV → List RV
  | [] => []
  | r :: l => cleanR r :: cleanRL l
def cleanRM : List RV → List ByteArray → List ByteArray × List RV → List ByteArray × List RV
  | r :: l, k :: ks, p => cleanRM l ks (insK p k (cleanR r))
  | _, _, p => p
end

theorem cleanRL_app : ∀ (l : List RV) (x : RV), cleanRL (l ++ [x]) = cleanRL l ++ [cleanR x]
  | [], x => by simp [cleanRL]
  | t :: l, x => by simp [cleanRL, cleanRL_app l x]
theorem cleanRL_len : ∀ (l : List RV), (cleanRL l).length = l.length
  | [] => rfl
  | t :: l => by simp [cleanRL, cleanRL_len l]
theorem cleanRM_snoc (x : RV) (k : ByteArray) : ∀ (l : List RV) (ks : List ByteArray) (p : List ByteArray × List RV), l.length = ks.length → cleanRM (l ++ [x]) (ks ++ [k]) p = insK (cleanRM l ks p) k (cleanR x)
  | [], [], p, _ => by simp [cleanRM]
  | r :: l, k' :: ks, p, h => by simp only [List.cons_append, cleanRM]; exact cleanRM_snoc x k l ks _ (by simpa using h)
  | [], _ :: _, _, h => by simp at h
  | _ :: _, [], _, h => by simp at h
theorem cleanRM_take : ∀ (l : List RV) (ks : List ByteArray) (p : List ByteArray × List RV) (i : Nat), (l.length ≤ i ∨ ks.length ≤ i) → cleanRM (l.take i) (ks.take i) p = cleanRM l ks p
  | [], ks, p, i, _ => by cases ks <;> simp [cleanRM]
  | r :: l, [], p, i, _ => by cases i <;> simp [cleanRM]
  | r :: l, k :: ks, p, 0, h => by simp at h
  | r :: l, k :: ks, p, i + 1, h => by simp only [List.take_succ_cons, cleanRM]; exact cleanRM_take l ks _ i (by simpa using h)

theorem insAt_le (ks : List ByteArray) (k : ByteArray) : insAt ks k ≤ ks.length := (List.takeWhile_sublist _).length_le
theorem insAt_of {ks : List ByteArray} {k : ByteArray} {a : Nat} (ha : a ≤ ks.length) (h1 : ∀ j x, j < a → ks[j]? = some x → slt x k = true) (h2 : ∀ x, ks[a]? = some x → slt x k = false) : insAt ks k = a := by
  unfold insAt
  induction ks generalizing a with
  | nil => simp at ha; subst ha; rfl
  | cons y ks ih =>
    cases a with
    | zero => have := h2 y rfl; simp [List.takeWhile, this]
    | succ a =>
      have := h1 0 y (by omega) rfl
      simp only [List.takeWhile, this, List.length_cons]
      rw [ih (by simpa using ha) (fun j x hj hx => h1 (j + 1) x (by omega) (by simpa using hx)) (fun x hx => h2 x (by simpa using hx))]

theorem insK_len {p : List ByteArray × List RV} (h : p.1.length = p.2.length) (k : ByteArray) (v : RV) : (insK p k v).1.length = (insK p k v).2.length ∧ (insK p k v).1.length ≤ p.1.length + 1 := by
  unfold insK
  have := insAt_le p.1 k
  split
  · exact ⟨h, by omega⟩
  · simp; omega
theorem cleanRM_len : ∀ (l : List RV) (ks : List ByteArray) (p : List ByteArray × List RV), p.1.length = p.2.length → (cleanRM l ks p).1.length = (cleanRM l ks p).2.length ∧ (cleanRM l ks p).1.length ≤ p.1.length + l.length
  | [], ks, p, h => by cases ks <;> simpa [cleanRM] using h
  | r :: l, [], p, h => by simp only [cleanRM]; exact ⟨h, by omega⟩
  | r :: l, k :: ks, p, h => by
    have h1 := insK_len h k (cleanR r)
    have h2 := cleanRM_len l ks _ h1.1
    simp only [cleanRM, List.length_cons]
    exact ⟨h2.1, by omega⟩

theorem rvL_one : ∀ (l : List RV), ElOk 7 (rvL l)
  | [], y, h => by cases h
  | t :: l, y, h => by
    simp only [rvL, List.mem_cons] at h
    rcases h with rfl | h
    · obtain ⟨k, b, n, m, s, l, ks⟩ := t; exact ⟨rfl, rfl⟩
    · exact rvL_one l y h
theorem rvL_take : ∀ (l : List RV) (i : Nat), rvL (l.take i) = (rvL l).take i
  | [], i => by simp [rvL]
  | r :: l, 0 => by simp [rvL]
  | r :: l, i + 1 => by simp [rvL, rvL_take l i]
theorem rvL_drop : ∀ (l : List RV) (i : Nat), rvL (l.drop i) = (rvL l).drop i
  | [], i => by simp [rvL]
  | r :: l, 0 => by simp [rvL]
  | r :: l, i + 1 => by simp [rvL, rvL_drop l i]
theorem rvL_append : ∀ (l l' : List RV), rvL (l ++ l') = rvL l ++ rvL l'
  | [], l' => by simp [rvL]
  | r :: l, l' => by simp [rvL, rvL_append l l']
theorem nmA_take (l : List ByteArray) (i : Nat) : nmA (l.take i) = (nmA l).take i := by simp [nmA]
theorem nmA_drop (l : List ByteArray) (i : Nat) : nmA (l.drop i) = (nmA l).drop i := by simp [nmA]
theorem nmA_append (l l' : List ByteArray) : nmA (l ++ l') = nmA l ++ nmA l' := by simp [nmA]

def CleanC (r : RV) : Prop := bulkR r ≤ 4000000 → APure Tryz.prog 9 [.agg (rvA r)] (fun x => x = .agg (rvA (cleanR r)))

set_option maxRecDepth 20000 in
set_option maxHeartbeats 4000000 in
theorem clean_r : ∀ (r : RV), CleanC r := by
  intro r
  induction r using RV.ind with
  | _ k b n m s l ks ih =>
  intro hb
  have hlen := bulkRL_len l
  have hkl := bulkK_len ks
  have hbl : bulkRL l ≤ 4000000 ∧ bulkK ks ≤ 4000000 ∧ s.size ≤ 4000000 := by simp only [bulkR] at hb; omega
  refine apure_of hTS Tryz.func9 (by kernel_rfl) rfl rfl rfl ?_
  refine bsplit_d (fun h1 e1 => ?_) (fun h1 e1 => ?_)
  · show AV.agg _ = _
    simp only [cleanR, if_pos h1]; rfl
  refine bsplit_d (fun h2 e2 => ?_) (fun h2 e2 => ?_)
  · show AV.agg _ = _
    simp only [cleanR, if_neg h1, if_pos h2]; rfl
  refine bsplit_d (fun h3 e3 => ?_) (fun h3 e3 => ?_)
  · show AV.agg _ = _
    simp only [cleanR, if_neg h1, if_neg h2, if_pos h3]; rfl
  refine bsplit_d (fun h4 e4 => ?_) (fun h4 e4 => ?_)
  · show AV.agg _ = _
    simp only [cleanR, if_neg h1, if_neg h2, if_neg h3, if_pos h4]; rfl
  refine bsplit_d (fun h5 e5 => ?_) (fun h5 e5 => ?_)
  · show AV.agg _ = _
    simp only [cleanR, if_neg h1, if_neg h2, if_neg h3, if_neg h4, if_pos h5]; rfl
  refine bsplit_d (fun h6 e6 => ?_) (fun h6 e6 => ?_)
  · have hc : cleanR (.mk k b n m s l ks) = .mk 6 false 0 0 noBytes (cleanRL l) [] := by simp only [cleanR, if_neg h1, if_neg h2, if_neg h3, if_neg h4, if_neg h5, if_pos h6]
    rw [hc]
    refine loop_own 2 5 25 7 rfl rfl rfl ?_
    refine loop_on hTS (X := Nat) (fun i => i ≤ l.length)
      (fun i => ⟨[(1, .ref 0 0), (2, .ref 1 0), (3, .ref 2 0), (4, .v (.c (.int .i64 (i : Int))))], []⟩)
      (fun i => [.cells [.v (.c (.int .i64 k)), .v (.c (.bool b)), .v (.c (.int .i64 n)), .v (.c (.int .i64 m)), .v (.c (.string s)), .v (.sl (rvL l)), .v (.sl (nmA ks))], zVR,
        .cells [.v (.c (.int .i64 6)), .v (.c (.bool false)), .v (.c (.int .i64 0)), .v (.c (.int .i64 0)), .v (.c (.string ⟨#[]⟩)), .ms 3, .v (.c (.slice none 0 0))], .arr 25 7 (rvL (cleanRL (l.take i)))]) (fun i => l.length - i)
      0 (Nat.zero_le _) ⟨rfl, rfl, (by (repeat' (first | exact trivial | refine ⟨⟨?_, rfl⟩, ?_⟩ | fail)); all_goals (first | (show some (SV.v (AV.c (Value.int .i64 (IntKind.i64.wrap _)))) = _; rw [inc (by omega)]; try rfl) | rfl)), ⟨_, rfl⟩, rfl⟩ ?_
    intro i hi
    refine bsplit_d (fun h7 _ => ?_) (fun h7 _ => ?_)
    · rw [rvL_len] at h7
      obtain ⟨x, hx⟩ : ∃ x, l[i]? = some x := ⟨_, List.getElem?_eq_getElem (by omega)⟩
      have hmem := List.mem_of_getElem? hx
      have hxb := bulkRL_mem hmem
      obtain ⟨xk, xb, xn, xm, xs, xl, xks⟩ := x
      refine draw_ev hTS (by kernel_rfl) (.pur 0 (.pur 2 (.pur 4 (.part [3] [11] (.take 1 (.one 3 (.pur 5 (.one 6 (.one 7 (.one 8 (.one 9 (.pur 10 (.fin 11 .done))))))))))))) (by kernel_rfl) ?_
      refine elev (Int.natCast_nonneg _) (rvA _) (rvL_get _ _ _ hx) ?_
      refine call_pure (ih _ hmem (by omega)) rfl ?_
      rintro _ rfl
      have hsn : rvL (cleanRL (l.take (i + 1))) = rvL (cleanRL (l.take i)) ++ [rvA (cleanR (.mk xk xb xn xm xs xl xks))] := by rw [take_succ hx, cleanRL_app, rvL_app]
      generalize cleanR (.mk xk xb xn xm xs xl xks) = y at hsn ⊢
      obtain ⟨yk, yb, yn, ym, ys, yl, yks⟩ := y
      refine side ⟨rvA_one (.mk yk yb yn ym ys yl yks), ?_⟩ ?_
      · rw [rvL_len, cleanRL_len, List.length_take]; show (min i l.length + 1) * 97 ≤ 70368744177664; omega
      refine ⟨i + 1, by omega, (by dsimp only; omega), ⟨rfl, rfl, ⟨⟨rfl, rfl⟩, ⟨rfl, rfl⟩, ⟨rfl, rfl⟩, ⟨congrArg (fun x => some (SV.v (AV.c (.int .i64 x)))) (inc (k := i) (by omega)), rfl⟩, trivial⟩, ⟨_, by
        show (_ : List SO) = [_, _, _, .arr 25 7 (rvL (cleanRL (l.take (i + 1))))] ++ _
        rw [hsn]; rfl⟩, rfl⟩⟩
    · rw [rvL_len] at h7
      have hil : i = l.length := by omega
      subst hil
      show AV.agg [_, _, _, _, _, .sl (rvL (cleanRL (l.take l.length))), _] = _
      rw [List.take_length]; rfl
  refine bsplit_d (fun h7 e7 => ?_) (fun h7 e7 => ?_)
  · have hc : cleanR (.mk k b n m s l ks) = .mk 7 false 0 0 noBytes (cleanRM l ks ([], [])).2 (cleanRM l ks ([], [])).1 := by simp only [cleanR, if_neg h1, if_neg h2, if_neg h3, if_neg h4, if_neg h5, if_neg h6, if_pos h7]
    rw [hc]
    refine loop_nrm 2 rfl rfl ?_
    refine loop_onz hTS (X := Nat × List ByteArray × List RV) (fun (i, K, L) => i ≤ l.length ∧ i ≤ ks.length ∧ (K, L) = cleanRM (l.take i) (ks.take i) ([], []))
      (fun (i, _) => ⟨[(1, .ref 0 0), (2, .ref 1 0), (5, .ref 2 0), (6, .v (.c (.int .i64 (i : Int))))], []⟩)
      (fun (_, K, L) => [.cells [.v (.c (.int .i64 k)), .v (.c (.bool b)), .v (.c (.int .i64 n)), .v (.c (.int .i64 m)), .v (.c (.string s)), .v (.sl (rvL l)), .v (.sl (nmA ks))], zVR,
        .cells [.v (.c (.int .i64 7)), .v (.c (.bool false)), .v (.c (.int .i64 0)), .v (.c (.int .i64 0)), .v (.c (.string ⟨#[]⟩)), .v (.sl (rvL L)), .v (.sl (nmA K))]]) (fun (i, _) => l.length - i)
      (0, [], []) ⟨Nat.zero_le _, Nat.zero_le _, by simp [cleanRM]⟩ ⟨rfl, rfl, (by (repeat' (first | exact trivial | refine ⟨⟨?_, rfl⟩, ?_⟩ | fail)); all_goals (first | (show some (SV.v (AV.c (Value.int .i64 (IntKind.i64.wrap _)))) = _; rw [inc (by omega)]; try rfl) | rfl)), ⟨_, rfl⟩, rfl⟩ ?_
    rintro ⟨i, K, L⟩ ⟨hi, hik, hKL⟩
    dsimp only at hi hik hKL ⊢
    have hKlen := cleanRM_len (l.take i) (ks.take i) ([], []) rfl
    rw [← hKL] at hKlen
    simp only [List.length_nil, List.length_take] at hKlen
    have hfin : ¬ (i < l.length ∧ i < ks.length) → (K, L) = cleanRM l ks ([], []) := by
      intro h
      rw [hKL, cleanRM_take]
      omega
    refine bsplit_d (fun h8 e8 => ?_) (fun h8 e8 => ?_)
    case' refine_2 =>
      repeat' (first | refine bsplit_t (by first | with_reducible assumption | with_reducible rfl | with_reducible exact Bool.not_true | with_reducible exact Bool.not_false) ?_ | refine bsplit_f (by first | with_reducible assumption | with_reducible rfl | with_reducible exact Bool.not_true | with_reducible exact Bool.not_false) ?_ | fail)
      rw [rvL_len] at h8
      show AV.agg [_, _, _, _, _, .sl (rvL L), .sl (nmA K)] = _
      rw [← hfin (by omega)]; rfl
    repeat' (first | refine bsplit_t (by first | with_reducible assumption | with_reducible rfl | with_reducible exact Bool.not_true | with_reducible exact Bool.not_false) ?_ | refine bsplit_f (by first | with_reducible assumption | with_reducible rfl | with_reducible exact Bool.not_true | with_reducible exact Bool.not_false) ?_ | fail)
    rw [rvL_len] at h8
    refine bsplit_d (fun h9 e9 => ?_) (fun h9 e9 => ?_)
    case' refine_2 =>
      rw [nmA_len] at h9
      show AV.agg [_, _, _, _, _, .sl (rvL L), .sl (nmA K)] = _
      rw [← hfin (by omega)]; rfl
    rw [nmA_len] at h9
    clear hfin
    have h8' : i < l.length := by omega
    have h9' : i < ks.length := by omega
    obtain ⟨x, hx⟩ : ∃ x, l[i]? = some x := ⟨_, List.getElem?_eq_getElem h8'⟩
    obtain ⟨kx, hkx⟩ : ∃ x, ks[i]? = some x := ⟨_, List.getElem?_eq_getElem h9'⟩
    have hmem := List.mem_of_getElem? hx
    have hxb := bulkRL_mem hmem
    have hkn := nmA_get ks i kx hkx
    have hsn : cleanRM (l.take (i + 1)) (ks.take (i + 1)) ([], []) = insK (K, L) kx (cleanR x) := by
      rw [take_succ hx, take_succ hkx, cleanRM_snoc _ _ _ _ _ (by simp; omega), ← hKL]
    apply join_draw (P := Tryz.prog) (us := none) (n := Tryz.f9.ntmps) (id := 28) (Y := {a : Nat // a ≤ K.length ∧ a ≤ L.length ∧ insK (K, L) kx (cleanR x) = (K.take a ++ [kx] ++ K.drop a, L.take a ++ [cleanR x] ++ L.drop a)}) (fun a => ⟨[(1, .ref 0 0), (2, .ref 1 0), (5, .ref 2 0), (6, .v (.c (.int .i64 (i : Int)))), (7, .v (.c (.int .i64 ((a : Nat) : Int))))], []⟩)
      (fun _ => [.cells [.v (.c (.int .i64 k)), .v (.c (.bool b)), .v (.c (.int .i64 n)), .v (.c (.int .i64 m)), .v (.c (.string s)), .v (.sl (rvL l)), .v (.sl (nmA ks))], zVR,
        .cells [.v (.c (.int .i64 7)), .v (.c (.bool false)), .v (.c (.int .i64 0)), .v (.c (.int .i64 0)), .v (.c (.string ⟨#[]⟩)), .v (.sl (rvL L)), .v (.sl (nmA K))]])
    · intro hj
      refine loop_on hTS (X := Nat) (fun a => a ≤ K.length ∧ ∀ j y, j < a → K[j]? = some y → slt y kx = true)
        (fun a => ⟨[(1, .ref 0 0), (2, .ref 1 0), (5, .ref 2 0), (6, .v (.c (.int .i64 (i : Int)))), (7, .v (.c (.int .i64 (a : Int))))], []⟩)
        (fun _ => [.cells [.v (.c (.int .i64 k)), .v (.c (.bool b)), .v (.c (.int .i64 n)), .v (.c (.int .i64 m)), .v (.c (.string s)), .v (.sl (rvL l)), .v (.sl (nmA ks))], zVR,
          .cells [.v (.c (.int .i64 7)), .v (.c (.bool false)), .v (.c (.int .i64 0)), .v (.c (.int .i64 0)), .v (.c (.string ⟨#[]⟩)), .v (.sl (rvL L)), .v (.sl (nmA K))]]) (fun a => K.length - a)
        0 ⟨Nat.zero_le _, fun j y hj => absurd hj (Nat.not_lt_zero _)⟩ ⟨rfl, rfl, (by (repeat' (first | exact trivial | refine ⟨⟨?_, rfl⟩, ?_⟩ | fail)); all_goals (first | (show some (SV.v (AV.c (Value.int .i64 (IntKind.i64.wrap _)))) = _; rw [inc (by omega)]; try rfl) | rfl)), ⟨_, rfl⟩, rfl⟩ ?_
      rintro a ⟨ha, hpre⟩
      refine draw_ev hTS (by kernel_rfl) (.pur 0 (.pur 1 (.one 2 (.one 3 (.pur 4 (.pur 5 (.pur 6 (.pur 8 (.pur 11 (.pur 13 (.part [] [] (.take 7 (.pur 9 (.take 10 (.one 12 (.pur 14 (.one 15 (.pur 16 (.pur 17 .done))))))))))))))))))) (by kernel_rfl) ?_
      refine bsplit_d (fun g1 f1 => ?_) (fun g1 f1 => ?_)
      case' refine_1 =>
        rw [nmA_len] at g1
        have g1' : a < K.length := by omega
        obtain ⟨y, hy⟩ : ∃ y, K[a]? = some y := ⟨_, List.getElem?_eq_getElem g1'⟩
        have hyn := nmA_get K a y hy
        repeat' (first | refine bsplit_t (by first | with_reducible assumption | with_reducible rfl | with_reducible exact Bool.not_true | with_reducible exact Bool.not_false) ?_ | refine bsplit_f (by first | with_reducible assumption | with_reducible rfl | with_reducible exact Bool.not_true | with_reducible exact Bool.not_false) ?_ | refine elev (Int.natCast_nonneg _) [AV.c (.string y)] hyn ?_ | refine elev (Int.natCast_nonneg _) [AV.c (.string kx)] hkn ?_ | fail)
        refine bsplit (fun g2 => ?_) (fun g2 => ?_)
        case' refine_1 =>
          refine ⟨a + 1, ⟨by omega, ?_⟩, (by dsimp only; omega), ⟨rfl, rfl, (by (repeat' (first | exact trivial | refine ⟨⟨?_, rfl⟩, ?_⟩ | fail)); all_goals (first | (show some (SV.v (AV.c (Value.int .i64 (IntKind.i64.wrap _)))) = _; rw [inc (by omega)]; try rfl) | rfl)), ⟨_, rfl⟩, rfl⟩⟩
          intro j z hj hz
          rcases Nat.lt_or_ge j a with h | h
          · exact hpre j z h hz
          · have : j = a := by omega
            subst this
            rw [hy] at hz; cases hz; exact g2
        have hat : insAt K kx = a := insAt_of ha hpre fun z hz => by rw [hy] at hz; cases hz; exact g2
        refine draw_ev hTS (by kernel_rfl) (.pur 0 (.pur 1 (.one 2 (.one 3 (.pur 4 (.pur 5 (.pur 6 (.pur 8 (.pur 11 (.pur 13 (.part [] [] (.take 7 (.pur 9 (.take 10 (.one 12 (.pur 14 (.one 15 (.pur 16 (.pur 17 .done))))))))))))))))))) (by kernel_rfl) ?_
        repeat' (first | refine bsplit_t (by first | with_reducible assumption | with_reducible rfl | with_reducible exact Bool.not_true | with_reducible exact Bool.not_false) ?_ | refine bsplit_f (by first | with_reducible assumption | with_reducible rfl | with_reducible exact Bool.not_true | with_reducible exact Bool.not_false) ?_ | refine elev (Int.natCast_nonneg _) [AV.c (.string y)] hyn ?_ | refine elev (Int.natCast_nonneg _) [AV.c (.string kx)] hkn ?_ | fail)
        refine bsplit_d (fun g3 f3 => ?_) (fun g3 f3 => ?_)
        case' refine_1 =>
          subst g3
          refine ⟨[], (i + 1, K, L), ⟨by omega, by omega, ?_⟩, (by dsimp only; omega), ⟨rfl, rfl, (by (repeat' (first | exact trivial | refine ⟨⟨?_, rfl⟩, ?_⟩ | fail)); all_goals (first | (show some (SV.v (AV.c (Value.int .i64 (IntKind.i64.wrap _)))) = _; rw [inc (by omega)]; try rfl) | rfl)), ⟨_, rfl⟩, rfl⟩⟩
          rw [hsn]; unfold insK; rw [if_pos (by rw [hat]; exact hy)]
        refine draw_sub ⟨rfl, rfl, (by (repeat' (first | exact trivial | refine ⟨⟨?_, rfl⟩, ?_⟩ | fail)); all_goals (first | (show some (SV.v (AV.c (Value.int .i64 (IntKind.i64.wrap _)))) = _; rw [inc (by omega)]; try rfl) | rfl)), ⟨_, rfl⟩, rfl⟩ (hj ⟨a, by omega, by omega, ?_⟩)
        show insK (K, L) kx (cleanR x) = (K.take a ++ [kx] ++ K.drop a, L.take a ++ [cleanR x] ++ L.drop a)
        unfold insK
        rw [hat, if_neg (by show ¬ K[a]? = some kx; rw [hy]; intro h; exact g3 (by cases h; rfl))]
      case' refine_2 =>
        rw [nmA_len] at g1
        have g1' : a = K.length := by omega
        have hat : insAt K kx = a := insAt_of ha hpre fun z hz => by have := get_lt hz; omega
        repeat' (first | refine bsplit_t (by first | with_reducible assumption | with_reducible rfl | with_reducible exact Bool.not_true | with_reducible exact Bool.not_false) ?_ | refine bsplit_f (by first | with_reducible assumption | with_reducible rfl | with_reducible exact Bool.not_true | with_reducible exact Bool.not_false) ?_ | fail)
        refine draw_ev hTS (by kernel_rfl) (.pur 0 (.pur 1 (.one 2 (.one 3 (.pur 4 (.pur 5 (.pur 6 (.pur 8 (.pur 11 (.pur 13 (.part [] [] (.take 7 (.pur 9 (.take 10 (.one 12 (.pur 14 (.one 15 (.pur 16 (.pur 17 .done))))))))))))))))))) (by kernel_rfl) ?_
        repeat' (first | refine bsplit_t (by first | with_reducible assumption | with_reducible rfl | with_reducible exact Bool.not_true | with_reducible exact Bool.not_false) ?_ | refine bsplit_f (by first | with_reducible assumption | with_reducible rfl | with_reducible exact Bool.not_true | with_reducible exact Bool.not_false) ?_ | fail)
        refine draw_sub ⟨rfl, rfl, (by (repeat' (first | exact trivial | refine ⟨⟨?_, rfl⟩, ?_⟩ | fail)); all_goals (first | (show some (SV.v (AV.c (Value.int .i64 (IntKind.i64.wrap _)))) = _; rw [inc (by omega)]; try rfl) | rfl)), ⟨_, rfl⟩, rfl⟩ (hj ⟨a, by omega, by omega, ?_⟩)
        show insK (K, L) kx (cleanR x) = (K.take a ++ [kx] ++ K.drop a, L.take a ++ [cleanR x] ++ L.drop a)
        unfold insK
        rw [hat, if_neg (by show ¬ K[a]? = some kx; intro h; have := get_lt h; omega)]
    · rintro ⟨a, ha, haL, hins⟩
      dsimp only
      rw [hins] at hsn
      clear hins
      refine draw_ev hTS (by kernel_rfl) (.pur 1 (.pur 3 (.pur 6 (.pur 8 (.part [3, 4] [] (.take 2 (.pur 4 (.take 7 (.pur 9 (.take 10 (.or 0 (.or 5 (.one 11 (.one 12 (.pur 13 .done))) (.one 11 (.one 5 (.one 12 (.pur 13 .done))))) (.one 11 (.one 0 (.one 5 (.one 12 (.pur 13 .done)))))))))))))))) (by kernel_rfl) ?_
      refine side ⟨by decide, Int.natCast_nonneg _, by rw [nmA_len]; omega, fun e he => (nmA_one _ e he).1⟩ ?_
      refine elev (Int.natCast_nonneg _) [AV.c (.string kx)] hkn ?_
      have hsl : ∀ (f g : Nat), ElOk 1 (((nmA K).take f).drop g) := fun f g y hy => nmA_one K y (List.mem_of_mem_take (List.mem_of_mem_drop hy))
      have hsl2 : ∀ (f g : Nat), (((nmA K).take f).drop g).length ≤ K.length := fun f g => by rw [List.length_drop, List.length_take, nmA_len]; omega
      have hle : K.length ≤ 4000000 := by omega
      have hs0 : (0 + (((nmA K).take (a : Int).toNat).drop (0 : Int).toNat).length) * 17 ≤ 70368744177664 := by have := hsl2 (a : Int).toNat (0 : Int).toNat; omega
      have hs1 : (([] ++ ((nmA K).take (a : Int).toNat).drop (0 : Int).toNat).length + 1) * 17 ≤ 70368744177664 := by have := hsl2 (a : Int).toNat (0 : Int).toNat; rw [List.nil_append]; omega
      have hLs : ∀ (f g : Nat), ElOk 7 (((rvL L).take f).drop g) := fun f g y hy => rvL_one L y (List.mem_of_mem_take (List.mem_of_mem_drop hy))
      have hLs2 : ∀ (f g : Nat), (((rvL L).take f).drop g).length ≤ K.length := fun f g => by rw [List.length_drop, List.length_take, rvL_len]; omega
      have ht0 : (0 + (((rvL L).take (a : Int).toNat).drop (0 : Int).toNat).length) * 97 ≤ 70368744177664 := by have := hLs2 (a : Int).toNat (0 : Int).toNat; omega
      have ht1 : (([] ++ ((rvL L).take (a : Int).toNat).drop (0 : Int).toNat).length + 1) * 97 ≤ 70368744177664 := by have := hLs2 (a : Int).toNat (0 : Int).toNat; rw [List.nil_append]; omega
      have hu0 : (([] ++ ((nmA K).take (a : Int).toNat).drop (0 : Int).toNat ++ [[AV.c (.string kx)]]).length + (((nmA K).take ((nmA K).length : Int).toNat).drop (a : Int).toNat).length) * 17 ≤ 70368744177664 := by
        have := hsl2 (a : Int).toNat (0 : Int).toNat; have := hsl2 ((nmA K).length : Int).toNat (a : Int).toNat; rw [List.nil_append, List.length_append]; show (_ + 1 + _) * 17 ≤ _; omega
      have hv0 : ∀ q, (([] ++ ((rvL L).take (a : Int).toNat).drop (0 : Int).toNat ++ [q]).length + (((rvL L).take ((rvL L).length : Int).toNat).drop (a : Int).toNat).length) * 97 ≤ 70368744177664 := by
        intro q; have := hLs2 (a : Int).toNat (0 : Int).toNat; have := hLs2 ((rvL L).length : Int).toNat (a : Int).toNat; rw [List.nil_append, List.length_append]; show (_ + 1 + _) * 97 ≤ _; omega
      have hKe : [] ++ ((nmA K).take (a : Int).toNat).drop (0 : Int).toNat ++ [[AV.c (.string kx)]] ++ ((nmA K).take ((nmA K).length : Int).toNat).drop (a : Int).toNat = nmA (K.take a ++ [kx] ++ K.drop a) := by
        rw [nmA_append, nmA_append, nmA_take, nmA_drop]
        show [] ++ (nmA K).take a ++ _ ++ ((nmA K).take (nmA K).length).drop a = _
        rw [List.take_length, List.nil_append]; rfl
      have hLe : [] ++ ((rvL L).take (a : Int).toNat).drop (0 : Int).toNat ++ [rvA (cleanR x)] ++ ((rvL L).take ((rvL L).length : Int).toNat).drop (a : Int).toNat = rvL (L.take a ++ [cleanR x] ++ L.drop a) := by
        rw [rvL_append, rvL_append, rvL_take, rvL_drop]
        show [] ++ (rvL L).take a ++ _ ++ ((rvL L).take (rvL L).length).drop a = _
        rw [List.take_length, List.nil_append]; rfl
      have hxc := ih x hmem (by omega)
      unfold CleanC at hxc
      have hrl := rvL_get l i x hx
      obtain ⟨xk, xb, xn, xm, xs, xl, xks⟩ := x
      generalize cleanR (.mk xk xb xn xm xs xl xks) = y at hsn hxc hLe
      obtain ⟨yk, yb, yn, ym, ys, yl, yks⟩ := y
      apply join_draw (P := Tryz.prog) (us := none) (n := Tryz.f9.ntmps) (id := 29) (Y := Bool) (fun c => ⟨[(1, .ref 0 0), (2, .ref 1 0), (5, .ref 2 0), (6, .v (.c (.int .i64 (i : Int)))), (7, .v (.c (.int .i64 (a : Int)))), (8, .ms (cond c 3 4))], []⟩)
        (fun c => cond c ([.cells [.v (.c (.int .i64 k)), .v (.c (.bool b)), .v (.c (.int .i64 n)), .v (.c (.int .i64 m)), .v (.c (.string s)), .v (.sl (rvL l)), .v (.sl (nmA ks))], zVR,
        .cells [.v (.c (.int .i64 7)), .v (.c (.bool false)), .v (.c (.int .i64 0)), .v (.c (.int .i64 0)), .v (.c (.string ⟨#[]⟩)), .v (.sl (rvL L)), .v (.sl (nmA K))], .arr 9 1 ([] ++ ((nmA K).take (a : Int).toNat).drop (0 : Int).toNat ++ [[AV.c (.string kx)]])]) ([.cells [.v (.c (.int .i64 k)), .v (.c (.bool b)), .v (.c (.int .i64 n)), .v (.c (.int .i64 m)), .v (.c (.string s)), .v (.sl (rvL l)), .v (.sl (nmA ks))], zVR,
        .cells [.v (.c (.int .i64 7)), .v (.c (.bool false)), .v (.c (.int .i64 0)), .v (.c (.int .i64 0)), .v (.c (.string ⟨#[]⟩)), .v (.sl (rvL L)), .v (.sl (nmA K))], .arr 9 1 [[.c (.string kx)]], .arr 9 1 ([] ++ ((nmA K).take (a : Int).toNat).drop (0 : Int).toNat ++ [[AV.c (.string kx)]])])) 
      · intro hj
        refine ⟨?_, ?_⟩
        · refine ⟨?_, ?_⟩ <;>
          · refine side ⟨hsl _ _, hs0⟩ ?_
            refine side ⟨nmA_one [kx], hs1⟩ ?_
            exact draw_sub ⟨rfl, rfl, (by (repeat' (first | exact trivial | refine ⟨⟨?_, rfl⟩, ?_⟩ | fail)); all_goals (first | (show some (SV.v (AV.c (Value.int .i64 (IntKind.i64.wrap _)))) = _; rw [inc (by omega)]; try rfl) | rfl)), ⟨_, rfl⟩, rfl⟩ (hj true)
        · refine side ⟨hsl _ _, hs0⟩ ?_
          refine side ⟨nmA_one [kx], hs1⟩ ?_
          exact draw_sub ⟨rfl, rfl, (by (repeat' (first | exact trivial | refine ⟨⟨?_, rfl⟩, ?_⟩ | fail)); all_goals (first | (show some (SV.v (AV.c (Value.int .i64 (IntKind.i64.wrap _)))) = _; rw [inc (by omega)]; try rfl) | rfl)), ⟨_, rfl⟩, rfl⟩ (hj false)
      · intro c
        cases c
        case' false =>
          refine draw_ev hTS (by kernel_rfl) (.pur 1 (.pur 3 (.pur 6 (.pur 8 (.part [5] [] (.take 2 (.pur 4 (.take 7 (.pur 9 (.take 10 (.one 0 (.one 5 (.one 11 (.one 12 (.one 13 (.pur 14 .done)))))))))))))))) (by kernel_rfl) ?_
          refine side ⟨by decide, Int.natCast_nonneg _, by rw [rvL_len]; omega, fun e he => (rvL_one _ e he).1⟩ ?_
          refine elev (Int.natCast_nonneg _) (rvA (.mk xk xb xn xm xs xl xks)) hrl ?_
          refine side ⟨hLs _ _, ht0⟩ ?_
          refine call_pure hxc rfl ?_
          rintro _ rfl
          refine side ⟨rvA_one (.mk yk yb yn ym ys yl yks), ht1⟩ ?_
          refine side ⟨Int.natCast_nonneg _, by rw [nmA_len]; omega, Int.le_refl _, fun e he => (nmA_one _ e he).1⟩ ?_
          refine side ⟨hsl _ _, hu0⟩ ?_
          refine side ⟨Int.natCast_nonneg _, by rw [rvL_len]; omega, Int.le_refl _, fun e he => (rvL_one _ e he).1⟩ ?_
          refine side ⟨hLs _ _, hv0 _⟩ ?_
          refine ⟨[4, 5], (i + 1, K.take a ++ [kx] ++ K.drop a, L.take a ++ [.mk yk yb yn ym ys yl yks] ++ L.drop a), ⟨by omega, by omega, hsn.symm⟩, (by dsimp only; omega), ⟨rfl, rfl, ⟨⟨rfl, rfl⟩, ⟨rfl, rfl⟩, ⟨rfl, rfl⟩, ⟨congrArg (fun x => some (SV.v (AV.c (.int .i64 x)))) (inc (k := i) (by omega)), rfl⟩, trivial⟩, ⟨[_, .dead, .dead, _], by
            show (_ : List SO) = [.cells [.v (.c (.int .i64 k)), .v (.c (.bool b)), .v (.c (.int .i64 n)), .v (.c (.int .i64 m)), .v (.c (.string s)), .v (.sl (rvL l)), .v (.sl (nmA ks))], zVR,
              .cells [.v (.c (.int .i64 7)), .v (.c (.bool false)), .v (.c (.int .i64 0)), .v (.c (.int .i64 0)), .v (.c (.string ⟨#[]⟩)), .v (.sl (rvL (L.take a ++ [.mk yk yb yn ym ys yl yks] ++ L.drop a))), .v (.sl (nmA (K.take a ++ [kx] ++ K.drop a)))]] ++ _
            rw [← hKe, ← hLe]; rfl⟩, rfl⟩⟩
        case' true =>
          refine draw_ev hTS (by kernel_rfl) (.pur 1 (.pur 3 (.pur 6 (.pur 8 (.part [4] [] (.take 2 (.pur 4 (.take 7 (.pur 9 (.take 10 (.one 0 (.one 5 (.one 11 (.one 12 (.one 13 (.pur 14 .done)))))))))))))))) (by kernel_rfl) ?_
          refine side ⟨by decide, Int.natCast_nonneg _, by rw [rvL_len]; omega, fun e he => (rvL_one _ e he).1⟩ ?_
          refine elev (Int.natCast_nonneg _) (rvA (.mk xk xb xn xm xs xl xks)) hrl ?_
          refine side ⟨hLs _ _, ht0⟩ ?_
          refine call_pure hxc rfl ?_
          rintro _ rfl
          refine side ⟨rvA_one (.mk yk yb yn ym ys yl yks), ht1⟩ ?_
          refine side ⟨Int.natCast_nonneg _, by rw [nmA_len]; omega, Int.le_refl _, fun e he => (nmA_one _ e he).1⟩ ?_
          refine side ⟨hsl _ _, hu0⟩ ?_
          refine side ⟨Int.natCast_nonneg _, by rw [rvL_len]; omega, Int.le_refl _, fun e he => (rvL_one _ e he).1⟩ ?_
          refine side ⟨hLs _ _, hv0 _⟩ ?_
          refine ⟨[3, 4], (i + 1, K.take a ++ [kx] ++ K.drop a, L.take a ++ [.mk yk yb yn ym ys yl yks] ++ L.drop a), ⟨by omega, by omega, hsn.symm⟩, (by dsimp only; omega), ⟨rfl, rfl, ⟨⟨rfl, rfl⟩, ⟨rfl, rfl⟩, ⟨rfl, rfl⟩, ⟨congrArg (fun x => some (SV.v (AV.c (.int .i64 x)))) (inc (k := i) (by omega)), rfl⟩, trivial⟩, ⟨[.dead, .dead, _], by
            show (_ : List SO) = [.cells [.v (.c (.int .i64 k)), .v (.c (.bool b)), .v (.c (.int .i64 n)), .v (.c (.int .i64 m)), .v (.c (.string s)), .v (.sl (rvL l)), .v (.sl (nmA ks))], zVR,
              .cells [.v (.c (.int .i64 7)), .v (.c (.bool false)), .v (.c (.int .i64 0)), .v (.c (.int .i64 0)), .v (.c (.string ⟨#[]⟩)), .v (.sl (rvL (L.take a ++ [.mk yk yb yn ym ys yl yks] ++ L.drop a))), .v (.sl (nmA (K.take a ++ [kx] ++ K.drop a)))]] ++ _
            rw [← hKe, ← hLe]; rfl⟩, rfl⟩⟩
  · repeat' (first | refine bsplit_t (by first | with_reducible assumption | with_reducible rfl | with_reducible exact Bool.not_true | with_reducible exact Bool.not_false) ?_ | refine bsplit_f (by first | with_reducible assumption | with_reducible rfl | with_reducible exact Bool.not_true | with_reducible exact Bool.not_false) ?_ | fail)
    show AV.agg _ = _
    simp only [cleanR, if_neg h1, if_neg h2, if_neg h3, if_neg h4, if_neg h5, if_neg h6, if_neg h7]; rfl

end Go.AV0
/- the document's values, as values. -/
namespace Go.AV0
open Go.Proofs

mutual
def toV : RV → VT
  | .mk k b n m s l ks => if k = 1 then .unk else if k = 2 then .bool b else if k = 3 then .int n else if k = 4 then (if (isNear n && isNear m) = true then .pt (FloatKind.f64.nearest n) (FloatKind.f64.nearest m) else .null)
      else if k = 5 then .text s else if k = 6 then .list (toVL l) else if k = 7 then (if ks.length = l.length ∧ ks.Nodup then .map (ks.zip (toVL l)) else .null) else .null
def toVL : List RV → List VT
  | [] => []
  | r :: l => toV r :: toVL l
end
theorem toVL_app : ∀ (l : List RV) (x : RV), toVL (l ++ [x]) = toVL l ++ [toV x]
  | [], x => by simp [toVL]
  | t :: l, x => by simp [toVL, toVL_app l x]
theorem toVL_len : ∀ (l : List RV), (toVL l).length = l.length
  | [] => rfl
  | t :: l => by simp [toVL, toVL_len l]

def ToC (r : RV) : Prop := bulkR r ≤ 4000000 → APure Tryz.prog 13 [.agg (rvA r)] (fun x => x = vtA (toV r))

set_option maxRecDepth 20000 in
set_option maxHeartbeats 4000000 in
theorem to_r : ∀ (r : RV), ToC r := by
  intro r
  induction r using RV.ind with
  | _ k b n m s l ks ih =>
  intro hb
  have hlen := bulkRL_len l
  have hkl := bulkK_len ks
  have hbl : bulkRL l ≤ 4000000 ∧ bulkK ks ≤ 4000000 ∧ s.size ≤ 4000000 := by simp only [bulkR] at hb; omega
  refine apure_of hTS Tryz.func13 (by kernel_rfl) rfl rfl rfl ?_
  refine bsplit_d (fun h1 e1 => ?_) (fun h1 e1 => ?_)
  · refine call_pure later_v rfl ?_
    rintro _ rfl
    show AV.agg _ = _
    simp only [toV, if_pos h1]; rfl
  refine bsplit_d (fun h2 e2 => ?_) (fun h2 e2 => ?_)
  · refine call_pure (of_v b) rfl ?_
    rintro _ rfl
    show AV.agg _ = _
    simp only [toV, if_neg h1, if_pos h2]; rfl
  refine bsplit_d (fun h3 e3 => ?_) (fun h3 e3 => ?_)
  · refine call_pure (int_v n) rfl ?_
    rintro _ rfl
    show AV.agg _ = _
    simp only [toV, if_neg h1, if_neg h2, if_pos h3]; rfl
  refine bsplit_d (fun h4 e4 => ?_) (fun h4 e4 => ?_)
  · refine call_pure (point_v n m) rfl ?_
    rintro _ (⟨g, rfl⟩ | ⟨g, rfl⟩)
    · show AV.agg _ = _
      simp only [toV, if_neg h1, if_neg h2, if_neg h3, if_pos h4, if_pos g]; rfl
    · show AV.agg _ = _
      simp only [toV, if_neg h1, if_neg h2, if_neg h3, if_pos h4, g]; rfl
  refine bsplit_d (fun h5 e5 => ?_) (fun h5 e5 => ?_)
  · refine call_pure (text_v s) rfl ?_
    rintro _ rfl
    show AV.agg _ = _
    simp only [toV, if_neg h1, if_neg h2, if_neg h3, if_neg h4, if_pos h5]; rfl
  refine bsplit_d (fun h6 e6 => ?_) (fun h6 e6 => ?_)
  case' refine_2 =>
    refine bsplit_d (fun h7 e7 => ?_) (fun h7 e7 => ?_)
    case' refine_2 =>
      repeat' (first | refine bsplit_t (by first | with_reducible assumption | with_reducible rfl | with_reducible exact Bool.not_true | with_reducible exact Bool.not_false) ?_ | refine bsplit_f (by first | with_reducible assumption | with_reducible rfl | with_reducible exact Bool.not_true | with_reducible exact Bool.not_false) ?_ | fail)
      refine call_pure unset_v rfl ?_
      rintro _ rfl
      show AV.agg _ = _
      simp only [toV, if_neg h1, if_neg h2, if_neg h3, if_neg h4, if_neg h5, if_neg h6, if_neg h7]; rfl
  all_goals
    repeat' (first | refine bsplit_t (by first | with_reducible assumption | with_reducible rfl | with_reducible exact Bool.not_true | with_reducible exact Bool.not_false) ?_ | refine bsplit_f (by first | with_reducible assumption | with_reducible rfl | with_reducible exact Bool.not_true | with_reducible exact Bool.not_false) ?_ | fail)
    refine loop_own_t 5 46 1 rfl ?_
    refine loop_on hTS (X := Nat) (fun i => i ≤ l.length)
      (fun i => ⟨[(1, .ref 0 0), (2, .ref 1 0), (5, .ms 2), (6, .v (.c (.int .i64 (i : Int))))], []⟩)
      (fun i => [.cells [.v (.c (.int .i64 k)), .v (.c (.bool b)), .v (.c (.int .i64 n)), .v (.c (.int .i64 m)), .v (.c (.string s)), .v (.sl (rvL l)), .v (.sl (nmA ks))], zV,
        .arr 46 1 (vtL (toVL (l.take i)))]) (fun i => l.length - i)
      0 (Nat.zero_le _) ⟨rfl, rfl, (by (repeat' (first | exact trivial | refine ⟨⟨?_, rfl⟩, ?_⟩ | fail)); all_goals (first | (show some (SV.v (AV.c (Value.int .i64 (IntKind.i64.wrap _)))) = _; rw [inc (by omega)]; try rfl) | rfl)), ⟨_, rfl⟩, rfl⟩ ?_
    intro i hi
    refine bsplit_d (fun g1 _ => ?_) (fun g1 _ => ?_)
    case' refine_1 =>
      rw [rvL_len] at g1
      obtain ⟨x, hx⟩ : ∃ x, l[i]? = some x := ⟨_, List.getElem?_eq_getElem (by omega)⟩
      have hmem := List.mem_of_getElem? hx
      have hxb := bulkRL_mem hmem
      obtain ⟨xk, xb, xn, xm, xs, xl, xks⟩ := x
      refine elev (Int.natCast_nonneg _) (rvA _) (rvL_get _ _ _ hx) ?_
      refine call_pure (ih _ hmem (by omega)) rfl ?_
      rintro _ rfl
      refine side ⟨vtL_one [_], ?_⟩ ?_
      · rw [vtL_len, toVL_len, List.length_take]; show (min i l.length + 1) * 17 ≤ 70368744177664; omega
      refine ⟨i + 1, by omega, (by dsimp only; omega), ⟨rfl, rfl, ⟨⟨rfl, rfl⟩, ⟨rfl, rfl⟩, ⟨rfl, rfl⟩, ⟨congrArg (fun x => some (SV.v (AV.c (.int .i64 x)))) (inc (k := i) (by omega)), rfl⟩, trivial⟩, ⟨_, by
        show (_ : List SO) = [_, _, .arr 46 1 (vtL (toVL (l.take (i + 1))))] ++ _
        rw [take_succ hx, toVL_app, vtL_app]; rfl⟩, rfl⟩⟩
    rw [rvL_len] at g1
    have hil : i = l.length := by omega
    subst hil
    rw [List.take_length]
  · repeat' (first | refine bsplit_t (by first | with_reducible assumption | with_reducible rfl | with_reducible exact Bool.not_true | with_reducible exact Bool.not_false) ?_ | refine bsplit_f (by first | with_reducible assumption | with_reducible rfl | with_reducible exact Bool.not_true | with_reducible exact Bool.not_false) ?_ | fail)
    refine call_frz 2 rfl rfl ?_
    refine call_pure (map_v ks (toVL l) (by omega)) rfl ?_
    rintro _ (⟨g2, g3, rfl⟩ | ⟨g2, e, _, rfl⟩)
    · have g4 : ks.length = l.length ∧ ks.Nodup := ⟨by rw [g2, toVL_len], g3⟩
      show AV.agg _ = _
      simp only [toV, if_neg h1, if_neg h2, if_neg h3, if_neg h4, if_neg h5, if_neg h6, if_pos h7, if_pos g4]; rfl
    · show AV.agg _ = _
      rw [toVL_len] at g2
      simp only [toV, if_neg h1, if_neg h2, if_neg h3, if_neg h4, if_neg h5, if_neg h6, if_pos h7, if_neg g2]; rfl
  · repeat' (first | refine bsplit_t (by first | with_reducible assumption | with_reducible rfl | with_reducible exact Bool.not_true | with_reducible exact Bool.not_false) ?_ | refine bsplit_f (by first | with_reducible assumption | with_reducible rfl | with_reducible exact Bool.not_true | with_reducible exact Bool.not_false) ?_ | fail)
    refine call_frz 2 rfl rfl ?_
    refine call_pure (list_v (toVL l) (by rw [toVL_len]; omega)) rfl ?_
    rintro _ rfl
    show AV.agg _ = _
    simp only [toV, if_neg h1, if_neg h2, if_neg h3, if_neg h4, if_neg h5, if_pos h6]; rfl

end Go.AV0
/- the document's values: cleaned ones hold no more. -/
namespace Go.AV0
open Go.Proofs

theorem bulkRL_append : ∀ (a b : List RV), bulkRL (a ++ b) = bulkRL a + bulkRL b
  | [], b => by simp [bulkRL]
  | r :: a, b => by simp only [List.cons_append, bulkRL, bulkRL_append a b]; omega
theorem bulkK_append : ∀ (a b : List ByteArray), bulkK (a ++ b) = bulkK a + bulkK b
  | [], b => by simp [bulkK]
  | r :: a, b => by simp only [List.cons_append, bulkK, bulkK_append a b]; omega
theorem insK_bulk (p : List ByteArray × List RV) (k : ByteArray) (v : RV) : bulkRL (insK p k v).2 ≤ bulkRL p.2 + bulkR v ∧ bulkK (insK p k v).1 ≤ bulkK p.1 + (k.size + 1) := by
  unfold insK
  split
  · omega
  · have h1 := bulkRL_append (p.2.take (insAt p.1 k)) (p.2.drop (insAt p.1 k))
    have h2 := bulkK_append (p.1.take (insAt p.1 k)) (p.1.drop (insAt p.1 k))
    rw [List.take_append_drop] at h1 h2
    simp only [bulkRL_append, bulkK_append, bulkRL, bulkK]
    omega
theorem cleanRM_bulk : ∀ (l : List RV) (ks : List ByteArray) (p : List ByteArray × List RV), (∀ x ∈ l, bulkR (cleanR x) ≤ bulkR x) → bulkRL (cleanRM l ks p).2 ≤ bulkRL p.2 + bulkRL l ∧ bulkK (cleanRM l ks p).1 ≤ bulkK p.1 + bulkK ks
  | [], ks, p, _ => by cases ks <;> simp only [cleanRM] <;> omega
  | r :: l, [], p, _ => by simp only [cleanRM]; omega
  | r :: l, k :: ks, p, h => by
    have h1 := insK_bulk p k (cleanR r)
    have h2 := cleanRM_bulk l ks (insK p k (cleanR r)) fun x hx => h x (by simp [hx])
    have h3 := h r (by simp)
    simp only [cleanRM, bulkRL, bulkK]
    omega
theorem cleanRL_bulk : ∀ (l : List RV), (∀ x ∈ l, bulkR (cleanR x) ≤ bulkR x) → bulkRL (cleanRL l) ≤ bulkRL l
  | [], _ => by simp [cleanRL]
  | r :: l, h => by
    have h1 := h r (by simp)
    have h2 := cleanRL_bulk l fun x hx => h x (by simp [hx])
    simp only [cleanRL, bulkRL]; omega
theorem clean_bulk : ∀ r : RV, bulkR (cleanR r) ≤ bulkR r := by
  intro r
  induction r using RV.ind with
  | _ k b n m s l ks ih =>
  have h1 := cleanRL_bulk l ih
  have h2 := cleanRM_bulk l ks ([], []) ih
  have h0 : noBytes.size = 0 := rfl
  simp only [bulkRL, bulkK] at h2
  simp only [cleanR]
  repeat' split
  all_goals simp only [rv0, bulkR, bulkRL, bulkK]
  all_goals omega

end Go.AV0
/- the document's values: what cleaned ones are. -/
namespace Go.AV0
open Go.Proofs

theorem slt_false {a b : ByteArray} (h : slt a b = false) (hne : a ≠ b) : b.data.toList < a.data.toList := by
  rw [slt_iff, decide_eq_false_iff_not] at h
  by_cases h2 : b.data.toList < a.data.toList
  · exact h2
  · exact absurd (ba_eq (List.le_antisymm (List.not_lt.1 h2) (List.not_lt.1 h))) hne
theorem slt_true {a b : ByteArray} (h : slt a b = true) : a.data.toList < b.data.toList := by
  rw [slt_iff] at h; exact of_decide_eq_true h

theorem rises_ins (k : ByteArray) : ∀ (ks : List ByteArray), rises ks → ks[insAt ks k]? ≠ some k → rises (ks.take (insAt ks k) ++ [k] ++ ks.drop (insAt ks k))
  | [], _, _ => by simp [insAt, rises]
  | y :: ks, h, hne => by
    cases hs : slt y k with
    | true =>
      have e : insAt (y :: ks) k = insAt ks k + 1 := by simp [insAt, List.takeWhile, hs]
      rw [e] at hne ⊢
      have ih := rises_ins k ks h.2 (by simpa using hne)
      simp only [List.take_succ_cons, List.drop_succ_cons, List.cons_append, rises]
      refine ⟨?_, ih⟩
      intro z hz
      rcases List.mem_append.1 hz with hz | hz
      · rcases List.mem_append.1 hz with hz | hz
        · exact h.1 z (List.mem_of_mem_take hz)
        · rw [List.mem_singleton.1 hz]; exact slt_true hs
      · exact h.1 z (List.mem_of_mem_drop hz)
    | false =>
      have e : insAt (y :: ks) k = 0 := by simp [insAt, List.takeWhile, hs]
      rw [e] at hne ⊢
      have hlt := slt_false hs (fun e => hne (by rw [e]; rfl))
      simp only [List.take_zero, List.drop_zero, List.nil_append, List.singleton_append, rises]
      refine ⟨?_, h⟩
      intro z hz
      rcases List.mem_cons.1 hz with rfl | hz
      · exact hlt
      · exact List.lt_trans hlt (h.1 z hz)
theorem insK_rises {p : List ByteArray × List RV} (h : rises p.1) (k : ByteArray) (v : RV) : rises (insK p k v).1 := by
  unfold insK
  split
  · exact h
  · rename_i hne; exact rises_ins k p.1 h hne
theorem cleanRM_rises : ∀ (l : List RV) (ks : List ByteArray) (p : List ByteArray × List RV), rises p.1 → rises (cleanRM l ks p).1
  | [], ks, p, h => by cases ks <;> simpa [cleanRM] using h
  | r :: l, [], p, h => by simpa [cleanRM] using h
  | r :: l, k :: ks, p, h => by simp only [cleanRM]; exact cleanRM_rises l ks _ (insK_rises h k _)
theorem insK_all {Q : RV → Prop} {p : List ByteArray × List RV} {k : ByteArray} {v : RV} (h : ∀ x ∈ p.2, Q x) (hv : Q v) : ∀ x ∈ (insK p k v).2, Q x := by
  unfold insK
  split
  · exact h
  · intro x hx
    rcases List.mem_append.1 hx with hx | hx
    · rcases List.mem_append.1 hx with hx | hx
      · exact h x (List.mem_of_mem_take hx)
      · rw [List.mem_singleton.1 hx]; exact hv
    · exact h x (List.mem_of_mem_drop hx)
theorem cleanRM_all {Q : RV → Prop} : ∀ (l : List RV) (ks : List ByteArray) (p : List ByteArray × List RV), (∀ x ∈ l, Q (cleanR x)) → (∀ x ∈ p.2, Q x) → ∀ x ∈ (cleanRM l ks p).2, Q x
  | [], ks, p, _, h => by cases ks <;> simpa [cleanRM] using h
  | r :: l, [], p, _, h => by simpa [cleanRM] using h
  | r :: l, k :: ks, p, hl, h => by
    simp only [cleanRM]
    exact cleanRM_all l ks _ (fun x hx => hl x (by simp [hx])) (insK_all h (hl r (by simp)))

mutual
/-- a clean value -/
def okC : RV → Prop
  | .mk k b n m s l ks => (0 ≤ k ∧ k ≤ 7) ∧ (k ≠ 2 → b = false) ∧ (k ≠ 3 → k ≠ 4 → n = 0) ∧ (k ≠ 4 → m = 0) ∧ (k ≠ 5 → s = noBytes) ∧ (k ≠ 6 → k ≠ 7 → l = []) ∧ (k ≠ 7 → ks = []) ∧ (k = 7 → ks.length = l.length ∧ rises ks) ∧ (k = 4 → (isNear n && isNear m) = true) ∧ okCL l
def okCL : List RV → Prop
  | [] => True
  | r :: l => okC r ∧ okCL l
end
theorem okCL_of : ∀ {l : List RV}, (∀ x ∈ l, okC x) → okCL l
  | [], _ => trivial
  | r :: l, h => ⟨h r (by simp), okCL_of fun x hx => h x (by simp [hx])⟩
theorem near_cut (n : Int) : isNear (cut53 n) = true := by
  unfold isNear cut53
  simp only [Bool.and_eq_true, decide_eq_true_eq]; omega
theorem okC_rv0 (k : Int) (h0 : 0 ≤ k) (h : k = 0 ∨ k = 1) : okC (rv0 k) := by
  unfold rv0
  simp only [okC, okCL, and_true]
  refine ⟨⟨h0, by omega⟩, ?_⟩
  simp; omega
theorem cleanRL_mem : ∀ {l : List RV} {x : RV}, x ∈ cleanRL l → ∃ y ∈ l, x = cleanR y
  | [], x, h => by cases h
  | r :: l, x, h => by
    simp only [cleanRL] at h
    rcases List.mem_cons.1 h with rfl | h
    · exact ⟨r, by simp, rfl⟩
    · obtain ⟨y, hy, e⟩ := cleanRL_mem h; exact ⟨y, by simp [hy], e⟩

theorem clean_ok : ∀ r : RV, okC (cleanR r) := by
  intro r
  induction r using RV.ind with
  | _ k b n m s l ks ih =>
  by_cases h1 : k = 1
  · simp only [cleanR, if_pos h1]; exact okC_rv0 1 (by decide) (.inr rfl)
  by_cases h2 : k = 2
  · simp only [cleanR, if_neg h1, if_pos h2, okC, okCL]; simp
  by_cases h3 : k = 3
  · simp only [cleanR, if_neg h1, if_neg h2, if_pos h3, okC, okCL]; simp
  by_cases h4 : k = 4
  · simp only [cleanR, if_neg h1, if_neg h2, if_neg h3, if_pos h4, okC, okCL]; simp [near_cut]
  by_cases h5 : k = 5
  · simp only [cleanR, if_neg h1, if_neg h2, if_neg h3, if_neg h4, if_pos h5, okC, okCL]; simp
  by_cases h6 : k = 6
  · simp only [cleanR, if_neg h1, if_neg h2, if_neg h3, if_neg h4, if_neg h5, if_pos h6, okC]
    refine ⟨by decide, by simp, by simp, by simp, by simp, by simp, by simp, by simp, by simp, okCL_of fun x hx => ?_⟩
    obtain ⟨y, hy, rfl⟩ := cleanRL_mem hx
    exact ih y hy
  by_cases h7 : k = 7
  · simp only [cleanR, if_neg h1, if_neg h2, if_neg h3, if_neg h4, if_neg h5, if_neg h6, if_pos h7, okC]
    refine ⟨by decide, by simp, by simp, by simp, by simp, by simp, by simp, fun _ => ⟨(cleanRM_len l ks ([], []) rfl).1, cleanRM_rises l ks ([], []) trivial⟩, by simp, okCL_of ?_⟩
    exact cleanRM_all l ks ([], []) ih (by simp)
  · simp only [cleanR, if_neg h1, if_neg h2, if_neg h3, if_neg h4, if_neg h5, if_neg h6, if_neg h7]
    exact okC_rv0 0 (by decide) (.inl rfl)

/-- a key's place in a value; none: it isn't there -/
def findR : RV → ByteArray → Option Nat
  | .mk k _ _ _ _ _ ks, s => if k = 7 then idxB ks s 0 else none

theorem idxB_iff {s : ByteArray} : ∀ {l : List ByteArray} {i : Nat}, (idxB l s i).isSome = true ↔ s ∈ l
  | [], i => by simp [idxB]
  | x :: l, i => by
    simp only [idxB]
    by_cases h : s = x
    · simp [h]
    · rw [if_neg h, idxB_iff]; simp [h]
theorem vget_isSome {es : List (ByteArray × VT)} {k : ByteArray} : (vget es k).isSome = true ↔ k ∈ es.map (·.1) := by
  cases h : vget es k with
  | none => simp [vget_none.1 h]
  | some x =>
    simp only [Option.isSome_some, true_iff]
    exact Classical.byContradiction fun hn => by rw [vget_none.2 hn] at h; cases h

theorem toV_map {k : Int} {b : Bool} {n m : Int} {s : ByteArray} {l : List RV} {ks : List ByteArray} (h : okC (.mk k b n m s l ks)) (h7 : k = 7) : toV (.mk k b n m s l ks) = .map (ks.zip (toVL l)) := by
  simp only [okC] at h
  obtain ⟨_, _, _, _, _, _, _, h, _, _⟩ := h
  obtain ⟨h1, h2⟩ := h h7
  subst h7
  simp only [toV]
  rw [if_neg (by decide), if_neg (by decide), if_neg (by decide), if_neg (by decide), if_neg (by decide), if_neg (by decide), if_pos trivial, if_pos ⟨h1, rises_nodup h2⟩]
theorem toV_notMap {k : Int} {b : Bool} {n m : Int} {s : ByteArray} {l : List RV} {ks : List ByteArray} (h7 : k ≠ 7) : ∀ es, toV (.mk k b n m s l ks) ≠ .map es := by
  intro es
  simp only [toV]
  repeat' split
  all_goals simp_all

theorem at_find {r : RV} (h : okC r) (s : ByteArray) : (vAt (toV r) s).isSome = (findR r s).isSome := by
  obtain ⟨k, b, n, m, t, l, ks⟩ := r
  by_cases h7 : k = 7
  · rw [toV_map h h7]
    simp only [okC] at h
    obtain ⟨_, _, _, _, _, _, _, h, _, _⟩ := h
    obtain ⟨h1, h2⟩ := h h7
    simp only [vAt, findR, if_pos h7]
    rw [Bool.eq_iff_iff, vget_isSome, idxB_iff, List.map_fst_zip]
    rw [toVL_len]; omega
  · have h0 : vAt (toV (.mk k b n m t l ks)) s = none := by
      unfold vAt
      split
      · rename_i es he; exact absurd he (toV_notMap h7 es)
      · rfl
    rw [h0]; simp only [findR, if_neg h7]; rfl

end Go.AV0
/- the document's values: a key's place; types: what they hold. -/
namespace Go.AV0
open Go.Proofs

theorem find_r (r : RV) (s : ByteArray) (hc : okC r) (hb : bulkR r ≤ 4000000) : APure Tryz.prog 11 [.agg (rvA r), .c (.string s)] (fun x => x = .c (.int .i64 (intO (findR r s)))) := by
  obtain ⟨k, b, n, m, t, l, ks⟩ := r
  simp only [okC] at hc
  obtain ⟨_, _, _, _, _, _, _, hc, _, _⟩ := hc
  have hlen := bulkRL_len l
  have hkl := bulkK_len ks
  have hbl : bulkRL l ≤ 4000000 ∧ bulkK ks ≤ 4000000 := by simp only [bulkR] at hb; omega
  refine apure_of hTS Tryz.func11 (by kernel_rfl) rfl rfl rfl ?_
  refine loop_on hTS (X := Nat) (fun i => i ≤ l.length ∧ (k = 7 → ∀ j x, j < i → ks[j]? = some x → s ≠ x))
    (fun i => ⟨[(1, .v (.c (.string s))), (2, .ref 0 0), (5, .v (.c (.int .i64 (i : Int))))], []⟩)
    (fun _ => [.cells [.v (.c (.int .i64 k)), .v (.c (.bool b)), .v (.c (.int .i64 n)), .v (.c (.int .i64 m)), .v (.c (.string t)), .v (.sl (rvL l)), .v (.sl (nmA ks))]]) (fun i => l.length - i) 0 ⟨Nat.zero_le _, fun _ j x hj => absurd hj (Nat.not_lt_zero _)⟩ ⟨rfl, rfl, (by (repeat' (first | exact trivial | refine ⟨⟨?_, rfl⟩, ?_⟩ | fail)); all_goals (first | (show some (SV.v (AV.c (Value.int .i64 (IntKind.i64.wrap _)))) = _; rw [inc (by omega)]; try rfl) | rfl)), ⟨_, rfl⟩, rfl⟩ ?_
  rintro i ⟨hi, hpre⟩
  refine bsplit_d (fun h1 _ => ?_) (fun h1 _ => ?_)
  case' refine_1 =>
    rw [rvL_len] at h1
    repeat' (first | refine bsplit_t (by first | with_reducible assumption | with_reducible rfl | with_reducible exact Bool.not_true | with_reducible exact Bool.not_false) ?_ | refine bsplit_f (by first | with_reducible assumption | with_reducible rfl | with_reducible exact Bool.not_true | with_reducible exact Bool.not_false) ?_ | fail)
    refine bsplit_d (fun h7 _ => ?_) (fun h7 _ => ?_)
    case' refine_1 =>
      obtain ⟨hkl1, hkr⟩ := hc h7
      obtain ⟨x, hx⟩ : ∃ x, ks[i]? = some x := ⟨_, List.getElem?_eq_getElem (by omega)⟩
      refine elev (Int.natCast_nonneg _) [AV.c (.string x)] (nmA_get _ _ _ hx) ?_
      refine bsplit_d (fun h2 _ => ?_) (fun h2 _ => ?_)
      · show AV.c _ = _
        have := idxB_nodup (k := 0) (rises_nodup hkr) hx
        rw [Nat.zero_add, h2] at this
        simp only [findR, if_pos h7, this]; rfl
      · refine ⟨i + 1, ⟨by omega, ?_⟩, (by dsimp only; omega), ⟨rfl, rfl, (by (repeat' (first | exact trivial | refine ⟨⟨?_, rfl⟩, ?_⟩ | fail)); all_goals (first | (show some (SV.v (AV.c (Value.int .i64 (IntKind.i64.wrap _)))) = _; rw [inc (by omega)]; try rfl) | rfl)), ⟨_, rfl⟩, rfl⟩⟩
        intro _ j y hj hy
        rcases Nat.lt_or_ge j i with h | h
        · exact hpre h7 j y h hy
        · have : j = i := by omega
          subst this
          rw [hx] at hy; cases hy; exact fun e => h2 e.symm
    show AV.c _ = _
    simp only [findR, if_neg h7]; rfl
  repeat' (first | refine bsplit_t (by first | with_reducible assumption | with_reducible rfl | with_reducible exact Bool.not_true | with_reducible exact Bool.not_false) ?_ | refine bsplit_f (by first | with_reducible assumption | with_reducible rfl | with_reducible exact Bool.not_true | with_reducible exact Bool.not_false) ?_ | fail)
  rw [rvL_len] at h1
  show AV.c _ = _
  by_cases h7 : k = 7
  · obtain ⟨hkl1, hkr⟩ := hc h7
    rw [show findR (.mk k b n m t l ks) s = none from by
      simp only [findR, if_pos h7]
      refine idxB_none fun x hx => ?_
      obtain ⟨j, hj⟩ := List.mem_iff_getElem?.1 hx
      exact hpre h7 j x (by have := get_lt hj; omega) hj]
    rfl
  · simp only [findR, if_neg h7]; rfl

theorem find07_r (t : KT) (s : ByteArray) (hn : rises t.names) (h2 : t.names.length ≤ 4000000) : APure Tryz.prog 10 [.agg (ktR t), .c (.string s)] (fun x => x = .c (.int .i64 (intO (idxB t.names s 0)))) := by
  obtain ⟨f, l, ns, lo⟩ := t
  simp only [KT.names] at h2 hn ⊢
  refine apure_of hTS Tryz.func10 (by kernel_rfl) rfl rfl rfl ?_
  refine loop_on hTS (X := Nat) (fun i => i ≤ ns.length ∧ ∀ j x, j < i → ns[j]? = some x → s ≠ x)
    (fun i => ⟨[(1, .v (.c (.string s))), (2, .ref 0 0), (5, .v (.c (.int .i64 (i : Int))))], []⟩)
    (fun _ => [.cells [.v (.c (.int .i64 (f : Int))), .v (.sl (ktRL l)), .v (.sl (nmA ns)), .v (.sl (boA lo))]]) (fun i => ns.length - i) 0 ⟨Nat.zero_le _, fun j x hj => absurd hj (Nat.not_lt_zero _)⟩ ⟨rfl, rfl, (by (repeat' (first | exact trivial | refine ⟨⟨?_, rfl⟩, ?_⟩ | fail)); all_goals (first | (show some (SV.v (AV.c (Value.int .i64 (IntKind.i64.wrap _)))) = _; rw [inc (by omega)]; try rfl) | rfl)), ⟨_, rfl⟩, rfl⟩ ?_
  rintro i ⟨hi, hpre⟩
  refine bsplit_d (fun h1 _ => ?_) (fun h1 _ => ?_)
  · rw [nmA_len] at h1
    obtain ⟨x, hx⟩ : ∃ x, ns[i]? = some x := ⟨_, List.getElem?_eq_getElem (by omega)⟩
    refine elev (Int.natCast_nonneg _) [AV.c (.string x)] (nmA_get _ _ _ hx) ?_
    refine bsplit_d (fun h2 _ => ?_) (fun h2 _ => ?_)
    · show AV.c _ = _
      have := idxB_nodup (k := 0) (rises_nodup hn) hx
      rw [Nat.zero_add, h2] at this
      rw [this]; rfl
    · refine ⟨i + 1, ⟨by omega, ?_⟩, (by dsimp only; omega), ⟨rfl, rfl, (by (repeat' (first | exact trivial | refine ⟨⟨?_, rfl⟩, ?_⟩ | fail)); all_goals (first | (show some (SV.v (AV.c (Value.int .i64 (IntKind.i64.wrap _)))) = _; rw [inc (by omega)]; try rfl) | rfl)), ⟨_, rfl⟩, rfl⟩⟩
      intro j y hj hy
      rcases Nat.lt_or_ge j i with h | h
      · exact hpre j y h hy
      · have : j = i := by omega
        subst this
        rw [hx] at hy; cases hy; exact fun e => h2 e.symm
  · rw [nmA_len] at h1
    show AV.c _ = _
    rw [idxB_none fun x hx => by
      obtain ⟨j, hj⟩ := List.mem_iff_getElem?.1 hx
      exact hpre j x (by have := get_lt hj; omega) hj]
    rfl

theorem deep07_r : ∀ (t : KT), wfK t → kDeep t ≤ 4000000 → APure Tryz.prog 18 [.agg (ktR t)] (fun r => r = .c (.int .i64 (kDeep t : Int))) := by
  intro t
  induction t using KT.ind with
  | _ f l ns lo ih =>
  intro hwf hd
  have hd : kDeepL l + 1 ≤ 4000000 := hd
  simp only [wfK] at hwf
  obtain ⟨_, hl16, _, _, _, _, _, _, _, hwl⟩ := hwf
  refine apure_of hTS Tryz.func18 (by kernel_rfl) rfl rfl rfl ?_
  refine loop_on hTS (X := Nat) (fun i => i ≤ l.length)
    (fun i => ⟨[(1, .ref 0 0), (3, .v (.c (.int .i64 (kDeepL (l.take i) : Int)))), (4, .v (.c (.int .i64 (i : Int))))], []⟩)
    (fun _ => [.cells [.v (.c (.int .i64 (f : Int))), .v (.sl (ktRL l)), .v (.sl (nmA ns)), .v (.sl (boA lo))]]) (fun i => l.length - i) 0 (Nat.zero_le _) ⟨rfl, rfl, (by (repeat' (first | exact trivial | refine ⟨⟨?_, rfl⟩, ?_⟩ | fail)); all_goals (first | (show some (SV.v (AV.c (Value.int .i64 (IntKind.i64.wrap _)))) = _; rw [inc (by omega)]; try rfl) | rfl)), ⟨_, rfl⟩, rfl⟩ ?_
  intro i hi
  refine bsplit_d (fun h1 _ => ?_) (fun h1 _ => ?_)
  · rw [ktRL_len] at h1
    obtain ⟨x, hx⟩ : ∃ x, l[i]? = some x := ⟨_, List.getElem?_eq_getElem (by omega)⟩
    have hmem := List.mem_of_getElem? hx
    have hx1 := kDeepL_mem hmem
    obtain ⟨xf, xl, xn, xo⟩ := x
    refine elev (Int.natCast_nonneg _) (ktR _) (ktRL_get _ _ _ hx) ?_
    refine call_pure (ih _ hmem (wfL_mem hwl hmem) (by omega)) rfl ?_
    rintro _ rfl
    have hmax : max (kDeepL (l.take i) : Int) (kDeep (.mk xf xl xn xo) : Int) = (kDeepL (l.take (i + 1)) : Int) := by rw [take_succ hx, kDeepL_app]; omega
    refine ⟨i + 1, by omega, (by dsimp only; omega), ⟨rfl, rfl, ⟨⟨rfl, rfl⟩, ⟨congrArg (fun x => some (SV.v (AV.c (.int .i64 x)))) hmax, rfl⟩, ⟨congrArg (fun x => some (SV.v (AV.c (.int .i64 x)))) (inc (k := i) (by omega)), rfl⟩, trivial⟩, ⟨[], rfl⟩, rfl⟩⟩
  · rw [ktRL_len] at h1
    have hil : i = l.length := by omega
    subst hil
    show AV.c (.int .i64 (IntKind.i64.wrap ((kDeepL (l.take l.length) : Int) + 1))) = _
    rw [List.take_length, inc (by omega)]; rfl

def kmany (t : KT) (n : Int) : Int × Bool := if t.form = 5 then (-1, decide (0 ≤ n)) else if t.form = 7 then ((t.l.length : Int), decide (n = t.l.length)) else (0, false)

theorem item_t (t : KT) (n : Int) (hf : t.form ≤ 8) : APure Tryz.prog 14 [kp t, .c (.int .i64 n)] (fun r => r = .tup [.c (.int .i64 (kmany t n).1), .c (.bool (kmany t n).2)]) := by
  have hh := holds_t t
  obtain ⟨f, l, ns, lo⟩ := t
  simp only [KT.form] at hf hh
  refine apure_of hTS Tryz.func14 (by kernel_rfl) rfl rfl rfl ?_
  refine call_pure hh rfl ?_
  rintro _ rfl
  refine bsplit_d (fun h1 _ => ?_) (fun h1 _ => ?_)
  · show AV.tup _ = _
    have h2 : ¬ f = 5 := fun e => by subst e; exact h1 rfl
    have h3 : ¬ f = 7 := fun e => by subst e; exact h1 rfl
    have e : kmany (.mk f l ns lo) n = (0, false) := (if_neg h2).trans (if_neg h3)
    rw [e]; rfl
  · have h57 : f = 5 ∨ f = 7 := by
      unfold holdsK at h1
      split at h1
      · exact absurd (by decide) h1
      · split at h1
        · exact absurd (by decide) h1
        · omega
    repeat' (first | refine bsplit_t (by first | with_reducible assumption | with_reducible rfl | with_reducible exact Bool.not_true | with_reducible exact Bool.not_false) ?_ | refine bsplit_f (by first | with_reducible assumption | with_reducible rfl | with_reducible exact Bool.not_true | with_reducible exact Bool.not_false) ?_ | fail)
    refine bsplit_d (fun h2 _ => ?_) (fun h2 _ => ?_)
    · have h2 : f = 7 := by omega
      refine draw_ev hTS (by kernel_rfl) (.pur 0 (.pur 1 (.pur 2 (.pur 5 (.pur 6 (.pur 7 (.pur 8 (.part [] [] (.take 3 (.take 4 (.pur 12 (.one 9 (.one 10 (.pur 11 (.pur 13 .done))))))))))))))) (by kernel_rfl) ?_
      show AV.tup [.c (.int .i64 ((kpL l).length : Int)), .c (.bool (decide (n = ((kpL l).length : Int))))] = _
      subst h2
      rw [kpL_len]; rfl
    · have h2 : f = 5 := by omega
      subst h2
      show AV.tup _ = _
      rfl

def kplace (t : KT) (n : Int) : Option KT := if t.form = 5 then (if 0 ≤ n then t.l[0]? else none) else if t.form = 7 then (if 0 ≤ n then t.l[n.toNat]? else none) else none

theorem place_t (t : KT) (n : Int) (hf : t.form ≤ 8) (h5 : t.form = 5 → t.l.length = 1) (hl : t.l.length ≤ 16) : APure Tryz.prog 15 [kp t, .c (.int .i64 n)] (fun r => r = .tup [ptrO (kplace t n), .c (.bool (kplace t n).isSome)]) := by
  have hh := holds_t t
  obtain ⟨f, l, ns, lo⟩ := t
  simp only [KT.form, KT.l] at hf hh h5 hl
  refine apure_of hTS Tryz.func15 (by kernel_rfl) rfl rfl rfl ?_
  refine call_pure hh rfl ?_
  rintro _ rfl
  refine bsplit_d (fun h1 _ => ?_) (fun h1 _ => ?_)
  · repeat' (first | refine bsplit_t (by first | with_reducible assumption | with_reducible rfl | with_reducible exact Bool.not_true | with_reducible exact Bool.not_false) ?_ | refine bsplit_f (by first | with_reducible assumption | with_reducible rfl | with_reducible exact Bool.not_true | with_reducible exact Bool.not_false) ?_ | fail)
    show AV.tup _ = _
    have h2 : ¬ f = 5 := fun e => by subst e; exact h1 rfl
    have h3 : ¬ f = 7 := fun e => by subst e; exact h1 rfl
    have e : kplace (.mk f l ns lo) n = none := (if_neg h2).trans (if_neg h3)
    rw [e]; rfl
  have h57 : f = 5 ∨ f = 7 := by
    unfold holdsK at h1
    split at h1
    · exact absurd (by decide) h1
    · split at h1
      · exact absurd (by decide) h1
      · omega
  repeat' (first | refine bsplit_t (by first | with_reducible assumption | with_reducible rfl | with_reducible exact Bool.not_true | with_reducible exact Bool.not_false) ?_ | refine bsplit_f (by first | with_reducible assumption | with_reducible rfl | with_reducible exact Bool.not_true | with_reducible exact Bool.not_false) ?_ | fail)
  refine bsplit_d (fun h2 _ => ?_) (fun h2 _ => ?_)
  · repeat' (first | refine bsplit_t (by first | with_reducible assumption | with_reducible rfl | with_reducible exact Bool.not_true | with_reducible exact Bool.not_false) ?_ | refine bsplit_f (by first | with_reducible assumption | with_reducible rfl | with_reducible exact Bool.not_true | with_reducible exact Bool.not_false) ?_ | fail)
    show AV.tup _ = _
    have h3 : ¬ 0 ≤ n := by omega
    rcases h57 with rfl | rfl
    · have e : kplace (.mk 5 l ns lo) n = none := (if_pos rfl).trans (if_neg h3)
      rw [e]; rfl
    · have e : kplace (.mk 7 l ns lo) n = none := (if_neg (show ¬ (7 : Nat) = 5 by decide)).trans ((if_pos rfl).trans (if_neg h3))
      rw [e]; rfl
  repeat' (first | refine bsplit_t (by first | with_reducible assumption | with_reducible rfl | with_reducible exact Bool.not_true | with_reducible exact Bool.not_false) ?_ | refine bsplit_f (by first | with_reducible assumption | with_reducible rfl | with_reducible exact Bool.not_true | with_reducible exact Bool.not_false) ?_ | fail)
  refine bsplit_d (fun h3 _ => ?_) (fun h3 _ => ?_)
  · have h3 : f = 7 := by omega
    subst h3
    repeat' (first | refine bsplit_t (by first | with_reducible assumption | with_reducible rfl | with_reducible exact Bool.not_true | with_reducible exact Bool.not_false) ?_ | refine bsplit_f (by first | with_reducible assumption | with_reducible rfl | with_reducible exact Bool.not_true | with_reducible exact Bool.not_false) ?_ | fail)
    refine bsplit_d (fun h4 _ => ?_) (fun h4 _ => ?_)
    · repeat' (first | refine bsplit_t (by first | with_reducible assumption | with_reducible rfl | with_reducible exact Bool.not_true | with_reducible exact Bool.not_false) ?_ | refine bsplit_f (by first | with_reducible assumption | with_reducible rfl | with_reducible exact Bool.not_true | with_reducible exact Bool.not_false) ?_ | fail)
      rw [kpL_len] at h4
      show AV.tup _ = _
      have h5 : l[n.toNat]? = none := List.getElem?_eq_none (by omega)
      have h6 : 0 ≤ n := by omega
      have e : kplace (.mk 7 l ns lo) n = none := (if_neg (show ¬ (7 : Nat) = 5 by decide)).trans ((if_pos rfl).trans ((if_pos h6).trans h5))
      rw [e]; rfl
    · repeat' (first | refine bsplit_t (by first | with_reducible assumption | with_reducible rfl | with_reducible exact Bool.not_true | with_reducible exact Bool.not_false) ?_ | refine bsplit_f (by first | with_reducible assumption | with_reducible rfl | with_reducible exact Bool.not_true | with_reducible exact Bool.not_false) ?_ | fail)
      rw [kpL_len] at h4
      obtain ⟨x, hx⟩ : ∃ x, l[n.toNat]? = some x := ⟨_, List.getElem?_eq_getElem (by omega)⟩
      refine draw_ev hTS (by kernel_rfl) (.pur 0 (.pur 1 (.pur 2 (.pur 4 (.pur 5 (.pur 6 (.pur 7 (.part [] [] (.take 3 (.one 8 (.one 9 (.pur 10 (.pur 11 (.pur 12 (.one 13 (.pur 14 (.pur 15 .done))))))))))))))))) (by kernel_rfl) ?_
      have hmin : min n (IntKind.i64.wrap (((kpL l).length : Int) - 1)) = n := by rw [kpL_len, wr (by omega) (by omega)]; omega
      refine elev (by rw [hmin]; omega) [AV.ptr (kpO x)] (by rw [hmin]; exact kpL_get _ _ _ hx) ?_
      show AV.tup _ = _
      have h6 : 0 ≤ n := by omega
      have e : kplace (.mk 7 l ns lo) n = some x := (if_neg (show ¬ (7 : Nat) = 5 by decide)).trans ((if_pos rfl).trans ((if_pos h6).trans hx))
      rw [e]; rfl
  · have h3 : f = 5 := by omega
    subst h3
    repeat' (first | refine bsplit_t (by first | with_reducible assumption | with_reducible rfl | with_reducible exact Bool.not_true | with_reducible exact Bool.not_false) ?_ | refine bsplit_f (by first | with_reducible assumption | with_reducible rfl | with_reducible exact Bool.not_true | with_reducible exact Bool.not_false) ?_ | fail)
    have hl1 := h5 rfl
    obtain ⟨x, hx⟩ : ∃ x, l[0]? = some x := ⟨_, List.getElem?_eq_getElem (by omega)⟩
    refine draw_ev hTS (by kernel_rfl) (.pur 0 (.pur 1 (.pur 2 (.pur 4 (.pur 5 (.pur 6 (.pur 7 (.part [] [] (.take 3 (.one 8 (.one 9 (.pur 10 (.pur 11 (.pur 12 (.one 13 (.pur 14 (.pur 15 .done))))))))))))))))) (by kernel_rfl) ?_
    have hmin : min n (IntKind.i64.wrap (((kpL l).length : Int) - 1)) = 0 := by rw [kpL_len, hl1, wr (by omega) (by omega)]; omega
    refine elev (by rw [hmin]; omega) [AV.ptr (kpO x)] (by rw [hmin]; exact kpL_get _ _ _ hx) ?_
    show AV.tup _ = _
    have h6 : 0 ≤ n := by omega
    have e : kplace (.mk 5 l ns lo) n = some x := (if_pos rfl).trans ((if_pos h6).trans hx)
    rw [e]; rfl

def kunder (t : KT) (s : ByteArray) : Option KT := if t.form = 6 then t.l[0]? else if t.form = 8 then kfield t s else none

theorem under_t (t : KT) (s : ByteArray) (h6 : t.form = 6 → t.l.length = 1) (h1 : t.names.length ≤ t.l.length) (h2 : t.names.length ≤ 4000000) (hf : t.form ≤ 8) : APure Tryz.prog 16 [kp t, .c (.string s)] (fun r => r = .tup [ptrO (kunder t s), .c (.bool (kunder t s).isSome)]) := by
  have hh := holds_t t
  have hfd := field_t t s h1 h2
  obtain ⟨f, l, ns, lo⟩ := t
  simp only [KT.form, KT.l] at hf hh h6
  refine apure_of hTS Tryz.func16 (by kernel_rfl) rfl rfl rfl ?_
  refine call_pure hh rfl ?_
  rintro _ rfl
  refine bsplit_d (fun g1 _ => ?_) (fun g1 _ => ?_)
  · show AV.tup _ = _
    have h2 : ¬ f = 6 := fun e => by subst e; exact g1 rfl
    have h3 : ¬ f = 8 := fun e => by subst e; exact g1 rfl
    have e : kunder (.mk f l ns lo) s = none := (if_neg h2).trans (if_neg h3)
    rw [e]; rfl
  have h68 : f = 6 ∨ f = 8 := by
    unfold holdsK at g1
    split at g1
    · exact absurd (by decide) g1
    · split at g1
      · omega
      · exact absurd (by decide) g1
  repeat' (first | refine bsplit_t (by first | with_reducible assumption | with_reducible rfl | with_reducible exact Bool.not_true | with_reducible exact Bool.not_false) ?_ | refine bsplit_f (by first | with_reducible assumption | with_reducible rfl | with_reducible exact Bool.not_true | with_reducible exact Bool.not_false) ?_ | fail)
  refine bsplit_d (fun g2 _ => ?_) (fun g2 _ => ?_)
  · have g2 : f = 6 := by omega
    subst g2
    have hl1 := h6 rfl
    obtain ⟨x, hx⟩ : ∃ x, l[0]? = some x := ⟨_, List.getElem?_eq_getElem (by omega)⟩
    repeat' (first | refine bsplit_t (by first | with_reducible assumption | with_reducible rfl | with_reducible exact Bool.not_true | with_reducible exact Bool.not_false) ?_ | refine bsplit_f (by first | with_reducible assumption | with_reducible rfl | with_reducible exact Bool.not_true | with_reducible exact Bool.not_false) ?_ | fail)
    refine elev (by decide) [AV.ptr (kpO x)] (kpL_get l 0 x hx) ?_
    show AV.tup _ = _
    have e : kunder (.mk 6 l ns lo) s = some x := (if_pos rfl).trans hx
    rw [e]; rfl
  · have g2 : f = 8 := by omega
    subst g2
    have e : kunder (.mk 8 l ns lo) s = kfield (.mk 8 l ns lo) s := (if_neg (show ¬ (8 : Nat) = 6 by decide)).trans (if_pos rfl)
    rw [e]
    cases hkf : kfield (.mk 8 l ns lo) s with
    | none =>
      rw [hkf] at hfd
      refine call_pure hfd rfl ?_
      rintro _ rfl
      show AV.tup _ = _
      rfl
    | some x =>
      obtain ⟨xf, xl, xn, xo⟩ := x
      rw [hkf] at hfd
      refine call_pure hfd rfl ?_
      rintro _ rfl
      show AV.tup _ = _
      rfl

end Go.AV0
/- the law KindParts. -/
namespace Go.AV0
open Go.Proofs

/-- the place of what there is, if it is there -/
def atO (o : Option KT) (l : List KT) (y : Int) : Prop :=
  match o with
  | some x => 0 ≤ y ∧ l[y.toNat]? = some x
  | none => y < 0

/-- what the law expects: holds, how many, whether, the place, the place of the key -/
def PartsOk (t : KT) (n : Int) (key : ByteArray) (y : Int × Int × Bool × Int × Int) : Prop :=
  y.1 = holdsK t.form ∧ y.2.1 = (kmany t n).1 ∧ y.2.2.1 = (kmany t n).2 ∧ atO (kplace t n) t.l y.2.2.2.1 ∧ atO (kunder t key) t.l y.2.2.2.2

theorem missK_len (v : VT) : ∀ (ns : List ByteArray) (lo : List Bool), (missK v ns lo).length ≤ ns.length
  | [], lo => by cases lo <;> simp [missK]
  | a :: ns, [] => by simp [missK]
  | a :: ns, b :: lo => by
    have := missK_len v ns lo
    simp only [missK]; split <;> simp <;> omega

theorem kfield_place (t : KT) (key : ByteArray) (h : t.names.length = t.l.length) : atO (kfield t key) t.l (intO (idxB t.names key 0)) := by
  unfold kfield
  cases hi : idxB t.names key 0 with
  | none => show (-1 : Int) < 0; decide
  | some i =>
    have hlt : i < t.l.length := by
      have key2 : ∀ (l : List ByteArray) (k i : Nat), idxB l key k = some i → i < k + l.length := by
        intro l
        induction l with
        | nil => intro k i h; cases h
        | cons x l ih =>
          intro k i h
          simp only [idxB] at h
          split at h
          · cases h; simp
          · have := ih _ _ h; simp; omega
      have := key2 _ 0 i hi
      omega
    obtain ⟨x, hx⟩ : ∃ x, t.l[i]? = some x := ⟨_, List.getElem?_eq_getElem hlt⟩
    simp only [Option.bind_some, hx]
    exact ⟨Int.natCast_nonneg _, hx⟩

theorem parts_ok (t : KT) (n : Int) (key : ByteArray) (hwf : wfK t) :
    (t.form = 5 → PartsOk t n key (6, -1, decide (0 ≤ n), if 0 ≤ n then 0 else -1, -1)) ∧
    (t.form = 7 → ∀ k : Nat, k = t.l.length → PartsOk t n key (6, (k : Int), decide (n = k), if 0 ≤ n ∧ n < k then n else -1, -1)) ∧
    (t.form = 6 → PartsOk t n key (7, 0, false, -1, 0)) ∧
    (t.form = 8 → PartsOk t n key (7, 0, false, -1, intO (idxB t.names key 0))) ∧
    (t.form < 5 → PartsOk t n key (0, 0, false, -1, -1)) := by
  obtain ⟨f, l, ns, lo⟩ := t
  simp only [wfK] at hwf
  obtain ⟨w1, w2, w3, w4, w5, w6, w7, w8, w9, w10⟩ := hwf
  have m0 : atO none l (-1) := by show (-1 : Int) < 0; decide
  simp only [KT.form, KT.l, KT.names]
  refine ⟨?_, ?_, ?_, ?_, ?_⟩
  · rintro rfl
    refine ⟨rfl, rfl, rfl, ?_, m0⟩
    have := w4 (.inl rfl)
    obtain ⟨x, hx⟩ : ∃ x, l[0]? = some x := ⟨_, List.getElem?_eq_getElem (by omega)⟩
    by_cases hn : 0 ≤ n
    · have e : kplace (.mk 5 l ns lo) n = some x := (if_pos rfl).trans ((if_pos hn).trans hx)
      simp only [if_pos hn]
      rw [e]; exact ⟨by decide, hx⟩
    · have e : kplace (.mk 5 l ns lo) n = none := (if_pos rfl).trans (if_neg hn)
      simp only [if_neg hn]
      rw [e]; exact m0
  · rintro rfl k rfl
    refine ⟨rfl, rfl, rfl, ?_, m0⟩
    have h75 : ¬ (7 : Nat) = 5 := by decide
    by_cases hn : 0 ≤ n
    · by_cases hl : n < l.length
      · obtain ⟨x, hx⟩ : ∃ x, l[n.toNat]? = some x := ⟨_, List.getElem?_eq_getElem (by omega)⟩
        have e : kplace (.mk 7 l ns lo) n = some x := (if_neg h75).trans ((if_pos rfl).trans ((if_pos hn).trans hx))
        rw [e]
        show atO _ l (if 0 ≤ n ∧ n < (l.length : Int) then n else -1)
        rw [if_pos ⟨hn, hl⟩]; exact ⟨hn, hx⟩
      · have e : kplace (.mk 7 l ns lo) n = none := (if_neg h75).trans ((if_pos rfl).trans ((if_pos hn).trans (List.getElem?_eq_none (by show l.length ≤ _; omega))))
        rw [e]
        show atO _ l (if 0 ≤ n ∧ n < (l.length : Int) then n else -1)
        rw [if_neg fun h => hl h.2]; exact m0
    · have e : kplace (.mk 7 l ns lo) n = none := (if_neg h75).trans ((if_pos rfl).trans (if_neg hn))
      rw [e]
      show atO _ l (if 0 ≤ n ∧ n < (l.length : Int) then n else -1)
      rw [if_neg fun h => hn h.1]; exact m0
  · rintro rfl
    refine ⟨rfl, rfl, rfl, m0, ?_⟩
    have := w4 (.inr rfl)
    obtain ⟨x, hx⟩ : ∃ x, l[0]? = some x := ⟨_, List.getElem?_eq_getElem (by omega)⟩
    have e : kunder (.mk 6 l ns lo) key = some x := (if_pos rfl).trans hx
    rw [e]; exact ⟨by decide, hx⟩
  · rintro rfl
    refine ⟨rfl, rfl, rfl, m0, ?_⟩
    have e : kunder (.mk 8 l ns lo) key = kfield (.mk 8 l ns lo) key := (if_neg (show ¬ (8 : Nat) = 6 by decide)).trans (if_pos rfl)
    rw [e]
    exact kfield_place (.mk 8 l ns lo) key (w5 rfl)
  · intro hf
    have h5 : ¬ f = 5 := by omega
    have h6 : ¬ f = 6 := by omega
    have h7 : ¬ f = 7 := by omega
    have h8 : ¬ f = 8 := by omega
    have e1 : kmany (.mk f l ns lo) n = (0, false) := (if_neg h5).trans (if_neg h7)
    have e2 : kplace (.mk f l ns lo) n = none := (if_neg h5).trans (if_neg h7)
    have e3 : kunder (.mk f l ns lo) key = none := (if_neg h6).trans (if_neg h8)
    unfold PartsOk
    rw [e1, e2, e3]
    exact ⟨(if_pos hf).symm, rfl, rfl, m0, m0⟩

set_option maxRecDepth 20000 in
set_option maxHeartbeats 4000000 in
theorem kindParts_l (s : ByteArray) (r : RV) (n : Int) (key : ByteArray) (hb : bulkR r ≤ 4000000) : APure Tryz.prog 3 [.c (.string s), .agg (rvA r), .c (.int .i64 n), .c (.string key)] (fun x => x = .c (.bool true)) := by
  have hgr := great_r r hb
  have hcl := clean_r r hb
  have hcb := Nat.le_trans (clean_bulk r) hb
  have hto := to_r (cleanR r) hcb
  have hok := clean_ok r
  obtain ⟨rk, rb, rn, rm, rs, rl, rks⟩ := r
  generalize cleanR _ = y at hcl hto hok hcb
  have hfind := fun k => find_r y k hok hcb
  have hat := fun k => at_find hok k
  generalize toV y = v at hto hat
  have hyk : ∀ k, (findR y k).isSome = (vAt v k).isSome := fun k => (hat k).symm
  generalize findR y = fy at hfind hyk
  obtain ⟨yk, yb, yn, ym, ys, yl, yks⟩ := y
  refine apure_of hTS Tryz.func3 (by kernel_rfl) rfl rfl rfl ?_
  refine bsplit_d (fun h1 _ => ?_) (fun h1 _ => ?_)
  · repeat' (first | refine bsplit_t (by first | with_reducible assumption | with_reducible rfl | with_reducible exact Bool.not_true | with_reducible exact Bool.not_false) ?_ | refine bsplit_f (by first | with_reducible assumption | with_reducible rfl | with_reducible exact Bool.not_true | with_reducible exact Bool.not_false) ?_ | fail)
    refine call_pure awake_l rfl ?_
    rintro _ rfl
    show AV.c _ = _
    rfl
  repeat' (first | refine bsplit_t (by first | with_reducible assumption | with_reducible rfl | with_reducible exact Bool.not_true | with_reducible exact Bool.not_false) ?_ | refine bsplit_f (by first | with_reducible assumption | with_reducible rfl | with_reducible exact Bool.not_true | with_reducible exact Bool.not_false) ?_ | fail)
  refine call_pure hgr rfl ?_
  rintro _ ⟨g, _, rfl, _⟩
  repeat' (first | refine bsplit_t (by first | with_reducible assumption | with_reducible rfl | with_reducible exact Bool.not_true | with_reducible exact Bool.not_false) ?_ | refine bsplit_f (by first | with_reducible assumption | with_reducible rfl | with_reducible exact Bool.not_true | with_reducible exact Bool.not_false) ?_ | fail)
  refine bsplit_d (fun h2 _ => ?_) (fun h2 _ => ?_)
  · repeat' (first | refine bsplit_t (by first | with_reducible assumption | with_reducible rfl | with_reducible exact Bool.not_true | with_reducible exact Bool.not_false) ?_ | refine bsplit_f (by first | with_reducible assumption | with_reducible rfl | with_reducible exact Bool.not_true | with_reducible exact Bool.not_false) ?_ | fail)
    refine call_pure awake_l rfl ?_
    rintro _ rfl
    show AV.c _ = _
    rfl
  repeat' (first | refine bsplit_t (by first | with_reducible assumption | with_reducible rfl | with_reducible exact Bool.not_true | with_reducible exact Bool.not_false) ?_ | refine bsplit_f (by first | with_reducible assumption | with_reducible rfl | with_reducible exact Bool.not_true | with_reducible exact Bool.not_false) ?_ | fail)
  refine bsplit_d (fun h3 _ => ?_) (fun h3 _ => ?_)
  · repeat' (first | refine bsplit_t (by first | with_reducible assumption | with_reducible rfl | with_reducible exact Bool.not_true | with_reducible exact Bool.not_false) ?_ | refine bsplit_f (by first | with_reducible assumption | with_reducible rfl | with_reducible exact Bool.not_true | with_reducible exact Bool.not_false) ?_ | fail)
    refine call_pure awake_l rfl ?_
    rintro _ rfl
    show AV.c _ = _
    rfl
  repeat' (first | refine bsplit_t (by first | with_reducible assumption | with_reducible rfl | with_reducible exact Bool.not_true | with_reducible exact Bool.not_false) ?_ | refine bsplit_f (by first | with_reducible assumption | with_reducible rfl | with_reducible exact Bool.not_true | with_reducible exact Bool.not_false) ?_ | fail)
  refine call_pure awake_l rfl ?_
  rintro _ rfl
  repeat' (first | refine bsplit_t (by first | with_reducible assumption | with_reducible rfl | with_reducible exact Bool.not_true | with_reducible exact Bool.not_false) ?_ | refine bsplit_f (by first | with_reducible assumption | with_reducible rfl | with_reducible exact Bool.not_true | with_reducible exact Bool.not_false) ?_ | fail)
  refine call_pure (parse_r s) rfl ?_
  rintro _ (⟨⟨tf, tl, tn, tlo⟩, m, h4, rfl⟩ | ⟨h4, i, L, N, B, x, e, he, rfl⟩)
  rotate_left
  · refine call_pure (parse_c s) rfl ?_
    rintro _ (⟨h5, _⟩ | ⟨_, ⟨t, h5, rfl⟩ | ⟨h5, n2, e2, he2, rfl⟩⟩)
    · omega
    · rw [h4] at h5; cases h5
    refine bsplit_t (decide_eq_true he) ?_
    repeat' (first | refine bsplit_t (by decide) ?_ | fail)
    refine call_pure holds_n rfl ?_
    rintro _ rfl
    repeat' (first | refine bsplit_t (by decide) ?_ | fail)
    show AV.c _ = _
    rfl
  refine call_pure (parse_c s) rfl ?_
  rintro _ (⟨h5, _⟩ | ⟨_, ⟨t, h5, rfl⟩ | ⟨h5, _⟩⟩)
  · omega
  rotate_left
  · rw [h4] at h5; cases h5
  rw [h4] at h5; cases h5
  obtain ⟨w1, w2, _⟩ := pParse_ok h4
  refine bsplit_f (by decide) ?_
  refine call_pure hcl rfl ?_
  rintro _ rfl
  have hpo := parts_ok (.mk tf tl tn tlo) n key w1
  simp only [KT.form, KT.l, KT.names] at hpo
  have hwf := w1
  simp only [wfK] at hwf
  obtain ⟨f1, f2, f3, f4, f5, f6, f7, f8, f9, f10⟩ := hwf
  have htn : tn.length ≤ 16 := by
    by_cases h8 : tf = 8
    · rw [f5 h8]; exact f2
    · rw [f6 h8]; simp
  apply join_loop (P := Tryz.prog) (us := none) (n := Tryz.f3.ntmps) (Y := {y : Int × Int × Bool × Int × Int // PartsOk (.mk tf tl tn tlo) n key y})
    (fun y => ⟨[(0, .v (.c (.string s))), (2, .v (.c (.int .i64 n))), (3, .v (.c (.string key))), (9, .ref 1 0), (11, .v (kp (.mk tf tl tn tlo))), (14, .ref 3 0), (15, .v (.c (.int .i64 y.1.1))), (16, .v (.c (.int .i64 y.1.2.1))), (17, .v (.c (.bool y.1.2.2.1))), (18, .v (.c (.int .i64 y.1.2.2.2.1))), (19, .v (.c (.int .i64 y.1.2.2.2.2))), (20, .v (.c (.slice none 0 0))), (21, .v (.c (.int .i64 0)))], []⟩)
    (fun _ => [.cells [.v (.c (.int .i64 rk)), .v (.c (.bool rb)), .v (.c (.int .i64 rn)), .v (.c (.int .i64 rm)), .v (.c (.string rs)), .v (.sl (rvL rl)), .v (.sl (nmA rks))], .cells [.v (.c (.int .i64 (tf : Int))), .v (.sl (ktRL tl)), .v (.sl (nmA tn)), .v (.sl (boA tlo))],
      .cells [.v (.c (.int .i64 (m : Int))), .v (.c (.int .i64 0))], .cells [.v (.c (.int .i64 yk)), .v (.c (.bool yb)), .v (.c (.int .i64 yn)), .v (.c (.int .i64 ym)), .v (.c (.string ys)), .v (.sl (rvL yl)), .v (.sl (nmA yks))]])
  · intro hj
    refine bsplit_d (fun g5 _ => ?_) (fun g5 _ => ?_)
    · have g5 : tf = 5 := by omega
      have hp := hpo.1 g5
      refine bsplit_d (fun k1 _ => ?_) (fun k1 _ => ?_)
      · rw [if_pos k1] at hp
        exact loop_sub ⟨rfl, rfl, (by (repeat' (first | exact trivial | refine ⟨⟨?_, rfl⟩, ?_⟩ | fail)); all_goals (first | (show some (SV.v (AV.c (Value.int .i64 (IntKind.i64.wrap _)))) = _; rw [inc (by omega)]; try rfl) | rfl)), ⟨_, rfl⟩, rfl⟩ (hj ⟨_, hp⟩)
      · rw [if_neg k1] at hp
        exact loop_sub ⟨rfl, rfl, (by (repeat' (first | exact trivial | refine ⟨⟨?_, rfl⟩, ?_⟩ | fail)); all_goals (first | (show some (SV.v (AV.c (Value.int .i64 (IntKind.i64.wrap _)))) = _; rw [inc (by omega)]; try rfl) | rfl)), ⟨_, rfl⟩, rfl⟩ (hj ⟨_, hp⟩)
    refine bsplit_d (fun g7 _ => ?_) (fun g7 _ => ?_)
    · have g7 : tf = 7 := by omega
      have hp := hpo.2.1 g7 (ktRL tl).length (ktRL_len tl)
      refine draw_ev hTS (by kernel_rfl) (.pur 0 (.pur 3 (.pur 4 (.pur 8 (.part [] [] (.take 1 (.take 2 (.pur 9 (.one 5 (.one 6 (.pur 7 (.pur 10 .done)))))))))))) (by kernel_rfl) ?_
      refine bsplit_d (fun k1 _ => ?_) (fun k1 _ => ?_)
      · repeat' (first | refine bsplit_t (by first | with_reducible assumption | with_reducible rfl | with_reducible exact Bool.not_true | with_reducible exact Bool.not_false) ?_ | refine bsplit_f (by first | with_reducible assumption | with_reducible rfl | with_reducible exact Bool.not_true | with_reducible exact Bool.not_false) ?_ | fail)
        refine bsplit_d (fun k2 _ => ?_) (fun k2 _ => ?_)
        · rw [if_pos ⟨k1, k2⟩] at hp
          exact loop_sub ⟨rfl, rfl, (by (repeat' (first | exact trivial | refine ⟨⟨?_, rfl⟩, ?_⟩ | fail)); all_goals (first | (show some (SV.v (AV.c (Value.int .i64 (IntKind.i64.wrap _)))) = _; rw [inc (by omega)]; try rfl) | rfl)), ⟨_, rfl⟩, rfl⟩ (hj ⟨_, hp⟩)
        · rw [if_neg (fun h => k2 h.2)] at hp
          exact loop_sub ⟨rfl, rfl, (by (repeat' (first | exact trivial | refine ⟨⟨?_, rfl⟩, ?_⟩ | fail)); all_goals (first | (show some (SV.v (AV.c (Value.int .i64 (IntKind.i64.wrap _)))) = _; rw [inc (by omega)]; try rfl) | rfl)), ⟨_, rfl⟩, rfl⟩ (hj ⟨_, hp⟩)
      · repeat' (first | refine bsplit_t (by first | with_reducible assumption | with_reducible rfl | with_reducible exact Bool.not_true | with_reducible exact Bool.not_false) ?_ | refine bsplit_f (by first | with_reducible assumption | with_reducible rfl | with_reducible exact Bool.not_true | with_reducible exact Bool.not_false) ?_ | fail)
        rw [if_neg (fun h => k1 h.1)] at hp
        exact loop_sub ⟨rfl, rfl, (by (repeat' (first | exact trivial | refine ⟨⟨?_, rfl⟩, ?_⟩ | fail)); all_goals (first | (show some (SV.v (AV.c (Value.int .i64 (IntKind.i64.wrap _)))) = _; rw [inc (by omega)]; try rfl) | rfl)), ⟨_, rfl⟩, rfl⟩ (hj ⟨_, hp⟩)
    refine bsplit_d (fun g6 _ => ?_) (fun g6 _ => ?_)
    · have g6 : tf = 6 := by omega
      exact loop_sub ⟨rfl, rfl, (by (repeat' (first | exact trivial | refine ⟨⟨?_, rfl⟩, ?_⟩ | fail)); all_goals (first | (show some (SV.v (AV.c (Value.int .i64 (IntKind.i64.wrap _)))) = _; rw [inc (by omega)]; try rfl) | rfl)), ⟨_, rfl⟩, rfl⟩ (hj ⟨_, hpo.2.2.1 g6⟩)
    refine bsplit_d (fun g8 _ => ?_) (fun g8 _ => ?_)
    · have g8 : tf = 8 := by omega
      refine call_pure (find07_r (.mk tf tl tn tlo) key f9 (by simp only [KT.names]; omega)) rfl ?_
      rintro _ rfl
      exact loop_sub ⟨rfl, rfl, (by (repeat' (first | exact trivial | refine ⟨⟨?_, rfl⟩, ?_⟩ | fail)); all_goals (first | (show some (SV.v (AV.c (Value.int .i64 (IntKind.i64.wrap _)))) = _; rw [inc (by omega)]; try rfl) | rfl)), ⟨_, rfl⟩, rfl⟩ (hj ⟨_, hpo.2.2.2.1 g8⟩)
    · exact loop_sub ⟨rfl, rfl, (by (repeat' (first | exact trivial | refine ⟨⟨?_, rfl⟩, ?_⟩ | fail)); all_goals (first | (show some (SV.v (AV.c (Value.int .i64 (IntKind.i64.wrap _)))) = _; rw [inc (by omega)]; try rfl) | rfl)), ⟨_, rfl⟩, rfl⟩ (hj ⟨_, hpo.2.2.2.2 (by omega)⟩)
  · rintro ⟨⟨y1, y2, y3, y4, y5⟩, p1, p2, p3, p4, p5⟩
    dsimp only at p1 p2 p3 p4 p5 ⊢
    subst p1; subst p2; subst p3
    simp only [KT.form, KT.l] at p4 p5 ⊢
    refine loop_own_t 20 9 1 rfl ?_
    refine loop_on hTS (X := Nat) (fun i => i ≤ tn.length)
      (fun i => ⟨[(2, .v (.c (.int .i64 n))), (3, .v (.c (.string key))), (9, .ref 1 0), (11, .v (kp (.mk tf tl tn tlo))), (14, .ref 3 0), (15, .v (.c (.int .i64 (holdsK tf)))), (16, .v (.c (.int .i64 (kmany (.mk tf tl tn tlo) n).1))), (17, .v (.c (.bool (kmany (.mk tf tl tn tlo) n).2))), (18, .v (.c (.int .i64 y4))), (19, .v (.c (.int .i64 y5))), (20, .ms 4), (21, .v (.c (.int .i64 (i : Int))))], []⟩)
      (fun i => [.cells [.v (.c (.int .i64 rk)), .v (.c (.bool rb)), .v (.c (.int .i64 rn)), .v (.c (.int .i64 rm)), .v (.c (.string rs)), .v (.sl (rvL rl)), .v (.sl (nmA rks))], .cells [.v (.c (.int .i64 (tf : Int))), .v (.sl (ktRL tl)), .v (.sl (nmA tn)), .v (.sl (boA tlo))],
        .cells [.v (.c (.int .i64 (m : Int))), .v (.c (.int .i64 0))], .cells [.v (.c (.int .i64 yk)), .v (.c (.bool yb)), .v (.c (.int .i64 yn)), .v (.c (.int .i64 ym)), .v (.c (.string ys)), .v (.sl (rvL yl)), .v (.sl (nmA yks))], .arr 9 1 (nmA (missK v (tn.take i) (tlo.take i)))]) (fun i => tn.length - i) 0 (Nat.zero_le _) ⟨rfl, rfl, (by (repeat' (first | exact trivial | refine ⟨⟨?_, rfl⟩, ?_⟩ | fail)); all_goals (first | (show some (SV.v (AV.c (Value.int .i64 (IntKind.i64.wrap _)))) = _; rw [inc (by omega)]; try rfl) | rfl)), ⟨_, rfl⟩, rfl⟩ ?_
    intro i hi
    refine bsplit_d (fun k1 _ => ?_) (fun k1 _ => ?_)
    · rw [nmA_len] at k1
      obtain ⟨x, hx⟩ : ∃ x, tn[i]? = some x := ⟨_, List.getElem?_eq_getElem (by omega)⟩
      obtain ⟨q, hq⟩ : ∃ q, tlo[i]? = some q := ⟨_, List.getElem?_eq_getElem (by omega)⟩
      have hsn : missK v (tn.take (i + 1)) (tlo.take (i + 1)) = missK v (tn.take i) (tlo.take i) ++ (if (vAt v x).isSome = true ∨ q = true then [] else [x]) := by
        rw [take_succ hx, take_succ hq, missK_snoc _ _ _ _ _ (by simp; omega)]
      have hml : (missK v (tn.take i) (tlo.take i)).length ≤ 16 := by
        have := missK_len v (tn.take i) (tlo.take i)
        rw [List.length_take] at this; omega
      refine draw_ev hTS (by kernel_rfl) (.pur 0 (.pur 2 (.one 1 (.pur 3 (.one 4 (.pur 5 (.pur 6 (.pur 8 (.pur 10 (.part [] [] (.take 7 (.one 9 (.pur 11 (.one 12 (.one 13 (.pur 14 (.pur 15 .done))))))))))))))))) (by kernel_rfl) ?_
      refine elev (Int.natCast_nonneg _) [AV.c (.bool q)] (boA_get _ _ _ hq) ?_
      cases q with
      | true =>
        repeat' (first | refine bsplit_f (by decide) ?_ | fail)
        refine ⟨i + 1, by omega, (by dsimp only; omega), ⟨rfl, rfl, (by (repeat' (first | exact trivial | refine ⟨⟨?_, rfl⟩, ?_⟩ | fail)); all_goals (first | (show some (SV.v (AV.c (Value.int .i64 (IntKind.i64.wrap _)))) = _; rw [inc (by omega)]; try rfl) | rfl)), ⟨_, by
          show (_ : List SO) = [_, _, _, _, .arr 9 1 (nmA (missK v (tn.take (i + 1)) (tlo.take (i + 1))))] ++ _
          rw [show missK v (tn.take (i + 1)) (tlo.take (i + 1)) = missK v (tn.take i) (tlo.take i) by rw [hsn, if_pos (.inr rfl), List.append_nil]]; rfl⟩, rfl⟩⟩
      | false =>
        repeat' (first | refine bsplit_t (by decide) ?_ | fail)
        refine elev (Int.natCast_nonneg _) [AV.c (.string x)] (nmA_get _ _ _ hx) ?_
        repeat' (first | refine bsplit_t (by decide) ?_ | fail)
        refine call_pure (hfind x) rfl ?_
        rintro _ rfl
        have hyx := hyk x
        cases hfx : fy x with
        | some j =>
          rw [hfx] at hyx
          have hj : decide (((j : Nat) : Int) < 0) = false := decide_eq_false (by omega)
          repeat' (first | refine bsplit_t (by decide) ?_ | refine bsplit_f hj ?_ | fail)
          refine ⟨i + 1, by omega, (by dsimp only; omega), ⟨rfl, rfl, (by (repeat' (first | exact trivial | refine ⟨⟨?_, rfl⟩, ?_⟩ | fail)); all_goals (first | (show some (SV.v (AV.c (Value.int .i64 (IntKind.i64.wrap _)))) = _; rw [inc (by omega)]; try rfl) | rfl)), ⟨_, by
            show (_ : List SO) = [_, _, _, _, .arr 9 1 (nmA (missK v (tn.take (i + 1)) (tlo.take (i + 1))))] ++ _
            rw [show missK v (tn.take (i + 1)) (tlo.take (i + 1)) = missK v (tn.take i) (tlo.take i) by rw [hsn, if_pos (.inl hyx.symm), List.append_nil]]; rfl⟩, rfl⟩⟩
        | none =>
          rw [hfx] at hyx
          repeat' (first | refine bsplit_t (by decide) ?_ | fail)
          refine elev (Int.natCast_nonneg _) [AV.c (.string x)] (nmA_get _ _ _ hx) ?_
          refine side ⟨nmA_one [x], ?_⟩ ?_
          · rw [nmA_len]; show (_ + 1) * 17 ≤ 70368744177664; omega
          refine ⟨i + 1, by omega, (by dsimp only; omega), ⟨rfl, rfl, (by (repeat' (first | exact trivial | refine ⟨⟨?_, rfl⟩, ?_⟩ | fail)); all_goals (first | (show some (SV.v (AV.c (Value.int .i64 (IntKind.i64.wrap _)))) = _; rw [inc (by omega)]; try rfl) | rfl)), ⟨_, by
            show (_ : List SO) = [_, _, _, _, .arr 9 1 (nmA (missK v (tn.take (i + 1)) (tlo.take (i + 1))))] ++ _
            rw [hsn, if_neg (by rw [← hyx]; simp), nmA_app]; rfl⟩, rfl⟩⟩
    · rw [nmA_len] at k1
      have hil : i = tn.length := by omega
      subst hil
      rw [List.take_length, List.take_of_length_le (l := tlo) (by omega)]
      refine call_pure hto rfl ?_
      rintro _ rfl
      have hms : APure Tryz.prog 12 [kp (.mk tf tl tn tlo), vtA v] (fun r => r = .sl (nmA (missK v tn tlo))) := missing_t (.mk tf tl tn tlo) v (by simp only [KT.names, KT.loose]; omega) (by simp only [KT.names]; omega)
      refine call_pure hms rfl ?_
      rintro _ rfl
      have hne : decide (((nmA (missK v tn tlo)).length : Int) ≠ ((nmA (missK v tn tlo)).length : Int)) = false := by simp
      refine bsplit_f hne ?_
      clear hne
      have hwl := missK_len v tn tlo
      generalize missK v tn tlo = want at hwl
      refine loop_on hTS (X := Nat) (fun i => i ≤ want.length)
        (fun i => ⟨[(2, .v (.c (.int .i64 n))), (3, .v (.c (.string key))), (9, .ref 1 0), (11, .v (kp (.mk tf tl tn tlo))), (15, .v (.c (.int .i64 (holdsK tf)))), (16, .v (.c (.int .i64 (kmany (.mk tf tl tn tlo) n).1))), (17, .v (.c (.bool (kmany (.mk tf tl tn tlo) n).2))), (18, .v (.c (.int .i64 y4))), (19, .v (.c (.int .i64 y5))), (20, .ms 4), (22, .v (.sl (nmA want))), (23, .v (.c (.int .i64 (i : Int))))], []⟩)
        (fun _ => [.cells [.v (.c (.int .i64 rk)), .v (.c (.bool rb)), .v (.c (.int .i64 rn)), .v (.c (.int .i64 rm)), .v (.c (.string rs)), .v (.sl (rvL rl)), .v (.sl (nmA rks))], .cells [.v (.c (.int .i64 (tf : Int))), .v (.sl (ktRL tl)), .v (.sl (nmA tn)), .v (.sl (boA tlo))],
          .cells [.v (.c (.int .i64 (m : Int))), .v (.c (.int .i64 0))], .cells [.v (.c (.int .i64 yk)), .v (.c (.bool yb)), .v (.c (.int .i64 yn)), .v (.c (.int .i64 ym)), .v (.c (.string ys)), .v (.sl (rvL yl)), .v (.sl (nmA yks))], .arr 9 1 (nmA want)]) (fun i => want.length - i) 0 (Nat.zero_le _) ⟨rfl, rfl, (by (repeat' (first | exact trivial | refine ⟨⟨?_, rfl⟩, ?_⟩ | fail)); all_goals (first | (show some (SV.v (AV.c (Value.int .i64 (IntKind.i64.wrap _)))) = _; rw [inc (by omega)]; try rfl) | rfl)), ⟨_, rfl⟩, rfl⟩ ?_
      intro i hi2
      refine bsplit_d (fun k1 _ => ?_) (fun k1 _ => ?_)
      · rw [nmA_len] at k1
        obtain ⟨x, hx⟩ : ∃ x, want[i]? = some x := ⟨_, List.getElem?_eq_getElem (by omega)⟩
        refine draw_ev hTS (by kernel_rfl) (.pur 0 (.pur 1 (.pur 2 (.pur 4 (.pur 5 (.pur 6 (.part [] [] (.take 3 (.one 7 (.pur 8 .done)))))))))) (by kernel_rfl) ?_
        have hxn := nmA_get _ _ _ hx
        repeat' (first | refine bsplit_t (by first | with_reducible assumption | with_reducible rfl | with_reducible exact Bool.not_true | with_reducible exact Bool.not_false) ?_ | refine bsplit_f (by first | with_reducible assumption | with_reducible rfl | with_reducible exact Bool.not_true | with_reducible exact Bool.not_false) ?_ | refine elev (Int.natCast_nonneg _) [AV.c (.string x)] hxn ?_ | fail)
        have hne : decide (x ≠ x) = false := by simp
        refine bsplit_f hne ?_
        exact ⟨i + 1, by omega, (by dsimp only; omega), ⟨rfl, rfl, (by (repeat' (first | exact trivial | refine ⟨⟨?_, rfl⟩, ?_⟩ | fail)); all_goals (first | (show some (SV.v (AV.c (Value.int .i64 (IntKind.i64.wrap _)))) = _; rw [inc (by omega)]; try rfl) | rfl)), ⟨_, rfl⟩, rfl⟩⟩
      · have hit := item_t (.mk tf tl tn tlo) n f1
        refine call_pure hit rfl ?_
        rintro _ rfl
        have hpl := place_t (.mk tf tl tn tlo) n f1 (fun h => f4 (.inl h)) f2
        have hun := under_t (.mk tf tl tn tlo) key (fun h => f4 (.inr h)) (by
          simp only [KT.names, KT.l]
          by_cases h8 : tf = 8
          · rw [f5 h8]; exact Nat.le_refl _
          · rw [f6 h8]; simp) (by simp only [KT.names]; omega) f1
        have hdep : ∀ x : KT, x ∈ tl → wfK x ∧ kDeep x ≤ 4000000 := fun x hx => ⟨wfL_mem f10 hx, by
          have h1 := kDeepL_mem hx
          have h2 : kDeepL tl + 1 ≤ 8 := w2
          omega⟩
        generalize hkp : kplace (.mk tf tl tn tlo) n = op at hpl p4
        generalize hku : kunder (.mk tf tl tn tlo) key = ou at hun p5
        have hho := holds_t (.mk tf tl tn tlo)
        simp only [KT.form] at hho
        have e44 : decide (holdsK tf = holdsK tf) = true := decide_eq_true rfl
        have e45 : decide ((kmany (.mk tf tl tn tlo) n).1 = (kmany (.mk tf tl tn tlo) n).1) = true := decide_eq_true rfl
        have hn0 : (none : Option KT).isSome = false := rfl
        have hs0 : ∀ z : KT, (some z).isSome = true := fun _ => rfl
        cases op with
        | none =>
          have p4 : y4 < 0 := p4
          have e1 : (!decide ((none : Option KT).isSome = decide (0 ≤ y4))) = false := by rw [show decide (0 ≤ y4) = false from decide_eq_false (by omega)]; rfl
          cases ou with
          | none =>
            have p5 : y5 < 0 := p5
            have e2 : (!decide ((none : Option KT).isSome = decide (0 ≤ y5))) = false := by rw [show decide (0 ≤ y5) = false from decide_eq_false (by omega)]; rfl
            refine call_pure hpl rfl ?_
            rintro _ rfl
            refine call_pure hun rfl ?_
            rintro _ rfl
            refine draw_ev hTS (by kernel_rfl) (.pur 0 (.pur 1 (.pur 2 (.pur 3 (.pur 4 (.pur 5 (.pur 6 (.pur 7 (.pur 8 (.pur 9 (.pur 10 (.pur 11 (.pur 12 (.pur 13 (.pur 15 (.pur 17 (.part [] [] (.take 16 (.pur 18 (.take 19 (.one 14 (.one 20 (.pur 21 (.pur 22 (.pur 23 (.pur 24 (.pur 25 (.pur 26 (.pur 27 (.pur 29 (.pur 31 (.take 30 (.pur 32 (.take 33 (.one 28 (.one 34 (.pur 35 (.pur 36 (.pur 37 .done))))))))))))))))))))))))))))))))))))))) (by kernel_rfl) ?_
            repeat' (first | refine bsplit_t (by first | with_reducible assumption | with_reducible rfl | with_reducible exact Bool.not_true | with_reducible exact Bool.not_false) ?_ | refine bsplit_f (by first | with_reducible assumption | with_reducible rfl | with_reducible exact Bool.not_true | with_reducible exact Bool.not_false) ?_ | fail)
            repeat' (first | refine bsplit_t (by first | with_reducible assumption | with_reducible rfl | with_reducible exact Bool.not_true | with_reducible exact Bool.not_false) ?_ | refine bsplit_f (by first | with_reducible assumption | with_reducible rfl | with_reducible exact Bool.not_true | with_reducible exact Bool.not_false) ?_ | fail)
            refine call_pure hho rfl ?_
            rintro _ rfl
            repeat' (first | refine bsplit_t (by first | with_reducible assumption | with_reducible rfl | with_reducible exact Bool.not_true | with_reducible exact Bool.not_false) ?_ | refine bsplit_f (by first | with_reducible assumption | with_reducible rfl | with_reducible exact Bool.not_true | with_reducible exact Bool.not_false) ?_ | fail)
            show AV.c (.bool (decide ((kmany (.mk tf tl tn tlo) n).2 = (kmany (.mk tf tl tn tlo) n).2))) = _
            rw [decide_eq_true rfl]
          | some z =>
            have p5 : 0 ≤ y5 ∧ tl[y5.toNat]? = some z := p5
            have e2 : (!decide ((some z).isSome = decide (0 ≤ y5))) = false := by rw [show decide (0 ≤ y5) = true from decide_eq_true p5.1]; rfl
            have hsz := hs0 z
            refine call_pure hpl rfl ?_
            rintro _ rfl
            refine call_pure hun rfl ?_
            rintro _ rfl
            refine draw_ev hTS (by kernel_rfl) (.pur 0 (.pur 1 (.pur 2 (.pur 3 (.pur 4 (.pur 5 (.pur 6 (.pur 7 (.pur 8 (.pur 9 (.pur 10 (.pur 11 (.pur 12 (.pur 13 (.pur 15 (.pur 17 (.part [] [] (.take 16 (.pur 18 (.take 19 (.one 14 (.one 20 (.pur 21 (.pur 22 (.pur 23 (.pur 24 (.pur 25 (.pur 26 (.pur 27 (.pur 29 (.pur 31 (.take 30 (.pur 32 (.take 33 (.one 28 (.one 34 (.pur 35 (.pur 36 (.pur 37 .done))))))))))))))))))))))))))))))))))))))) (by kernel_rfl) ?_
            repeat' (first | refine bsplit_t (by first | with_reducible assumption | with_reducible rfl | with_reducible exact Bool.not_true | with_reducible exact Bool.not_false) ?_ | refine bsplit_f (by first | with_reducible assumption | with_reducible rfl | with_reducible exact Bool.not_true | with_reducible exact Bool.not_false) ?_ | fail)
            obtain ⟨zf, zl, zn, zo⟩ := z
            repeat' (first | refine bsplit_t (by first | with_reducible assumption | with_reducible rfl | with_reducible exact Bool.not_true | with_reducible exact Bool.not_false) ?_ | refine bsplit_f (by first | with_reducible assumption | with_reducible rfl | with_reducible exact Bool.not_true | with_reducible exact Bool.not_false) ?_ | refine elev p5.1 (ktR (.mk zf zl zn zo)) (ktRL_get _ _ _ p5.2) ?_ | fail)
            refine call_pure (deep_t _ (hdep _ (List.mem_of_getElem? p5.2)).1 (hdep _ (List.mem_of_getElem? p5.2)).2) rfl ?_
            rintro _ rfl
            repeat' (first | refine bsplit_t (by first | with_reducible assumption | with_reducible rfl | with_reducible exact Bool.not_true | with_reducible exact Bool.not_false) ?_ | refine bsplit_f (by first | with_reducible assumption | with_reducible rfl | with_reducible exact Bool.not_true | with_reducible exact Bool.not_false) ?_ | refine elev p5.1 (ktR (.mk zf zl zn zo)) (ktRL_get _ _ _ p5.2) ?_ | fail)
            refine call_pure (deep07_r _ (hdep _ (List.mem_of_getElem? p5.2)).1 (hdep _ (List.mem_of_getElem? p5.2)).2) rfl ?_
            rintro _ rfl
            have e59 : decide (((kDeep (.mk zf zl zn zo) : Nat) : Int) ≠ ((kDeep (.mk zf zl zn zo) : Nat) : Int)) = false := by simp
            repeat' (first | refine bsplit_t (by first | with_reducible assumption | with_reducible rfl | with_reducible exact Bool.not_true | with_reducible exact Bool.not_false) ?_ | refine bsplit_f (by first | with_reducible assumption | with_reducible rfl | with_reducible exact Bool.not_true | with_reducible exact Bool.not_false) ?_ | fail)
            refine call_pure hho rfl ?_
            rintro _ rfl
            repeat' (first | refine bsplit_t (by first | with_reducible assumption | with_reducible rfl | with_reducible exact Bool.not_true | with_reducible exact Bool.not_false) ?_ | refine bsplit_f (by first | with_reducible assumption | with_reducible rfl | with_reducible exact Bool.not_true | with_reducible exact Bool.not_false) ?_ | fail)
            show AV.c (.bool (decide ((kmany (.mk tf tl tn tlo) n).2 = (kmany (.mk tf tl tn tlo) n).2))) = _
            rw [decide_eq_true rfl]
        | some x =>
          have p4 : 0 ≤ y4 ∧ tl[y4.toNat]? = some x := p4
          have e1 : (!decide ((some x).isSome = decide (0 ≤ y4))) = false := by rw [show decide (0 ≤ y4) = true from decide_eq_true p4.1]; rfl
          have hsx := hs0 x
          cases ou with
          | none =>
            have p5 : y5 < 0 := p5
            have e2 : (!decide ((none : Option KT).isSome = decide (0 ≤ y5))) = false := by rw [show decide (0 ≤ y5) = false from decide_eq_false (by omega)]; rfl
            refine call_pure hpl rfl ?_
            rintro _ rfl
            refine call_pure hun rfl ?_
            rintro _ rfl
            refine draw_ev hTS (by kernel_rfl) (.pur 0 (.pur 1 (.pur 2 (.pur 3 (.pur 4 (.pur 5 (.pur 6 (.pur 7 (.pur 8 (.pur 9 (.pur 10 (.pur 11 (.pur 12 (.pur 13 (.pur 15 (.pur 17 (.part [] [] (.take 16 (.pur 18 (.take 19 (.one 14 (.one 20 (.pur 21 (.pur 22 (.pur 23 (.pur 24 (.pur 25 (.pur 26 (.pur 27 (.pur 29 (.pur 31 (.take 30 (.pur 32 (.take 33 (.one 28 (.one 34 (.pur 35 (.pur 36 (.pur 37 .done))))))))))))))))))))))))))))))))))))))) (by kernel_rfl) ?_
            repeat' (first | refine bsplit_t (by first | with_reducible assumption | with_reducible rfl | with_reducible exact Bool.not_true | with_reducible exact Bool.not_false) ?_ | refine bsplit_f (by first | with_reducible assumption | with_reducible rfl | with_reducible exact Bool.not_true | with_reducible exact Bool.not_false) ?_ | fail)
            obtain ⟨xf, xl, xn, xo⟩ := x
            repeat' (first | refine bsplit_t (by first | with_reducible assumption | with_reducible rfl | with_reducible exact Bool.not_true | with_reducible exact Bool.not_false) ?_ | refine bsplit_f (by first | with_reducible assumption | with_reducible rfl | with_reducible exact Bool.not_true | with_reducible exact Bool.not_false) ?_ | refine elev p4.1 (ktR (.mk xf xl xn xo)) (ktRL_get _ _ _ p4.2) ?_ | fail)
            refine call_pure (deep_t _ (hdep _ (List.mem_of_getElem? p4.2)).1 (hdep _ (List.mem_of_getElem? p4.2)).2) rfl ?_
            rintro _ rfl
            repeat' (first | refine bsplit_t (by first | with_reducible assumption | with_reducible rfl | with_reducible exact Bool.not_true | with_reducible exact Bool.not_false) ?_ | refine bsplit_f (by first | with_reducible assumption | with_reducible rfl | with_reducible exact Bool.not_true | with_reducible exact Bool.not_false) ?_ | refine elev p4.1 (ktR (.mk xf xl xn xo)) (ktRL_get _ _ _ p4.2) ?_ | fail)
            refine call_pure (deep07_r _ (hdep _ (List.mem_of_getElem? p4.2)).1 (hdep _ (List.mem_of_getElem? p4.2)).2) rfl ?_
            rintro _ rfl
            have e49 : decide (((kDeep (.mk xf xl xn xo) : Nat) : Int) ≠ ((kDeep (.mk xf xl xn xo) : Nat) : Int)) = false := by simp
            repeat' (first | refine bsplit_t (by first | with_reducible assumption | with_reducible rfl | with_reducible exact Bool.not_true | with_reducible exact Bool.not_false) ?_ | refine bsplit_f (by first | with_reducible assumption | with_reducible rfl | with_reducible exact Bool.not_true | with_reducible exact Bool.not_false) ?_ | fail)
            repeat' (first | refine bsplit_t (by first | with_reducible assumption | with_reducible rfl | with_reducible exact Bool.not_true | with_reducible exact Bool.not_false) ?_ | refine bsplit_f (by first | with_reducible assumption | with_reducible rfl | with_reducible exact Bool.not_true | with_reducible exact Bool.not_false) ?_ | fail)
            refine call_pure hho rfl ?_
            rintro _ rfl
            repeat' (first | refine bsplit_t (by first | with_reducible assumption | with_reducible rfl | with_reducible exact Bool.not_true | with_reducible exact Bool.not_false) ?_ | refine bsplit_f (by first | with_reducible assumption | with_reducible rfl | with_reducible exact Bool.not_true | with_reducible exact Bool.not_false) ?_ | fail)
            show AV.c (.bool (decide ((kmany (.mk tf tl tn tlo) n).2 = (kmany (.mk tf tl tn tlo) n).2))) = _
            rw [decide_eq_true rfl]
          | some z =>
            have p5 : 0 ≤ y5 ∧ tl[y5.toNat]? = some z := p5
            have e2 : (!decide ((some z).isSome = decide (0 ≤ y5))) = false := by rw [show decide (0 ≤ y5) = true from decide_eq_true p5.1]; rfl
            have hsz := hs0 z
            refine call_pure hpl rfl ?_
            rintro _ rfl
            refine call_pure hun rfl ?_
            rintro _ rfl
            refine draw_ev hTS (by kernel_rfl) (.pur 0 (.pur 1 (.pur 2 (.pur 3 (.pur 4 (.pur 5 (.pur 6 (.pur 7 (.pur 8 (.pur 9 (.pur 10 (.pur 11 (.pur 12 (.pur 13 (.pur 15 (.pur 17 (.part [] [] (.take 16 (.pur 18 (.take 19 (.one 14 (.one 20 (.pur 21 (.pur 22 (.pur 23 (.pur 24 (.pur 25 (.pur 26 (.pur 27 (.pur 29 (.pur 31 (.take 30 (.pur 32 (.take 33 (.one 28 (.one 34 (.pur 35 (.pur 36 (.pur 37 .done))))))))))))))))))))))))))))))))))))))) (by kernel_rfl) ?_
            repeat' (first | refine bsplit_t (by first | with_reducible assumption | with_reducible rfl | with_reducible exact Bool.not_true | with_reducible exact Bool.not_false) ?_ | refine bsplit_f (by first | with_reducible assumption | with_reducible rfl | with_reducible exact Bool.not_true | with_reducible exact Bool.not_false) ?_ | fail)
            obtain ⟨xf, xl, xn, xo⟩ := x
            repeat' (first | refine bsplit_t (by first | with_reducible assumption | with_reducible rfl | with_reducible exact Bool.not_true | with_reducible exact Bool.not_false) ?_ | refine bsplit_f (by first | with_reducible assumption | with_reducible rfl | with_reducible exact Bool.not_true | with_reducible exact Bool.not_false) ?_ | refine elev p4.1 (ktR (.mk xf xl xn xo)) (ktRL_get _ _ _ p4.2) ?_ | fail)
            refine call_pure (deep_t _ (hdep _ (List.mem_of_getElem? p4.2)).1 (hdep _ (List.mem_of_getElem? p4.2)).2) rfl ?_
            rintro _ rfl
            repeat' (first | refine bsplit_t (by first | with_reducible assumption | with_reducible rfl | with_reducible exact Bool.not_true | with_reducible exact Bool.not_false) ?_ | refine bsplit_f (by first | with_reducible assumption | with_reducible rfl | with_reducible exact Bool.not_true | with_reducible exact Bool.not_false) ?_ | refine elev p4.1 (ktR (.mk xf xl xn xo)) (ktRL_get _ _ _ p4.2) ?_ | fail)
            refine call_pure (deep07_r _ (hdep _ (List.mem_of_getElem? p4.2)).1 (hdep _ (List.mem_of_getElem? p4.2)).2) rfl ?_
            rintro _ rfl
            have e49 : decide (((kDeep (.mk xf xl xn xo) : Nat) : Int) ≠ ((kDeep (.mk xf xl xn xo) : Nat) : Int)) = false := by simp
            repeat' (first | refine bsplit_t (by first | with_reducible assumption | with_reducible rfl | with_reducible exact Bool.not_true | with_reducible exact Bool.not_false) ?_ | refine bsplit_f (by first | with_reducible assumption | with_reducible rfl | with_reducible exact Bool.not_true | with_reducible exact Bool.not_false) ?_ | fail)
            obtain ⟨zf, zl, zn, zo⟩ := z
            repeat' (first | refine bsplit_t (by first | with_reducible assumption | with_reducible rfl | with_reducible exact Bool.not_true | with_reducible exact Bool.not_false) ?_ | refine bsplit_f (by first | with_reducible assumption | with_reducible rfl | with_reducible exact Bool.not_true | with_reducible exact Bool.not_false) ?_ | refine elev p5.1 (ktR (.mk zf zl zn zo)) (ktRL_get _ _ _ p5.2) ?_ | fail)
            refine call_pure (deep_t _ (hdep _ (List.mem_of_getElem? p5.2)).1 (hdep _ (List.mem_of_getElem? p5.2)).2) rfl ?_
            rintro _ rfl
            repeat' (first | refine bsplit_t (by first | with_reducible assumption | with_reducible rfl | with_reducible exact Bool.not_true | with_reducible exact Bool.not_false) ?_ | refine bsplit_f (by first | with_reducible assumption | with_reducible rfl | with_reducible exact Bool.not_true | with_reducible exact Bool.not_false) ?_ | refine elev p5.1 (ktR (.mk zf zl zn zo)) (ktRL_get _ _ _ p5.2) ?_ | fail)
            refine call_pure (deep07_r _ (hdep _ (List.mem_of_getElem? p5.2)).1 (hdep _ (List.mem_of_getElem? p5.2)).2) rfl ?_
            rintro _ rfl
            have e59 : decide (((kDeep (.mk zf zl zn zo) : Nat) : Int) ≠ ((kDeep (.mk zf zl zn zo) : Nat) : Int)) = false := by simp
            repeat' (first | refine bsplit_t (by first | with_reducible assumption | with_reducible rfl | with_reducible exact Bool.not_true | with_reducible exact Bool.not_false) ?_ | refine bsplit_f (by first | with_reducible assumption | with_reducible rfl | with_reducible exact Bool.not_true | with_reducible exact Bool.not_false) ?_ | fail)
            refine call_pure hho rfl ?_
            rintro _ rfl
            repeat' (first | refine bsplit_t (by first | with_reducible assumption | with_reducible rfl | with_reducible exact Bool.not_true | with_reducible exact Bool.not_false) ?_ | refine bsplit_f (by first | with_reducible assumption | with_reducible rfl | with_reducible exact Bool.not_true | with_reducible exact Bool.not_false) ?_ | fail)
            show AV.c (.bool (decide ((kmany (.mk tf tl tn tlo) n).2 = (kmany (.mk tf tl tn tlo) n).2))) = _
            rw [decide_eq_true rfl]

end Go.AV0
