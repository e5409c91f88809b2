/- Composite literals, stores, maps that are written, slices that grow. -/
import Derived.Test.YthbglcdcfdjbbaaFwH
namespace Go.AV0

/-! ### composite literals -/
def sizesOf (T : TT) : List (Nat × TypeId) → Option (List (Nat × Nat))
  | [] => some []
  | (off, t) :: l => match T.find t, sizesOf T l with
    | some i, some r => some ((off, i.size) :: r)
    | _, _ => none

theorem list_mapM_run {P : Program} {w : World} {α β : Type} (f : α → Sem β) (g : α → β) : ∀ (l : List α), (∀ x ∈ l, (f x).run P w = .ok (g x) w) → (l.mapM f).run P w = .ok (l.map g) w
  | [], _ => by simp
  | x :: l, h => by
    rw [List.mapM_cons]
    simp only [Sem.run_bind, h x (by simp), Result.andThen_ok, list_mapM_run f g l (fun y hy => h y (by simp [hy])), Sem.run_pure, List.map_cons]

theorem arr_mapM_run {P : Program} {w : World} {α β : Type} (f : α → Sem β) (g : α → β) (a : Array α) (h : ∀ x ∈ a.toList, (f x).run P w = .ok (g x) w) : (a.mapM f).run P w = .ok (a.map g) w := by
  rw [Array.mapM_eq_mapM_toList]
  simp only [Sem.run_map, list_mapM_run f g a.toList h, Result.andThen_ok]
  congr 1
  apply Array.ext'
  simp

theorem sizesOf_ok {P : Program} {T : TT} (hT : T.all P = true) : ∀ {l : List Field} {r : List (Nat × Nat)}, sizesOf T (l.map fun f => (f.offset, f.type)) = some r →
    (∀ f ∈ l, ∀ w, (do pure (f.offset, ← sizeOf f.type) : Sem (Nat × Nat)).run P w = .ok (f.offset, (P.cellsOf f.type)) w) ∧ r = l.map fun f => (f.offset, P.cellsOf f.type)
  | [], r, h => by simp only [List.map_nil, sizesOf] at h; cases h; simp
  | f :: l, r, h => by
    simp only [List.map_cons, sizesOf] at h
    split at h <;> try (cases h; done)
    rename_i i r' hi hr'
    cases h
    obtain ⟨g1, g2⟩ := sizesOf_ok hT hr'
    have ht := TT.ok hT _ _ hi
    have hz : P.cellsOf f.type = i.size := by
      obtain ⟨f', d, z, h1, h2, h3, _⟩ := ht.ex
      simp [Program.cellsOf, h1, h3]
    refine ⟨?_, by rw [g2, List.map_cons, hz]⟩
    intro y hy w
    rcases List.mem_cons.1 hy with rfl | hy
    · simp [run_sizeOf ht, hz]
    · exact g1 y hy w

def evP (α : AF) : List (Nat × Operand) → Option (List (Nat × SV))
  | [] => some []
  | (i, x) :: l => match evs α x, evP α l with
    | some s, some r => some ((i, s) :: r)
    | _, _ => none

theorem evP_ok {ι N w M n α a} (H : FR ι N w M n α a) : ∀ {l : List (Nat × Operand)} {r : List (Nat × SV)}, evP α l = some r → RepP ι N w M r (l.map fun (p : Nat × Operand) => (p.1, a.eval p.2))
  | [], r, h => by simp only [evP] at h; cases h; simp [RepP]
  | (i, x) :: l, r, h => by
    simp only [evP] at h
    split at h <;> cases h
    rename_i s r' h1 h2
    simp only [List.map_cons, RepP]
    exact ⟨_, _, rfl, evs_ok H h1, evP_ok H h2⟩

def vbuild (T : TT) (t : Nat) (parts : List (Nat × SV)) (K : SV → Prop) : Prop :=
  onO (T.find t) fun i => match i.k with
    | .st fs => onO (sizesOf T fs) fun pl => onO (afill (fun j => nth pl j) (i.zero.map fun v => .v (ofVal v)) parts) fun l => K (mkAgg l)
    | .ar _ e => onO (T.find e) fun j => onO (afill (fun k => some (k * j.size, j.size)) (i.zero.map fun v => .v (ofVal v)) parts) fun l => K (mkAgg l)
    | _ => False

theorem vbuild_ok {P : Program} {T : TT} (hT : T.all P = true) {t : Nat} {parts : List (Nat × SV)} {parts' : Array (Nat × Value)} {K : SV → Prop} {ι N w M} (hv : vbuild T t parts K) (hr : RepP ι N w M parts parts'.toList) :
    ∃ c s, (∀ w', (Instr.build t parts').run P w' = .ok c w') ∧ K s ∧ RepS ι N w M s c := by
  have h0 := onO_some hv; clear hv
  obtain ⟨i, hi, hv⟩ := h0
  have ht := TT.ok hT t i hi
  obtain ⟨z, h1, h2, h3⟩ := run_zero ht
  have hz : RepSL ι N w M (i.zero.map fun v => .v (ofVal v)) z.cells.toList := by
    rw [h2]
    have := RepSL.ofL (ι := ι) (N := N) (repL_ofVal w M i.zero)
    simpa [Function.comp_def] using this
  cases hk : i.k with
  | st fs =>
    simp only [hk] at hv
    obtain ⟨pl, hpl, hv⟩ := onO_some hv
    obtain ⟨l, hl, hv⟩ := onO_some hv
    obtain ⟨a, g1, g2⟩ := und_st ht hk
    rw [← g2] at hpl
    obtain ⟨g3, g4⟩ := sizesOf_ok hT hpl
    have hm := fun w' => arr_mapM_run (P := P) (w := w') (fun f : Field => (do pure (f.offset, ← sizeOf f.type) : Sem (Nat × Nat))) (fun f => (f.offset, P.cellsOf f.type)) a (fun x hx => g3 x hx w')
    obtain ⟨cs', k1, k2, _⟩ := afill_ok (place' := fun i => (a.map fun f => (f.offset, P.cellsOf f.type))[i]?) (by
      intro j p hp
      rw [nth_eq, g4] at hp
      simpa using hp) hl hz hr
    refine ⟨.agg cs', _, ?_, hv, by simpa using mkAgg_rep k2⟩
    intro w'
    simp only [Instr.build, Sem.run_bind, h1, Result.andThen_ok, run_underlying g1, hm, k1, Sem.run_pure]
  | ar n e =>
    simp only [hk] at hv
    obtain ⟨j, hj, hv⟩ := onO_some hv
    obtain ⟨l, hl, hv⟩ := onO_some hv
    obtain ⟨cs', k1, k2, _⟩ := afill_ok (place' := fun k => some (k * j.size, j.size)) (fun i p hp => hp) hl hz hr
    refine ⟨.agg cs', _, ?_, hv, by simpa using mkAgg_rep k2⟩
    intro w'
    simp only [Instr.build, Sem.run_bind, h1, Result.andThen_ok, run_underlying (und_ar ht hk), run_sizeOf (TT.ok hT _ _ hj), k1, Sem.run_pure]
  | _ => simp only [hk] at hv

/-- the parts of a slice's literal, in their order -/
def elsP (z : Nat) : Nat → List (Nat × SV) → Option (List (List AV))
  | _, [] => some []
  | k, (i, s) :: l => match cellsO s with
    | some c => match closedL c with
      | some x => bif Nat.beq i k && Nat.beq x.length z then (match elsP z (k + 1) l with
        | some r => some (x :: r)
        | none => none) else none
      | none => none
    | none => none

theorem elsP_ok {ι N w M z} : ∀ {k : Nat} {parts : List (Nat × SV)} {parts' : List (Nat × Value)} {els : List (List AV)} {pre : List Value} (post : List Value), elsP z k parts = some els → RepP ι N w M parts parts' → pre.length = k * z → post.length = parts.length * z →
    ∃ cs, Instr.fill (fun i => some (i * z, z)) (pre ++ post).toArray parts' = some (pre ++ cs).toArray ∧ RepL w M els.flatten cs ∧ (∀ x ∈ els, x.length = z) ∧ els.length = parts.length
  | k, [], parts', els, pre, post, h, hr, hp, hq => by
    simp only [elsP] at h; cases h
    simp only [RepP] at hr; subst hr
    have : post = [] := List.eq_nil_of_length_eq_zero (by simpa using hq)
    subst this
    exact ⟨[], by simp [Instr.fill], by simp [RepL], by simp, rfl⟩
  | k, (i, s) :: l, parts', els, pre, post, h, hr, hp, hq => by
    simp only [elsP] at h
    split at h <;> try (cases h; done)
    rename_i c hc
    split at h <;> try (cases h; done)
    rename_i x hx
    rcases nbeq (a := i) (b := k) with ⟨e1, hik⟩ | ⟨e1, _⟩
    · rcases nbeq (a := x.length) (b := z) with ⟨e2, hxz⟩ | ⟨e2, _⟩
      · simp only [e1, e2, Bool.and_self, cond_true] at h
        split at h <;> try (cases h; done)
        rename_i r hrr
        cases h
        simp only [RepP] at hr; obtain ⟨v, ps', rfl, h1, h2⟩ := hr
        subst hik
        have hcl := cellsO_ok hc h1
        rw [closedL_map hx] at hcl
        have hcl := hcl.toL
        have hln := hcl.length
        simp only [Array.length_toList] at hln
        simp only [List.length_cons, Nat.add_mul, Nat.one_mul] at hq
        obtain ⟨cs, k1, k2, k3, k4⟩ := elsP_ok (pre := pre ++ v.cells.toList) (post.drop z) hrr h2 (by simp [hp, Nat.add_mul]; omega) (by simp; omega)
        refine ⟨v.cells.toList ++ cs, ?_, ?_, ?_, ?_⟩
        · simp only [Instr.fill]
          have hsz : (pre ++ post).toArray.size = i * z + l.length * z + z := by simp [hp, hq]; omega
          have : ¬ ((decide (v.cells.size ≠ z) || decide (i * z + v.cells.size > (pre ++ post).toArray.size)) = true) := by
            rw [hsz]; simp; omega
          rw [if_neg this]
          have hf := foldl_arr v.cells (i * z) (pre ++ post).toArray (by rw [hsz]; omega)
          have he : v.cells.zipIdx.foldl (fun cs (x : Value × Nat) => cs.setIfInBounds (i * z + x.2) x.1) (pre ++ post).toArray = (pre ++ v.cells.toList ++ post.drop z).toArray := by
            apply Array.ext'
            rw [hf]
            have e3 : List.take (i * z) (pre ++ post) = pre := by rw [← hp]; exact List.take_left
            have e4 : List.drop (i * z + v.cells.size) (pre ++ post) = post.drop z := by
              rw [← hp, ← List.drop_drop, List.drop_left, show v.cells.size = z by omega]
            simp only [e3, e4]
          have := k1
          rw [← he] at this
          rw [← List.append_assoc]
          exact this
        · simp only [List.flatten_cons]; exact RepL.append hcl k2
        · intro y hy
          rcases List.mem_cons.1 hy with rfl | hy
          · exact hxz
          · exact k3 y hy
        · simp [k4]
      · simp only [e1, e2, Bool.and_false, cond_false] at h; cases h
    · simp only [e1, Bool.false_and, cond_false] at h; cases h

def vbuildSlice (T : TT) (t len : Nat) (parts : List (Nat × SV)) (α : AF) (h : List SO) (K : SV → AF → List SO → Prop) : Prop :=
  onO (slOf T t) fun q => onO (elsP q.2.size 0 parts) fun els => bif Nat.beq len parts.length && Nat.ble (len * q.2.size) 16777216 && Nat.ble 1 q.2.size && Nat.beq q.2.zero.length q.2.size then
    forceN h.length fun id => K (.ms id) α (h ++ [.arr q.1 q.2.size els]) else False

theorem vbuildSlice_ok {P : Program} {T : TT} (hT : T.all P = true) {t len : Nat} {parts : List (Nat × SV)} {parts' : Array (Nat × Value)} {ι w M h us n a α} {K : SV → AF → List SO → Prop} (hv : vbuildSlice T t len parts α h K)
    (H : St ι w M h) (F : FR ι h.length w M n α a) (hr : RepP ι h.length w M parts parts'.toList) : Out ι w M h us n a K ((Instr.buildSlice t len parts').run P w) := by
  obtain ⟨⟨e, j⟩, hq, hv⟩ := onO_some hv
  obtain ⟨els, he, hv⟩ := onO_some hv
  obtain ⟨h1, h2⟩ := slOf_ok hT hq
  simp only at he hv
  cases hb : (Nat.beq len parts.length && Nat.ble (len * j.size) 16777216 && Nat.ble 1 j.size && Nat.beq j.zero.length j.size) with
  | false => rw [hb] at hv; exact hv.elim
  | true =>
    rw [hb] at hv; simp only [cond_true, forceN_eq] at hv
    simp only [Bool.and_eq_true] at hb
    obtain ⟨⟨⟨b1, b2⟩, b3⟩, b4⟩ := hb
    have b1 := Nat.eq_of_beq_eq_true b1
    have b2 := Nat.le_of_ble_eq_true b2
    have b3 := Nat.le_of_ble_eq_true b3
    have b4 := Nat.eq_of_beq_eq_true b4
    obtain ⟨z, g1, g2, g3⟩ := run_zero h2
    obtain ⟨cs, k1, k2, k3, k4⟩ := elsP_ok (pre := []) (((Array.range (len * j.size)).map (z.cells[· % z.cells.size]!)).toList) he hr (by simp) (by simp [b1])
    simp only [List.nil_append, Array.toArray_toList] at k1
    have hel : els.length = len := by omega
    have := pushArr_ok (us := us) H F (els := els) (z := j.size) (cs := cs.toArray) e k3 (by
      have : len ≤ len * j.size := Nat.le_mul_of_pos_right _ b3
      rw [hel]; unfold maxLen; omega) (by simpa using k2) hv
    rw [hel] at this
    have hne : ¬ (len * j.size > 2 ^ 24) := by omega
    by_cases h00 : len * j.size = 0
    · have hl0 : len = 0 := by
        rcases Nat.mul_eq_zero.1 h00 with h | h
        · exact h
        · omega
      subst hl0
      have e0 : Array.range 0 = (#[] : Array Nat) := rfl
      simp only [Nat.zero_mul, e0, List.map_toArray, List.map_nil] at k1
      have hrun : (Instr.buildSlice t 0 parts').run P w = .ok (.slice (some ⟨w.heap.size, 0, none⟩) 0 0) { w with heap := w.heap.push (.cells cs.toArray e) } := by
        simp [Instr.buildSlice, run_underlying h1, run_sizeOf h2, e0, newRow]
        rw [k1]; rfl
      rw [hrun]; exact this
    · simp only [Instr.buildSlice, Sem.run_bind, run_underlying h1, Result.andThen_ok, run_sizeOf h2, if_neg hne, h00, if_false, g1, Sem.run_pure, k1, newRow, run_newObj]
      exact this

end Go.AV0
