/- KindPartsUptoSaid: of any type what it holds, for each text, value, number and key of bulk at most 1048576. This text: FwI, FwJ, FwK, FwL, FwM, FwN, FwO. -/
import Derived.Test.YthbglcdcfdjbbaaGreatMa
/- Composite literals, stores, maps that are written, slices that grow. -/
namespace Go.AV0

/-! ### composite literals -/
def sizesOf (T : TT) : List (Nat × TypeId) → Option (List (Nat × Nat))
  | [] => some []
  | (off, t) :: l => match T.find t, sizesOf T l with
    | some i, some r => some ((off, i.size) :: r)
    | _, _ => none

theorem list_mapM_run {P : Program} {w : World} {α β : Type} (f : α → Sem β) (g : α → β) : ∀ (l : List α), (∀ x ∈ l, (f x).run P w = .ok (g x) w) → (l.mapM f).run P w = .ok (l.map g) w
  | [], _ => by simp
  | x :: l, h => by
    rw [List.mapM_cons]
    simp only [Sem.run_bind, h x (by simp), Result.andThen_ok, list_mapM_run f g l (fun y hy => h y (by simp [hy])), Sem.run_pure, List.map_cons]

theorem arr_mapM_run {P : Program} {w : World} {α β : Type} (f : α → Sem β) (g : α → β) (a : Array α) (h : ∀ x ∈ a.toList, (f x).run P w = .ok (g x) w) : (a.mapM f).run P w = .ok (a.map g) w := by
  rw [Array.mapM_eq_mapM_toList]
  simp only [Sem.run_map, list_mapM_run f g a.toList h, Result.andThen_ok]
  congr 1
  apply Array.ext'
  simp

theorem sizesOf_ok {P : Program} {T : TT} (hT : T.all P = true) : ∀ {l : List Field} {r : List (Nat × Nat)}, sizesOf T (l.map fun f => (f.offset, f.type)) = some r →
    (∀ f ∈ l, ∀ w, (do pure (f.offset, ← sizeOf f.type) : Sem (Nat × Nat)).run P w = .ok (f.offset, (P.cellsOf f.type)) w) ∧ r = l.map fun f => (f.offset, P.cellsOf f.type)
  | [], r, h => by simp only [List.map_nil, sizesOf] at h; cases h; simp
  | f :: l, r, h => by
    simp only [List.map_cons, sizesOf] at h
    split at h <;> try (cases h; done)
    rename_i i r' hi hr'
    cases h
    obtain ⟨g1, g2⟩ := sizesOf_ok hT hr'
    have ht := TT.ok hT _ _ hi
    have hz : P.cellsOf f.type = i.size := by
      obtain ⟨f', d, z, h1, h2, h3, _⟩ := ht.ex
      simp [Program.cellsOf, h1, h3]
    refine ⟨?_, by rw [g2, List.map_cons, hz]⟩
    intro y hy w
    rcases List.mem_cons.1 hy with rfl | hy
    · simp [run_sizeOf ht, hz]
    · exact g1 y hy w

def evP (α : AF) : List (Nat × Operand) → Option (List (Nat × SV))
  | [] => some []
  | (i, x) :: l => match evs α x, evP α l with
    | some s, some r => some ((i, s) :: r)
    | _, _ => none

theorem evP_ok {ι N w M n α a} (H : FR ι N w M n α a) : ∀ {l : List (Nat × Operand)} {r : List (Nat × SV)}, evP α l = some r → RepP ι N w M r (l.map fun (p : Nat × Operand) => (p.1, a.eval p.2))
  | [], r, h => by simp only [evP] at h; cases h; simp [RepP]
  | (i, x) :: l, r, h => by
    simp only [evP] at h
    split at h <;> cases h
    rename_i s r' h1 h2
    simp only [List.map_cons, RepP]
    exact ⟨_, _, rfl, evs_ok H h1, evP_ok H h2⟩

def vbuild (T : TT) (t : Nat) (parts : List (Nat × SV)) (K : SV → Prop) : Prop :=
  onO (T.find t) fun i => match i.k with
    | .st fs => onO (sizesOf T fs) fun pl => onO (afill (fun j => nth pl j) (i.zero.map fun v => .v (ofVal v)) parts) fun l => K (mkAgg l)
    | .ar _ e => onO (T.find e) fun j => onO (afill (fun k => some (k * j.size, j.size)) (i.zero.map fun v => .v (ofVal v)) parts) fun l => K (mkAgg l)
    | _ => False

theorem vbuild_ok {P : Program} {T : TT} (hT : T.all P = true) {t : Nat} {parts : List (Nat × SV)} {parts' : Array (Nat × Value)} {K : SV → Prop} {ι N w M} (hv : vbuild T t parts K) (hr : RepP ι N w M parts parts'.toList) :
    ∃ c s, (∀ w', (Instr.build t parts').run P w' = .ok c w') ∧ K s ∧ RepS ι N w M s c := by
  have h0 := onO_some hv; clear hv
  obtain ⟨i, hi, hv⟩ := h0
  have ht := TT.ok hT t i hi
  obtain ⟨z, h1, h2, h3⟩ := run_zero ht
  have hz : RepSL ι N w M (i.zero.map fun v => .v (ofVal v)) z.cells.toList := by
    rw [h2]
    have := RepSL.ofL (ι := ι) (N := N) (repL_ofVal w M i.zero)
    simpa [Function.comp_def] using this
  cases hk : i.k with
  | st fs =>
    simp only [hk] at hv
    obtain ⟨pl, hpl, hv⟩ := onO_some hv
    obtain ⟨l, hl, hv⟩ := onO_some hv
    obtain ⟨a, g1, g2⟩ := und_st ht hk
    rw [← g2] at hpl
    obtain ⟨g3, g4⟩ := sizesOf_ok hT hpl
    have hm := fun w' => arr_mapM_run (P := P) (w := w') (fun f : Field => (do pure (f.offset, ← sizeOf f.type) : Sem (Nat × Nat))) (fun f => (f.offset, P.cellsOf f.type)) a (fun x hx => g3 x hx w')
    obtain ⟨cs', k1, k2, _⟩ := afill_ok (place' := fun i => (a.map fun f => (f.offset, P.cellsOf f.type))[i]?) (by
      intro j p hp
      rw [nth_eq, g4] at hp
      simpa using hp) hl hz hr
    refine ⟨.agg cs', _, ?_, hv, by simpa using mkAgg_rep k2⟩
    intro w'
    simp only [Instr.build, Sem.run_bind, h1, Result.andThen_ok, run_underlying g1, hm, k1, Sem.run_pure]
  | ar n e =>
    simp only [hk] at hv
    obtain ⟨j, hj, hv⟩ := onO_some hv
    obtain ⟨l, hl, hv⟩ := onO_some hv
    obtain ⟨cs', k1, k2, _⟩ := afill_ok (place' := fun k => some (k * j.size, j.size)) (fun i p hp => hp) hl hz hr
    refine ⟨.agg cs', _, ?_, hv, by simpa using mkAgg_rep k2⟩
    intro w'
    simp only [Instr.build, Sem.run_bind, h1, Result.andThen_ok, run_underlying (und_ar ht hk), run_sizeOf (TT.ok hT _ _ hj), k1, Sem.run_pure]
  | _ => simp only [hk] at hv

/-- the parts of a slice's literal, in their order -/
def elsP (z : Nat) : Nat → List (Nat × SV) → Option (List (List AV))
  | _, [] => some []
  | k, (i, s) :: l => match cellsO s with
    | some c => match closedL c with
      | some x => bif Nat.beq i k && Nat.beq x.length z then (match elsP z (k + 1) l with
        | some r => some (x :: r)
        | none => none) else none
      | none => none
    | none => none

theorem elsP_ok {ι N w M z} : ∀ {k : Nat} {parts : List (Nat × SV)} {parts' : List (Nat × Value)} {els : List (List AV)} {pre : List Value} (post : List Value), elsP z k parts = some els → RepP ι N w M parts parts' → pre.length = k * z → post.length = parts.length * z →
    ∃ cs, Instr.fill (fun i => some (i * z, z)) (pre ++ post).toArray parts' = some (pre ++ cs).toArray ∧ RepL w M els.flatten cs ∧ (∀ x ∈ els, x.length = z) ∧ els.length = parts.length
  | k, [], parts', els, pre, post, h, hr, hp, hq => by
    simp only [elsP] at h; cases h
    simp only [RepP] at hr; subst hr
    have : post = [] := List.eq_nil_of_length_eq_zero (by simpa using hq)
    subst this
    exact ⟨[], by simp [Instr.fill], by simp [RepL], by simp, rfl⟩
  | k, (i, s) :: l, parts', els, pre, post, h, hr, hp, hq => by
    simp only [elsP] at h
    split at h <;> try (cases h; done)
    rename_i c hc
    split at h <;> try (cases h; done)
    rename_i x hx
    rcases nbeq (a := i) (b := k) with ⟨e1, hik⟩ | ⟨e1, _⟩
    · rcases nbeq (a := x.length) (b := z) with ⟨e2, hxz⟩ | ⟨e2, _⟩
      · simp only [e1, e2, Bool.and_self, cond_true] at h
        split at h <;> try (cases h; done)
        rename_i r hrr
        cases h
        simp only [RepP] at hr; obtain ⟨v, ps', rfl, h1, h2⟩ := hr
        subst hik
        have hcl := cellsO_ok hc h1
        rw [closedL_map hx] at hcl
        have hcl := hcl.toL
        have hln := hcl.length
        simp only [Array.length_toList] at hln
        simp only [List.length_cons, Nat.add_mul, Nat.one_mul] at hq
        obtain ⟨cs, k1, k2, k3, k4⟩ := elsP_ok (pre := pre ++ v.cells.toList) (post.drop z) hrr h2 (by simp [hp, Nat.add_mul]; omega) (by simp; omega)
        refine ⟨v.cells.toList ++ cs, ?_, ?_, ?_, ?_⟩
        · simp only [Instr.fill]
          have hsz : (pre ++ post).toArray.size = i * z + l.length * z + z := by simp [hp, hq]; omega
          have : ¬ ((decide (v.cells.size ≠ z) || decide (i * z + v.cells.size > (pre ++ post).toArray.size)) = true) := by
            rw [hsz]; simp; omega
          rw [if_neg this]
          have hf := foldl_arr v.cells (i * z) (pre ++ post).toArray (by rw [hsz]; omega)
          have he : v.cells.zipIdx.foldl (fun cs (x : Value × Nat) => cs.setIfInBounds (i * z + x.2) x.1) (pre ++ post).toArray = (pre ++ v.cells.toList ++ post.drop z).toArray := by
            apply Array.ext'
            rw [hf]
            have e3 : List.take (i * z) (pre ++ post) = pre := by rw [← hp]; exact List.take_left
            have e4 : List.drop (i * z + v.cells.size) (pre ++ post) = post.drop z := by
              rw [← hp, ← List.drop_drop, List.drop_left, show v.cells.size = z by omega]
            simp only [e3, e4]
          have := k1
          rw [← he] at this
          rw [← List.append_assoc]
          exact this
        · simp only [List.flatten_cons]; exact RepL.append hcl k2
        · intro y hy
          rcases List.mem_cons.1 hy with rfl | hy
          · exact hxz
          · exact k3 y hy
        · simp [k4]
      · simp only [e1, e2, Bool.and_false, cond_false] at h; cases h
    · simp only [e1, Bool.false_and, cond_false] at h; cases h

def vbuildSlice (T : TT) (t len : Nat) (parts : List (Nat × SV)) (α : AF) (h : List SO) (K : SV → AF → List SO → Prop) : Prop :=
  onO (slOf T t) fun q => onO (elsP q.2.size 0 parts) fun els => bif Nat.beq len parts.length && Nat.ble (len * q.2.size) 16777216 && Nat.ble 1 q.2.size && Nat.beq q.2.zero.length q.2.size then
    forceN h.length fun id => K (.ms id) α (h ++ [.arr q.1 q.2.size els]) else False

theorem vbuildSlice_ok {P : Program} {T : TT} (hT : T.all P = true) {t len : Nat} {parts : List (Nat × SV)} {parts' : Array (Nat × Value)} {ι w M h us n a α} {K : SV → AF → List SO → Prop} (hv : vbuildSlice T t len parts α h K)
    (H : St ι w M h) (F : FR ι h.length w M n α a) (hr : RepP ι h.length w M parts parts'.toList) : Out ι w M h us n a K ((Instr.buildSlice t len parts').run P w) := by
  obtain ⟨⟨e, j⟩, hq, hv⟩ := onO_some hv
  obtain ⟨els, he, hv⟩ := onO_some hv
  obtain ⟨h1, h2⟩ := slOf_ok hT hq
  simp only at he hv
  cases hb : (Nat.beq len parts.length && Nat.ble (len * j.size) 16777216 && Nat.ble 1 j.size && Nat.beq j.zero.length j.size) with
  | false => rw [hb] at hv; exact hv.elim
  | true =>
    rw [hb] at hv; simp only [cond_true, forceN_eq] at hv
    simp only [Bool.and_eq_true] at hb
    obtain ⟨⟨⟨b1, b2⟩, b3⟩, b4⟩ := hb
    have b1 := Nat.eq_of_beq_eq_true b1
    have b2 := Nat.le_of_ble_eq_true b2
    have b3 := Nat.le_of_ble_eq_true b3
    have b4 := Nat.eq_of_beq_eq_true b4
    obtain ⟨z, g1, g2, g3⟩ := run_zero h2
    obtain ⟨cs, k1, k2, k3, k4⟩ := elsP_ok (pre := []) (((Array.range (len * j.size)).map (z.cells[· % z.cells.size]!)).toList) he hr (by simp) (by simp [b1])
    simp only [List.nil_append, Array.toArray_toList] at k1
    have hel : els.length = len := by omega
    have := pushArr_ok (us := us) H F (els := els) (z := j.size) (cs := cs.toArray) e k3 (by
      have : len ≤ len * j.size := Nat.le_mul_of_pos_right _ b3
      rw [hel]; unfold maxLen; omega) (by simpa using k2) hv
    rw [hel] at this
    have hne : ¬ (len * j.size > 2 ^ 24) := by omega
    by_cases h00 : len * j.size = 0
    · have hl0 : len = 0 := by
        rcases Nat.mul_eq_zero.1 h00 with h | h
        · exact h
        · omega
      subst hl0
      have e0 : Array.range 0 = (#[] : Array Nat) := rfl
      simp only [Nat.zero_mul, e0, List.map_toArray, List.map_nil] at k1
      have hrun : (Instr.buildSlice t 0 parts').run P w = .ok (.slice (some ⟨w.heap.size, 0, none⟩) 0 0) { w with heap := w.heap.push (.cells cs.toArray e) } := by
        simp [Instr.buildSlice, run_underlying h1, run_sizeOf h2, e0, newRow]
        rw [k1]; rfl
      rw [hrun]; exact this
    · simp only [Instr.buildSlice, Sem.run_bind, run_underlying h1, Result.andThen_ok, run_sizeOf h2, if_neg hne, h00, if_false, g1, Sem.run_pure, k1, newRow, run_newObj]
      exact this

end Go.AV0
/- Stores, maps that are written, slices that grow, lengths, conversions. -/
namespace Go.AV0

theorem run_storeVar {P : Program} {T : TT} (hT : T.all P = true) {t : Nat} {i : TI} (hi : T.find t = some i) {w : World} {b off : Nat} {cs : Array Value} {e : TypeId} {c : Value}
    (hb : w.heap[b]? = some (.cells cs e (0, 0))) (hz : c.cells.size = i.size) (hf : off + c.cells.size ≤ cs.size) (h1 : ∀ v ∈ c.cells.toList, v.oneCell' = true) :
    (Instr.storeAt t (.pointer (some ⟨b, off, none⟩)) c).run P w = .ok () (w.setRow b (cs.toList.take off ++ c.cells.toList ++ cs.toList.drop (off + c.cells.size)).toArray) := by
  have hst := run_storeCells_at P b off e c.cells.toList 0 cs w hb (by simpa using hf) h1
  simp only [Nat.add_zero, Array.length_toList] at hst
  simp only [Instr.storeAt, Instr.sureAddr, storeVar, Sem.run_bind, Sem.run_pure, Result.andThen_ok, run_sizeOf (TT.ok hT t i hi)]
  rw [if_neg (by simp [hz])]
  exact hst

def vstore (T : TT) (us : Us) (t : Nat) (s x : SV) (α : AF) (h : List SO) (K : SV → AF → List SO → Prop) : Prop :=
  onO (T.find t) fun i => onO (cellsO x) fun vs => bif Nat.beq vs.length i.size && allOne vs then
    match s with
    | .ref id off => onO (nth h id) fun o => match o with
      | .cells xs => bif inU us id then onO (setAt xs off vs) fun xs' => K .any α (h.set id (.cells xs')) else False
      | _ => False
    | .eref id j off => onO (nth h id) fun o => match o with
      | .arr e z els => bif Nat.beq z i.size && Nat.beq off 0 && inU us id then onO (closedL vs) fun ys => Side (j < els.length) (K .any α (h.set id (.arr e z (els.set j ys)))) else False
      | _ => False
    | _ => False
  else False

theorem flat_set {z : Nat} : ∀ {els : List (List AV)} {i : Nat} {ys : List AV}, (∀ x ∈ els, x.length = z) → i < els.length → (els.set i ys).flatten = els.flatten.take (i * z) ++ ys ++ els.flatten.drop (i * z + z)
  | [], i, ys, _, hi => by simp at hi
  | x :: els, 0, ys, hz, _ => by
    have := hz x (by simp)
    simp [← this]
  | x :: els, i + 1, ys, hz, hi => by
    have hx := hz x (by simp)
    simp only [List.set_cons_succ, List.flatten_cons]
    rw [flat_set (fun y hy => hz y (by simp [hy])) (by simpa using hi)]
    rw [show (i + 1) * z = x.length + i * z by rw [Nat.add_mul, hx]; omega]
    rw [List.take_length_add_append, Nat.add_assoc, List.drop_length_add_append]
    simp only [List.append_assoc]

theorem vstore_ok {P : Program} {T : TT} (hT : T.all P = true) {t : Nat} {s x : SV} {c d : Value} {ι w M h us n a α} {K : SV → AF → List SO → Prop} (hv : vstore T us t s x α h K)
    (H : St ι w M h) (F : FR ι h.length w M n α a) (hs : RepS ι h.length w M s c) (hx : RepS ι h.length w M x d) :
    ∃ w', (Instr.storeAt t c d).run P w = .ok () w' ∧ ∃ α' h' ι' M', K .any α' h' ∧ St ι' w' M' h' ∧ FR ι' h'.length w' M' n α' a ∧ Grow ι w M h us ι' w' M' h' := by
  obtain ⟨i, hi, hv⟩ := onO_some hv
  obtain ⟨vs, hvs, hv⟩ := onO_some hv
  cases hb : (Nat.beq vs.length i.size && allOne vs) with
  | false => rw [hb] at hv; exact hv.elim
  | true =>
    rw [hb] at hv; simp only [cond_true] at hv
    simp only [Bool.and_eq_true] at hb
    have hz := Nat.eq_of_beq_eq_true hb.1
    have hr := cellsO_ok hvs hx
    have hln := hr.length
    simp only [Array.length_toList] at hln
    have hone := repSL_one hr hb.2
    cases s with
    | ref id off =>
      obtain ⟨o, ho, hv⟩ := onO_some hv
      rw [nth_eq] at ho
      cases o with
      | cells xs =>
        cases hu : inU us id with
        | false => simp only [hu, cond_false] at hv
        | true =>
        simp only [hu, cond_true] at hv
        obtain ⟨xs', hx', hv⟩ := onO_some hv
        have h0 := H.objs id _ ho
        simp only [StO] at h0
        obtain ⟨b, k, cs, e, g1, g2, g3, g4⟩ := h0
        simp only [RepS] at hs
        obtain ⟨hid, b', k', g5, rfl⟩ := hs
        rw [g1] at g5; cases g5
        obtain ⟨k1, k2⟩ := setAt_ok hx' g4 hr
        have hcl := g4.length
        simp only [Array.length_toList] at hcl k2
        have hrun := run_storeVar (P := P) hT hi (off := off) (c := d) g3 (by omega) (by omega) (repSL_one hr hb.2)
        refine ⟨_, hrun, α, _, ι, M, hv, ?_⟩
        obtain ⟨m1, m2, m3⟩ := H.modify us hu ho rfl g1 (.cells xs') (w.setRow b (cs.toList.take off ++ d.cells.toList ++ cs.toList.drop (off + d.cells.size)).toArray) (fun j hj => setRow_other w b j _ hj) (by simp) rfl rfl rfl (by
          simp only [StO]
          refine ⟨b, k, _, e, g1, g2, setRow_heap w b cs _ e _ g3, ?_⟩
          have hkp : Keep w M (w.setRow b (cs.toList.take off ++ d.cells.toList ++ cs.toList.drop (off + d.cells.size)).toArray) M := fun b' _ hm => ⟨hm, setRow_other w b b' _ (fun e => hm (e ▸ g2))⟩
          exact RepSL.keep ⟨Nat.le_refl _, fun _ _ => rfl⟩ hkp _ _ k2)
        exact ⟨m1, by simpa using F.keep ⟨Nat.le_refl _, fun _ _ => rfl⟩ m2, m3⟩
      | _ => exact hv.elim
    | eref id j off =>
      have hv1 := onO_some hv
      clear hv
      obtain ⟨o, ho, hv2⟩ := hv1
      rw [nth_eq] at ho
      cases o with
      | arr e z els =>
        cases hb2 : (Nat.beq z i.size && Nat.beq off 0 && inU us id) with
        | false => simp only [hb2, cond_false] at hv2
        | true =>
          simp only [hb2, cond_true] at hv2
          simp only [Bool.and_eq_true] at hb2
          have hzi := Nat.eq_of_beq_eq_true hb2.1.1
          have hoff := Nat.eq_of_beq_eq_true hb2.1.2
          have hu := hb2.2
          have hv3 := onO_some hv2
          clear hv2
          obtain ⟨ys, hys, hv4⟩ := hv3
          obtain ⟨hj, hK⟩ := hv4.elim
          clear hv4
          subst hoff
          rw [closedL_map hys] at hr
          have hr := hr.toL
          have hyl := hr.length
          simp only [Array.length_toList] at hyl
          have h0 := H.objs id _ ho
          simp only [StO] at h0
          obtain ⟨he, h0⟩ := h0
          rcases h0 with h0 | ⟨b, k, cs, el', g1, g2, g3, g4, g5, g6, g7⟩
          · rw [h0.1] at hj; simp at hj
          · simp only [RepS] at hs
            obtain ⟨hid, b', k', z', n', g8, rfl⟩ := hs
            rw [g1] at g8; cases g8
            have hfit : j * z + z ≤ els.length * z := by
              have : (j + 1) * z ≤ els.length * z := Nat.mul_le_mul_right _ hj
              rwa [Nat.add_mul, Nat.one_mul] at this
            have hfit2 : els.length * z ≤ k * z := Nat.mul_le_mul_right _ g5
            have hrun := run_storeVar (P := P) hT hi (c := d) (off := j * z + 0) g3 (by omega) (by omega) hone
            refine ⟨_, hrun, α, _, ι, M, hK, ?_⟩
            simp only [Nat.add_zero]
            obtain ⟨m1, m2, m3⟩ := H.modify us hu ho rfl g1 (.arr e z (els.set j ys)) (w.setRow b (cs.toList.take (j * z) ++ d.cells.toList ++ cs.toList.drop (j * z + d.cells.size)).toArray) (fun j hj => setRow_other w b j _ hj) (by simp) rfl rfl rfl (by
              simp only [StO]
              have hyz : ys.length = z := by omega
              refine ⟨?_, .inr ⟨b, k, _, el', by simpa using g1, g2, setRow_heap w b cs _ el' _ g3, ?_, by simpa using g5, by simpa using g6, ?_⟩⟩
              · intro y hy
                rcases List.mem_or_eq_of_mem_set hy with hy | rfl
                · exact he y hy
                · exact hyz
              · simp; omega
              · have hkp : Keep w M (w.setRow b (cs.toList.take (j * z) ++ d.cells.toList ++ cs.toList.drop (j * z + d.cells.size)).toArray) M := fun b' _ hm => ⟨hm, setRow_other w b b' _ (fun e => hm (e ▸ g2))⟩
                refine RepL.keep hkp _ _ ?_
                rw [flat_set he hj]
                have e1 : ((cs.toList.take (j * z) ++ d.cells.toList ++ cs.toList.drop (j * z + d.cells.size)).toArray.toList.take ((els.set j ys).length * z)) =
                    (cs.toList.take (els.length * z)).take (j * z) ++ d.cells.toList ++ (cs.toList.take (els.length * z)).drop (j * z + z) := by
                  have hd : d.cells.size = z := by omega
                  simp only [List.length_set, hd]
                  rw [List.take_take, Nat.min_eq_left (by omega), List.append_assoc, List.take_append, List.take_append]
                  simp only [List.length_take, Array.length_toList, hd]
                  rw [Nat.min_eq_left (by omega), List.take_of_length_le (by simp; omega), List.take_of_length_le (l := d.cells.toList) (by simp; omega), List.drop_take, List.append_assoc]
                  congr 3
                  omega
                rw [e1]
                exact RepL.append (RepL.append (g7.take _) hr) (g7.drop _))
            exact ⟨m1, by simpa using F.keep ⟨Nat.le_refl _, fun _ _ => rfl⟩ m2, m3⟩
      | _ => exact hv2.elim
    | _ => exact hv.elim

/-! ### maps that are written -/
def mput : List (ByteArray × AV) → ByteArray → AV → List (ByteArray × AV)
  | [], k, v => [(k, v)]
  | (k', v') :: r, k, v => if k' = k then (k, v) :: r else (k', v') :: mput r k v

theorem mput_none : ∀ {es : List (ByteArray × AV)} {k : ByteArray} {v : AV}, mget es k = none → mput es k v = es ++ [(k, v)]
  | [], _, _, _ => rfl
  | (k', v') :: r, k, v, h => by
    simp only [mget] at h
    split at h
    · cases h
    · rename_i hne; simp only [mput, if_neg hne, mput_none h, List.cons_append]

theorem mput_some : ∀ {es : List (ByteArray × AV)} {k : ByteArray} {v v0 : AV}, mget es k = some v0 → (es.map (·.1)).Nodup → (mput es k v).map (·.1) = es.map (·.1) ∧ ∀ e ∈ mput es k v, e = (k, v) ∨ (e ∈ es ∧ e.1 ≠ k)
  | [], k, v, v0, h, _ => by simp [mget] at h
  | (k', v') :: r, k, v, v0, h, hn => by
    simp only [List.map_cons, List.nodup_cons, List.mem_map, not_exists, not_and] at hn
    simp only [mget] at h
    split at h
    · rename_i e; subst e
      simp only [mput, if_true]
      refine ⟨by simp, ?_⟩
      intro x hx
      rcases List.mem_cons.1 hx with rfl | hx
      · exact .inl rfl
      · exact .inr ⟨List.mem_cons_of_mem _ hx, hn.1 x hx⟩
    · rename_i hne
      obtain ⟨g1, g2⟩ := mput_some (v := v) h hn.2
      simp only [mput, if_neg hne]
      refine ⟨by simp [g1], ?_⟩
      intro x hx
      rcases List.mem_cons.1 hx with rfl | hx
      · exact .inr ⟨by simp, hne⟩
      · rcases g2 x hx with h | ⟨h1, h2⟩
        · exact .inl h
        · exact .inr ⟨List.mem_cons_of_mem _ h1, h2⟩

end Go.AV0
/- Maps that are written, slices that grow. -/
namespace Go.AV0

def vmapUpdate (T : TT) (us : Us) (t : Nat) (s x v : SV) (α : AF) (h : List SO) (K : SV → AF → List SO → Prop) : Prop :=
  onO (mpOf T t) fun _ => onO (strOf x) fun k => match s, v with
    | .mm id, .v y => onO (nth h id) fun o => match o with
      | .map es => bif inU us id then K .any α (h.set id (.map (mput es k y))) else False
      | _ => False
    | _, _ => False

theorem run_stays {P : Program} {w : World} (k : ByteArray) : (Instr.keyThatStays (.string k) (.string k)).run P w = .ok (.string k) w := by
  have : Instr.sameBits 10000 (.string k) (.string k) = true := by
    show (k == k) = true
    rw [MapKept.bytes_beq]
  simp [Instr.keyThatStays, this]

theorem arr_modify_mem {en : Array MapEntry} {j : Nat} {f : MapEntry → MapEntry} {x : MapEntry} (hx : x ∈ en.toList) : (∃ e, en.toList[j]? = some e ∧ e = x) ∨ x ∈ (en.modify j f).toList := by
  obtain ⟨i, hi⟩ := List.mem_iff_getElem?.1 hx
  by_cases h : j = i
  · subst h; exact .inl ⟨x, hi, rfl⟩
  · right
    apply List.mem_iff_getElem?.2
    refine ⟨i, ?_⟩
    rw [Array.getElem?_toList, Array.getElem?_modify, if_neg h, ← Array.getElem?_toList, hi]

theorem vmapUpdate_ok {P : Program} {T : TT} (hT : T.all P = true) {t : Nat} {s x v : SV} {c d u : Value} {ι w M h us n a α} {K : SV → AF → List SO → Prop} (hv : vmapUpdate T us t s x v α h K)
    (H : St ι w M h) (F : FR ι h.length w M n α a) (hs : RepS ι h.length w M s c) (hx : RepS ι h.length w M x d) (hu : RepS ι h.length w M v u) :
    ∃ w', (Instr.mapUpdate t c d u).run P w = .ok () w' ∧ ∃ α' h' ι' M', K .any α' h' ∧ St ι' w' M' h' ∧ FR ι' h'.length w' M' n α' a ∧ Grow ι w M h us ι' w' M' h' := by
  have hv0 := onO_some hv; clear hv
  obtain ⟨⟨kt, et⟩, hp, hv1⟩ := hv0
  obtain ⟨k, hk, hv2⟩ := onO_some hv1; clear hv1
  obtain ⟨p1, p2⟩ := mpOf_ok hT hp
  have hd := strOf_ok hk hx; subst hd
  split at hv2
  · rename_i id y
    have hv3 := onO_some hv2; clear hv2
    obtain ⟨o, ho, hv4⟩ := hv3
    rw [nth_eq] at ho
    cases o with
    | map es =>
      have hv5 : (bif inU us id then K .any α (h.set id (.map (mput es k y))) else False) := hv4
      cases huu : inU us id with
      | false => rw [huu] at hv5; exact hv5.elim
      | true =>
      rw [huu] at hv5
      have hK : K .any α (h.set id (.map (mput es k y))) := hv5
      have h0 := H.objs id _ ho
      simp only [StO] at h0
      obtain ⟨b, kk, en, clock, g1, g2, g3, g4, g5, g6, g7⟩ := h0
      simp only [RepS] at hs
      obtain ⟨hid, b', k', g8, rfl⟩ := hs
      rw [g1] at g8; cases g8
      simp only [RepS] at hu
      have hf := find_ok (P := P) (M := M) (w := w) p2 g5 g6 g7 k
      have hblt := lt_of_some g3
      have write : ∀ (en' : Array MapEntry) (clock' : Nat), stamped en' clock' → (en'.toList.map (·.key)).Perm ((mput es k y).map fun e => Value.string e.1) → ((mput es k y).map (·.1)).Nodup → RepMap w M en' (mput es k y) →
          (Instr.mapUpdate t (.map (some b)) (.string k) u).run P w = .ok () { w with heap := w.heap.setIfInBounds b (.map en' clock') } →
          ∃ w', (Instr.mapUpdate t (.map (some b)) (.string k) u).run P w = .ok () w' ∧ ∃ α' h' ι' M', K .any α' h' ∧ St ι' w' M' h' ∧ FR ι' h'.length w' M' n α' a ∧ Grow ι w M h us ι' w' M' h' := by
        intro en' clock' q1 q2 q3 q4 hrun
        refine ⟨_, hrun, α, _, ι, M, hK, ?_⟩
        have hoth : ∀ j, j ≠ b → (w.heap.setIfInBounds b (.map en' clock'))[j]? = w.heap[j]? := fun j hj => by simp [Ne.symm hj]
        obtain ⟨m1, m2, m3⟩ := H.modify us huu ho rfl g1 (.map (mput es k y)) { w with heap := w.heap.setIfInBounds b (.map en' clock') } hoth (by simp) rfl rfl rfl (by
          simp only [StO]
          have hkp : Keep w M { w with heap := w.heap.setIfInBounds b (.map en' clock') } M := fun b' _ hm => ⟨hm, hoth b' (fun e => hm (e ▸ g2))⟩
          exact ⟨b, kk, en', clock', g1, g2, by simp [hblt], q1, q2, q3, RepMap.keep hkp _ _ q4⟩)
        exact ⟨m1, by simpa using F.keep ⟨Nat.le_refl _, fun _ _ => rfl⟩ m2, m3⟩
      have hg : (getObj b).run P w = .ok (.map en clock) w := by simp [getObj, Sem.run, g3]
      have hset : ∀ o, (setObj b o).run P w = .ok () { w with heap := w.heap.setIfInBounds b o } := by intro o; simp [setObj, Sem.run, g3]
      cases hm : mget es k with
      | none =>
        rw [hm] at hf
        have hmp := mput_none (v := y) hm
        have hnk : k ∉ es.map (·.1) := by
          intro hk'
          obtain ⟨e, he, rfl⟩ := List.mem_map.1 hk'
          exact mget_none hm e.2 he
        refine write (en.push { key := .string k, val := u, born := clock }) (clock + 1) ?_ ?_ ?_ ?_ ?_
        · refine ⟨?_, ?_⟩
          · intro e he
            simp at he
            rcases he with he | rfl
            · have := g4.1 e (by simpa using he); omega
            · simp
          · simp only [Array.toList_push, List.map_append, List.map_cons, List.map_nil]
            rw [List.nodup_append]
            refine ⟨g4.2, by simp, ?_⟩
            intro a ha b' hb'
            simp at hb'; subst hb'
            obtain ⟨e, he, rfl⟩ := List.mem_map.1 ha
            have := g4.1 e he; omega
        · rw [hmp]; simp only [Array.toList_push, List.map_append, List.map_cons, List.map_nil]
          exact List.Perm.append g5 (List.Perm.refl _)
        · rw [hmp]; simp only [List.map_append, List.map_cons, List.map_nil]
          rw [List.nodup_append]
          refine ⟨g6, by simp, ?_⟩
          intro a ha b' hb'
          simp at hb'; subst hb'
          intro e; subst e; exact hnk ha
        · rw [hmp]
          have hmem : ∀ e, RepEnt w M en e → RepEnt w M (en.push { key := .string k, val := u, born := clock }) e := by
            rintro ⟨k', v'⟩ he
            simp only [RepEnt] at he ⊢
            obtain ⟨x, h1, h2, h3⟩ := he
            exact ⟨x, by simp at h1 ⊢; exact .inl h1, h2, h3⟩
          have hall : ∀ l : List (ByteArray × AV), RepMap w M en l → RepMap w M (en.push { key := .string k, val := u, born := clock }) (l ++ [(k, y)]) := by
            intro l
            induction l with
            | nil => intro _; simp only [List.nil_append, RepMap, RepEnt]; exact ⟨⟨_, by simp; exact .inr rfl, rfl, hu⟩, trivial⟩
            | cons e l ih => intro hl; simp only [RepMap] at hl; simp only [List.cons_append, RepMap]; exact ⟨hmem e hl.1, ih hl.2⟩
          exact hall es g7
        · simp only [Instr.mapUpdate, Sem.run_bind, run_underlying p1, Result.andThen_ok, hg, run_checkString _ _ p2, hf, hset]
      | some v0 =>
        rw [hm] at hf
        obtain ⟨j, e, h1, h2, h3, h4⟩ := hf
        obtain ⟨mp1, mp2⟩ := mput_some (v := y) hm g6
        have hje : en[j]? = some e := by simpa using h2
        refine write (en.modify j fun e => { e with key := .string k, val := u }) clock ?_ ?_ ?_ ?_ ?_
        · have hb : (en.modify j fun e => { e with key := .string k, val := u }).toList.map (·.born) = en.toList.map (·.born) := by
            apply List.ext_getElem?
            intro i
            simp only [List.getElem?_map, Array.getElem?_toList, Array.getElem?_modify]
            split
            · cases en[i]? <;> simp
            · rfl
          refine ⟨?_, by rw [hb]; exact g4.2⟩
          intro x hx
          have : x.born ∈ (en.modify j fun e => { e with key := .string k, val := u }).toList.map (·.born) := List.mem_map_of_mem hx
          rw [hb] at this
          obtain ⟨x', hx', hxe⟩ := List.mem_map.1 this
          have := g4.1 x' hx'; omega
        · have hb : (en.modify j fun e => { e with key := .string k, val := u }).toList.map (·.key) = en.toList.map (·.key) := by
            apply List.ext_getElem?
            intro i
            simp only [List.getElem?_map, Array.getElem?_toList, Array.getElem?_modify]
            split
            · rename_i hji; subst hji; rw [hje]; simp [h3]
            · rfl
          rw [hb]
          have : (mput es k y).map (fun e => Value.string e.1) = es.map (fun e => Value.string e.1) := by
            have := congrArg (List.map Value.string) mp1
            simpa [Function.comp_def] using this
          rw [this]; exact g5
        · rw [mp1]; exact g6
        · have hall : ∀ l : List (ByteArray × AV), (∀ x ∈ l, RepEnt w M (en.modify j fun e => { e with key := .string k, val := u }) x) → RepMap w M (en.modify j fun e => { e with key := .string k, val := u }) l := by
            intro l
            induction l with
            | nil => intro _; simp [RepMap]
            | cons x l ih => intro hl; simp only [RepMap]; exact ⟨hl x (by simp), ih (fun y hy => hl y (by simp [hy]))⟩
          apply hall
          rintro ⟨k', v'⟩ hx
          rcases mp2 _ hx with he | ⟨he, hne⟩
          · cases he
            simp only [RepEnt]
            refine ⟨{ e with key := .string k, val := u }, ?_, rfl, hu⟩
            apply List.mem_iff_getElem?.2
            exact ⟨j, by rw [Array.getElem?_toList, Array.getElem?_modify, if_pos rfl, hje]; rfl⟩
          · have := RepMap.get g7 _ he
            simp only [RepEnt] at this ⊢
            obtain ⟨x, q1, q2, q3⟩ := this
            rcases arr_modify_mem (j := j) (f := fun e => { e with key := .string k, val := u }) q1 with ⟨e', q4, rfl⟩ | q4
            · rw [h2] at q4; cases q4
              rw [h3] at q2; cases q2
              exact (hne rfl).elim
            · exact ⟨x, q4, q2, q3⟩
        · simp only [Instr.mapUpdate, Sem.run_bind, run_underlying p1, Result.andThen_ok, hg, run_checkString _ _ p2, h1, hje, Option.map_some, Option.getD_some, h3, run_stays, hset]
    | _ => exact hv4.elim
  · exact hv2.elim

/-! ### append -/
def allOneA : List AV → Bool
  | [] => true
  | x :: l => one (.v x) && allOneA l

def ElOk (z : Nat) (els : List (List AV)) : Prop := ∀ y ∈ els, y.length = z ∧ allOneA y = true

theorem ElOk.flat {z : Nat} {els : List (List AV)} (h : ElOk z els) : (∀ x ∈ els, x.length = z) ∧ allOne (els.flatten.map .v) = true := by
  refine ⟨fun x hx => (h x hx).1, ?_⟩
  have h1 : ∀ l : List AV, allOneA l = true → allOne (l.map .v) = true := by
    intro l
    induction l with
    | nil => intro _; rfl
    | cons a l ih => intro hl; simp only [allOneA, Bool.and_eq_true] at hl; simp only [List.map_cons, allOne, Bool.and_eq_true]; exact ⟨hl.1, ih hl.2⟩
  have h2 : ∀ l m : List SV, allOne l = true → allOne m = true → allOne (l ++ m) = true := by
    intro l
    induction l with
    | nil => intro m _ hm; exact hm
    | cons a l ih => intro m hl hm; simp only [allOne, Bool.and_eq_true] at hl; simp only [List.cons_append, allOne, Bool.and_eq_true]; exact ⟨hl.1, ih m hl.2 hm⟩
  induction els with
  | nil => rfl
  | cons x els ih =>
    simp only [List.flatten_cons, List.map_append]
    exact h2 _ _ (h1 x (h x (by simp)).2) (ih (fun y hy => h y (by simp [hy])))

/-- what is appended, as it stands -/
def srcOf (h : List SO) (x : SV) : Option (List (List AV)) :=
  match x with
  | .v (.sl els) => some els
  | .v (.c (.slice none 0 0)) => some []
  | .ms id => match nth h id with
    | some (.arr _ _ els) => some els
    | _ => none
  | _ => none

/-- the appended slice as values in memory -/
theorem srcOf_ok {ι w M h x d els z} (H : St ι w M h) (hx : srcOf h x = some els) (hr : RepS ι h.length w M x d) (hz : ∀ y ∈ els, y.length = z) :
    ∃ ao cap news, d = .slice ao els.length cap ∧ RepL w M els.flatten news ∧ news.length = els.length * z ∧ (els = [] ∨ ∃ a, ao = some a ∧ ∀ (j : Nat) (u : Value), news[j]? = some u → w.cell? (a.add j) = some u) := by
  unfold srcOf at hx
  split at hx
  · cases hx
    simp only [RepS, Rep] at hr
    obtain ⟨ao, cap, rfl, h1, h2⟩ := hr
    rcases h2 with rfl | ⟨b, off, n, rfl, h2⟩
    · exact ⟨ao, cap, [], rfl, by simp [RepL], by simp, .inl rfl⟩
    · have key : ∀ (els : List (List AV)) (off : Nat), (∀ y ∈ els, y.length = z) → RepEls w M b n els off → ∃ news, RepL w M els.flatten news ∧ news.length = els.length * z ∧ ∀ (j : Nat) (u : Value), news[j]? = some u → w.cell? ⟨b, off + j, none⟩ = some u := by
        intro els
        induction els with
        | nil => intro off _ _; exact ⟨[], by simp [RepL], by simp, by simp⟩
        | cons y els ih =>
          intro off hz hr
          simp only [RepEls] at hr
          obtain ⟨cs, g1, g2⟩ := repAt_list hr.1.2
          obtain ⟨news, g3, g4, g5⟩ := ih (off + n) (fun x hx => hz x (by simp [hx])) hr.2
          have hl := g1.length
          have hy := hz y (by simp)
          have hn := hr.1.1
          refine ⟨cs ++ news, by simp only [List.flatten_cons]; exact g1.append g3, by simp [g4, Nat.add_mul]; omega, ?_⟩
          intro j u hj
          rw [List.getElem?_append] at hj
          split at hj
          · exact g2 j u hj
          · rename_i hge
            have := g5 _ u hj
            rwa [show off + n + (j - cs.length) = off + j by omega] at this
      obtain ⟨news, g1, g2, g3⟩ := key els off hz h2
      exact ⟨_, cap, news, rfl, g1, g2, .inr ⟨_, rfl, fun j u hj => by rw [Addr.add_lit]; exact g3 j u hj⟩⟩
  · cases hx
    simp only [RepS, Rep] at hr
    exact ⟨none, 0, [], hr, by simp [RepL], by simp, .inl rfl⟩
  · rename_i id
    split at hx <;> cases hx
    rename_i e z' he
    rw [nth_eq] at he
    have h0 := H.objs id _ he
    simp only [StO] at h0
    simp only [RepS] at hr
    obtain ⟨hz', h0⟩ := h0
    rcases h0 with ⟨rfl, h0⟩ | ⟨b, k, cs, el', g1, g2, g3, g4, g5, g6, g7⟩
    · rcases hr.2 with ⟨_, rfl⟩ | ⟨b, k, z2, n, hb, _⟩
      · exact ⟨none, 0, [], rfl, by simp [RepL], by simp, .inl rfl⟩
      · rw [h0] at hb; cases hb
    · rcases hr.2 with ⟨hb, _⟩ | ⟨b', k', z2, n, hb, rfl⟩
      · rw [g1] at hb; cases hb
      · rw [g1] at hb; cases hb
        have hl := g7.length
        rw [flat_len hz] at hl
        refine ⟨_, k, cs.toList.take (els.length * z'), rfl, g7, ?_, ?_⟩
        · have hzz : els = [] ∨ z' = z := by
            cases els with
            | nil => exact .inl rfl
            | cons y ys => right; rw [← hz' y (by simp)]; exact hz y (by simp)
          rcases hzz with rfl | rfl
          · simp
          · exact hl
        · right
          refine ⟨_, rfl, ?_⟩
          intro j u hj
          rw [Addr.add_lit, cell_of_block g3]
          rw [List.getElem?_take] at hj
          split at hj
          · simpa using hj
          · cases hj
  · cases hx

/-- nothing is appended -/
theorem run_append_zero {P : Program} {w : World} {t ty e : Nat} {i : TypeInfo} (ht : P.underlying t = some (.slice e)) (hi : P.info? e = some i)
    (base : Option Addr) (n k : Nat) (hn : n ≤ k) (ao : Option Addr) (c : Nat) : (Builtin.append_ #[t, t] ty #[.slice base n k, .slice ao 0 c]).run P w = .ok (.slice base n k) w := by
  have hf : (Builtin.firstCells i.size 0 (.slice ao 0 c)).run P w = .ok #[] w := by
    cases ao with
    | none => rfl
    | some a => simp [Builtin.firstCells, loadCells, loadCellsFrom]
  cases base with
  | none => simp [Builtin.append_, run_underlying ht, sizeOf, typeInfo, hi, Builtin.lenOf, hn, hf]
  | some a => simp [Builtin.append_, run_underlying ht, sizeOf, typeInfo, hi, Builtin.lenOf, hn, hf, storeCells]

/-- the object grows; what spoke of it before is forgotten -/
def vappend (T : TT) (us : Us) (ts : List TypeId) (s x : SV) (α : AF) (h : List SO) (K : SV → AF → List SO → Prop) : Prop :=
  match ts with
  | [t, t'] => bif Nat.beq t t' then onO (slOf T t) fun q => onO (srcOf h x) fun src =>
      bif Nat.ble 1 q.2.size && Nat.beq q.2.zero.length q.2.size then
      match s with
      | .v (.c (.slice none 0 0)) => Side (ElOk q.2.size src ∧ src.length * (q.2.bytes + 1) ≤ 70368744177664)
          (forceN h.length fun id => K (.ms id) α (h ++ [.arr q.1 q.2.size src]))
      | .ms id => onO (nth h id) fun o => match o with
        | .arr e z els => bif Nat.beq e q.1 && Nat.beq z q.2.size && inU us id then Side (ElOk q.2.size src ∧ (els.length + src.length) * (q.2.bytes + 1) ≤ 70368744177664)
            (K (.ms id) (killA id α) ((killH id h).set id (.arr e z (els ++ src)))) else False
        | _ => False
      | _ => False
      else False
    else False
  | _ => False

theorem St.push0 {ι w M h} (us : Us) (H : St ι w M h) (so : SO) (hs : StO (upd ι h.length none) (h.length + 1) w M h.length so) :
    St (upd ι h.length none) w M (h ++ [so]) ∧ Agree ι h.length (upd ι h.length none) (h.length + 1) ∧ Grow ι w M h us (upd ι h.length none) w M (h ++ [so]) := by
  have hag : Agree ι h.length (upd ι h.length none) (h.length + 1) := ⟨by omega, fun i hi => upd_ne ι _ (by omega)⟩
  have hkp : Keep w M w M := fun b _ hm => ⟨hm, rfl⟩
  have hget : ∀ i x, (h ++ [so])[i]? = some x → (i < h.length ∧ h[i]? = some x) ∨ (i = h.length ∧ x = so) := by
    intro i x hx
    rcases Nat.lt_or_ge i h.length with hi | hi
    · rw [List.getElem?_append_left hi] at hx; exact .inl ⟨hi, hx⟩
    · have : i = h.length := by
        have := get_lt hx; simp at this; omega
      subst this; simp at hx; exact .inr ⟨rfl, hx.symm⟩
  refine ⟨⟨?_, ?_, H.mlt, H.gl⟩, hag, ⟨rfl, rfl, rfl, Nat.le_refl _, fun _ _ _ => rfl, fun _ _ x => x, fun _ x _ => x, ?_, ?_⟩⟩
  · intro i x hx
    simp only [List.length_append, List.length_singleton]
    rcases hget i x hx with ⟨hi, hx⟩ | ⟨rfl, rfl⟩
    · exact StO.keep hag hkp (upd_ne ι _ (by omega)) (fun b k l e => ⟨rfl, (H.objs i x hx).ownM l e⟩) (H.objs i x hx)
    · exact hs
  · intro i j oi oj b k1 k2 hi hj li lj ei ej
    rcases hget i oi hi with ⟨hi1, hi2⟩ | ⟨rfl, rfl⟩ <;> rcases hget j oj hj with ⟨hj1, hj2⟩ | ⟨rfl, rfl⟩
    · rw [upd_ne ι _ (by omega)] at ei ej
      exact H.dist i j oi oj b k1 k2 hi2 hj2 li lj ei ej
    · rw [upd_same] at ej; cases ej
    · rw [upd_same] at ei; cases ei
    · rfl
  · rintro b hb ⟨i, x, k', h1, h2, h3⟩
    rcases hget i x h1 with ⟨hi, hx⟩ | ⟨rfl, rfl⟩
    · rw [upd_ne ι _ (by omega)] at h3; exact ⟨i, x, k', hx, h2, h3⟩
    · rw [upd_same] at h3; cases h3
  · rintro b hb ⟨i, x, k', h0, h1, h2, h3⟩
    rcases hget i x h1 with ⟨hi, hx⟩ | ⟨rfl, rfl⟩
    · rw [upd_ne ι _ (by omega)] at h3; exact ⟨i, x, k', h0, hx, h2, h3⟩
    · rw [upd_same] at h3; cases h3

theorem vappend_ok {P : Program} {T : TT} (hT : T.all P = true) {ts : List TypeId} {ty : Nat} {s x : SV} {c d : Value} {ι w M h us n a α} {K : SV → AF → List SO → Prop} (hv : vappend T us ts s x α h K)
    (H : St ι w M h) (F : FR ι h.length w M n α a) (hs : RepS ι h.length w M s c) (hx : RepS ι h.length w M x d) :
    Out ι w M h us n a K ((Builtin.append_ ts.toArray ty #[c, d]).run P w) := by
  unfold vappend at hv
  split at hv
  · rename_i t t'
    rcases nbeq (a := t) (b := t') with ⟨e1, rfl⟩ | ⟨e1, _⟩
    rotate_left
    · rw [e1] at hv; exact hv.elim
    rw [e1] at hv; simp only [cond_true] at hv
    have hv0 := onO_some hv; clear hv
    obtain ⟨⟨e, j⟩, hq, hv1⟩ := hv0
    obtain ⟨src, hsrc, hv2⟩ := onO_some hv1; clear hv1
    obtain ⟨ht, hj⟩ := slOf_ok hT hq
    simp only at hv2
    cases hb : (Nat.ble 1 j.size && Nat.beq j.zero.length j.size) with
    | false => rw [hb] at hv2; exact hv2.elim
    | true =>
    rw [hb] at hv2; simp only [cond_true] at hv2
    simp only [Bool.and_eq_true] at hb
    have hsz := Nat.le_of_ble_eq_true hb.1
    have hzl := Nat.eq_of_beq_eq_true hb.2
    obtain ⟨f, dd, z, i1, i2, i3, i4, i5, i6, i7, i8⟩ := hj.ex
    have hzs : z.cells.size = f.size := by rw [i3, ← hzl, ← i7]; simp
    split at hv2
    · -- out of nothing
      obtain ⟨⟨q1, q2⟩, hv3⟩ := hv2.elim; clear hv2
      rw [forceN_eq] at hv3
      simp only [RepS, Rep] at hs; subst hs
      obtain ⟨ao, cap, news, rfl, g1, g2, g3⟩ := srcOf_ok H hsrc hx q1.flat.1
      by_cases hm : src.length = 0
      · have hse : src = [] := List.eq_nil_of_length_eq_zero hm
        subst hse
        have hrun := run_append_zero (P := P) (w := w) (ty := ty) ht i1 none 0 0 (Nat.le_refl _) ao cap
        obtain ⟨m1, m2, m3⟩ := H.push0 us (.arr e j.size []) (by simp only [StO]; exact ⟨by simp, .inl ⟨trivial, upd_same _ _ _⟩⟩)
        refine ⟨_, _, α, _, _, _, _, hrun, hv3, m1, ?_, ?_, m3⟩
        · simpa using F.keep m2 (fun b _ hm => ⟨hm, rfl⟩)
        · simp only [RepS, List.length_append, List.length_singleton]
          exact ⟨by omega, .inl ⟨upd_same _ _ _, trivial⟩⟩
      · rcases g3 with rfl | ⟨ad, rfl, g3⟩
        · exact absurd rfl hm
        have hbd : src.length * j.bytes ≤ 70368744177664 ∧ src.length ≤ 70368744177664 := by
          rw [Nat.mul_add] at q2; omega
        have hrun := run_append_nil (P := P) w t ty e f z ht i1 i6 ad src.length cap news (by rw [g2, i3]) g3 (by omega) (by omega) (by rw [i4]; omega)
        have hge := grownCap_ge w src.length 0 e
        have hcm : grownCap w src.length 0 e ≤ maxLen := grownCap_le_maxLen w src.length 0 e (by unfold maxLen; omega)
        have hkp : Keep w M (w.drew.alloc (.cells (news.toArray ++ Builtin.zeroCells z.cells (grownCap w src.length 0 e - src.length)) e)) (fun b => M b ∨ b = w.heap.size) := fun b hb hm =>
          ⟨by rintro (h | h); exact hm h; omega, by show (w.heap.push _)[b]? = _; rw [Array.getElem?_push, if_neg (by omega)]⟩
        obtain ⟨m1, m2, m3, m4⟩ := H.alloc us (.arr e j.size src) (.cells (news.toArray ++ Builtin.zeroCells z.cells (grownCap w src.length 0 e - src.length)) e) (grownCap w src.length 0 e, j.size, src.length) (w.drew.alloc (.cells (news.toArray ++ Builtin.zeroCells z.cells (grownCap w src.length 0 e - src.length)) e)) rfl rfl rfl rfl (by
          simp only [StO]
          refine ⟨q1.flat.1, .inr ⟨w.heap.size, _, _, _, upd_same _ _ _, .inr rfl, heap_alloc_new w.drew _, ?_, hge, ⟨hcm, .inr rfl⟩, ?_⟩⟩
          · simp only [Array.size_append, List.size_toArray, size_zeroCells, hzs, g2, i3, ← Nat.add_mul]
            congr 1; omega
          · have : (news.toArray ++ Builtin.zeroCells z.cells (grownCap w src.length 0 e - src.length)).toList.take (src.length * j.size) = news := by
              rw [← g2]; simp
            rw [this]; exact RepL.keep hkp _ _ g1)
        refine ⟨_, _, α, _, _, _, _, hrun, hv3, m1, by simpa using F.keep m2 m3, ?_, m4⟩
        simp only [RepS, List.length_append, List.length_singleton]
        exact ⟨by omega, .inr ⟨w.heap.size, _, _, _, upd_same _ _ _, rfl⟩⟩
    · -- to an object of one's own
      rename_i id
      have hv3 := onO_some hv2; clear hv2
      obtain ⟨o, ho, hv4⟩ := hv3
      rw [nth_eq] at ho
      cases o with
      | arr e' z' els =>
        rcases nbeq (a := e') (b := e) with ⟨e2, rfl⟩ | ⟨e2, _⟩
        rotate_left
        · simp only [e2, Bool.false_and, cond_false] at hv4
        rcases nbeq (a := z') (b := j.size) with ⟨e3, rfl⟩ | ⟨e3, _⟩
        rotate_left
        · simp only [e3, Bool.and_false, Bool.false_and, cond_false] at hv4
        cases hu : inU us id with
        | false => simp only [hu, Bool.and_false, cond_false] at hv4
        | true =>
        simp only [e2, e3, hu, Bool.and_self, cond_true] at hv4
        obtain ⟨⟨q1, q2⟩, hv5⟩ := hv4.elim; clear hv4
        obtain ⟨ao, cap, news, rfl, g1, g2, g3⟩ := srcOf_ok H hsrc hx q1.flat.1
        have h0 := H.objs id _ ho
        simp only [StO] at h0
        obtain ⟨hz0, h0⟩ := h0
        simp only [RepS] at hs
        obtain ⟨hid, hs⟩ := hs
        have hzall : ∀ x ∈ els ++ src, x.length = j.size := by
          intro x hx
          rcases List.mem_append.1 hx with hx | hx
          · exact hz0 x hx
          · exact q1.flat.1 x hx
        have hbd : (els.length + src.length) * j.bytes ≤ 70368744177664 ∧ els.length + src.length ≤ 70368744177664 := by
          rw [Nat.mul_add] at q2; omega
        have hoN := repSL_one (RepSL.ofL (ι := ι) (N := h.length) g1) q1.flat.2
        by_cases hm : src.length = 0
        · have hse : src = [] := List.eq_nil_of_length_eq_zero hm
          subst hse
          have hag1 : Agree1 id ι h.length (upd ι id (ι id)) h.length := ⟨Nat.le_refl _, fun i _ hne => upd_ne ι _ hne⟩
          have hup : upd ι id (ι id) = ι := by funext i; simp only [upd]; split <;> simp_all
          obtain ⟨m1, m2, m3, m4⟩ := H.move us hu ho (.arr e' j.size (els ++ [])) (ι id) w M (fun b hb => .inl hb) (fun b hb => hb) (Nat.le_refl _) (fun _ _ _ => rfl) (fun b k hk => .inr ⟨rfl, k, hk⟩) rfl rfl rfl (by
            rw [hup]; simp only [List.append_nil]; exact H.objs id _ ho)
          rcases hs with ⟨hs1, rfl⟩ | ⟨b, k, z2, n2, hs1, rfl⟩
          · have hrun := run_append_zero (P := P) (w := w) (ty := ty) ht i1 none 0 0 (Nat.le_refl _) ao cap
            refine ⟨_, _, _, _, _, _, _, hrun, hv5, m1, by simpa [killH_length] using F.kill m2 m3, ?_, m4⟩
            simp only [RepS, List.length_set, killH_length]
            exact ⟨hid, .inl ⟨by rw [hup]; exact hs1, trivial⟩⟩
          · have hle : n2 ≤ k := by
              rcases h0 with h0 | ⟨b', k', cs, el', h1, h2, h3, h4, h5, h6, h7⟩
              · rw [h0.2] at hs1; cases hs1
              · rw [h1] at hs1; cases hs1; exact h5
            have hrun := run_append_zero (P := P) (w := w) (ty := ty) ht i1 (some ⟨b, 0, none⟩) n2 k hle ao cap
            refine ⟨_, _, _, _, _, _, _, hrun, hv5, m1, by simpa [killH_length] using F.kill m2 m3, ?_, m4⟩
            simp only [RepS, List.length_set, killH_length]
            exact ⟨hid, .inr ⟨b, k, z2, n2, by rw [hup]; exact hs1, rfl⟩⟩
        · rcases g3 with rfl | ⟨ad, rfl, g3⟩
          · exact absurd rfl hm
          rcases h0 with ⟨rfl, h0⟩ | ⟨b, k, cs, el', h1, h2, h3, h4, h5, h6, h7⟩
          · -- it was nil
            rcases hs with ⟨_, rfl⟩ | ⟨b, k, z2, n2, hs1, _⟩
            rotate_left
            · rw [h0] at hs1; cases hs1
            simp only [List.length_nil, Nat.zero_add] at hbd
            have hrun := run_append_nil (P := P) w t ty e' f z ht i1 i6 ad src.length cap news (by rw [g2, i3]) g3 (by omega) (by omega) (by rw [i4]; omega)
            have hge := grownCap_ge w src.length 0 e'
            have hcm : grownCap w src.length 0 e' ≤ maxLen := grownCap_le_maxLen w src.length 0 e' (by unfold maxLen; omega)
            have hkp : Keep w M (w.drew.alloc (.cells (news.toArray ++ Builtin.zeroCells z.cells (grownCap w src.length 0 e' - src.length)) e')) (fun b => M b ∨ b = w.heap.size) := fun b hb hm =>
              ⟨by rintro (h | h); exact hm h; omega, by show (w.heap.push _)[b]? = _; rw [Array.getElem?_push, if_neg (by omega)]⟩
            obtain ⟨m1, m2, m3, m4⟩ := H.move us hu ho (.arr e' j.size ([] ++ src)) (some (w.heap.size, grownCap w src.length 0 e', j.size, src.length)) (w.drew.alloc (.cells (news.toArray ++ Builtin.zeroCells z.cells (grownCap w src.length 0 e' - src.length)) e')) (fun b => M b ∨ b = w.heap.size)
              (by rintro b (hb | rfl); exact .inl hb; exact .inr ⟨Nat.le_refl _, by simp⟩) (fun b hb => .inl hb) (by simp) (fun j' hj' _ => by show (w.heap.push _)[j']? = _; rw [Array.getElem?_push, if_neg (by omega)]) (fun b k hk => by cases hk; exact .inl (Nat.le_refl _)) rfl rfl rfl (by
                simp only [StO, List.nil_append]
                refine ⟨q1.flat.1, .inr ⟨w.heap.size, _, _, _, upd_same _ _ _, .inr rfl, heap_alloc_new w.drew _, ?_, hge, ⟨hcm, .inr rfl⟩, ?_⟩⟩
                · simp only [Array.size_append, List.size_toArray, size_zeroCells, hzs, g2, i3, ← Nat.add_mul]
                  congr 1; omega
                · have : (news.toArray ++ Builtin.zeroCells z.cells (grownCap w src.length 0 e' - src.length)).toList.take (src.length * j.size) = news := by
                    rw [← g2]; simp
                  rw [this]; exact RepL.keep hkp _ _ g1)
            refine ⟨_, _, _, _, _, _, _, hrun, hv5, m1, by simpa [killH_length] using F.kill m2 m3, ?_, m4⟩
            simp only [RepS, List.length_set, killH_length]
            exact ⟨hid, .inr ⟨w.heap.size, _, _, _, upd_same _ _ _, rfl⟩⟩
          · rcases hs with ⟨hs1, _⟩ | ⟨b', k', z2, n2, hs1, rfl⟩
            · rw [h1] at hs1; cases hs1
            rw [h1] at hs1; cases hs1
            have holdl : (cs.toList.take (els.length * j.size)).length = els.length * j.size := by
              have := Nat.mul_le_mul_right j.size h5
              simp; omega
            have hcells : ∀ (p : Nat) (u : Value), (cs.toList.take (els.length * j.size))[p]? = some u → w.cell? ((⟨b, 0, none⟩ : Addr).add p) = some u := by
              intro p u hp
              rw [Addr.add_lit, cell_of_block h3]
              rw [List.getElem?_take] at hp
              split at hp
              · simpa using hp
              · cases hp
            by_cases hroom : els.length + src.length ≤ k
            · -- in place
              have hfit : els.length * f.size + news.length ≤ cs.size := by rw [g2, h4, i3, ← Nat.add_mul]; exact Nat.mul_le_mul_right _ hroom
              have hel : e' = el' := (h6.2.resolve_left (by omega)).symm
              subst hel
              have hrun := run_append_room (P := P) w t ty e' f ht i1 b els.length k cs h3 ad src.length cap news (by rw [g2, i3]) g3 hoN hroom hfit
              have hkp : Keep w M (w.setRow b (cs.toList.take (els.length * f.size) ++ news ++ cs.toList.drop (els.length * f.size + news.length)).toArray) M := fun b' _ hm => ⟨hm, setRow_other w b b' _ (fun e => hm (e ▸ h2))⟩
              obtain ⟨m1, m2, m3, m4⟩ := H.move us hu ho (.arr e' j.size (els ++ src)) (some (b, k, j.size, els.length + src.length)) (w.setRow b (cs.toList.take (els.length * f.size) ++ news ++ cs.toList.drop (els.length * f.size + news.length)).toArray) M
                (fun b hb => .inl hb) (fun b hb => hb) (by simp) (fun j' hj' hne => setRow_other w b j' _ (hne rfl b _ h1)) (fun b'' k'' hk => by cases hk; exact .inr ⟨rfl, _, h1⟩) rfl rfl rfl (by
                  simp only [StO]
                  refine ⟨hzall, .inr ⟨b, k, _, e', by rw [upd_same]; simp, h2, setRow_heap w b cs _ e' _ h3, ?_, by simpa using hroom, ⟨h6.1, .inr rfl⟩, ?_⟩⟩
                  · rw [i3] at hfit ⊢; simp; omega
                  · have : (cs.toList.take (els.length * f.size) ++ news ++ cs.toList.drop (els.length * f.size + news.length)).toArray.toList.take ((els ++ src).length * j.size) = cs.toList.take (els.length * j.size) ++ news := by
                      simp only [List.length_append, Nat.add_mul, i3]
                      rw [← g2, ← holdl]
                      simp only [List.append_assoc]
                      rw [← List.length_append, ← List.append_assoc, List.take_left']
                      rw [holdl]
                    rw [this, List.flatten_append]
                    exact RepL.keep hkp _ _ (h7.append g1))
              refine ⟨_, _, _, _, _, _, _, hrun, hv5, m1, by simpa [killH_length] using F.kill m2 m3, ?_, m4⟩
              simp only [RepS, List.length_set, killH_length]
              exact ⟨hid, .inr ⟨b, _, _, _, upd_same _ _ _, rfl⟩⟩
            · -- in a new place
              have hrun := run_append_grow (P := P) w t ty e' f z ht i1 i6 ⟨b, 0, none⟩ els.length k (cs.toList.take (els.length * j.size)) (by rw [holdl, i3]) hcells ad src.length cap news (by rw [g2, i3]) g3 (by omega) (by omega) (by
                have := growslice_fits (need := els.length + src.length) (old := k) (bytes := f.bytes) (by omega) (by rw [i4]; omega)
                exact this)
              have hge := grownCap_ge w (els.length + src.length) k e'
              have hcm : grownCap w (els.length + src.length) k e' ≤ maxLen := grownCap_le_maxLen w _ k e' (by unfold maxLen; omega)
              have hkp : Keep w M (w.drew.alloc (.cells ((cs.toList.take (els.length * j.size)).toArray ++ news.toArray ++ Builtin.zeroCells z.cells (grownCap w (els.length + src.length) k e' - (els.length + src.length))) e')) (fun b => M b ∨ b = w.heap.size) := fun b hb hm =>
                ⟨by rintro (h | h); exact hm h; omega, by show (w.heap.push _)[b]? = _; rw [Array.getElem?_push, if_neg (by omega)]⟩
              obtain ⟨m1, m2, m3, m4⟩ := H.move us hu ho (.arr e' j.size (els ++ src)) (some (w.heap.size, grownCap w (els.length + src.length) k e', j.size, els.length + src.length)) (w.drew.alloc (.cells ((cs.toList.take (els.length * j.size)).toArray ++ news.toArray ++ Builtin.zeroCells z.cells (grownCap w (els.length + src.length) k e' - (els.length + src.length))) e')) (fun b => M b ∨ b = w.heap.size)
                (by rintro b (hb | rfl); exact .inl hb; exact .inr ⟨Nat.le_refl _, by simp⟩) (fun b hb => .inl hb) (by simp) (fun j' hj' _ => by show (w.heap.push _)[j']? = _; rw [Array.getElem?_push, if_neg (by omega)]) (fun b k hk => by cases hk; exact .inl (Nat.le_refl _)) rfl rfl rfl (by
                  simp only [StO]
                  refine ⟨hzall, .inr ⟨w.heap.size, _, _, _, by rw [upd_same]; simp, .inr rfl, heap_alloc_new w.drew _, ?_, by simpa using hge, ⟨hcm, .inr rfl⟩, ?_⟩⟩
                  · simp only [Array.size_append, List.size_toArray, size_zeroCells, hzs, g2, holdl, i3, ← Nat.add_mul]
                    congr 1; omega
                  · have : ((cs.toList.take (els.length * j.size)).toArray ++ news.toArray ++ Builtin.zeroCells z.cells (grownCap w (els.length + src.length) k e' - (els.length + src.length))).toList.take ((els ++ src).length * j.size) = cs.toList.take (els.length * j.size) ++ news := by
                      simp only [List.length_append, Nat.add_mul, Array.toList_append]
                      rw [← g2, List.take_left']
                      simp only [List.length_append]
                      rw [holdl]
                    rw [this, List.flatten_append]
                    exact RepL.keep hkp _ _ (h7.append g1))
              refine ⟨_, _, _, _, _, _, _, hrun, hv5, m1, by simpa [killH_length] using F.kill m2 m3, ?_, m4⟩
              simp only [RepS, List.length_set, killH_length]
              exact ⟨hid, .inr ⟨w.heap.size, _, _, _, upd_same _ _ _, rfl⟩⟩
      | _ => exact hv4.elim
    · exact hv2.elim
  · exact hv.elim

end Go.AV0
/- Lengths, conversions; an object of one's own is frozen. -/
namespace Go.AV0

def vlen (T : TT) (t : Nat) (s : SV) (h : List SO) (K : SV → Prop) : Prop :=
  onO (T.find t) fun i => match i.k, s with
    | .str, .v (.c (.string b)) => K (.v (.c (.int .i64 (b.size : Int))))
    | .sl _, .v (.sl els) => K (.v (.c (.int .i64 (els.length : Int))))
    | .sl _, .v (.c (.slice none 0 0)) => K (.v (.c (.int .i64 0)))
    | .sl _, .ms id => onO (nth h id) fun o => match o with
      | .arr _ _ els => K (.v (.c (.int .i64 (els.length : Int))))
      | _ => False
    | .mp _ _, s => onO (mapOf h s) fun m => K (.v (.c (.int .i64 ((match m with | some es => es.length | none => 0 : Nat) : Int))))
    | _, _ => False

theorem vlen_ok {P : Program} {T : TT} (hT : T.all P = true) {us : Us} {t ty : Nat} {s : SV} {h : List SO} {K : SV → Prop} {ι w M c} (hsafe : safeId us s = true) (hv : vlen T t s h K) (H : St ι w M h) (hs : RepS ι h.length w M s c) :
    ∃ c' s', (∀ w', Same (UB ι h us) w w' → (Builtin.len_ #[t] ty #[c]).run P w' = .ok c' w') ∧ K s' ∧ RepS ι h.length w M s' c' := by
  have hv0 := onO_some hv; clear hv
  obtain ⟨i, hi, hv⟩ := hv0
  have ht := TT.ok hT t i hi
  split at hv
  · rename_i b hk
    simp only [RepS, Rep] at hs; subst hs
    exact ⟨.int .i64 (b.size : Int), _, fun w' _ => by simp [Builtin.len_, run_underlying (und_str ht hk), goInt], hv, by simp [RepS, Rep]⟩
  · rename_i e els hk
    simp only [RepS, Rep] at hs; obtain ⟨ao, cap, rfl, _⟩ := hs
    exact ⟨_, _, fun w' _ => by simp [Builtin.len_, run_underlying (und_sl ht hk), goInt]; rfl, hv, by simp [RepS, Rep]⟩
  · rename_i e hk
    simp only [RepS, Rep] at hs; subst hs
    exact ⟨_, _, fun w' _ => by simp [Builtin.len_, run_underlying (und_sl ht hk), goInt]; rfl, hv, by simp [RepS, Rep]⟩
  · rename_i e id hk
    obtain ⟨o, ho, hv⟩ := onO_some hv
    rw [nth_eq] at ho
    cases o with
    | arr e z els =>
      have h0 := H.objs id _ ho
      simp only [StO] at h0
      simp only [RepS] at hs
      rcases hs.2 with ⟨h1, rfl⟩ | ⟨b, k, z', n, h1, rfl⟩
      · have : els = [] := by
          rcases h0.2 with h0 | ⟨b, k, cs, el', h2, _⟩
          · exact h0.1
          · rw [h1] at h2; cases h2
        subst this
        exact ⟨_, _, fun w' _ => by simp [Builtin.len_, run_underlying (und_sl ht hk), goInt]; rfl, hv, by simp [RepS, Rep]⟩
      · have : n = els.length := by
          rcases h0.2 with h0 | ⟨b, k, cs, el', h2, _⟩
          · rw [h0.2] at h1; cases h1
          · rw [h1] at h2; cases h2; rfl
        subst this
        exact ⟨_, _, fun w' _ => by simp [Builtin.len_, run_underlying (und_sl ht hk), goInt]; rfl, hv, by simp [RepS, Rep]⟩
    | _ => exact hv.elim
  · rename_i k e _ hk
    obtain ⟨m, hm, hv⟩ := onO_some hv
    rcases mapOf_ok (us := us) hsafe H hm hs with ⟨rfl, rfl⟩ | ⟨es, b, en, clock, rfl, rfl, hU, h3, h4, h5, h6⟩
    · exact ⟨_, _, fun w' _ => by simp [Builtin.len_, run_underlying (und_mp ht hk), goInt]; rfl, hv, by simp [RepS, Rep]⟩
    · have hl : en.size = es.length := by simpa using h4.length_eq
      have hg : ∀ w', Same (UB ι h us) w w' → (getObj b).run P w' = .ok (.map en clock) w' := fun w' hw' => by
        have := hw' b (lt_of_some h3) hU
        rw [h3] at this; simp [getObj, Sem.run, this]
      exact ⟨.int .i64 (es.length : Int), _, fun w' hw' => by have hg := hg w' hw'; simp [Builtin.len_, run_underlying (und_mp ht hk), goInt, hg, hl], hv, by simp [RepS, Rep]⟩
  · exact hv.elim

def vmax (x y : SV) (K : SV → Prop) : Prop :=
  match x, y with
  | .v (.c (.int k a)), .v (.c (.int _ b)) => K (.v (.c (.int k (max a b))))
  | _, _ => False

def vmin (x y : SV) (K : SV → Prop) : Prop :=
  match x, y with
  | .v (.c (.int k a)), .v (.c (.int _ b)) => K (.v (.c (.int k (min a b))))
  | _, _ => False

theorem vmax_ok {P : Program} {x y : SV} {K : SV → Prop} {ι N w M c d} {ts : Array Nat} {ty : Nat} (hv : vmax x y K) (hx : RepS ι N w M x c) (hy : RepS ι N w M y d) :
    ∃ c' s', (∀ w', (Builtin.max_ ts ty #[c, d]).run P w' = .ok c' w') ∧ K s' ∧ RepS ι N w M s' c' := by
  unfold vmax at hv
  split at hv
  · simp only [RepS, Rep] at hx hy; subst hx; subst hy
    rename_i k a k' b
    refine ⟨.int k (max a b), _, ?_, hv, by simp only [RepS, Rep]⟩
    intro w'
    simp only [Builtin.max_, List.foldlM_cons, List.foldlM_nil, Builtin.max2]
    show Result.ok _ _ = _
    congr 2
    split <;> omega
  · exact hv.elim

theorem vmin_ok {P : Program} {x y : SV} {K : SV → Prop} {ι N w M c d} {ts : Array Nat} {ty : Nat} (hv : vmin x y K) (hx : RepS ι N w M x c) (hy : RepS ι N w M y d) :
    ∃ c' s', (∀ w', (Builtin.min_ ts ty #[c, d]).run P w' = .ok c' w') ∧ K s' ∧ RepS ι N w M s' c' := by
  unfold vmin at hv
  split at hv
  · simp only [RepS, Rep] at hx hy; subst hx; subst hy
    rename_i k a k' b
    refine ⟨.int k (min a b), _, ?_, hv, by simp only [RepS, Rep]⟩
    intro w'
    simp only [Builtin.min_, List.foldlM_cons, List.foldlM_nil, Builtin.min2]
    show Result.ok _ _ = _
    congr 2
    split <;> omega
  · exact hv.elim

@[irreducible] def FtoI (s : FloatKind) (b : Nat) (k : IntKind) (K : Int → Prop) : Prop := ∃ n, (s.decode b).toInt .zero = some n ∧ k.min ≤ n ∧ n ≤ k.max ∧ K n
theorem ftoi {s : FloatKind} {b : Nat} {k : IntKind} {K : Int → Prop} (n : Int) (h : (s.decode b).toInt .zero = some n) (h1 : k.min ≤ n) (h2 : n ≤ k.max) (hk : K n) : FtoI s b k K := by unfold FtoI; exact ⟨n, h, h1, h2, hk⟩
theorem FtoI.elim {s : FloatKind} {b : Nat} {k : IntKind} {K : Int → Prop} (h : FtoI s b k K) : ∃ n, (s.decode b).toInt .zero = some n ∧ k.min ≤ n ∧ n ≤ k.max ∧ K n := by unfold FtoI at h; exact h

def vconvert (T : TT) (src dst : Nat) (x : SV) (K : SV → Prop) : Prop :=
  onO (T.find src) fun _ => onO (T.find dst) fun j => match j.k, x with
    | .int k, .v (.c (.int _ n)) => K (.v (.c (.int k (k.wrap n))))
    | .int k, .v (.c (.float s b)) => FtoI s b k fun n => K (.v (.c (.int k n)))
    | .fl k, .v (.c (.int _ n)) => K (.v (.c (.float k (k.nearest n))))
    | _, _ => False

theorem und_fl {P : Program} {t : Nat} {k : FloatKind} {i : TI} (h : TOk P t i) (hk : i.k = .fl k) : P.underlying t = some (.float k) := by
  obtain ⟨d, h1, h2⟩ := tk_of h
  rw [hk] at h2; cases d <;> simp [tkOk] at h2; subst h2; exact h1

theorem vconvert_ok {P : Program} {T : TT} (hT : T.all P = true) {src dst : Nat} {x : SV} {K : SV → Prop} {ι N w M c} (hv : vconvert T src dst x K) (hx : RepS ι N w M x c) :
    ∃ c' s', (∀ w', (convert src dst c).run P w' = .ok c' w') ∧ K s' ∧ RepS ι N w M s' c' := by
  have hv0 := onO_some hv; clear hv
  obtain ⟨i, hi, hv⟩ := hv0
  have hv0 := onO_some hv; clear hv
  obtain ⟨j, hj, hv⟩ := hv0
  obtain ⟨d, h1, _⟩ := tk_of (TT.ok hT _ _ hi)
  have ht := TT.ok hT _ _ hj
  split at hv
  · rename_i k k' n hk
    simp only [RepS, Rep] at hx; subst hx
    refine ⟨.int k (k.wrap n), _, ?_, hv, by simp only [RepS, Rep]⟩
    intro w'
    cases d <;> simp [convert, run_underlying h1, run_underlying (und_int ht hk), Conv.intToInt]
  · rename_i k s b hk
    obtain ⟨n, g1, g2, g3, hv⟩ := hv.elim
    simp only [RepS, Rep] at hx; subst hx
    refine ⟨.int k n, _, ?_, hv, by simp only [RepS, Rep]⟩
    intro w'
    cases d <;> simp [convert, run_underlying h1, run_underlying (und_int ht hk), Conv.floatToInt, g1, g2, g3]
  · rename_i k k' n hk
    simp only [RepS, Rep] at hx; subst hx
    refine ⟨.float k (k.nearest n), _, ?_, hv, by simp only [RepS, Rep]⟩
    intro w'
    cases d <;> simp [convert, run_underlying h1, run_underlying (und_fl ht hk), Conv.intToFloat]
  · exact hv.elim

/-! ### freezing -/
/-- a nil slice's constant, as an empty slice -/
def nrm (x : AV) : AV :=
  match x with
  | .c (.slice none 0 0) => .sl []
  | x => x

theorem rep_nrm {w M x c} (h : Rep w M x c) : Rep w M (nrm x) c := by
  unfold nrm
  split
  · simp only [Rep] at h ⊢; exact ⟨none, 0, h, Nat.le_refl _, .inl trivial⟩
  · exact h

theorem repL_nrm {w M} : ∀ {xs : List AV} {cs : List Value}, RepL w M xs cs → RepL w M (xs.map nrm) cs
  | [], cs, h => by simpa [RepL] using h
  | x :: xs, cs, h => by
    simp only [RepL] at h; obtain ⟨c, cs', rfl, h1, h2⟩ := h
    simp only [List.map_cons, RepL]; exact ⟨c, cs', rfl, rep_nrm h1, repL_nrm h2⟩

def frzV (o : SO) (off : Nat) : SV :=
  match o with
  | .cells xs => match closedL xs with
    | some ys => .v (.ptr (some ((ys.map nrm).drop off)))
    | none => .any
  | _ => .any

def frzM (o : SO) : SV :=
  match o with
  | .arr _ _ els => .v (.sl els)
  | _ => .any

def frzP (o : SO) : SV :=
  match o with
  | .map es => .v (.map (some es))
  | _ => .any

mutual
def frz (id : Nat) (o : SO) : SV → SV
  | .any => .any
  | .v x => .v x
  | .ref a b => bif Nat.beq a id then frzV o b else .ref a b
  | .eref a b c => bif Nat.beq a id then .any else .eref a b c
  | .ms a => bif Nat.beq a id then frzM o else .ms a
  | .mm a => bif Nat.beq a id then frzP o else .mm a
  | .tup l => .tup (frzL id o l)
  | .agg l => .agg (frzL id o l)
  | .clo f a b => .clo f (frzL id o a) (frzL id o b)
def frzL (id : Nat) (o : SO) : List SV → List SV
  | [] => []
  | x :: l => frz id o x :: frzL id o l
end

def frzO (id : Nat) (o : SO) : SO → SO
  | .cells xs => .cells (frzL id o xs)
  | x => x

def frzH (id : Nat) (o : SO) : List SO → List SO
  | [] => []
  | x :: l => frzO id o x :: frzH id o l

def frzF (id : Nat) (o : SO) : List (Nat × SV) → List (Nat × SV)
  | [] => []
  | (j, s) :: l => (j, frz id o s) :: frzF id o l

def frzD (id : Nat) (o : SO) : List (Nat × List SV × List SV) → List (Nat × List SV × List SV)
  | [] => []
  | (f, a, b) :: l => (f, frzL id o a, frzL id o b) :: frzD id o l

def frzA (id : Nat) (o : SO) (α : AF) : AF := ⟨frzF id o α.s, frzD id o α.d⟩

theorem frzH_get (id : Nat) (o : SO) : ∀ (l : List SO) (i : Nat), (frzH id o l)[i]? = (l[i]?).map (frzO id o)
  | [], i => by simp [frzH]
  | x :: l, 0 => by simp [frzH]
  | x :: l, i + 1 => by simp [frzH, frzH_get id o l i]

theorem frzH_length (id : Nat) (o : SO) : ∀ (l : List SO), (frzH id o l).length = l.length
  | [] => rfl
  | x :: l => by simp [frzH, frzH_length id o l]

theorem look_frzF (id : Nat) (o : SO) : ∀ (l : List (Nat × SV)) (i : Nat), look (frzF id o l) i = (look l i).map (frz id o)
  | [], i => rfl
  | (j, s) :: l, i => by
    simp only [frzF, look]
    cases Nat.beq i j <;> simp [look_frzF id o l i]

/-- what the frozen object's name stands for -/
structure Frozen (ι : Iota) (w : World) (M' : Nat → Prop) (id : Nat) (o : SO) : Prop where
  ref : ∀ b k off, ι id = some (b, k) → RepS ι 0 w M' (frzV o off) (.pointer (some ⟨b, off, none⟩))
  ms : (ι id = none → RepS ι 0 w M' (frzM o) (.slice none 0 0)) ∧ ∀ b k z n, ι id = some (b, k, z, n) → RepS ι 0 w M' (frzM o) (.slice (some ⟨b, 0, none⟩) n k)
  mm : ∀ b k, ι id = some (b, k) → RepS ι 0 w M' (frzP o) (.map (some b))

mutual
theorem RepS.frz {ι N w M M' id o} (hf : Frozen ι w M' id o) (h : Keep w M w M') : ∀ (s : SV) (c : Value), RepS ι N w M s c → RepS ι N w M' (frz id o s) c
  | .any, _, _ => by simp [AV0.frz, RepS]
  | .v x, c, r => by simp only [AV0.frz, RepS] at r ⊢; exact Rep.keep h x c r
  | .ref a off, c, r => by
    simp only [AV0.frz]
    rcases nbeq (a := a) (b := id) with ⟨e, he⟩ | ⟨e, hne⟩
    · subst he
      simp only [e, cond_true]
      simp only [RepS] at r; obtain ⟨_, b, k, h1, rfl⟩ := r
      exact RepS.keep ⟨Nat.zero_le _, fun _ _ => rfl⟩ (fun _ _ hm => ⟨hm, rfl⟩) _ _ (hf.ref b k off h1)
    · simp only [e, cond_false, RepS] at r ⊢; exact r
  | .eref a i off, c, r => by
    simp only [AV0.frz]
    rcases nbeq (a := a) (b := id) with ⟨e, he⟩ | ⟨e, hne⟩
    · simp [e, RepS]
    · simp only [e, cond_false, RepS] at r ⊢; exact r
  | .ms a, c, r => by
    simp only [AV0.frz]
    rcases nbeq (a := a) (b := id) with ⟨e, he⟩ | ⟨e, hne⟩
    · subst he
      simp only [e, cond_true]
      simp only [RepS] at r
      rcases r.2 with ⟨h1, rfl⟩ | ⟨b, k, z, n, h1, rfl⟩
      · exact RepS.keep ⟨Nat.zero_le _, fun _ _ => rfl⟩ (fun _ _ hm => ⟨hm, rfl⟩) _ _ (hf.ms.1 h1)
      · exact RepS.keep ⟨Nat.zero_le _, fun _ _ => rfl⟩ (fun _ _ hm => ⟨hm, rfl⟩) _ _ (hf.ms.2 b k z n h1)
    · simp only [e, cond_false, RepS] at r ⊢; exact r
  | .mm a, c, r => by
    simp only [AV0.frz]
    rcases nbeq (a := a) (b := id) with ⟨e, he⟩ | ⟨e, hne⟩
    · subst he
      simp only [e, cond_true]
      simp only [RepS] at r; obtain ⟨_, b, k, h1, rfl⟩ := r
      exact RepS.keep ⟨Nat.zero_le _, fun _ _ => rfl⟩ (fun _ _ hm => ⟨hm, rfl⟩) _ _ (hf.mm b k h1)
    · simp only [e, cond_false, RepS] at r ⊢; exact r
  | .tup l, c, r => by
    simp only [AV0.frz, RepS] at r ⊢; obtain ⟨cs, h1, h2⟩ := r; exact ⟨cs, h1, RepSL.frz hf h l _ h2⟩
  | .agg l, c, r => by
    simp only [AV0.frz, RepS] at r ⊢; obtain ⟨cs, h1, h2⟩ := r; exact ⟨cs, h1, RepSL.frz hf h l _ h2⟩
  | .clo fn first cap, c, r => by
    simp only [AV0.frz, RepS] at r ⊢; obtain ⟨fs, cs, h1, h2, h3⟩ := r; exact ⟨fs, cs, h1, RepSL.frz hf h first _ h2, RepSL.frz hf h cap _ h3⟩
theorem RepSL.frz {ι N w M M' id o} (hf : Frozen ι w M' id o) (h : Keep w M w M') : ∀ (l : List SV) (cs : List Value), RepSL ι N w M l cs → RepSL ι N w M' (frzL id o l) cs
  | [], cs, r => by simpa [frzL, RepSL] using r
  | x :: xs, cs, r => by
    simp only [frzL, RepSL] at r ⊢; obtain ⟨c, cs', h1, h2, h3⟩ := r
    exact ⟨c, cs', h1, RepS.frz hf h x c h2, RepSL.frz hf h xs cs' h3⟩
end

theorem RepD.frz {ι N w M M' id o} (hf : Frozen ι w M' id o) (h : Keep w M w M') : ∀ (l : List (Nat × List SV × List SV)) (ds : List Deferred), RepD ι N w M l ds → RepD ι N w M' (frzD id o l) ds
  | [], ds, r => by simpa [frzD, RepD] using r
  | (f, as, cs) :: l, ds, r => by
    simp only [frzD, RepD] at r ⊢
    obtain ⟨cs', as', ds', h1, h2, h3, h4⟩ := r
    exact ⟨cs', as', ds', h1, RepSL.frz hf h as _ h2, RepSL.frz hf h cs _ h3, RepD.frz hf h l ds' h4⟩

theorem FR.frz {ι N w M M' n α a id o} (hf : Frozen ι w M' id o) (h : Keep w M w M') (H : FR ι N w M n α a) : FR ι N w M' n (frzA id o α) a := by
  refine ⟨H.size, ?_, RepD.frz hf h _ _ H.defs⟩
  intro i s hs
  simp only [frzA, look_frzF] at hs
  cases hl : look α.s i with
  | none => rw [hl] at hs; cases hs
  | some s' =>
    rw [hl] at hs; simp at hs; subst hs
    obtain ⟨c, h1, h2⟩ := H.slot i s' hl
    exact ⟨c, h1, RepS.frz hf h s' c h2⟩

theorem repAt_of_list {w : World} {M : Nat → Prop} {b : Nat} (hm : ¬ M b) : ∀ {ys : List AV} {cs : List Value} {off : Nat}, RepL w M ys cs → (∀ (j : Nat) (v : Value), cs[j]? = some v → w.cell? ⟨b, off + j, none⟩ = some v) → RepAt w M b ys off
  | [], _, _, _, _ => by simp [RepAt]
  | y :: ys, cs, off, h, hc => by
    simp only [RepL] at h; obtain ⟨c, cs', rfl, h1, h2⟩ := h
    simp only [RepAt]
    refine ⟨⟨hm, c, by simpa using hc 0 c rfl, h1⟩, repAt_of_list hm h2 ?_⟩
    intro j v hj
    have := hc (j + 1) v (by simpa using hj)
    rwa [show off + (j + 1) = off + 1 + j by omega] at this

theorem repEls_of_list {w : World} {M : Nat → Prop} {b z : Nat} (hm : ¬ M b) : ∀ {els : List (List AV)} {cs : List Value} {off : Nat}, (∀ x ∈ els, x.length = z) → RepL w M els.flatten cs → (∀ (j : Nat) (v : Value), cs[j]? = some v → w.cell? ⟨b, off + j, none⟩ = some v) → RepEls w M b z els off
  | [], _, _, _, _, _ => by simp [RepEls]
  | e :: els, cs, off, hz, h, hc => by
    have hez := hz e (by simp)
    simp only [List.flatten_cons] at h
    have h1 := h.take e.length
    have h2 := h.drop e.length
    rw [List.take_left] at h1
    rw [List.drop_left] at h2
    simp only [RepEls]
    refine ⟨⟨hez, repAt_of_list hm h1 ?_⟩, repEls_of_list hm (fun x hx => hz x (by simp [hx])) h2 ?_⟩
    · intro j v hj
      rw [List.getElem?_take] at hj
      split at hj
      · exact hc j v hj
      · cases hj
    · intro j v hj
      rw [List.getElem?_drop] at hj
      have := hc _ v hj
      rwa [show off + (e.length + j) = off + z + j by omega] at this

/-- an object of one's own becomes a thing that nobody writes any more -/
theorem St.freeze {ι w M h} (us : Us) (H : St ι w M h) {id : Nat} {o : SO} (ho : h[id]? = some o) (hl : live o = true) :
    ∃ M', St ι w M' ((frzH id o h).set id .dead) ∧ Frozen ι w M' id o ∧ Keep w M w M' ∧ Grow ι w M h us ι w M' ((frzH id o h).set id .dead) := by
  have hkp : Keep w M w (fun b => M b ∧ ∀ k, ι id ≠ some (b, k)) := fun b _ hm => ⟨fun h => hm h.1, rfl⟩
  have h0 := H.objs id o ho
  have hfz : Frozen ι w (fun b => M b ∧ ∀ k, ι id ≠ some (b, k)) id o := by
    refine ⟨?_, ⟨?_, ?_⟩, ?_⟩
    · intro b k off hi
      unfold frzV
      split
      · rename_i xs
        split
        · rename_i ys hys
          simp only [StO] at h0
          obtain ⟨b', k', cs, el, g1, g2, g3, g4⟩ := h0
          rw [hi] at g1; cases g1
          rw [closedL_map hys] at g4
          have g4 := repL_nrm (RepL.keep hkp _ _ g4.toL)
          simp only [RepS, Rep]
          refine ⟨b, off, rfl, lt_of_some g3, fun h => h.2 k hi, ?_⟩
          have := repAt_of_list (off := 0) (fun (h : M b ∧ ∀ k, ι id ≠ some (b, k)) => h.2 k hi) g4 (fun j v hj => by rw [cell_of_block g3]; simpa using hj)
          simpa using this.drop off
        · simp [RepS]
      · simp [RepS]
    · intro hi
      unfold frzM
      split
      · rename_i e z els
        simp only [StO] at h0
        rcases h0.2 with h0 | ⟨b, k, cs, el', g1, _⟩
        · simp only [RepS, Rep]; rw [h0.1]; exact ⟨none, 0, rfl, Nat.le_refl _, .inl rfl⟩
        · rw [hi] at g1; cases g1
      · simp [RepS]
    · intro b k z n hi
      unfold frzM
      split
      · rename_i e z' els
        simp only [StO] at h0
        rcases h0.2 with h1 | ⟨b', k', cs, el', g1, g2, g3, g4, g5, g6, g7⟩
        · rw [hi] at h1; cases h1.2
        · rw [hi] at g1; cases g1
          simp only [RepS, Rep]
          refine ⟨_, k, rfl, g5, .inr ⟨b, 0, z, rfl, ?_⟩⟩
          refine repEls_of_list (fun (h : M b ∧ ∀ k, ι id ≠ some (b, k)) => h.2 _ hi) h0.1 (RepL.keep hkp _ _ g7) ?_
          intro j v hj
          rw [cell_of_block g3]
          rw [List.getElem?_take] at hj
          split at hj
          · simpa using hj
          · cases hj
      · simp [RepS]
    · intro b k hi
      unfold frzP
      split
      · rename_i es
        simp only [StO] at h0
        obtain ⟨b', k', en, clock, g1, g2, g3, g4, g5, g6, g7⟩ := h0
        rw [hi] at g1; cases g1
        simp only [RepS, Rep]
        exact ⟨b, en, clock, rfl, fun h => h.2 k hi, g3, g4, g5, g6, RepMap.keep hkp _ _ g7⟩
      · simp [RepS]
  have hget : ∀ i y, ((frzH id o h).set id .dead)[i]? = some y → (i = id ∧ y = .dead) ∨ (i ≠ id ∧ ∃ y', h[i]? = some y' ∧ y = frzO id o y') := by
    intro i y hy
    rcases set_get hy with ⟨h1, h2, _⟩ | ⟨h1, h2⟩
    · exact .inl ⟨h1, h2⟩
    · rw [frzH_get] at h2
      cases hh : h[i]? with
      | none => rw [hh] at h2; cases h2
      | some y' => rw [hh] at h2; simp at h2; exact .inr ⟨h1, y', rfl, h2.symm⟩
  have hlv : ∀ y, live (frzO id o y) = live y := by intro y; cases y <;> rfl
  have hM' : ∀ i y b k, i ≠ id → h[i]? = some y → live y = true → ι i = some (b, k) → (M b ∧ ∀ k, ι id ≠ some (b, k)) := by
    intro i y b k hne hy l e
    exact ⟨(H.objs i y hy).ownM l e, fun k' e' => hne (H.dist i id y o b k k' hy ho l hl e e')⟩
  refine ⟨fun b => M b ∧ ∀ k, ι id ≠ some (b, k), ⟨?_, ?_, ?_, H.gl.keep hkp⟩, hfz, hkp, ⟨rfl, rfl, rfl, Nat.le_refl _, fun _ _ _ => rfl, fun _ _ h => h.1, ?_, ?_, ?_⟩⟩
  · intro i y hy
    simp only [List.length_set, frzH_length]
    rcases hget i y hy with ⟨rfl, rfl⟩ | ⟨hne, y', hy', rfl⟩
    · simp [StO]
    · have h1 := H.objs i y' hy'
      cases y' with
      | dead => simp [frzO, StO]
      | pin j x => simpa [frzO, StO] using h1
      | cells xs =>
        simp only [frzO, StO] at h1 ⊢
        obtain ⟨b, k, cs, el, g1, g2, g3, g4⟩ := h1
        exact ⟨b, k, cs, el, g1, hM' i _ b k hne hy' rfl g1, g3, RepSL.frz hfz hkp _ _ g4⟩
      | arr e z els =>
        simp only [frzO, StO] at h1 ⊢
        refine ⟨h1.1, ?_⟩
        rcases h1.2 with h1 | ⟨b, k, cs, el', g1, g2, g3, g4, g5, g6, g7⟩
        · exact .inl h1
        · exact .inr ⟨b, k, cs, el', g1, hM' i _ b _ hne hy' rfl g1, g3, g4, g5, g6, RepL.keep hkp _ _ g7⟩
      | map es =>
        simp only [frzO, StO] at h1 ⊢
        obtain ⟨b, k, en, clock, g1, g2, g3, g4, g5, g6, g7⟩ := h1
        exact ⟨b, k, en, clock, g1, hM' i _ b k hne hy' rfl g1, g3, g4, g5, g6, RepMap.keep hkp _ _ g7⟩
  · intro i j oi oj b k1 k2 h1 h2 l1 l2 e1 e2
    rcases hget i oi h1 with ⟨rfl, rfl⟩ | ⟨hne, y', hy', rfl⟩
    · simp [live] at l1
    · rcases hget j oj h2 with ⟨rfl, rfl⟩ | ⟨hne2, y2, hy2, rfl⟩
      · simp [live] at l2
      · rw [hlv] at l1 l2
        exact H.dist i j y' y2 b k1 k2 hy' hy2 l1 l2 e1 e2
  · intro b hb; exact H.mlt b hb.1
  · intro b hb hn
    exact ⟨hb, fun k e => hn ⟨id, o, k, ho, hl, e⟩⟩
  · rintro b hb ⟨i, y, k, h1, h2, h3⟩
    rcases hget i y h1 with ⟨rfl, rfl⟩ | ⟨hne, y', hy', rfl⟩
    · simp [live] at h2
    · rw [hlv] at h2; exact ⟨i, y', k, hy', h2, h3⟩
  · rintro b hb ⟨i, y, k, h0, h1, h2, h3⟩
    rcases hget i y h1 with ⟨rfl, rfl⟩ | ⟨hne, y', hy', rfl⟩
    · simp [live] at h2
    · rw [hlv] at h2; exact ⟨i, y', k, h0, hy', h2, h3⟩

/-! ### bytes as a text; slices made -/
def byA (b : ByteArray) : List (List AV) := b.data.toList.map fun u => [.c (.int .u8 (u.toNat : Int))]

@[irreducible] def ByEv (els : List (List AV)) (k : ByteArray → Prop) : Prop := ∃ b, els = byA b ∧ k b
theorem byev {els : List (List AV)} {k : ByteArray → Prop} (b : ByteArray) (h : els = byA b) (hk : k b) : ByEv els k := by unfold ByEv; exact ⟨b, h, hk⟩
theorem ByEv.elim {els : List (List AV)} {k : ByteArray → Prop} (h : ByEv els k) : ∃ b, els = byA b ∧ k b := by unfold ByEv at h; exact h

def vbytes (T : TT) (src dst : Nat) (els : List (List AV)) (K : SV → Prop) : Prop :=
  onO (slOf T src) fun q => onO (T.find dst) fun j => match q.2.k, j.k with
    | .int .u8, .str => ByEv els fun b => K (.v (.c (.string b)))
    | _, _ => False

theorem byA_flat (b : ByteArray) : (byA b).flatten = b.data.toList.map fun u => AV.c (.int .u8 (u.toNat : Int)) := by
  unfold byA
  induction b.data.toList with
  | nil => rfl
  | cons u l ih => simp [ih]

theorem repL_bytes {w M} : ∀ {l : List UInt8} {cs : List Value}, RepL w M (l.map fun u => AV.c (.int .u8 (u.toNat : Int))) cs → cs = l.map fun u => Value.int .u8 (u.toNat : Int)
  | [], cs, h => by simpa [RepL] using h
  | u :: l, cs, h => by
    simp only [List.map_cons, RepL, Rep] at h
    obtain ⟨c, cs', rfl, rfl, h2⟩ := h
    rw [repL_bytes h2]; rfl

theorem vbytes_ok {P : Program} {T : TT} (hT : T.all P = true) {src dst : Nat} {els : List (List AV)} {x : SV} {K : SV → Prop} {ι w M h c} (hv : vbytes T src dst els K) (H : St ι w M h) (hs : srcOf h x = some els) (hx : RepS ι h.length w M x c) :
    ∃ b, (convert src dst c).run P w = .ok (.string b) w ∧ K (.v (.c (.string b))) := by
  unfold vbytes at hv
  obtain ⟨⟨e, j⟩, hq, hv⟩ := onO_some hv
  obtain ⟨d, hd, hv⟩ := onO_some hv
  obtain ⟨h1, h2⟩ := slOf_ok hT hq
  simp only at hv
  split at hv
  · rename_i hk hk2
    obtain ⟨b, rfl, hv2⟩ := hv.elim
    refine ⟨b, ?_, hv2⟩
    obtain ⟨ao, cap, news, rfl, g1, g2, g3⟩ := srcOf_ok (z := 1) H hs hx (by
      intro y hy
      simp only [byA, List.mem_map] at hy
      obtain ⟨u, _, rfl⟩ := hy; rfl)
    rw [byA_flat] at g1
    have hn := repL_bytes g1
    have hel : P.underlying e = some (.int .u8) := und_int h2 hk
    have hds : P.underlying dst = some .string := und_str (TT.ok hT dst d hd) hk2
    have hlen : (byA b).length = b.data.toList.length := by simp [byA]
    cases ao with
    | none =>
      rcases g3 with g3 | ⟨_, g3, _⟩
      · have : b.data.toList = [] := by have := congrArg List.length g3; rw [hlen] at this; exact List.eq_nil_of_length_eq_zero this
        rw [run_convert_bytes_nil w src e h1 hel _ _ dst hds]
        congr 2
        cases b; simp at this; subst this; rfl
      · cases g3
    | some a =>
      have := run_convert_bytes_back (P := P) w src dst e a cap b.data.toList h1 hel hds (fun k hk => by
        rcases g3 with g3 | ⟨a', ha, g3⟩
        · have := congrArg List.length g3; rw [hlen] at this; simp only [List.length_nil] at this; omega
        · cases ha
          refine g3 k _ ?_
          rw [hn, List.getElem?_map, List.getElem?_eq_getElem hk]; rfl)
      rw [hlen]
      rw [this]
  · exact hv.elim

def vmakeSlice (T : TT) (t : Nat) (l c : SV) (α : AF) (h : List SO) (K : SV → AF → List SO → Prop) : Prop :=
  onO (slOf T t) fun q => match l, c with
    | .v (.c (.int _ a)), .v (.c (.int _ b)) => bif Nat.ble 1 q.2.size && Nat.beq q.2.zero.length q.2.size then
        Side (0 ≤ a ∧ a = b ∧ a * (q.2.bytes + 1) ≤ 70368744177664) (forceN h.length fun id => K (.ms id) α (h ++ [.arr q.1 q.2.size (List.replicate a.toNat (q.2.zero.map ofVal))])) else False
    | _, _ => False

theorem madeCells_list (z : Array Value) (hz : 0 < z.size) : ∀ n, (madeCells z (n * z.size)).toList = (List.replicate n z.toList).flatten := by
  intro n
  apply List.ext_getElem?
  intro i
  have hl : (madeCells z (n * z.size)).toList.length = n * z.size := by simp [madeCells]
  have hr : (List.replicate n z.toList).flatten.length = n * z.size := by simp
  rcases Nat.lt_or_ge i (n * z.size) with hi | hi
  · have e1 : (madeCells z (n * z.size)).toList[i]? = some (z[i % z.size]!) := by
      simp [madeCells, hi]
    rw [e1]
    have hm : i % z.size < z.size := Nat.mod_lt _ hz
    have key : ∀ (n i : Nat), i < n * z.size → (List.replicate n z.toList).flatten[i]? = some (z[i % z.size]!) := by
      intro n
      induction n with
      | zero => intro i hi; omega
      | succ n ih =>
        intro i hi
        rw [List.replicate_succ, List.flatten_cons, List.getElem?_append]
        simp only [Array.length_toList]
        split
        · rename_i h
          rw [Nat.mod_eq_of_lt h]
          simp [h]
        · rename_i h
          have h := Nat.le_of_not_lt h
          rw [ih (i - z.size) (by rw [Nat.add_mul] at hi; omega)]
          rw [← Nat.mod_eq_sub_mod h]
    rw [key n i hi]
  · rw [List.getElem?_eq_none (by omega), List.getElem?_eq_none (by omega)]

theorem repL_flat {w M} {xs : List AV} {cs : List Value} (h : RepL w M xs cs) : ∀ n, RepL w M (List.replicate n xs).flatten (List.replicate n cs).flatten
  | 0 => by simp [RepL]
  | n + 1 => by rw [List.replicate_succ, List.replicate_succ, List.flatten_cons, List.flatten_cons]; exact h.append (repL_flat h n)

theorem vmakeSlice_ok {P : Program} {T : TT} (hT : T.all P = true) {t : Nat} {l c : SV} {vl vc : Value} {ι w M h us n a α} {K : SV → AF → List SO → Prop} (hv : vmakeSlice T t l c α h K)
    (H : St ι w M h) (F : FR ι h.length w M n α a) (hl : RepS ι h.length w M l vl) (hc : RepS ι h.length w M c vc) : Out ι w M h us n a K ((Instr.makeSlice t vl vc).run P w) := by
  unfold vmakeSlice at hv
  obtain ⟨⟨e, j⟩, hq, hv⟩ := onO_some hv
  obtain ⟨h1, h2⟩ := slOf_ok hT hq
  simp only at hv
  split at hv
  · rename_i kl x kc y _hv0
    cases hb : (Nat.ble 1 j.size && Nat.beq j.zero.length j.size) with
    | false => rw [hb] at hv; exact hv.elim
    | true =>
      rw [hb] at hv; simp only [cond_true, forceN_eq] at hv
      simp only [Bool.and_eq_true] at hb
      have b3 := Nat.le_of_ble_eq_true hb.1
      have b4 := Nat.eq_of_beq_eq_true hb.2
      obtain ⟨⟨s1, rfl, s3⟩, hv2⟩ := hv.elim
      simp only [RepS, Rep] at hl hc
      subst hl; subst hc
      obtain ⟨f, d, z, g1, g2, g3, g4, g5, g6, g7, g8⟩ := h2.ex
      have hz : z.cells.size = j.size := by rw [← b4, ← g7]; simp
      have hx : ((x.toNat : Nat) : Int) = x := Int.toNat_of_nonneg s1
      have hnn : 0 ≤ x * (j.bytes : Int) := Int.mul_nonneg s1 (Int.natCast_nonneg _)
      have hmul : x * ((j.bytes : Int) + 1) = x * (j.bytes : Int) + x := by rw [Int.mul_add, Int.mul_one]
      have hrun := run_make (P := P) w t e f z h1 g1 g6 kl kc x x s1 (Int.le_refl _) (by rw [g4, Int.mul_comm]; omega) (by omega)
      rw [hrun, g3]
      have hcs : (madeCells z.cells (x.toNat * j.size)).toList = (List.replicate x.toNat j.zero).flatten := by
        rw [← hz, madeCells_list _ (by omega), g7]
      have := pushArr_ok (us := us) H F (els := List.replicate x.toNat (j.zero.map ofVal)) (z := j.size) (cs := madeCells z.cells (x.toNat * j.size)) e (by
        intro y hy; rw [List.eq_of_mem_replicate hy]; simpa using b4) (by rw [List.length_replicate]; unfold maxLen; omega)
        (by rw [hcs]; exact repL_flat (repL_ofVal w M _) _) hv2
      rw [List.length_replicate] at this
      exact this
  · exact hv.elim

end Go.AV0
/- The executor over operations, regions and code, and its soundness. -/
namespace Go.AV0

def FnOk (P : Program) (f : FuncId) : Prop := ∃ fn, P.funcs[f]? = some fn ∧ (fn.name == "runtime.NumGoroutine") = false ∧ fn.body.isSome = true

theorem run_callFunc {P : Program} {f : FuncId} (h : FnOk P f) (args : Array Value) (w : World) : (callFunc f args).run P w = .ok (.enter f args) w := by
  obtain ⟨fn, h1, h2, h3⟩ := h
  cases hb : fn.body with
  | none => rw [hb] at h3; cases h3
  | some b =>
    have h2' : ¬ fn.name = "runtime.NumGoroutine" := by simpa using h2
    simp [callFunc, h1, h2', hb]

/-- what a call, or an operation, leaves -/
def CPost (ι : Iota) (w : World) (M : Nat → Prop) (h : List SO) (us : Us) (n : Nat) (a : Act) (K : SV → AF → List SO → Prop) (e : Ending) (w' : World) : Prop :=
  ∃ c s α' h' ι' M', e = .returned c ∧ K s α' h' ∧ St ι' w' M' h' ∧ FR ι' h'.length w' M' n α' a ∧ RepS ι' h'.length w' M' s c ∧ Grow ι w M h us ι' w' M' h'

@[irreducible] def CallEv (P : Program) (us : Us) (f : FuncId) (args : List SV) (α : AF) (h : List SO) (K : SV → AF → List SO → Prop) : Prop :=
  FnOk P f ∧ ∀ ι w M n a cs, St ι w M h → FR ι h.length w M n α a → RepSL ι h.length w M args cs → Calls P f cs.toArray w (CPost ι w M h us n a K)

theorem CallEv.elim {P us f args α h K} (x : CallEv P us f args α h K) :
    FnOk P f ∧ ∀ ι w M n a cs, St ι w M h → FR ι h.length w M n α a → RepSL ι h.length w M args cs → Calls P f cs.toArray w (CPost ι w M h us n a K) := by
  unfold CallEv at x; exact x

theorem CallEv.intro {P us f args α h K} (x : FnOk P f) (y : ∀ ι w M n a cs, St ι w M h → FR ι h.length w M n α a → RepSL ι h.length w M args cs → Calls P f cs.toArray w (CPost ι w M h us n a K)) : CallEv P us f args α h K := by
  unfold CallEv; exact ⟨x, y⟩

/-- a function value's target: the function, what goes ahead of the arguments, what is captured -/
def cloOf (s : SV) : Option (FuncId × List SV × List SV) :=
  match s with
  | .v (.c (.func (.func f) a b)) => match a.toList, b.toList with
    | [], [] => some (f, [], [])
    | _, _ => none
  | .v (.clo (.func f) a b) => some (f, a.map .v, b.map .v)
  | .clo (.func f) a b => some (f, a, b)
  | _ => none

theorem cloOf_ok {s f a b} {ι N w M c} (h : cloOf s = some (f, a, b)) (hs : RepS ι N w M s c) : ∃ x y : Array Value, c = .func (.func f) x y ∧ RepSL ι N w M a x.toList ∧ RepSL ι N w M b y.toList := by
  unfold cloOf at h
  split at h <;> try (cases h; done)
  · rename_i f' a' b'
    split at h <;> cases h
    rename_i ha hb
    simp only [RepS, Rep] at hs; subst hs; exact ⟨a', b', rfl, by simp [RepSL, ha], by simp [RepSL, hb]⟩
  · cases h; simp only [RepS, Rep] at hs; obtain ⟨x, y, rfl, h1, h2⟩ := hs; exact ⟨x, y, rfl, RepSL.ofL h1, RepSL.ofL h2⟩
  · cases h; simp only [RepS] at hs; obtain ⟨x, y, rfl, h1, h2⟩ := hs; exact ⟨x, y, rfl, h1, h2⟩

def mkClo (fn : Fn) (a b : List SV) : SV :=
  match closedL a, closedL b with
  | some x, some y => .v (.clo fn x y)
  | _, _ => .clo fn a b

theorem mkClo_ok {fn a b} {ι N w M} {x y : Array Value} (h1 : RepSL ι N w M a x.toList) (h2 : RepSL ι N w M b y.toList) : RepS ι N w M (mkClo fn a b) (.func fn x y) := by
  unfold mkClo
  split
  · rename_i p q hp hq
    rw [closedL_map hp] at h1; rw [closedL_map hq] at h2
    simp only [RepS, Rep]; exact ⟨x, y, rfl, h1.toL, h2.toL⟩
  · simp only [RepS]; exact ⟨x, y, rfl, h1, h2⟩

def evO (α : AF) (x : Option Operand) : Option (Option SV) :=
  match x with
  | none => some none
  | some x => match evs α x with
    | some s => some (some s)
    | none => none

theorem evO_ok {ι N w M n α a} (H : FR ι N w M n α a) {x : Option Operand} {r : Option SV} (h : evO α x = some r) : RepO ι N w M r (x.map a.eval) := by
  unfold evO at h
  split at h
  · cases h; simp [RepO]
  · split at h <;> cases h
    rename_i s hs
    simp only [Option.map_some, RepO]; exact evs_ok H hs

def vbuiltin (_P : Program) (T : TT) (us : Us) (b : Builtin) (ts : List TypeId) (args : List SV) (α : AF) (h : List SO) (K : SV → AF → List SO → Prop) : Prop :=
  match b, ts, args with
  | .len, [t], [s] => bif safeId us s then vlen T t s h fun s => K s α h else False
  | .append, ts, [s, x] => vappend T us ts s x α h K
  | .max, _, [x, y] => vmax x y fun s => K s α h
  | .min, _, [x, y] => vmin x y fun s => K s α h
  | .complex, _, [.v (.c (.float .f64 a)), .v (.c (.float .f64 b))] => K (.v (.c (.complex .f64 a b))) α h
  | .real, _, [.v (.c (.complex k a _))] => K (.v (.c (.float k a))) α h
  | .imag, _, [.v (.c (.complex k _ b))] => K (.v (.c (.float k b))) α h
  | _, _, _ => False

def sing : List AV → List (List AV)
  | [] => []
  | y :: l => [y] :: sing l

theorem sing_flat : ∀ l : List AV, (sing l).flatten = l
  | [] => rfl
  | y :: l => by simp [sing, sing_flat l]

theorem sing_len : ∀ l : List AV, (sing l).length = l.length
  | [] => rfl
  | y :: l => by simp [sing, sing_len l]

theorem sing_one : ∀ l : List AV, ∀ x ∈ sing l, x.length = 1
  | [], x, h => by cases h
  | y :: l, x, h => by
    simp only [sing, List.mem_cons] at h
    rcases h with rfl | h
    · rfl
    · exact sing_one l x h

/-- an array of one's own, as a slice: it is an object of that kind from here on -/
def vsliceA (T : TT) (us : Us) (t id : Nat) (α : AF) (h : List SO) (K : SV → AF → List SO → Prop) : Prop :=
  onO (arOf T t) fun q => onO (nth h id) fun o => match o with
    | .cells xs => onO (closedL xs) fun ys => bif inU us id && Nat.beq q.2.2.size 1 && Nat.beq ys.length q.1 && Nat.ble 1 q.1 && Nat.ble q.1 1000 then K (.ms id) (killA id α) ((killH id h).set id (.arr q.2.1 1 (sing ys))) else False
    | _ => False

theorem vsliceA_ok {P : Program} {T : TT} (hT : T.all P = true) {us : Us} {t id : Nat} {ι : Iota} {w : World} {M : Nat → Prop} {h : List SO} {n : Nat} {a : Act} {α : AF} {K : SV → AF → List SO → Prop} {c : Value} (hv : vsliceA T us t id α h K)
    (H : St ι w M h) (F : FR ι h.length w M n α a) (hs : RepS ι h.length w M (.ref id 0) c) : Out ι w M h us n a K ((Instr.sliceAt t c none none none).run P w) := by
  obtain ⟨⟨k, e, j⟩, hq, hv⟩ := onO_some hv
  obtain ⟨q1, q2⟩ := arOf_ok hT hq
  obtain ⟨o, ho, hv⟩ := onO_some hv
  rw [nth_eq] at ho
  cases o with
  | cells xs =>
    obtain ⟨ys, hy, hv⟩ := onO_some hv
    cases hc : (inU us id && Nat.beq j.size 1 && Nat.beq ys.length k && Nat.ble 1 k && Nat.ble k 1000) with
    | false => simp only [hc, cond_false] at hv
    | true =>
      simp only [hc, cond_true] at hv
      simp only [Bool.and_eq_true] at hc
      obtain ⟨⟨⟨⟨c1, c2⟩, c3⟩, c4⟩, c5⟩ := hc
      have c2 := Nat.eq_of_beq_eq_true c2
      have c3 := Nat.eq_of_beq_eq_true c3
      have c4 := Nat.le_of_ble_eq_true c4
      have c5 := Nat.le_of_ble_eq_true c5
      have h0 := H.objs id _ ho
      simp only [StO] at h0
      obtain ⟨b, kk, cs, el, g1, g2, g3, g4⟩ := h0
      rw [closedL_map hy] at g4
      have g4 := g4.toL
      have hlen := g4.length
      have hcs : cs.size = k := by simpa [c3] using hlen
      simp only [RepS] at hs
      obtain ⟨hid, b', k', g5, rfl⟩ := hs
      rw [g1] at g5; cases g5
      obtain ⟨m1, m2, m3, m4⟩ := H.move us c1 ho (.arr e 1 (sing ys)) (some (b, k, 1, k)) w M (fun b hb => .inl hb) (fun b hb => hb) (Nat.le_refl _) (fun _ _ _ => rfl) (fun b2 k2 hk => by cases hk; exact .inr ⟨rfl, _, g1⟩) rfl rfl rfl (by
        simp only [StO]
        refine ⟨sing_one ys, .inr ⟨b, k, cs, el, by rw [upd_same, sing_len, c3], g2, g3, by omega, by rw [sing_len, c3]; exact Nat.le_refl _, ⟨by unfold maxLen; omega, .inl (by rw [sing_len, c3])⟩, ?_⟩⟩
        rw [sing_flat, sing_len, List.take_of_length_le (by simp; omega)]
        exact g4)
      have hrun : (Instr.sliceAt t (.pointer (some ⟨b, 0, none⟩)) none none none).run P w = .ok (.slice (some ⟨b, 0, none⟩) k k) w := by
        simp [Instr.sliceAt, run_underlying q1, Instr.sureAddr, Instr.sliceBounds, run_sizeOf q2, Addr.add_lit]
      refine ⟨_, _, _, _, _, _, _, hrun, hv, m1, by simpa [killH_length] using F.kill m2 m3, ?_, m4⟩
      simp only [RepS, List.length_set, killH_length]
      exact ⟨hid, .inr ⟨b, k, _, _, upd_same _ _ _, rfl⟩⟩
  | _ => exact hv.elim

/-! ### in plain form -/
mutual
def nfS : SV → (SV → Prop) → Prop
  | .any, K => K .any
  | .v x, K => K (.v x)
  | .ref a b, K => forceN a fun a => forceN b fun b => K (.ref a b)
  | .eref a b c, K => forceN a fun a => K (.eref a b c)
  | .ms a, K => forceN a fun a => K (.ms a)
  | .mm a, K => forceN a fun a => K (.mm a)
  | .tup l, K => nfL l fun l => K (.tup l)
  | .agg l, K => nfL l fun l => K (.agg l)
  | .clo f a b, K => nfL a fun a => nfL b fun b => K (.clo f a b)
def nfL : List SV → (List SV → Prop) → Prop
  | [], K => K []
  | x :: l, K => nfS x fun x => nfL l fun l => K (x :: l)
end

mutual
theorem nfS_eq : ∀ (s : SV) (K : SV → Prop), nfS s K = K s
  | .any, K => rfl
  | .v x, K => rfl
  | .ref a b, K => by simp only [nfS, forceN_eq]
  | .eref a b c, K => by simp only [nfS, forceN_eq]
  | .ms a, K => by simp only [nfS, forceN_eq]
  | .mm a, K => by simp only [nfS, forceN_eq]
  | .tup l, K => by simp only [nfS]; rw [nfL_eq l]
  | .agg l, K => by simp only [nfS]; rw [nfL_eq l]
  | .clo f a b, K => by simp only [nfS]; rw [nfL_eq a, nfL_eq b]
theorem nfL_eq : ∀ (l : List SV) (K : List SV → Prop), nfL l K = K l
  | [], K => rfl
  | x :: l, K => by simp only [nfL]; rw [nfS_eq x, nfL_eq l]
end

def nfH : List SO → (List SO → Prop) → Prop
  | [], K => K []
  | .dead :: l, K => nfH l fun l => K (.dead :: l)
  | .cells xs :: l, K => nfL xs fun xs => nfH l fun l => K (.cells xs :: l)
  | .arr e z els :: l, K => nfH l fun l => K (.arr e z els :: l)
  | .map es :: l, K => nfH l fun l => K (.map es :: l)
  | .pin j x :: l, K => forceN j fun j => nfH l fun l => K (.pin j x :: l)

theorem nfH_eq : ∀ (h : List SO) (K : List SO → Prop), nfH h K = K h
  | [], K => rfl
  | .dead :: l, K => by simp only [nfH]; rw [nfH_eq l]
  | .cells xs :: l, K => by simp only [nfH]; rw [nfL_eq, nfH_eq l]
  | .arr e z els :: l, K => by simp only [nfH]; rw [nfH_eq l]
  | .map es :: l, K => by simp only [nfH]; rw [nfH_eq l]
  | .pin j x :: l, K => by simp only [nfH, forceN_eq]; rw [nfH_eq l]

def nfF : List (Nat × SV) → (List (Nat × SV) → Prop) → Prop
  | [], K => K []
  | (j, s) :: l, K => nfS s fun s => nfF l fun l => K ((j, s) :: l)

theorem nfF_eq : ∀ (l : List (Nat × SV)) (K : List (Nat × SV) → Prop), nfF l K = K l
  | [], K => rfl
  | (j, s) :: l, K => by simp only [nfF]; rw [nfS_eq, nfF_eq l]

def vop0 (P : Program) (T : TT) (us : Us) (o : Oper) (α : AF) (h : List SO) (K : SV → AF → List SO → Prop) : Prop :=
  match o.op with
  | .move x => onO (evs α x) fun s => forceS s fun s => K s α h
  | .assign x => onO (evs α x) fun s => forceS s fun s => K s α h
  | .pick c a b => onO (evs α c) fun s => match s with
    | .v (.c (.bool t)) => BSplit t (onO (evs α a) fun s => forceS s fun s => K s α h) (onO (evs α b) fun s => forceS s fun s => K s α h)
    | _ => False
  | .alloc t => valloc T t α h K
  | .box _ x => onO (evs α x) fun s => vbox s α h K
  | .build t ps => onO (evP α ps.toList) fun r => vbuild T t r fun s => K s α h
  | .buildSlice t n ps => onO (evP α ps.toList) fun r => vbuildSlice T t n r α h K
  | .load t x => onO (evs α x) fun s => bif safeId us s then vload T t s α h K else False
  | .store t x y => onO (evs α x) fun s => onO (evs α y) fun v => vstore T us t s v α h K
  | .nilCheck x => onO (evs α x) fun s => vnil s fun s => K s α h
  | .binOp op t x y _ => onO (evs α x) fun a => onO (evs α y) fun b => vbin T op t (isK x || isK y) a b fun s => K s α h
  | .unOp op _ x => onO (evs α x) fun s => vun op s fun s => K s α h
  | .convert a b x => onO (evs α x) fun s => match s with
    | .ms id => onO (srcOf h (.ms id)) fun els => vbytes T a b els fun s => K s α h
    | .v (.sl els) => vbytes T a b els fun s => K s α h
    | s => vconvert T a b s fun s => K s α h
  | .makeSlice t l c => onO (evs α l) fun l => onO (evs α c) fun c => vmakeSlice T t l c α h K
  | .makeInterface t x => onO (evs α x) fun s => match s with
    | .mm id => onO (nth h id) fun o => bif live o then vmakeI T t (frzP o) fun s => K s (frzA id o α) ((frzH id o h).set id .dead) else False
    | s => vmakeI T t s fun s => K s α h
  | .makeFunc fn a b => onO (evL α a.toList) fun a => onO (evL α b.toList) fun b => K (mkClo fn a b) α h
  | .makeMap _ none => vmakeMap h α K
  | .slice t x lo hi none => onO (evs α x) fun s => match s, lo, hi with
    | .ref id 0, none, none => vsliceA T us t id α h K
    | s, lo, hi => onO (evO α lo) fun l => onO (evO α hi) fun u => vslice T t s l u fun s => K s α h
  | .fieldAddr t x f => onO (evs α x) fun s => vfieldAddr T t f s fun s => K s α h
  | .field t x f => onO (evs α x) fun s => vfield T t f s fun s => K s α h
  | .indexAddr t x i => onO (evs α x) fun s => onO (evs α i) fun i => vindexAddr T t s i h fun s => K s α h
  | .index t x i => onO (evs α x) fun s => onO (evs α i) fun i => vindex T t s i fun s => K s α h
  | .lookup t x i ok => onO (evs α x) fun s => onO (evs α i) fun i => bif safeId us s then vlookup T t s i ok h fun s => K s α h else False
  | .mapUpdate t m k v => onO (evs α m) fun m => onO (evs α k) fun k => onO (evs α v) fun v => vmapUpdate T us t m k v α h K
  | .typeAssert x _ t ok => onO (evs α x) fun s => vassert T s t ok fun s => K s α h
  | .extract x i => onO (evs α x) fun s => vextract s i fun s => K s α h
  | .call c => match c.callee with
    | .value x => onO (evs α x) fun f => onO (cloOf f) fun p => onO (evL α c.args.toList) fun args => CallEv P us p.1 (p.2.1 ++ args ++ p.2.2) α h K
    | .builtin b => onO (evL α c.args.toList) fun args => vbuiltin P T us b c.argTypes.toList args α h K
    | _ => False
  | .defer c => match c.callee with
    | .value x => onO (evs α x) fun f => onO (cloOf f) fun p => onO (evL α c.args.toList) fun args => match α with | ⟨l, e⟩ => K (.v (.tup [])) ⟨l, (p.1, p.2.1 ++ args, p.2.2) :: e⟩ h
    | _ => False
  | _ => False

/-- what changes the state leaves it in plain form -/
def nfO (op : Op) (h : List SO) (K : List SO → Prop) : Prop :=
  match op with
  | .alloc _ => nfH h K
  | .box _ _ => nfH h K
  | .buildSlice _ _ _ => nfH h K
  | .store _ _ _ => nfH h K
  | .makeMap _ _ => nfH h K
  | .makeSlice _ _ _ => nfH h K
  | .makeInterface _ _ => nfH h K
  | .slice _ _ _ _ _ => nfH h K
  | .mapUpdate _ _ _ _ => nfH h K
  | .call c => match c.callee with
    | .builtin .append => nfH h K
    | _ => K h
  | _ => K h

theorem nfO_eq (op : Op) (h : List SO) (K : List SO → Prop) : nfO op h K = K h := by
  unfold nfO; split <;> first | exact nfH_eq _ _ | rfl | (split <;> first | exact nfH_eq _ _ | rfl)

def vop (P : Program) (T : TT) (us : Us) (o : Oper) (α : AF) (h : List SO) (K : SV → AF → List SO → Prop) : Prop :=
  vop0 P T us o α h fun s α h => nfO o.op h fun h => K s α h

theorem vop_eq {P : Program} {T : TT} {us : Us} {o : Oper} {α : AF} {h : List SO} {K : SV → AF → List SO → Prop} : vop P T us o α h K = vop0 P T us o α h K := by
  unfold vop
  congr 1
  funext s α h
  exact nfO_eq _ _ _

/-- behind an operation -/
def Nxt (ι : Iota) (w : World) (M : Nat → Prop) (h : List SO) (us : Us) (n : Nat) (dst : Option Tmp) (K : SV → AF → List SO → Prop) (a' : Act) (w' : World) : Prop :=
  ∃ a1 c s α' h' ι' M', a' = a1.put dst c ∧ K s α' h' ∧ St ι' w' M' h' ∧ FR ι' h'.length w' M' n α' a1 ∧ RepS ι' h'.length w' M' s c ∧ Grow ι w M h us ι' w' M' h'

section
variable {P : Program} {T : TT} {us : Us} {o : Oper} {ι : Iota} {w : World} {M : Nat → Prop} {h : List SO} {n : Nat} {a : Act} {α : AF} {K : SV → AF → List SO → Prop} {Q : Exit → Act → World → Prop}

theorem wp_value (H : St ι w M h) (F : FR ι h.length w M n α a) {c : Value} {s : SV} (hr : (execOp a.eval o).run P w = .ok (.value c) w) (hk : K s α h) (hs : RepS ι h.length w M s c) :
    o.wp P a w (Nxt ι w M h us n o.dst K) Q := by
  unfold Oper.wp; rw [hr]
  exact ⟨a, c, s, α, h, ι, M, rfl, hk, H, F, hs, Grow.refl ι w M h us⟩

theorem wp_out {r : Result Value} (hr : (execOp a.eval o).run P w = r.andThen fun c w' => .ok (.value c) w') (ho : Out ι w M h us n a K r) : o.wp P a w (Nxt ι w M h us n o.dst K) Q := by
  obtain ⟨c, s, α', h', ι', w', M', rfl, h1, h2, h3, h4, h5⟩ := ho
  unfold Oper.wp; rw [hr]
  exact ⟨a, c, s, α', h', ι', M', rfl, h1, h2, h3, h4, h5⟩

theorem wp_skip' {w' : World} (hr : (execOp a.eval o).run P w = .ok .skip w')
    (ho : ∃ α' h' ι' M', K .any α' h' ∧ St ι' w' M' h' ∧ FR ι' h'.length w' M' n α' a ∧ Grow ι w M h us ι' w' M' h') : o.wp P a w (Nxt ι w M h us n o.dst K) Q := by
  obtain ⟨α', h', ι', M', h1, h2, h3, h4⟩ := ho
  unfold Oper.wp; rw [hr]
  exact ⟨a, undef, .any, α', h', ι', M', rfl, h1, h2, h3, by simp [RepS], h4⟩

theorem wp_call {f : FuncId} {args : List SV} (hc : CallEv P us f args α h K) (H : St ι w M h) (F : FR ι h.length w M n α a) {cs : List Value} (hr : (execOp a.eval o).run P w = .ok (.enter f cs.toArray) w) (ha : RepSL ι h.length w M args cs) :
    o.wp P a w (Nxt ι w M h us n o.dst K) Q := by
  obtain ⟨_, hc⟩ := hc.elim
  unfold Oper.wp; rw [hr]
  refine (hc ι w M n a cs H F ha).mono ?_
  rintro e w' ⟨c, s, α', h', ι', M', rfl, h1, h2, h3, h4, h5⟩
  exact ⟨a, c, s, α', h', ι', M', rfl, h1, h2, h3, h4, h5⟩

theorem vbuiltin_ok (hT : T.all P = true) {b : Builtin} {ts : List TypeId} {ty : TypeId} {cst : Array Bool} {args : List SV} {cs : List Value} (hv : vbuiltin P T us b ts args α h K) (H : St ι w M h) (F : FR ι h.length w M n α a) (ha : RepSL ι h.length w M args cs) :
    ∃ r : Result Value, (builtin b ts.toArray ty cst cs.toArray).run P w = r.andThen (fun c w' => .ok (.value c) w') ∧ Out ι w M h us n a K r := by
  unfold vbuiltin at hv
  split at hv
  · rename_i t s
    simp only [RepSL] at ha; obtain ⟨c, cs', rfl, h1, rfl⟩ := ha
    cases hs : safeId us s with
    | false => rw [hs] at hv; exact hv.elim
    | true =>
      rw [hs] at hv; simp only [cond_true] at hv
      obtain ⟨c', s', g1, g2, g3⟩ := vlen_ok (ty := ty) hT hs hv H h1
      exact ⟨_, by simp [builtin], Out.same H F (g1 w (Same.refl _ _)) g2 g3⟩
  · rename_i s x
    simp only [RepSL] at ha; obtain ⟨c, cs', rfl, h1, d, ds', rfl, h2, rfl⟩ := ha
    exact ⟨_, by simp [builtin], vappend_ok (ty := ty) hT hv H F h1 h2⟩
  · rename_i x y
    simp only [RepSL] at ha; obtain ⟨c, cs', rfl, h1, d, ds', rfl, h2, rfl⟩ := ha
    obtain ⟨c', s', g1, g2, g3⟩ := vmax_ok (P := P) (ts := ts.toArray) (ty := ty) hv h1 h2
    exact ⟨_, by simp [builtin], Out.same H F (g1 w) g2 g3⟩
  · rename_i x y
    simp only [RepSL] at ha; obtain ⟨c, cs', rfl, h1, d, ds', rfl, h2, rfl⟩ := ha
    obtain ⟨c', s', g1, g2, g3⟩ := vmin_ok (P := P) (ts := ts.toArray) (ty := ty) hv h1 h2
    exact ⟨_, by simp [builtin], Out.same H F (g1 w) g2 g3⟩
  · simp only [RepSL, RepS, Rep] at ha; obtain ⟨c, cs', rfl, rfl, d, ds', rfl, rfl, rfl⟩ := ha
    rename_i p q
    exact ⟨.ok (.complex .f64 p q) w, rfl, Out.same H F rfl hv (by simp [RepS, Rep])⟩
  · simp only [RepSL, RepS, Rep] at ha; obtain ⟨c, cs', rfl, rfl, rfl⟩ := ha
    rename_i k p q
    exact ⟨.ok (.float k p) w, rfl, Out.same H F rfl hv (by simp [RepS, Rep])⟩
  · simp only [RepSL, RepS, Rep] at ha; obtain ⟨c, cs', rfl, rfl, rfl⟩ := ha
    rename_i k p q
    exact ⟨.ok (.float k q) w, rfl, Out.same H F rfl hv (by simp [RepS, Rep])⟩
  · exact hv.elim

end
end Go.AV0
/- Soundness of the executor: an operation, a region, code. -/
namespace Go.AV0

section
variable {P : Program} {T : TT} {us : Us} {o : Oper} {ι : Iota} {w : World} {M : Nat → Prop} {h : List SO} {n : Nat} {a : Act} {α : AF} {K : SV → AF → List SO → Prop} {Q : Exit → Act → World → Prop}

theorem vop_ok (hT : T.all P = true) (hv : vop P T us o α h K) (H : St ι w M h) (F : FR ι h.length w M n α a) : o.wp P a w (Nxt ι w M h us n o.dst K) Q := by
  have hv1 := hv
  rw [vop_eq] at hv1
  unfold vop0 at hv1
  clear hv
  split at hv1
  · rename_i x hop
    obtain ⟨s, hs, hv⟩ := onO_some hv1; rw [forceS_eq] at hv
    exact wp_value H F (by simp [execOp, hop]) hv (evs_ok F hs)
  · rename_i x hop
    obtain ⟨s, hs, hv⟩ := onO_some hv1; rw [forceS_eq] at hv
    exact wp_value H F (by simp [execOp, hop]) hv (evs_ok F hs)
  · rename_i c x y hop
    obtain ⟨s, hs, hv⟩ := onO_some hv1
    split at hv
    · rename_i t
      have hc := evs_ok F hs
      simp only [RepS, Rep] at hc
      obtain ⟨h1, h2⟩ := hv.elim
      cases t with
      | true =>
        obtain ⟨s, hs, hv⟩ := onO_some (h1 rfl); rw [forceS_eq] at hv
        exact wp_value H F (by simp [execOp, hop, hc, asBool]) hv (evs_ok F hs)
      | false =>
        obtain ⟨s, hs, hv⟩ := onO_some (h2 rfl); rw [forceS_eq] at hv
        exact wp_value H F (by simp [execOp, hop, hc, asBool]) hv (evs_ok F hs)
    · exact hv.elim
  · rename_i t hop
    refine wp_out (by simp only [execOp, hop, Sem.run_bind, Sem.run_pure]) (valloc_ok hT hv1 H F)
  · rename_i t x hop
    obtain ⟨s, hs, hv⟩ := onO_some hv1
    refine wp_out (by simp only [execOp, hop, Sem.run_bind, Sem.run_pure]) (vbox_ok (P := P) (t := t) hv H F (evs_ok F hs))
  · rename_i t ps hop
    obtain ⟨r, hr, hv⟩ := onO_some hv1
    have hr := evP_ok F hr
    obtain ⟨c, s, h1, h2, h3⟩ := vbuild_ok (P := P) (parts' := ps.map fun (i, x) => (i, a.eval x)) hT hv (by simpa using hr)
    exact wp_value H F (by simp only [execOp, hop, Sem.run_bind, h1, Result.andThen_ok, Sem.run_pure]) h2 h3
  · rename_i t m ps hop
    obtain ⟨r, hr, hv⟩ := onO_some hv1
    have hr := evP_ok F hr
    refine wp_out (by simp only [execOp, hop, Sem.run_bind, Sem.run_pure]) (vbuildSlice_ok (parts' := ps.map fun (i, x) => (i, a.eval x)) hT hv H F (by simpa using hr))
  · rename_i t x hop
    obtain ⟨s, hs, hv⟩ := onO_some hv1
    cases hsafe : safeId us s with
    | false => rw [hsafe] at hv; exact hv.elim
    | true =>
      rw [hsafe] at hv; simp only [cond_true] at hv
      obtain ⟨c, s', h1, h2, h3⟩ := vload_ok hT hsafe hv H (evs_ok F hs)
      exact wp_value H F (by simp only [execOp, hop, Sem.run_bind, h1 w (Same.refl _ _), Result.andThen_ok, Sem.run_pure]) h2 h3
  · rename_i t x y hop
    obtain ⟨s, hs, hv⟩ := onO_some hv1
    obtain ⟨v, hv', hv⟩ := onO_some hv
    obtain ⟨w', h1, h2⟩ := vstore_ok hT hv H F (evs_ok F hs) (evs_ok F hv')
    exact wp_skip' (by simp only [execOp, hop, Sem.run_bind, h1, Result.andThen_ok, Sem.run_pure]) h2
  · rename_i x hop
    obtain ⟨s, hs, hv⟩ := onO_some hv1
    obtain ⟨⟨ad, had⟩, hk⟩ := vnil_ok hv (evs_ok F hs)
    exact wp_value H F (c := .pointer (some ad)) (by simp [execOp, hop, had]) hk (by rw [← had]; exact evs_ok F hs)
  · rename_i op t x y t' hop
    obtain ⟨s, hs, hv⟩ := onO_some hv1
    obtain ⟨s2, hs2, hv⟩ := onO_some hv
    obtain ⟨c, s', h1, h2, h3⟩ := vbin_ok hT hv (evs_ok F hs) (evs_ok F hs2)
    exact wp_value H F (by simp only [execOp, hop]; rw [Sem.run_bind, h1 w]; rfl) h2 h3
  · rename_i op t x hop
    obtain ⟨s, hs, hv⟩ := onO_some hv1
    obtain ⟨c, s', h1, h2, h3⟩ := vun_ok (P := P) hv (evs_ok F hs)
    exact wp_value H F (by simp only [execOp, hop, Sem.run_bind, h1, Result.andThen_ok, Sem.run_pure]) h2 h3
  · rename_i t u x hop
    obtain ⟨s, hs, hv⟩ := onO_some hv1
    split at hv
    · obtain ⟨els, he, hv⟩ := onO_some hv
      obtain ⟨b, h1, h2⟩ := vbytes_ok (P := P) hT hv H he (evs_ok F hs)
      exact wp_value (c := .string b) H F (by simp only [execOp, hop, Sem.run_bind, h1, Result.andThen_ok, Sem.run_pure]) h2 (by simp [RepS, Rep])
    · obtain ⟨b, h1, h2⟩ := vbytes_ok (P := P) (x := .v (.sl _)) hT hv H rfl (evs_ok F hs)
      exact wp_value (c := .string b) H F (by simp only [execOp, hop, Sem.run_bind, h1, Result.andThen_ok, Sem.run_pure]) h2 (by simp [RepS, Rep])
    · obtain ⟨c, s', h1, h2, h3⟩ := vconvert_ok (P := P) hT hv (evs_ok F hs)
      exact wp_value H F (by simp only [execOp, hop, Sem.run_bind, h1, Result.andThen_ok, Sem.run_pure]) h2 h3
  · rename_i t l c hop
    obtain ⟨s, hs, hv⟩ := onO_some hv1
    obtain ⟨s2, hs2, hv⟩ := onO_some hv
    exact wp_out (by simp only [execOp, hop, Sem.run_bind, Sem.run_pure]) (vmakeSlice_ok (P := P) hT hv H F (evs_ok F hs) (evs_ok F hs2))
  · rename_i t x hop
    obtain ⟨s, hs, hv⟩ := onO_some hv1
    split at hv
    · rename_i id
      obtain ⟨ob, ho, hv⟩ := onO_some hv
      cases hl : live ob with
      | false => rw [hl] at hv; exact hv.elim
      | true =>
        rw [hl] at hv; simp only [cond_true] at hv
        rw [nth_eq] at ho
        obtain ⟨M', g1, g2, g3, g4⟩ := H.freeze us ho hl
        have hlen : ((frzH id ob h).set id .dead).length = h.length := by simp [frzH_length]
        have hx := RepS.frz g2 g3 _ _ (evs_ok F hs)
        simp only [AV0.frz, Nat.beq_refl, cond_true] at hx
        obtain ⟨c, s', h1, h2, h3⟩ := vmakeI_ok (P := P) hT hv hx
        unfold Oper.wp
        rw [show (execOp a.eval o).run P w = .ok (.value c) w by simp only [execOp, hop, Sem.run_bind, h1, Result.andThen_ok, Sem.run_pure]]
        exact ⟨a, c, s', _, _, ι, M', rfl, h2, g1, by rw [hlen]; exact F.frz g2 g3, by rw [hlen]; exact h3, g4⟩
    · obtain ⟨c, s', h1, h2, h3⟩ := vmakeI_ok (P := P) hT hv (evs_ok F hs)
      exact wp_value H F (by simp only [execOp, hop, Sem.run_bind, h1, Result.andThen_ok, Sem.run_pure]) h2 h3
  · rename_i fn p q hop
    obtain ⟨x, hx, hv⟩ := onO_some hv1
    obtain ⟨y, hy, hv⟩ := onO_some hv
    refine wp_value H F (c := .func fn (p.map a.eval) (q.map a.eval)) (by simp [execOp, hop, Instr.makeFunc]) hv (mkClo_ok (by simpa using evL_ok F hx) (by simpa using evL_ok F hy))
  · rename_i t hop
    refine wp_out (by simp only [execOp, hop, Sem.run_bind, Sem.run_pure, Option.map_none]) (vmakeMap_ok (P := P) (t := t) hv1 H F)
  · rename_i t x lo hi hop
    obtain ⟨s, hs, hv⟩ := onO_some hv1
    split at hv
    · rename_i id
      exact wp_out (by simp only [execOp, hop, Sem.run_bind, Sem.run_pure, Option.map_none]) (vsliceA_ok (P := P) hT hv H F (evs_ok F hs))
    obtain ⟨l, hl, hv⟩ := onO_some hv
    obtain ⟨u, hu, hv⟩ := onO_some hv
    obtain ⟨c, s', h1, h2, h3⟩ := vslice_ok (P := P) hT hv (evs_ok F hs) (evO_ok F hl) (evO_ok F hu)
    exact wp_value H F (by simp only [execOp, hop, Sem.run_bind, Option.map_none, h1, Result.andThen_ok, Sem.run_pure]) h2 h3
  · rename_i t x f hop
    obtain ⟨s, hs, hv⟩ := onO_some hv1
    obtain ⟨c, s', h1, h2, h3⟩ := vfieldAddr_ok (P := P) hT hv (evs_ok F hs)
    exact wp_value H F (by simp only [execOp, hop, Sem.run_bind, h1, Result.andThen_ok, Sem.run_pure]) h2 h3
  · rename_i t x f hop
    obtain ⟨s, hs, hv⟩ := onO_some hv1
    obtain ⟨c, s', h1, h2, h3⟩ := vfield_ok (P := P) hT hv (evs_ok F hs)
    exact wp_value H F (by simp only [execOp, hop, Sem.run_bind, h1, Result.andThen_ok, Sem.run_pure]) h2 h3
  · rename_i t x i hop
    obtain ⟨s, hs, hv⟩ := onO_some hv1
    obtain ⟨s2, hs2, hv⟩ := onO_some hv
    obtain ⟨c, s', h1, h2, h3⟩ := vindexAddr_ok (P := P) hT hv H (evs_ok F hs) (evs_ok F hs2)
    exact wp_value H F (by simp only [execOp, hop, Sem.run_bind, h1, Result.andThen_ok, Sem.run_pure]) h2 h3
  · rename_i t x i hop
    obtain ⟨s, hs, hv⟩ := onO_some hv1
    obtain ⟨s2, hs2, hv⟩ := onO_some hv
    obtain ⟨c, s', h1, h2, h3⟩ := vindex_ok (P := P) hT hv (evs_ok F hs) (evs_ok F hs2)
    exact wp_value H F (by simp only [execOp, hop, Sem.run_bind, h1, Result.andThen_ok, Sem.run_pure]) h2 h3
  · rename_i t x i ok hop
    obtain ⟨s, hs, hv⟩ := onO_some hv1
    obtain ⟨s2, hs2, hv⟩ := onO_some hv
    cases hsafe : safeId us s with
    | false => rw [hsafe] at hv; exact hv.elim
    | true =>
      rw [hsafe] at hv; simp only [cond_true] at hv
      obtain ⟨c, s', h1, h2, h3⟩ := vlookup_ok (P := P) hT hsafe hv H (evs_ok F hs) (evs_ok F hs2)
      exact wp_value H F (by simp only [execOp, hop, Sem.run_bind, h1 w (Same.refl _ _), Result.andThen_ok, Sem.run_pure]) h2 h3
  · rename_i t m k v hop
    obtain ⟨s, hs, hv⟩ := onO_some hv1
    obtain ⟨s2, hs2, hv⟩ := onO_some hv
    obtain ⟨s3, hs3, hv⟩ := onO_some hv
    obtain ⟨w', h1, h2⟩ := vmapUpdate_ok hT hv H F (evs_ok F hs) (evs_ok F hs2) (evs_ok F hs3)
    exact wp_skip' (by simp only [execOp, hop, Sem.run_bind, h1, Result.andThen_ok, Sem.run_pure]) h2
  · rename_i x xt t ok hop
    obtain ⟨s, hs, hv⟩ := onO_some hv1
    obtain ⟨c, s', h1, h2, h3⟩ := vassert_ok (P := P) (xt := xt) hT hv (evs_ok F hs)
    exact wp_value H F (by simp only [execOp, hop, Sem.run_bind, h1, Result.andThen_ok, Sem.run_pure]) h2 h3
  · rename_i x i hop
    obtain ⟨s, hs, hv⟩ := onO_some hv1
    obtain ⟨c, s', h1, h2, h3⟩ := vextract_ok (P := P) hv (evs_ok F hs)
    exact wp_value H F (by simp only [execOp, hop, Sem.run_bind, h1, Result.andThen_ok, Sem.run_pure]) h2 h3
  · rename_i c hop
    split at hv1
    · rename_i x hcal
      obtain ⟨f, hf, hv⟩ := onO_some hv1
      obtain ⟨⟨fi, fst, cp⟩, hp, hv⟩ := onO_some hv
      obtain ⟨args, hargs, hv⟩ := onO_some hv
      obtain ⟨x', y', hfe, h1, h2⟩ := cloOf_ok hp (evs_ok F hf)
      have ha := evL_ok F hargs
      have hok := hv.elim.1
      refine wp_call hv H F (cs := x'.toList ++ c.args.toList.map a.eval ++ y'.toList) ?_ ((h1.append ha).append h2)
      simp only [execOp, hop, resolve, hcal, hfe, Deferred.ofValue, Sem.run_bind, Sem.run_pure, Result.andThen_ok, invoke]
      rw [run_callFunc hok]
      congr 2
      apply Array.ext'
      simp
    · rename_i b hcal
      obtain ⟨args, hargs, hv⟩ := onO_some hv1
      have ha := evL_ok F hargs
      obtain ⟨r, h1, h2⟩ := vbuiltin_ok (ty := o.type) (cst := c.args.map fun | .const _ => true | _ => false) hT hv H F ha
      refine wp_out ?_ h2
      rw [← h1]
      simp only [execOp, hop, resolve, hcal, Sem.run_bind, Sem.run_pure, Result.andThen_ok, invoke]
      congr 2
      apply Array.ext'
      simp
    · exact hv1.elim
  · rename_i c hop
    split at hv1
    · rename_i x hcal
      obtain ⟨f, hf, hv⟩ := onO_some hv1
      obtain ⟨⟨fi, fst, cp⟩, hp, hv⟩ := onO_some hv
      obtain ⟨args, hargs, hv⟩ := onO_some hv
      obtain ⟨x', y', hfe, h1, h2⟩ := cloOf_ok hp (evs_ok F hf)
      have ha := evL_ok F hargs
      unfold Oper.wp
      have hr : (execOp a.eval o).run P w = .ok (.defer { target := .fn (.func fi) y', args := x' ++ c.args.map a.eval }) w := by
        simp only [execOp, hop, resolve, hcal, hfe, Deferred.ofValue, Sem.run_bind, Sem.run_pure, Result.andThen_ok]
      rw [hr]
      refine ⟨{ a with defers := { target := .fn (.func fi) y', args := x' ++ c.args.map a.eval } :: a.defers }, undef, _, _, h, ι, M, rfl, hv, H, ?_, ?_, Grow.refl ι w M h us⟩
      · refine ⟨F.size, F.slot, ?_⟩
        simp only [RepD]
        exact ⟨y', _, a.defers, rfl, by simpa using h1.append ha, h2, F.defs⟩
      · simp only [RepS, Rep]; exact ⟨#[], rfl, by simp [RepL]⟩
    · exact hv1.elim
  · exact hv1.elim
end

/-! ### regions -/
def vput (n : Nat) (dst : Option Tmp) (s : SV) (α : AF) (k : AF → Prop) : Prop :=
  match dst with
  | none => k α
  | some d => bif Nat.blt d n then (match α with | ⟨l, e⟩ => k ⟨(d, s) :: l, e⟩) else False

/-- the slot that tells whether an operation is wanted -/
def gslot (ops : List Oper) (j : Nat) : Option Nat :=
  match nth ops j with
  | some o => o.dst
  | none => none

def vguard (ops : List Oper) (α : AF) (g : Option (Nat × Bool)) (run skip : Prop) : Prop :=
  match g with
  | none => run
  | some (j, want) => match gslot ops j with
    | some d => match look α.s d with
      | some (.v (.c (.bool b))) => match want with
        | true => BSplit b run skip
        | false => BSplit b skip run
      | some (.v (.tup [])) => skip
      | _ => False
    | none => False

/-- one operation, and what follows -/
def vopsStep (P : Program) (T : TT) (us : Us) (n : Nat) (ops : List Oper) (o : Oper) (rest : (AF → List SO → Prop) → AF → List SO → Prop) (K : AF → List SO → Prop) (α : AF) (h : List SO) : Prop :=
  vguard ops α o.guard
      (vop P T us o α h fun s α h => vput n o.dst s α fun α => rest K α h)
      (vput n o.dst (.v (.tup [])) α fun α => rest K α h)

def vopsEnd (K : AF → List SO → Prop) (α : AF) (h : List SO) : Prop := K α h

/-- by the recursor itself: so the kernel meets the same terms as the elaborator -/
noncomputable def vops (P : Program) (T : TT) (us : Us) (n : Nat) (ops : List Oper) (l : List Oper) : (AF → List SO → Prop) → AF → List SO → Prop :=
  List.rec (motive := fun _ => (AF → List SO → Prop) → AF → List SO → Prop) vopsEnd (fun o _ ih => vopsStep P T us n ops o ih) l

theorem vops_cons {P T us n ops o rest K α h} : vops P T us n ops (o :: rest) K α h = vguard ops α o.guard
      (vop P T us o α h fun s α h => vput n o.dst s α fun α => vops P T us n ops rest K α h)
      (vput n o.dst (.v (.tup [])) α fun α => vops P T us n ops rest K α h) := rfl

theorem vguard_ok {ops : Array Oper} {o : Oper} {α : AF} {run skip : Prop} {ι N w M n a} (h : vguard ops.toList α o.guard run skip) (F : FR ι N w M n α a) :
    (Region.wanted o (yielded ops a.tmps) = true ∧ run) ∨ (Region.wanted o (yielded ops a.tmps) = false ∧ skip) := by
  unfold vguard at h
  unfold Region.wanted
  split at h
  · rename_i hg; left; rw [hg]; exact ⟨rfl, h⟩
  · rename_i j want hg
    rw [hg]
    split at h
    · rename_i d hd
      have hdd : (ops[j]?).bind (·.dst) = some d := by
        unfold gslot at hd
        rw [nth_eq, Array.getElem?_toList] at hd
        split at hd
        · rename_i o' ho'; rw [ho']; exact hd
        · cases hd
      split at h
      · rename_i b hb
        obtain ⟨c, h1, h2⟩ := F.slot d _ hb
        simp only [RepS, Rep] at h2; subst h2
        have hy : yielded ops a.tmps j = some b := by simp [yielded, hdd, h1]
        simp only [hy]
        cases want <;> simp only at h <;> obtain ⟨g1, g2⟩ := h.elim <;> cases b
        · left; exact ⟨rfl, g2 rfl⟩
        · right; exact ⟨rfl, g1 rfl⟩
        · right; exact ⟨rfl, g2 rfl⟩
        · left; exact ⟨rfl, g1 rfl⟩
      · rename_i hb
        obtain ⟨c, h1, h2⟩ := F.slot d _ hb
        simp only [RepS, Rep] at h2
        obtain ⟨cs, rfl, h2⟩ := h2
        have hy : yielded ops a.tmps j = none := by simp [yielded, hdd, h1]
        simp only [hy]
        exact .inr ⟨rfl, h⟩
      · exact h.elim
    · exact h.elim

end Go.AV0
/- The executor over code, and contracts of functions. -/
namespace Go.AV0

/-- what holds behind a piece of code -/
def APost (ι : Iota) (w : World) (M : Nat → Prop) (h : List SO) (us : Us) (n : Nat) (Q : Exit → AF → List SO → Prop) (e : Exit) (a' : Act) (w' : World) : Prop :=
  ∃ α' h' ι' M', Q e α' h' ∧ St ι' w' M' h' ∧ FR ι' h'.length w' M' n α' a' ∧ Grow ι w M h us ι' w' M' h'

theorem FR.vput {ι N w M n α a dst s c} {k : AF → Prop} (H : FR ι N w M n α a) (hs : RepS ι N w M s c) (hv : vput n dst s α k) : ∃ α', k α' ∧ FR ι N w M n α' (a.put dst c) := by
  unfold AV0.vput at hv
  split at hv
  · exact ⟨α, hv, by simpa [Act.put] using H⟩
  · rename_i d
    cases hb : Nat.blt d n with
    | false => rw [hb] at hv; exact hv.elim
    | true => rw [hb] at hv; exact ⟨_, hv, H.put (by simpa [Nat.blt_eq] using hb) hs⟩

theorem vops_ok {P : Program} {T : TT} {us : Us} {n : Nat} (hT : T.all P = true) {ops : Array Oper} {Q : Exit → Act → World → Prop} {Q' : AF → List SO → Prop} {ι0 w0 M0 h0}
    (hQ : ∀ a' w' α' h' ι' M', Q' α' h' → St ι' w' M' h' → FR ι' h'.length w' M' n α' a' → Grow ι0 w0 M0 h0 us ι' w' M' h' → Q .normal a' w') (hM0 : ∀ b, M0 b → b < w0.heap.size) :
    ∀ (l : List Oper) (k : Nat), ops.toList.drop k = l → ∀ {ι w M h α a}, vops P T us n ops.toList l Q' α h → St ι w M h → FR ι h.length w M n α a → Grow ι0 w0 M0 h0 us ι w M h → wpOps P ops Q (List.range' k l.length) a w := by
  intro l
  induction l with
  | nil => intro k hk ι w M h α a hv H F G; simp only [List.length_nil, List.range'_zero, wpOps]; exact hQ a w α h ι M hv H F G
  | cons o l ih =>
    intro k hk ι w M h α a hv H F G
    have ho : ops[k]? = some o := by
      have : (ops.toList.drop k)[0]? = some o := by rw [hk]; rfl
      rw [List.getElem?_drop] at this
      simpa using this
    have hk' : ops.toList.drop (k + 1) = l := by
      rw [← List.drop_drop, hk]; rfl
    simp only [List.length_cons, List.range'_succ, wpOps, ho]
    rw [vops_cons] at hv
    rcases vguard_ok hv F with ⟨hw, hv⟩ | ⟨hw, hv⟩
    · rw [if_pos hw]
      left
      refine Oper.wp_mono ?_ (vop_ok (Q := Q) hT hv H F)
      rintro a' w' ⟨a1, c, s, α', h', ι', M', rfl, h1, h2, h3, h4, h5⟩
      obtain ⟨α2, h6, h7⟩ := h3.vput h4 h1
      exact ih (k + 1) hk' h6 h2 h7 (G.trans hM0 h5)
    · rw [hw]; simp only [Bool.false_eq_true, if_false]
      obtain ⟨α2, h6, h7⟩ := F.vput (c := undef) (by simp only [RepS, Rep]; exact ⟨#[], rfl, by simp [RepL]⟩) hv
      exact ih (k + 1) hk' h6 H h7 G

@[irreducible] def LoopEv (P : Program) (us : Us) (n : Nat) (body : Code) (Q : Exit → AF → List SO → Prop) (α : AF) (h : List SO) : Prop :=
  ∀ ι w M a, St ι w M h → FR ι h.length w M n α a → (Code.loop body).wp P (APost ι w M h us n Q) a w

@[irreducible] def DrawEv (P : Program) (us : Us) (n : Nat) (id : Nat) (ops : Array Oper) (Q : Exit → AF → List SO → Prop) (α : AF) (h : List SO) : Prop :=
  ∀ ι w M a, St ι w M h → FR ι h.length w M n α a → (Code.region id ops true).wp P (APost ι w M h us n Q) a w

abbrev VK := (Exit → AF → List SO → Prop) → AF → List SO → Prop

def vcSkip : VK := fun Q α h => Q .normal α h
def vcRegion (P : Program) (T : TT) (n : Nat) (id : Nat) (ops : Array Oper) (draw : Bool) : VK := fun Q α h =>
  bif draw then DrawEv P none n id ops Q α h else vops P T none n ops.toList ops.toList (Q .normal) α h
def vcSeq (a b : VK) : VK := fun Q α h => a (fun e α h => match e with
      | .normal => b Q α h
      | e => Q e α h) α h
def vcCond (c : Operand) (x y : VK) : VK := fun Q α h => onO (evs α c) fun s => match s with
      | .v (.c (.bool t)) => BSplit t (x Q α h) (y Q α h)
      | _ => False
def vcBlock (id : Nat) (c : VK) : VK := fun Q α h => c (fun e α h => match e with
      | .exit id' => bif Nat.beq id' id then Q .normal α h else Q (.exit id') α h
      | e => Q e α h) α h
def vcLoop (P : Program) (n : Nat) (body : Code) : VK := fun Q α h => LoopEv P none n body Q α h
def vcExit (id : Nat) : VK := fun Q α h => Q (.exit id) α h
def vcRet : VK := fun Q α h => Q .ret α h
def vcNo : VK := fun _ _ _ => False

/-- by the recursor itself: so the kernel meets the same terms as the elaborator -/
noncomputable def vcode (P : Program) (T : TT) (n : Nat) (c : Code) : VK :=
  Code.rec (motive := fun _ => VK) vcSkip (fun id ops draw => vcRegion P T n id ops draw) (fun _ _ a b => vcSeq a b) (fun c _ _ x y => vcCond c x y) (fun id _ c => vcBlock id c) (fun body _ => vcLoop P n body)
    (fun _ _ _ _ _ _ => vcNo) (fun id => vcExit id) (fun _ _ => vcNo) (fun _ => vcNo) (fun _ => vcNo) vcRet (fun _ => vcNo) c

section
variable {P : Program} {T : TT} {n : Nat} {Q : Exit → AF → List SO → Prop} {α : AF} {h : List SO}
theorem vcode_region {id ops draw} : vcode P T n (.region id ops draw) Q α h = (bif draw then DrawEv P none n id ops Q α h else vops P T none n ops.toList ops.toList (Q .normal) α h) := rfl
theorem vcode_seq {a b} : vcode P T n (.seq a b) Q α h = vcode P T n a (fun e α h => match e with
      | .normal => vcode P T n b Q α h
      | e => Q e α h) α h := rfl
theorem vcode_cond {c x y} : vcode P T n (.cond c x y) Q α h = onO (evs α c) fun s => match s with
      | .v (.c (.bool t)) => BSplit t (vcode P T n x Q α h) (vcode P T n y Q α h)
      | _ => False := rfl
theorem vcode_block {id c} : vcode P T n (.block id c) Q α h = vcode P T n c (fun e α h => match e with
      | .exit id' => bif Nat.beq id' id then Q .normal α h else Q (.exit id') α h
      | e => Q e α h) α h := rfl
theorem vcode_loop {body} : vcode P T n (.loop body) Q α h = LoopEv P none n body Q α h := rfl
end

theorem vcode_ok {P : Program} {T : TT} {n : Nat} (hT : T.all P = true) : ∀ (c : Code) {Q : Exit → AF → List SO → Prop} {α h}, vcode P T n c Q α h →
    ∀ {ι w M a}, St ι w M h → FR ι h.length w M n α a → c.wp P (APost ι w M h none n Q) a w
  | .skip, Q, α, h, hv, ι, w, M, a, H, F => wp_skip ⟨α, h, ι, M, hv, H, F, Grow.refl ι w M h none⟩
  | .region id ops draw, Q, α, h, hv, ι, w, M, a, H, F => by
    rw [vcode_region] at hv
    cases draw with
    | true => simp only [cond_true] at hv; unfold DrawEv at hv; exact hv ι w M a H F
    | false =>
      simp only [cond_false] at hv
      refine wp_region ?_
      have := vops_ok (Q := APost ι w M h none n Q) hT (fun a' w' α' h' ι' M' h1 h2 h3 h4 => ⟨α', h', ι', M', h1, h2, h3, h4⟩) H.mlt ops.toList 0 rfl hv H F (Grow.refl ι w M h none)
      rw [List.range_eq_range']
      simpa using this
  | .seq x y, Q, α, h, hv, ι, w, M, a, H, F => by
    rw [vcode_seq] at hv
    refine wp_seq ?_
    refine wp_mono (vcode_ok hT x hv H F) ?_
    rintro e a' w' ⟨α', h', ι', M', h1, h2, h3, h4⟩
    cases e with
    | normal =>
      refine wp_mono (vcode_ok hT y h1 h2 h3) ?_
      rintro e2 a2 w2 ⟨α2, h2', ι2, M2, g1, g2, g3, g4⟩
      exact ⟨α2, h2', ι2, M2, g1, g2, g3, h4.trans H.mlt g4⟩
    | exit _ => exact ⟨α', h', ι', M', h1, h2, h3, h4⟩
    | goto _ => exact ⟨α', h', ι', M', h1, h2, h3, h4⟩
    | ret => exact ⟨α', h', ι', M', h1, h2, h3, h4⟩
    | panic _ => exact ⟨α', h', ι', M', h1, h2, h3, h4⟩
    | outgrown => exact ⟨α', h', ι', M', h1, h2, h3, h4⟩
  | .cond c x y, Q, α, h, hv, ι, w, M, a, H, F => by
    rw [vcode_cond] at hv
    obtain ⟨s, hs, hv⟩ := onO_some hv
    split at hv
    · rename_i t
      have hc := evs_ok F hs
      simp only [RepS, Rep] at hc
      obtain ⟨h1, h2⟩ := hv.elim
      cases t with
      | true => exact wp_cond_true hc (vcode_ok hT x (h1 rfl) H F)
      | false => exact wp_cond_false hc (vcode_ok hT y (h2 rfl) H F)
    · exact hv.elim
  | .block id c, Q, α, h, hv, ι, w, M, a, H, F => by
    rw [vcode_block] at hv
    refine wp_block ?_
    refine wp_mono (vcode_ok hT c hv H F) ?_
    rintro e a' w' ⟨α', h', ι', M', h1, h2, h3, h4⟩
    cases e with
    | exit id' =>
      simp only [Exit.inBlock]
      rcases nbeq (a := id') (b := id) with ⟨e1, e2⟩ | ⟨e1, e2⟩
      · rw [if_pos e2]; simp only [e1, cond_true] at h1; exact ⟨α', h', ι', M', h1, h2, h3, h4⟩
      · rw [if_neg e2]; simp only [e1, cond_false] at h1; exact ⟨α', h', ι', M', h1, h2, h3, h4⟩
    | normal => exact ⟨α', h', ι', M', h1, h2, h3, h4⟩
    | goto _ => exact ⟨α', h', ι', M', h1, h2, h3, h4⟩
    | ret => exact ⟨α', h', ι', M', h1, h2, h3, h4⟩
    | panic _ => exact ⟨α', h', ι', M', h1, h2, h3, h4⟩
    | outgrown => exact ⟨α', h', ι', M', h1, h2, h3, h4⟩
  | .loop body, Q, α, h, hv, ι, w, M, a, H, F => by
    rw [vcode_loop] at hv; unfold LoopEv at hv; exact hv ι w M a H F
  | .exit id, Q, α, h, hv, ι, w, M, a, H, F => wp_exit ⟨α, h, ι, M, hv, H, F, Grow.refl ι w M h none⟩
  | .ret, Q, α, h, hv, ι, w, M, a, H, F => wp_ret ⟨α, h, ι, M, hv, H, F, Grow.refl ι w M h none⟩
  | .rangeFunc .., Q, α, h, hv, _, _, _, _, _, _ => hv.elim
  | .scope _, Q, α, h, hv, _, _, _, _, _, _ => hv.elim
  | .label _, Q, α, h, hv, _, _, _, _, _, _ => hv.elim
  | .goto _, Q, α, h, hv, _, _, _, _, _, _ => hv.elim
  | .refuse _, Q, α, h, hv, _, _, _, _, _, _ => hv.elim

/-! ### loops -/
/-! no name behind N -/
mutual
def ltS (N : Nat) : SV → Bool
  | .any => true
  | .v _ => true
  | .ref a _ => Nat.blt a N
  | .eref a _ _ => Nat.blt a N
  | .ms a => Nat.blt a N
  | .mm a => Nat.blt a N
  | .tup l => ltL N l
  | .agg l => ltL N l
  | .clo _ a b => ltL N a && ltL N b
def ltL (N : Nat) : List SV → Bool
  | [] => true
  | x :: l => ltS N x && ltL N l
end

def ltO (N : Nat) : SO → Bool
  | .cells xs => ltL N xs
  | .pin j _ => Nat.blt j N
  | _ => true

def ltH (N : Nat) : List SO → Bool
  | [] => true
  | o :: l => ltO N o && ltH N l

mutual
theorem RepS.lower {ι N N' w M} : ∀ (s : SV) (c : Value), RepS ι N w M s c → ltS N' s = true → RepS ι N' w M s c
  | .any, _, _, _ => by simp [RepS]
  | .v x, c, r, _ => by simpa [RepS] using r
  | .ref a b, c, r, h => by simp only [RepS, ltS, Nat.blt_eq] at r h ⊢; exact ⟨h, r.2⟩
  | .eref a b d, c, r, h => by simp only [RepS, ltS, Nat.blt_eq] at r h ⊢; exact ⟨h, r.2⟩
  | .ms a, c, r, h => by simp only [RepS, ltS, Nat.blt_eq] at r h ⊢; exact ⟨h, r.2⟩
  | .mm a, c, r, h => by simp only [RepS, ltS, Nat.blt_eq] at r h ⊢; exact ⟨h, r.2⟩
  | .tup l, c, r, h => by simp only [RepS, ltS] at r h ⊢; obtain ⟨cs, h1, h2⟩ := r; exact ⟨cs, h1, RepSL.lower l _ h2 h⟩
  | .agg l, c, r, h => by simp only [RepS, ltS] at r h ⊢; obtain ⟨cs, h1, h2⟩ := r; exact ⟨cs, h1, RepSL.lower l _ h2 h⟩
  | .clo f a b, c, r, h => by
    simp only [RepS, ltS, Bool.and_eq_true] at r h ⊢; obtain ⟨x, y, h1, h2, h3⟩ := r
    exact ⟨x, y, h1, RepSL.lower a _ h2 h.1, RepSL.lower b _ h3 h.2⟩
theorem RepSL.lower {ι N N' w M} : ∀ (l : List SV) (cs : List Value), RepSL ι N w M l cs → ltL N' l = true → RepSL ι N' w M l cs
  | [], cs, r, _ => by simpa [RepSL] using r
  | x :: l, cs, r, h => by
    simp only [RepSL, ltL, Bool.and_eq_true] at r h ⊢; obtain ⟨c, cs', h1, h2, h3⟩ := r
    exact ⟨c, cs', h1, RepS.lower x c h2 h.1, RepSL.lower l cs' h3 h.2⟩
end

/-- a frame that says less -/
def SubF (s : List (Nat × SV)) (N : Nat) : List (Nat × SV) → Prop
  | [] => True
  | (i, v) :: r => (look s i = some v ∧ ltS N v = true) ∧ SubF s N r

theorem SubF.get {s N} : ∀ {r : List (Nat × SV)}, SubF s N r → ∀ i v, look r i = some v → look s i = some v ∧ ltS N v = true
  | (j, v') :: r, h, i, v, hl => by
    simp only [SubF] at h
    rw [look_cons] at hl
    split at hl
    · rename_i e; subst e; cases hl; exact h.1
    · exact SubF.get h.2 i v hl

/-- a state that says less: fewer slots; the objects at the end are let go -/
structure Sub (α : AF) (h : List SO) (α' : AF) (h' : List SO) : Prop where
  d : α'.d = []
  d' : α.d = []
  s : SubF α.s h'.length α'.s
  h : ∃ junk, h = h' ++ junk
  lt : ltH h'.length h' = true

theorem ltH_get {N} : ∀ {h : List SO}, ltH N h = true → ∀ (i : Nat) o, h[i]? = some o → ltO N o = true
  | x :: h, hl, 0, o, e => by simp only [ltH, Bool.and_eq_true] at hl; cases e; exact hl.1
  | x :: h, hl, i + 1, o, e => by simp only [ltH, Bool.and_eq_true] at hl; exact ltH_get hl.2 i o (by simpa using e)

theorem Sub.st {α h α' h'} (s : Sub α h α' h') {ι w M n a} (H : St ι w M h) (F : FR ι h.length w M n α a) : St ι w M h' ∧ FR ι h'.length w M n α' a ∧ ∀ us, Grow ι w M h us ι w M h' := by
  obtain ⟨junk, rfl⟩ := s.h
  have hget : ∀ (i : Nat) o, h'[i]? = some o → (h' ++ junk)[i]? = some o := by
    intro i o e
    rw [List.getElem?_append_left (get_lt e)]; exact e
  refine ⟨⟨?_, ?_, H.mlt, H.gl⟩, ⟨F.size, ?_, ?_⟩, ?_⟩
  · intro i o e
    have h0 := H.objs i o (hget i o e)
    have hl := ltH_get s.lt i o e
    cases o with
    | dead => simp [StO]
    | pin j x => simp only [StO, ltO, Nat.blt_eq] at h0 hl ⊢; exact ⟨hl, h0.2⟩
    | cells xs =>
      simp only [StO, ltO] at h0 hl ⊢
      obtain ⟨b, k, cs, el, h1, h2, h3, h4⟩ := h0
      exact ⟨b, k, cs, el, h1, h2, h3, RepSL.lower _ _ h4 hl⟩
    | arr e z els => exact h0
    | map es => exact h0
  · intro i j oi oj b k k' h1 h2 h3 h4 h5 h6
    exact H.dist i j oi oj b k k' (hget i oi h1) (hget j oj h2) h3 h4 h5 h6
  · intro i v hl
    obtain ⟨h1, h2⟩ := s.s.get i v hl
    obtain ⟨c, h3, h4⟩ := F.slot i v h1
    exact ⟨c, h3, RepS.lower v c h4 h2⟩
  · rw [s.d]
    have := F.defs
    rw [s.d'] at this
    simpa [RepD] using this
  · intro us
    exact ⟨rfl, rfl, rfl, Nat.le_refl _, fun _ _ _ => rfl, fun _ _ x => x, fun _ x _ => x, fun b _ ⟨i, o, k, h1, h2, h3⟩ => ⟨i, o, k, hget i o h1, h2, h3⟩, fun b _ ⟨i, o, k, h0, h1, h2, h3⟩ => ⟨i, o, k, h0, hget i o h1, h2, h3⟩⟩

/-- a round: from a state of the family on -/
def RoundQ {X : Type} (αx : X → AF) (hx : X → List SO) (μ : X → Nat) (x : X) (Q : Exit → AF → List SO → Prop) (e : Exit) (α : AF) (h : List SO) : Prop :=
  match e with
  | .normal => ∃ x', μ x' < μ x ∧ Sub α h (αx x') (hx x')
  | e => Q e α h

theorem loop_inv {P : Program} {T : TT} {n : Nat} (hT : T.all P = true) {X : Type} (αx : X → AF) (hx : X → List SO) (μ : X → Nat) (x0 : X) {body : Code} {Q : Exit → AF → List SO → Prop} {α : AF} {h : List SO}
    (h0 : Sub α h (αx x0) (hx x0)) (round : ∀ x, vcode P T n body (RoundQ αx hx μ x Q) (αx x) (hx x)) : LoopEv P none n body Q α h := by
  unfold LoopEv
  intro ι w M a H F
  have key : ∀ m x, μ x = m → ∀ ι w M a, St ι w M (hx x) → FR ι (hx x).length w M n (αx x) a → ∀ (b : Frame) (k : List Item) (cs : List Frame),
      ∃ e a' w', APost ι w M (hx x) none n Q e a' w' ∧ Arrives P (lone (b.at a (.code body :: .inLoop body :: k)) cs w) b k cs e a' w' := by
    intro m
    induction m using Nat.strongRecOn with
    | _ m ih =>
      intro x hm ι w M a H F b k cs
      obtain ⟨e, a1, w1, ⟨α1, h1, ι1, M1, q1, q2, q3, q4⟩, harr⟩ := vcode_ok hT body (round x) H F b (.inLoop body :: k) cs
      cases e with
      | normal =>
        obtain ⟨x', hlt, hs⟩ := q1
        obtain ⟨s1, s2, s3⟩ := hs.st q2 q3
        obtain ⟨e2, a2, w2, ⟨α2, h2, ι2, M2, r1, r2, r3, r4⟩, harr2⟩ := ih (μ x') (hm ▸ hlt) x' rfl ι1 w1 M1 a1 s1 s2 b k cs
        exact ⟨e2, a2, w2, ⟨α2, h2, ι2, M2, r1, r2, r3, q4.trans H.mlt ((s3 none).trans q2.mlt r4)⟩, .of_steps (Steps.trans harr (.one step_inLoop)) harr2⟩
      | exit id => exact ⟨_, a1, w1, ⟨α1, h1, ι1, M1, q1, q2, q3, q4⟩, .pass (x := .inLoop body) rfl (fun _ _ => .inl (by simp)) harr⟩
      | goto l => exact ⟨_, a1, w1, ⟨α1, h1, ι1, M1, q1, q2, q3, q4⟩, .pass (x := .inLoop body) rfl (fun _ _ => .inl (by simp)) harr⟩
      | ret => exact ⟨_, a1, w1, ⟨α1, h1, ι1, M1, q1, q2, q3, q4⟩, .pass (x := .inLoop body) rfl (fun _ _ => .inl (by simp)) harr⟩
      | panic ch => exact ⟨_, a1, w1, ⟨α1, h1, ι1, M1, q1, q2, q3, q4⟩, .pass (x := .inLoop body) rfl (fun _ _ => .inl (by simp)) harr⟩
      | outgrown => exact ⟨_, a1, w1, ⟨α1, h1, ι1, M1, q1, q2, q3, q4⟩, .pass (x := .inLoop body) rfl (fun _ _ => .inl (by simp)) harr⟩
  obtain ⟨s1, s2, s3⟩ := h0.st H F
  intro b k cs
  obtain ⟨e, a', w', ⟨α', h', ι', M', r1, r2, r3, r4⟩, harr⟩ := key _ x0 rfl ι w M a s1 s2 b k cs
  exact ⟨e, a', w', ⟨α', h', ι', M', r1, r2, r3, (s3 none).trans H.mlt r4⟩, .of_steps (.one step_loop) harr⟩

end Go.AV0
