/- The operations that write nothing, and why what the executor says of them is so. -/
import Derived.Test.YthbglcdcfdjbbaaFwB
namespace Go.AV0

def mkAgg (l : List SV) : SV :=
  match closedL l with
  | some xs => .v (.agg xs)
  | none => .agg l

def cellsOf (s : SV) : List SV :=
  match s with
  | .v (.agg xs) => xs.map .v
  | .agg l => l
  | s => [s]

/-- a value of one cell -/
def one (s : SV) : Bool :=
  match s with
  | .any => false
  | .v (.agg _) => false
  | .v (.tup _) => false
  | .v (.c v) => v.oneCell'
  | .agg _ => false
  | .tup _ => false
  | _ => true

def loadL (T : TT) (t : Nat) (xs : List SV) (k : SV → Prop) : Prop :=
  onO (T.find t) fun i => bif isAggK i.k then (bif Nat.ble i.size xs.length then k (mkAgg (xs.take i.size)) else False) else onO (nth xs 0) fun s => forceS s k

def vload (T : TT) (t : Nat) (s : SV) (α : AF) (h : List SO) (K : SV → AF → List SO → Prop) : Prop :=
  match s with
  | .ref id off => onO (nth h id) fun o => match o with
    | .cells xs => loadL T t (xs.drop off) fun s => K s α h
    | _ => False
  | .eref id i off => onO (nth h id) fun o => match o with
    | .arr _ _ els => ElEv els (i : Int) fun e => loadL T t ((e.drop off).map .v) fun s => K s α h
    | _ => False
  | .v (.ptr (some ys)) => loadL T t (ys.map .v) fun s => K s α h
  | _ => False

theorem onO_some {α : Type} {o : Option α} {k : α → Prop} (h : onO o k) : ∃ x, o = some x ∧ k x := by
  cases o with
  | none => exact h.elim
  | some x => exact ⟨x, rfl, h⟩

theorem run_isAgg {P : Program} {t : Nat} {i : TI} (h : TOk P t i) (w : World) : (isAgg t).run P w = .ok (isAggK i.k) w := by
  obtain ⟨f, d, z, h1, h2, h3, h4, h5, h6, h7, h8⟩ := h.ex
  unfold isAgg
  simp only [Sem.run_bind, run_underlying h2, Result.andThen_ok]
  cases hk : i.k <;> rw [hk] at h5 <;> cases d <;> simp_all [tkOk, isAggK]

theorem run_sizeOf {P : Program} {t : Nat} {i : TI} (h : TOk P t i) (w : World) : (sizeOf t).run P w = .ok i.size w := by
  obtain ⟨f, d, z, h1, h2, h3, h4, h5, h6, h7, h8⟩ := h.ex
  simp [sizeOf, typeInfo, h1, h3]

theorem run_zero {P : Program} {t : Nat} {i : TI} (h : TOk P t i) : ∃ z, (∀ w, (zeroValue t).run P w = .ok z w) ∧ z.cells.toList = i.zero ∧ isAggV z = isAggK i.k := by
  obtain ⟨f, d, z, h1, h2, h3, h4, h5, h6, h7, h8⟩ := h.ex
  exact ⟨z, fun w => by simp [zeroValue, typeInfo, h1, h6], h7, h8⟩

theorem cells_get {ι N w M xs cs} (h : RepSL ι N w M xs cs) (b off : Nat) (hc : ∀ j v, cs[j]? = some v → w.cell? ⟨b, off + j, none⟩ = some v) : ∀ (i : Nat) (x : SV), xs[i]? = some x → ∃ c, w.cell? ⟨b, off + i, none⟩ = some c ∧ RepS ι N w M x c := by
  intro i x hx
  obtain ⟨c, h1, h2⟩ := h.get i x hx
  exact ⟨c, hc i c h1, h2⟩

theorem closedL_none_or {l : List SV} : (∃ xs, closedL l = some xs ∧ mkAgg l = .v (.agg xs)) ∨ mkAgg l = .agg l := by
  unfold mkAgg
  cases h : closedL l with
  | none => exact .inr rfl
  | some xs => exact .inl ⟨xs, rfl, rfl⟩

theorem mkAgg_rep {ι N w M l cs} (h : RepSL ι N w M l cs) : RepS ι N w M (mkAgg l) (.agg cs.toArray) := by
  rcases closedL_none_or (l := l) with ⟨xs, h1, h2⟩ | h2
  · rw [h2]; simp only [RepS, Rep]
    rw [closedL_map h1] at h
    exact ⟨cs.toArray, rfl, by simpa using h.toL⟩
  · rw [h2]; simp only [RepS]; exact ⟨cs.toArray, rfl, by simpa using h⟩

/-- a world that differs only where the blocks U may be written, and behind its end -/
def Same (U : Nat → Prop) (w w' : World) : Prop := ∀ b, b < w.heap.size → ¬ U b → w'.heap[b]? = w.heap[b]?

theorem Same.refl (U w) : Same U w w := fun _ _ _ => rfl

theorem Same.cell {U w w'} (h : Same U w w') {b off : Nat} {v : Value} (hU : ¬ U b) (hc : w.cell? ⟨b, off, none⟩ = some v) : w'.cell? ⟨b, off, none⟩ = some v := by
  have h1 := h b (lt_of_cell hc) hU
  unfold World.cell? at hc ⊢
  simp only at hc ⊢
  rw [h1]; exact hc

/-- cells in a row are read -/
theorem loadL_ok {P : Program} {T : TT} (hT : T.all P = true) {t : Nat} {U : Nat → Prop} {ι N w M xs cs} {k : SV → Prop} {b off : Nat} (hU : ¬ U b) (h : loadL T t xs k)
    (hx : RepSL ι N w M xs cs) (hc : ∀ j v, cs[j]? = some v → w.cell? ⟨b, off + j, none⟩ = some v) :
    ∃ c s, (∀ w', Same U w w' → (Instr.loadAt t (.pointer (some ⟨b, off, none⟩))).run P w' = .ok c w') ∧ k s ∧ RepS ι N w M s c := by
  obtain ⟨i, hi, h⟩ := onO_some h
  have ht := TT.ok hT t i hi
  cases ha : isAggK i.k with
  | true =>
    rw [ha] at h; simp only [cond_true] at h
    cases hb : Nat.ble i.size xs.length with
    | false => rw [hb] at h; exact h.elim
    | true =>
      rw [hb] at h; simp only [cond_true] at h
      have hle : i.size ≤ xs.length := Nat.le_of_ble_eq_true hb
      have hl := hx.length
      have hl2 : (cs.take i.size).length = i.size := by simp; omega
      refine ⟨.agg (cs.take i.size).toArray, _, ?_, h, mkAgg_rep (hx.take i.size)⟩
      intro w' hw'
      have hld := run_loadCells_list (P := P) w' ⟨b, off, none⟩ (cs.take i.size) (fun j v hj => by
        rw [Addr.add_lit]; apply hw'.cell hU; apply hc j v
        rw [List.getElem?_take] at hj
        split at hj
        · exact hj
        · cases hj)
      rw [hl2] at hld
      simp [Instr.loadAt, Instr.sureAddr, loadVar, run_isAgg ht, ha, run_sizeOf ht, hld]
  | false =>
    rw [ha] at h; simp only [cond_false] at h
    obtain ⟨s, hs, h⟩ := onO_some h
    rw [forceS_eq] at h
    rw [nth_eq] at hs
    obtain ⟨c, h1, h2⟩ := cells_get hx b off hc 0 s hs
    refine ⟨c, s, ?_, h, h2⟩
    simp only [Nat.add_zero] at h1
    intro w' hw'
    have h1' := hw'.cell hU h1
    simp [Instr.loadAt, Instr.sureAddr, loadVar, run_isAgg ht, ha, h1']

theorem cell_of_block {w : World} {b : Nat} {cs : Array Value} {e : TypeId} {fr : Nat × Nat} (h : w.heap[b]? = some (.cells cs e fr)) (j : Nat) : w.cell? ⟨b, j, none⟩ = cs[j]? := by
  simp [World.cell?, h]

theorem repAt_list {w M b} : ∀ {ys : List AV} {off : Nat}, RepAt w M b ys off → ∃ cs, RepL w M ys cs ∧ ∀ (j : Nat) (v : Value), cs[j]? = some v → w.cell? ⟨b, off + j, none⟩ = some v
  | [], off, _ => ⟨[], by simp [RepL], by simp⟩
  | y :: ys, off, r => by
    simp only [RepAt] at r
    obtain ⟨⟨_, c, h1, h2⟩, h3⟩ := r
    obtain ⟨cs, h4, h5⟩ := repAt_list h3
    refine ⟨c :: cs, ?_, ?_⟩
    · simp only [RepL]; exact ⟨c, cs, rfl, h2, h4⟩
    · intro j v hj
      cases j with
      | zero => simp at hj; subst hj; simpa using h1
      | succ j => simp at hj; have := h5 j v hj; rwa [show off + 1 + j = off + (j + 1) by omega] at this

theorem RepAt.lt {w M b} {x : AV} {xs : List AV} {off : Nat} (h : RepAt w M b (x :: xs) off) : b < w.heap.size ∧ ¬ M b := by
  simp only [RepAt] at h
  obtain ⟨⟨h0, c, h1, _⟩, _⟩ := h
  exact ⟨lt_of_cell h1, h0⟩

theorem flat_get {els : List (List AV)} {z : Nat} (hz : ∀ x ∈ els, x.length = z) : ∀ {i : Nat} {e : List AV}, els[i]? = some e → (els.flatten.drop (i * z)).take z = e := by
  induction els with
  | nil => intro i e h; simp at h
  | cons x els ih =>
    intro i e h
    cases i with
    | zero =>
      simp at h; subst h
      have := hz x (by simp)
      simp [← this]
    | succ i =>
      simp at h
      have hx := hz x (by simp)
      have := ih (fun y hy => hz y (by simp [hy])) h
      rw [List.flatten_cons, show (i + 1) * z = x.length + i * z by rw [Nat.add_mul, hx]; omega, ← List.drop_drop, List.drop_left]
      exact this

theorem flat_len {els : List (List AV)} {z : Nat} (hz : ∀ x ∈ els, x.length = z) : els.flatten.length = els.length * z := by
  induction els with
  | nil => simp
  | cons x els ih =>
    have hx := hz x (by simp)
    rw [List.flatten_cons, List.length_append, ih (fun y hy => hz y (by simp [hy])), hx, List.length_cons, Nat.add_mul]; omega

/-- what an element of an array of one's own reads as -/
theorem arr_get {w M} {els : List (List AV)} {z : Nat} {b : Nat} {cs : Array Value} {e : TypeId} (hz : ∀ x ∈ els, x.length = z) (hb : w.heap[b]? = some (.cells cs e (0, 0)))
    (hr : RepL w M els.flatten (cs.toList.take (els.length * z))) {i : Nat} {x : List AV} (hx : els[i]? = some x) :
    ∃ vs, RepL w M x vs ∧ ∀ (j : Nat) (v : Value), vs[j]? = some v → w.cell? ⟨b, i * z + j, none⟩ = some v := by
  have h1 := (hr.drop (i * z)).take z
  rw [flat_get hz hx] at h1
  refine ⟨_, h1, ?_⟩
  intro j v hj
  rw [cell_of_block hb]
  rw [List.getElem?_take] at hj
  split at hj
  · rw [List.getElem?_drop, List.getElem?_take] at hj
    split at hj
    · simpa using hj
    · cases hj
  · cases hj

/-- the object that a load may read is not among those that may be written -/
def safeId (us : Us) (s : SV) : Bool :=
  match us, s with
  | none, _ => true
  | some l, .ref id _ => !inL l id
  | some l, .eref id _ _ => !inL l id
  | some l, .ms id => !inL l id
  | some l, .mm id => !inL l id
  | some _, _ => true

/-- the blocks that may be written -/
def UB (ι : Iota) (h : List SO) (us : Us) (b : Nat) : Prop := us ≠ none ∧ ownT ι h us b

theorem UB.notM {ι w M h us} (H : St ι w M h) {b : Nat} (hm : ¬ M b) : ¬ UB ι h us b := fun x => hm (H.ownM x.2.own)

theorem UB.notId {ι w M h us} (H : St ι w M h) {id b : Nat} {o : SO} {k} (ho : h[id]? = some o) (hl : live o = true) (hi : ι id = some (b, k)) (hs : us = none ∨ ∃ l, us = some l ∧ inL l id = false) : ¬ UB ι h us b := by
  rintro ⟨h0, j, o', k', h1, h2, h3, h4⟩
  rcases hs with rfl | ⟨l, rfl, hl2⟩
  · exact h0 rfl
  · have := H.dist j id o' o b k' k h2 ho h3 hl h4 hi
    subst this
    simp only [inU] at h1
    rw [hl2] at h1; cases h1

theorem vload_ok {P : Program} {T : TT} (hT : T.all P = true) {us : Us} {t : Nat} {s : SV} {α h K ι w M c} (hsafe : safeId us s = true) (hv : vload T t s α h K) (H : St ι w M h) (hs : RepS ι h.length w M s c) :
    ∃ c' s', (∀ w', Same (UB ι h us) w w' → (Instr.loadAt t c).run P w' = .ok c' w') ∧ K s' α h ∧ RepS ι h.length w M s' c' := by
  cases s with
  | ref id off =>
    simp only [vload] at hv
    obtain ⟨o, ho, hv⟩ := onO_some hv
    rw [nth_eq] at ho
    have h0 := H.objs id o ho
    cases o <;> try exact hv.elim
    rename_i xs
    simp only [StO] at h0
    obtain ⟨b, k, cs, el, h1, h2, h3, h4⟩ := h0
    simp only [RepS] at hs
    obtain ⟨_, b', k', h5, h6⟩ := hs
    rw [h1] at h5; cases h5; subst h6
    have hU := UB.notId (us := us) H ho rfl h1 (by cases us with | none => exact .inl rfl | some l => exact .inr ⟨l, rfl, by simpa [safeId] using hsafe⟩)
    exact loadL_ok hT hU hv (h4.drop off) (fun j v hj => by
      rw [cell_of_block h3]; rw [List.getElem?_drop] at hj; simpa using hj)
  | eref id i off =>
    simp only [vload] at hv
    obtain ⟨o, ho, hv⟩ := onO_some hv
    rw [nth_eq] at ho
    have h0 := H.objs id o ho
    cases o <;> try exact hv.elim
    rename_i e z els
    simp only [StO] at h0
    obtain ⟨_, x, hx, hv⟩ := hv.elim
    simp only [Int.toNat_natCast] at hx
    simp only [RepS] at hs
    obtain ⟨_, b', k', z', n', h5, h6⟩ := hs
    rcases h0.2 with h0 | ⟨b, k, cs, el', h1, h2, h3, h7, h8, h9, h10⟩
    · rw [h0.1] at hx; simp at hx
    · rw [h1] at h5; cases h5; subst h6
      obtain ⟨vs, g1, g2⟩ := arr_get h0.1 h3 h10 hx
      have hU := UB.notId (us := us) H ho rfl h1 (by cases us with | none => exact .inl rfl | some l => exact .inr ⟨l, rfl, by simpa [safeId] using hsafe⟩)
      exact loadL_ok hT hU hv (RepSL.ofL (g1.drop off)) (fun j v hj => by
        rw [List.getElem?_drop] at hj
        have := g2 _ v hj
        rwa [show i * z + (off + j) = i * z + off + j by omega] at this)
  | v x =>
    cases x <;> try exact hv.elim
    rename_i o
    cases o <;> try exact hv.elim
    rename_i ys
    simp only [RepS, Rep] at hs
    obtain ⟨b, off, rfl, h1, h2, h3⟩ := hs
    obtain ⟨cs, g1, g2⟩ := repAt_list h3
    exact loadL_ok hT (UB.notM H h2) hv (RepSL.ofL g1) g2
  | _ => exact hv.elim

/-! ### addresses and parts -/
def fieldOf (T : TT) (t f : Nat) : Option (Nat × TI) :=
  match T.find t with
  | some i => match i.k with
    | .st fs => match nth fs f with
      | some (off, ft) => match T.find ft with
        | some j => some (off, j)
        | none => none
      | none => none
    | _ => none
  | none => none

theorem fieldOf_ok {P : Program} {T : TT} (hT : T.all P = true) {t f off : Nat} {j : TI} (h : fieldOf T t f = some (off, j)) :
    ∃ (fields : Array Field) (fd : Field), P.underlying t = some (.struct fields) ∧ fields[f]? = some fd ∧ fd.offset = off ∧ TOk P fd.type j := by
  unfold fieldOf at h
  split at h <;> try (cases h; done)
  rename_i i hi
  split at h <;> try (cases h; done)
  rename_i fs hk
  split at h <;> try (cases h; done)
  rename_i off' ft hn
  split at h <;> try (cases h; done)
  rename_i j' hj
  cases h
  have ht := TT.ok hT t i hi
  obtain ⟨g, d, z, h1, h2, h3, h4, h5, h6, h7, h8⟩ := ht.ex
  rw [hk] at h5
  cases d <;> simp only [tkOk, Bool.false_eq_true] at h5
  rename_i fields
  simp only [beq_iff_eq] at h5
  rw [nth_eq, ← h5, List.getElem?_map, Array.getElem?_toList] at hn
  cases hf : fields[f]? with
  | none => rw [hf] at hn; cases hn
  | some fd =>
    rw [hf] at hn; simp at hn
    exact ⟨fields, fd, h2, hf, hn.1, hn.2 ▸ TT.ok hT _ _ hj⟩

def vfieldAddr (T : TT) (t f : Nat) (s : SV) (K : SV → Prop) : Prop :=
  onO (fieldOf T t f) fun p => bif Nat.beq p.2.size 0 then False else
    match s with
    | .ref id off => K (.ref id (off + p.1))
    | .eref id i off => K (.eref id i (off + p.1))
    | .v (.ptr (some ys)) => K (.v (.ptr (some (ys.drop p.1))))
    | _ => False

theorem vfieldAddr_ok {P : Program} {T : TT} (hT : T.all P = true) {t f : Nat} {s : SV} {K : SV → Prop} {ι N w M c} (hv : vfieldAddr T t f s K) (hs : RepS ι N w M s c) :
    ∃ c' s', (∀ w', (Instr.fieldAt t c f).run P w' = .ok c' w') ∧ K s' ∧ RepS ι N w M s' c' := by
  obtain ⟨⟨off0, j⟩, hp, hv⟩ := onO_some hv
  obtain ⟨fields, fd, h1, h2, h3, h4⟩ := fieldOf_ok hT hp
  have hz : j.size ≠ 0 := by
    intro e; simp [e] at hv
  have hz' : Nat.beq j.size 0 = false := by
    cases hb : Nat.beq j.size 0 with
    | false => rfl
    | true => exact absurd (Nat.eq_of_beq_eq_true hb) hz
  simp only [hz', cond_false] at hv
  have run : ∀ b off w', (Instr.fieldAt t (.pointer (some ⟨b, off, none⟩)) f).run P w' = .ok (.pointer (some ⟨b, off + off0, none⟩)) w' := by
    intro b off w'
    simp [Instr.fieldAt, run_underlying h1, h2, Instr.sureAddr, fieldPlace, run_sizeOf h4, hz, h3, Addr.add_lit]
  cases s with
  | ref id off =>
    simp only [RepS] at hs; obtain ⟨g0, b, k, g1, rfl⟩ := hs
    exact ⟨_, _, run b off, hv, by simp only [RepS]; exact ⟨g0, b, k, g1, rfl⟩⟩
  | eref id i off =>
    simp only [RepS] at hs; obtain ⟨g0, b, k, z, n, g1, rfl⟩ := hs
    exact ⟨_, _, run b _, hv, by simp only [RepS]; exact ⟨g0, b, k, z, n, g1, by rw [Nat.add_assoc]⟩⟩
  | v x =>
    cases x with
    | ptr o => cases o with
      | none => exact hv.elim
      | some ys =>
        simp only [RepS, Rep] at hs; obtain ⟨b, off, rfl, g1, g2, g3⟩ := hs
        exact ⟨_, _, run b off, hv, by simp only [RepS, Rep]; exact ⟨b, off + off0, rfl, g1, g2, g3.drop off0⟩⟩
    | _ => exact hv.elim
  | _ => exact hv.elim

/-- a part of a struct's cells -/
def partL (i : TI) (xs : List SV) (off : Nat) (K : SV → Prop) : Prop :=
  bif isAggK i.k then (bif Nat.ble (off + i.size) xs.length then K (mkAgg ((xs.drop off).take i.size)) else False) else onO (nth xs off) fun s => forceS s K

theorem partL_ok {P : Program} {t : Nat} {i : TI} (ht : TOk P t i) {xs : List SV} {off : Nat} {K : SV → Prop} {ι N w M cs} (h : partL i xs off K) (hx : RepSL ι N w M xs cs) :
    ∃ c s, (∀ w', (part t cs.toArray off).run P w' = .ok c w') ∧ K s ∧ RepS ι N w M s c := by
  unfold partL at h
  cases ha : isAggK i.k with
  | true =>
    rw [ha] at h; simp only [cond_true] at h
    cases hb : Nat.ble (off + i.size) xs.length with
    | false => rw [hb] at h; exact h.elim
    | true =>
      rw [hb] at h; simp only [cond_true] at h
      refine ⟨.agg ((cs.drop off).take i.size).toArray, _, ?_, h, mkAgg_rep ((hx.drop off).take i.size)⟩
      intro w'
      simp only [part, Sem.run_bind, run_isAgg ht, ha, Result.andThen_ok, run_sizeOf ht, if_true, Sem.run_pure]
      congr 2
      apply Array.ext'
      simp
  | false =>
    rw [ha] at h; simp only [cond_false] at h
    obtain ⟨s, hs, h⟩ := onO_some h
    rw [forceS_eq] at h
    rw [nth_eq] at hs
    obtain ⟨c, h1, h2⟩ := hx.get off s hs
    refine ⟨c, s, ?_, h, h2⟩
    intro w'
    simp [part, run_isAgg ht, ha, h1]

def aggL (s : SV) : Option (List SV) :=
  match s with
  | .v (.agg xs) => some (xs.map .v)
  | .agg l => some l
  | _ => none

theorem aggL_ok {s : SV} {l : List SV} {ι N w M c} (h : aggL s = some l) (hs : RepS ι N w M s c) : ∃ cs : List Value, c = .agg cs.toArray ∧ RepSL ι N w M l cs := by
  unfold aggL at h
  split at h <;> cases h
  · simp only [RepS, Rep] at hs; obtain ⟨cs, rfl, h⟩ := hs; exact ⟨cs.toList, by simp, RepSL.ofL h⟩
  · simp only [RepS] at hs; obtain ⟨cs, rfl, h⟩ := hs; exact ⟨cs.toList, by simp, h⟩

def vfield (T : TT) (t f : Nat) (s : SV) (K : SV → Prop) : Prop :=
  onO (fieldOf T t f) fun p => onO (aggL s) fun l => partL p.2 l p.1 K

theorem vfield_ok {P : Program} {T : TT} (hT : T.all P = true) {t f : Nat} {s : SV} {K : SV → Prop} {ι N w M c} (hv : vfield T t f s K) (hs : RepS ι N w M s c) :
    ∃ c' s', (∀ w', (Instr.field t c f).run P w' = .ok c' w') ∧ K s' ∧ RepS ι N w M s' c' := by
  obtain ⟨⟨off0, j⟩, hp, hv⟩ := onO_some hv
  obtain ⟨l, hl, hv⟩ := onO_some hv
  obtain ⟨fields, fd, h1, h2, h3, h4⟩ := fieldOf_ok hT hp
  obtain ⟨cs, rfl, hr⟩ := aggL_ok hl hs
  obtain ⟨c', s', g1, g2, g3⟩ := partL_ok h4 hv hr
  refine ⟨c', s', ?_, g2, g3⟩
  subst h3
  intro w'
  simp [Instr.field, run_underlying h1, h2, asAgg, g1]

end Go.AV0
