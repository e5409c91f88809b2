/- Lengths, conversions; an object of one's own is frozen. -/
import Derived.Test.YthbglcdcfdjbbaaFwK
namespace Go.AV0

def vlen (T : TT) (t : Nat) (s : SV) (h : List SO) (K : SV → Prop) : Prop :=
  onO (T.find t) fun i => match i.k, s with
    | .str, .v (.c (.string b)) => K (.v (.c (.int .i64 (b.size : Int))))
    | .sl _, .v (.sl els) => K (.v (.c (.int .i64 (els.length : Int))))
    | .sl _, .v (.c (.slice none 0 0)) => K (.v (.c (.int .i64 0)))
    | .sl _, .ms id => onO (nth h id) fun o => match o with
      | .arr _ _ els => K (.v (.c (.int .i64 (els.length : Int))))
      | _ => False
    | .mp _ _, s => onO (mapOf h s) fun m => K (.v (.c (.int .i64 ((match m with | some es => es.length | none => 0 : Nat) : Int))))
    | _, _ => False

theorem vlen_ok {P : Program} {T : TT} (hT : T.all P = true) {us : Us} {t ty : Nat} {s : SV} {h : List SO} {K : SV → Prop} {ι w M c} (hsafe : safeId us s = true) (hv : vlen T t s h K) (H : St ι w M h) (hs : RepS ι h.length w M s c) :
    ∃ c' s', (∀ w', Same (UB ι h us) w w' → (Builtin.len_ #[t] ty #[c]).run P w' = .ok c' w') ∧ K s' ∧ RepS ι h.length w M s' c' := by
  have hv0 := onO_some hv; clear hv
  obtain ⟨i, hi, hv⟩ := hv0
  have ht := TT.ok hT t i hi
  split at hv
  · rename_i b hk
    simp only [RepS, Rep] at hs; subst hs
    exact ⟨.int .i64 (b.size : Int), _, fun w' _ => by simp [Builtin.len_, run_underlying (und_str ht hk), goInt], hv, by simp [RepS, Rep]⟩
  · rename_i e els hk
    simp only [RepS, Rep] at hs; obtain ⟨ao, cap, rfl, _⟩ := hs
    exact ⟨_, _, fun w' _ => by simp [Builtin.len_, run_underlying (und_sl ht hk), goInt]; rfl, hv, by simp [RepS, Rep]⟩
  · rename_i e hk
    simp only [RepS, Rep] at hs; subst hs
    exact ⟨_, _, fun w' _ => by simp [Builtin.len_, run_underlying (und_sl ht hk), goInt]; rfl, hv, by simp [RepS, Rep]⟩
  · rename_i e id hk
    obtain ⟨o, ho, hv⟩ := onO_some hv
    rw [nth_eq] at ho
    cases o with
    | arr e z els =>
      have h0 := H.objs id _ ho
      simp only [StO] at h0
      simp only [RepS] at hs
      rcases hs.2 with ⟨h1, rfl⟩ | ⟨b, k, z', n, h1, rfl⟩
      · have : els = [] := by
          rcases h0.2 with h0 | ⟨b, k, cs, el', h2, _⟩
          · exact h0.1
          · rw [h1] at h2; cases h2
        subst this
        exact ⟨_, _, fun w' _ => by simp [Builtin.len_, run_underlying (und_sl ht hk), goInt]; rfl, hv, by simp [RepS, Rep]⟩
      · have : n = els.length := by
          rcases h0.2 with h0 | ⟨b, k, cs, el', h2, _⟩
          · rw [h0.2] at h1; cases h1
          · rw [h1] at h2; cases h2; rfl
        subst this
        exact ⟨_, _, fun w' _ => by simp [Builtin.len_, run_underlying (und_sl ht hk), goInt]; rfl, hv, by simp [RepS, Rep]⟩
    | _ => exact hv.elim
  · rename_i k e _ hk
    obtain ⟨m, hm, hv⟩ := onO_some hv
    rcases mapOf_ok (us := us) hsafe H hm hs with ⟨rfl, rfl⟩ | ⟨es, b, en, clock, rfl, rfl, hU, h3, h4, h5, h6⟩
    · exact ⟨_, _, fun w' _ => by simp [Builtin.len_, run_underlying (und_mp ht hk), goInt]; rfl, hv, by simp [RepS, Rep]⟩
    · have hl : en.size = es.length := by simpa using h4.length_eq
      have hg : ∀ w', Same (UB ι h us) w w' → (getObj b).run P w' = .ok (.map en clock) w' := fun w' hw' => by
        have := hw' b (lt_of_some h3) hU
        rw [h3] at this; simp [getObj, Sem.run, this]
      exact ⟨.int .i64 (es.length : Int), _, fun w' hw' => by have hg := hg w' hw'; simp [Builtin.len_, run_underlying (und_mp ht hk), goInt, hg, hl], hv, by simp [RepS, Rep]⟩
  · exact hv.elim

def vmax (x y : SV) (K : SV → Prop) : Prop :=
  match x, y with
  | .v (.c (.int k a)), .v (.c (.int _ b)) => K (.v (.c (.int k (max a b))))
  | _, _ => False

def vmin (x y : SV) (K : SV → Prop) : Prop :=
  match x, y with
  | .v (.c (.int k a)), .v (.c (.int _ b)) => K (.v (.c (.int k (min a b))))
  | _, _ => False

theorem vmax_ok {P : Program} {x y : SV} {K : SV → Prop} {ι N w M c d} {ts : Array Nat} {ty : Nat} (hv : vmax x y K) (hx : RepS ι N w M x c) (hy : RepS ι N w M y d) :
    ∃ c' s', (∀ w', (Builtin.max_ ts ty #[c, d]).run P w' = .ok c' w') ∧ K s' ∧ RepS ι N w M s' c' := by
  unfold vmax at hv
  split at hv
  · simp only [RepS, Rep] at hx hy; subst hx; subst hy
    rename_i k a k' b
    refine ⟨.int k (max a b), _, ?_, hv, by simp only [RepS, Rep]⟩
    intro w'
    simp only [Builtin.max_, List.foldlM_cons, List.foldlM_nil, Builtin.max2]
    show Result.ok _ _ = _
    congr 2
    split <;> omega
  · exact hv.elim

theorem vmin_ok {P : Program} {x y : SV} {K : SV → Prop} {ι N w M c d} {ts : Array Nat} {ty : Nat} (hv : vmin x y K) (hx : RepS ι N w M x c) (hy : RepS ι N w M y d) :
    ∃ c' s', (∀ w', (Builtin.min_ ts ty #[c, d]).run P w' = .ok c' w') ∧ K s' ∧ RepS ι N w M s' c' := by
  unfold vmin at hv
  split at hv
  · simp only [RepS, Rep] at hx hy; subst hx; subst hy
    rename_i k a k' b
    refine ⟨.int k (min a b), _, ?_, hv, by simp only [RepS, Rep]⟩
    intro w'
    simp only [Builtin.min_, List.foldlM_cons, List.foldlM_nil, Builtin.min2]
    show Result.ok _ _ = _
    congr 2
    split <;> omega
  · exact hv.elim

@[irreducible] def FtoI (s : FloatKind) (b : Nat) (k : IntKind) (K : Int → Prop) : Prop := ∃ n, (s.decode b).toInt .zero = some n ∧ k.min ≤ n ∧ n ≤ k.max ∧ K n
theorem ftoi {s : FloatKind} {b : Nat} {k : IntKind} {K : Int → Prop} (n : Int) (h : (s.decode b).toInt .zero = some n) (h1 : k.min ≤ n) (h2 : n ≤ k.max) (hk : K n) : FtoI s b k K := by unfold FtoI; exact ⟨n, h, h1, h2, hk⟩
theorem FtoI.elim {s : FloatKind} {b : Nat} {k : IntKind} {K : Int → Prop} (h : FtoI s b k K) : ∃ n, (s.decode b).toInt .zero = some n ∧ k.min ≤ n ∧ n ≤ k.max ∧ K n := by unfold FtoI at h; exact h

def vconvert (T : TT) (src dst : Nat) (x : SV) (K : SV → Prop) : Prop :=
  onO (T.find src) fun _ => onO (T.find dst) fun j => match j.k, x with
    | .int k, .v (.c (.int _ n)) => K (.v (.c (.int k (k.wrap n))))
    | .int k, .v (.c (.float s b)) => FtoI s b k fun n => K (.v (.c (.int k n)))
    | .fl k, .v (.c (.int _ n)) => K (.v (.c (.float k (k.nearest n))))
    | _, _ => False

theorem und_fl {P : Program} {t : Nat} {k : FloatKind} {i : TI} (h : TOk P t i) (hk : i.k = .fl k) : P.underlying t = some (.float k) := by
  obtain ⟨d, h1, h2⟩ := tk_of h
  rw [hk] at h2; cases d <;> simp [tkOk] at h2; subst h2; exact h1

theorem vconvert_ok {P : Program} {T : TT} (hT : T.all P = true) {src dst : Nat} {x : SV} {K : SV → Prop} {ι N w M c} (hv : vconvert T src dst x K) (hx : RepS ι N w M x c) :
    ∃ c' s', (∀ w', (convert src dst c).run P w' = .ok c' w') ∧ K s' ∧ RepS ι N w M s' c' := by
  have hv0 := onO_some hv; clear hv
  obtain ⟨i, hi, hv⟩ := hv0
  have hv0 := onO_some hv; clear hv
  obtain ⟨j, hj, hv⟩ := hv0
  obtain ⟨d, h1, _⟩ := tk_of (TT.ok hT _ _ hi)
  have ht := TT.ok hT _ _ hj
  split at hv
  · rename_i k k' n hk
    simp only [RepS, Rep] at hx; subst hx
    refine ⟨.int k (k.wrap n), _, ?_, hv, by simp only [RepS, Rep]⟩
    intro w'
    cases d <;> simp [convert, run_underlying h1, run_underlying (und_int ht hk), Conv.intToInt]
  · rename_i k s b hk
    obtain ⟨n, g1, g2, g3, hv⟩ := hv.elim
    simp only [RepS, Rep] at hx; subst hx
    refine ⟨.int k n, _, ?_, hv, by simp only [RepS, Rep]⟩
    intro w'
    cases d <;> simp [convert, run_underlying h1, run_underlying (und_int ht hk), Conv.floatToInt, g1, g2, g3]
  · rename_i k k' n hk
    simp only [RepS, Rep] at hx; subst hx
    refine ⟨.float k (k.nearest n), _, ?_, hv, by simp only [RepS, Rep]⟩
    intro w'
    cases d <;> simp [convert, run_underlying h1, run_underlying (und_fl ht hk), Conv.intToFloat]
  · exact hv.elim

/-! ### freezing -/
/-- a nil slice's constant, as an empty slice -/
def nrm (x : AV) : AV :=
  match x with
  | .c (.slice none 0 0) => .sl []
  | x => x

theorem rep_nrm {w M x c} (h : Rep w M x c) : Rep w M (nrm x) c := by
  unfold nrm
  split
  · simp only [Rep] at h ⊢; exact ⟨none, 0, h, Nat.le_refl _, .inl trivial⟩
  · exact h

theorem repL_nrm {w M} : ∀ {xs : List AV} {cs : List Value}, RepL w M xs cs → RepL w M (xs.map nrm) cs
  | [], cs, h => by simpa [RepL] using h
  | x :: xs, cs, h => by
    simp only [RepL] at h; obtain ⟨c, cs', rfl, h1, h2⟩ := h
    simp only [List.map_cons, RepL]; exact ⟨c, cs', rfl, rep_nrm h1, repL_nrm h2⟩

def frzV (o : SO) (off : Nat) : SV :=
  match o with
  | .cells xs => match closedL xs with
    | some ys => .v (.ptr (some ((ys.map nrm).drop off)))
    | none => .any
  | _ => .any

def frzM (o : SO) : SV :=
  match o with
  | .arr _ _ els => .v (.sl els)
  | _ => .any

def frzP (o : SO) : SV :=
  match o with
  | .map es => .v (.map (some es))
  | _ => .any

mutual
def frz (id : Nat) (o : SO) : SV → SV
  | .any => .any
  | .v x => .v x
  | .ref a b => bif Nat.beq a id then frzV o b else .ref a b
  | .eref a b c => bif Nat.beq a id then .any else .eref a b c
  | .ms a => bif Nat.beq a id then frzM o else .ms a
  | .mm a => bif Nat.beq a id then frzP o else .mm a
  | .tup l => .tup (frzL id o l)
  | .agg l => .agg (frzL id o l)
  | .clo f a b => .clo f (frzL id o a) (frzL id o b)
def frzL (id : Nat) (o : SO) : List SV → List SV
  | [] => []
  | x :: l => frz id o x :: frzL id o l
end

def frzO (id : Nat) (o : SO) : SO → SO
  | .cells xs => .cells (frzL id o xs)
  | x => x

def frzH (id : Nat) (o : SO) : List SO → List SO
  | [] => []
  | x :: l => frzO id o x :: frzH id o l

def frzF (id : Nat) (o : SO) : List (Nat × SV) → List (Nat × SV)
  | [] => []
  | (j, s) :: l => (j, frz id o s) :: frzF id o l

def frzD (id : Nat) (o : SO) : List (Nat × List SV × List SV) → List (Nat × List SV × List SV)
  | [] => []
  | (f, a, b) :: l => (f, frzL id o a, frzL id o b) :: frzD id o l

def frzA (id : Nat) (o : SO) (α : AF) : AF := ⟨frzF id o α.s, frzD id o α.d⟩

theorem frzH_get (id : Nat) (o : SO) : ∀ (l : List SO) (i : Nat), (frzH id o l)[i]? = (l[i]?).map (frzO id o)
  | [], i => by simp [frzH]
  | x :: l, 0 => by simp [frzH]
  | x :: l, i + 1 => by simp [frzH, frzH_get id o l i]

theorem frzH_length (id : Nat) (o : SO) : ∀ (l : List SO), (frzH id o l).length = l.length
  | [] => rfl
  | x :: l => by simp [frzH, frzH_length id o l]

theorem look_frzF (id : Nat) (o : SO) : ∀ (l : List (Nat × SV)) (i : Nat), look (frzF id o l) i = (look l i).map (frz id o)
  | [], i => rfl
  | (j, s) :: l, i => by
    simp only [frzF, look]
    cases Nat.beq i j <;> simp [look_frzF id o l i]

/-- what the frozen object's name stands for -/
structure Frozen (ι : Iota) (w : World) (M' : Nat → Prop) (id : Nat) (o : SO) : Prop where
  ref : ∀ b k off, ι id = some (b, k) → RepS ι 0 w M' (frzV o off) (.pointer (some ⟨b, off, none⟩))
  ms : (ι id = none → RepS ι 0 w M' (frzM o) (.slice none 0 0)) ∧ ∀ b k z n, ι id = some (b, k, z, n) → RepS ι 0 w M' (frzM o) (.slice (some ⟨b, 0, none⟩) n k)
  mm : ∀ b k, ι id = some (b, k) → RepS ι 0 w M' (frzP o) (.map (some b))

mutual
theorem RepS.frz {ι N w M M' id o} (hf : Frozen ι w M' id o) (h : Keep w M w M') : ∀ (s : SV) (c : Value), RepS ι N w M s c → RepS ι N w M' (frz id o s) c
  | .any, _, _ => by simp [AV0.frz, RepS]
  | .v x, c, r => by simp only [AV0.frz, RepS] at r ⊢; exact Rep.keep h x c r
  | .ref a off, c, r => by
    simp only [AV0.frz]
    rcases nbeq (a := a) (b := id) with ⟨e, he⟩ | ⟨e, hne⟩
    · subst he
      simp only [e, cond_true]
      simp only [RepS] at r; obtain ⟨_, b, k, h1, rfl⟩ := r
      exact RepS.keep ⟨Nat.zero_le _, fun _ _ => rfl⟩ (fun _ _ hm => ⟨hm, rfl⟩) _ _ (hf.ref b k off h1)
    · simp only [e, cond_false, RepS] at r ⊢; exact r
  | .eref a i off, c, r => by
    simp only [AV0.frz]
    rcases nbeq (a := a) (b := id) with ⟨e, he⟩ | ⟨e, hne⟩
    · simp [e, RepS]
    · simp only [e, cond_false, RepS] at r ⊢; exact r
  | .ms a, c, r => by
    simp only [AV0.frz]
    rcases nbeq (a := a) (b := id) with ⟨e, he⟩ | ⟨e, hne⟩
    · subst he
      simp only [e, cond_true]
      simp only [RepS] at r
      rcases r.2 with ⟨h1, rfl⟩ | ⟨b, k, z, n, h1, rfl⟩
      · exact RepS.keep ⟨Nat.zero_le _, fun _ _ => rfl⟩ (fun _ _ hm => ⟨hm, rfl⟩) _ _ (hf.ms.1 h1)
      · exact RepS.keep ⟨Nat.zero_le _, fun _ _ => rfl⟩ (fun _ _ hm => ⟨hm, rfl⟩) _ _ (hf.ms.2 b k z n h1)
    · simp only [e, cond_false, RepS] at r ⊢; exact r
  | .mm a, c, r => by
    simp only [AV0.frz]
    rcases nbeq (a := a) (b := id) with ⟨e, he⟩ | ⟨e, hne⟩
    · subst he
      simp only [e, cond_true]
      simp only [RepS] at r; obtain ⟨_, b, k, h1, rfl⟩ := r
      exact RepS.keep ⟨Nat.zero_le _, fun _ _ => rfl⟩ (fun _ _ hm => ⟨hm, rfl⟩) _ _ (hf.mm b k h1)
    · simp only [e, cond_false, RepS] at r ⊢; exact r
  | .tup l, c, r => by
    simp only [AV0.frz, RepS] at r ⊢; obtain ⟨cs, h1, h2⟩ := r; exact ⟨cs, h1, RepSL.frz hf h l _ h2⟩
  | .agg l, c, r => by
    simp only [AV0.frz, RepS] at r ⊢; obtain ⟨cs, h1, h2⟩ := r; exact ⟨cs, h1, RepSL.frz hf h l _ h2⟩
  | .clo fn first cap, c, r => by
    simp only [AV0.frz, RepS] at r ⊢; obtain ⟨fs, cs, h1, h2, h3⟩ := r; exact ⟨fs, cs, h1, RepSL.frz hf h first _ h2, RepSL.frz hf h cap _ h3⟩
theorem RepSL.frz {ι N w M M' id o} (hf : Frozen ι w M' id o) (h : Keep w M w M') : ∀ (l : List SV) (cs : List Value), RepSL ι N w M l cs → RepSL ι N w M' (frzL id o l) cs
  | [], cs, r => by simpa [frzL, RepSL] using r
  | x :: xs, cs, r => by
    simp only [frzL, RepSL] at r ⊢; obtain ⟨c, cs', h1, h2, h3⟩ := r
    exact ⟨c, cs', h1, RepS.frz hf h x c h2, RepSL.frz hf h xs cs' h3⟩
end

theorem RepD.frz {ι N w M M' id o} (hf : Frozen ι w M' id o) (h : Keep w M w M') : ∀ (l : List (Nat × List SV × List SV)) (ds : List Deferred), RepD ι N w M l ds → RepD ι N w M' (frzD id o l) ds
  | [], ds, r => by simpa [frzD, RepD] using r
  | (f, as, cs) :: l, ds, r => by
    simp only [frzD, RepD] at r ⊢
    obtain ⟨cs', as', ds', h1, h2, h3, h4⟩ := r
    exact ⟨cs', as', ds', h1, RepSL.frz hf h as _ h2, RepSL.frz hf h cs _ h3, RepD.frz hf h l ds' h4⟩

theorem FR.frz {ι N w M M' n α a id o} (hf : Frozen ι w M' id o) (h : Keep w M w M') (H : FR ι N w M n α a) : FR ι N w M' n (frzA id o α) a := by
  refine ⟨H.size, ?_, RepD.frz hf h _ _ H.defs⟩
  intro i s hs
  simp only [frzA, look_frzF] at hs
  cases hl : look α.s i with
  | none => rw [hl] at hs; cases hs
  | some s' =>
    rw [hl] at hs; simp at hs; subst hs
    obtain ⟨c, h1, h2⟩ := H.slot i s' hl
    exact ⟨c, h1, RepS.frz hf h s' c h2⟩

theorem repAt_of_list {w : World} {M : Nat → Prop} {b : Nat} (hm : ¬ M b) : ∀ {ys : List AV} {cs : List Value} {off : Nat}, RepL w M ys cs → (∀ (j : Nat) (v : Value), cs[j]? = some v → w.cell? ⟨b, off + j, none⟩ = some v) → RepAt w M b ys off
  | [], _, _, _, _ => by simp [RepAt]
  | y :: ys, cs, off, h, hc => by
    simp only [RepL] at h; obtain ⟨c, cs', rfl, h1, h2⟩ := h
    simp only [RepAt]
    refine ⟨⟨hm, c, by simpa using hc 0 c rfl, h1⟩, repAt_of_list hm h2 ?_⟩
    intro j v hj
    have := hc (j + 1) v (by simpa using hj)
    rwa [show off + (j + 1) = off + 1 + j by omega] at this

theorem repEls_of_list {w : World} {M : Nat → Prop} {b z : Nat} (hm : ¬ M b) : ∀ {els : List (List AV)} {cs : List Value} {off : Nat}, (∀ x ∈ els, x.length = z) → RepL w M els.flatten cs → (∀ (j : Nat) (v : Value), cs[j]? = some v → w.cell? ⟨b, off + j, none⟩ = some v) → RepEls w M b z els off
  | [], _, _, _, _, _ => by simp [RepEls]
  | e :: els, cs, off, hz, h, hc => by
    have hez := hz e (by simp)
    simp only [List.flatten_cons] at h
    have h1 := h.take e.length
    have h2 := h.drop e.length
    rw [List.take_left] at h1
    rw [List.drop_left] at h2
    simp only [RepEls]
    refine ⟨⟨hez, repAt_of_list hm h1 ?_⟩, repEls_of_list hm (fun x hx => hz x (by simp [hx])) h2 ?_⟩
    · intro j v hj
      rw [List.getElem?_take] at hj
      split at hj
      · exact hc j v hj
      · cases hj
    · intro j v hj
      rw [List.getElem?_drop] at hj
      have := hc _ v hj
      rwa [show off + (e.length + j) = off + z + j by omega] at this

/-- an object of one's own becomes a thing that nobody writes any more -/
theorem St.freeze {ι w M h} (us : Us) (H : St ι w M h) {id : Nat} {o : SO} (ho : h[id]? = some o) (hl : live o = true) :
    ∃ M', St ι w M' ((frzH id o h).set id .dead) ∧ Frozen ι w M' id o ∧ Keep w M w M' ∧ Grow ι w M h us ι w M' ((frzH id o h).set id .dead) := by
  have hkp : Keep w M w (fun b => M b ∧ ∀ k, ι id ≠ some (b, k)) := fun b _ hm => ⟨fun h => hm h.1, rfl⟩
  have h0 := H.objs id o ho
  have hfz : Frozen ι w (fun b => M b ∧ ∀ k, ι id ≠ some (b, k)) id o := by
    refine ⟨?_, ⟨?_, ?_⟩, ?_⟩
    · intro b k off hi
      unfold frzV
      split
      · rename_i xs
        split
        · rename_i ys hys
          simp only [StO] at h0
          obtain ⟨b', k', cs, el, g1, g2, g3, g4⟩ := h0
          rw [hi] at g1; cases g1
          rw [closedL_map hys] at g4
          have g4 := repL_nrm (RepL.keep hkp _ _ g4.toL)
          simp only [RepS, Rep]
          refine ⟨b, off, rfl, lt_of_some g3, fun h => h.2 k hi, ?_⟩
          have := repAt_of_list (off := 0) (fun (h : M b ∧ ∀ k, ι id ≠ some (b, k)) => h.2 k hi) g4 (fun j v hj => by rw [cell_of_block g3]; simpa using hj)
          simpa using this.drop off
        · simp [RepS]
      · simp [RepS]
    · intro hi
      unfold frzM
      split
      · rename_i e z els
        simp only [StO] at h0
        rcases h0.2 with h0 | ⟨b, k, cs, el', g1, _⟩
        · simp only [RepS, Rep]; rw [h0.1]; exact ⟨none, 0, rfl, Nat.le_refl _, .inl rfl⟩
        · rw [hi] at g1; cases g1
      · simp [RepS]
    · intro b k z n hi
      unfold frzM
      split
      · rename_i e z' els
        simp only [StO] at h0
        rcases h0.2 with h1 | ⟨b', k', cs, el', g1, g2, g3, g4, g5, g6, g7⟩
        · rw [hi] at h1; cases h1.2
        · rw [hi] at g1; cases g1
          simp only [RepS, Rep]
          refine ⟨_, k, rfl, g5, .inr ⟨b, 0, z, rfl, ?_⟩⟩
          refine repEls_of_list (fun (h : M b ∧ ∀ k, ι id ≠ some (b, k)) => h.2 _ hi) h0.1 (RepL.keep hkp _ _ g7) ?_
          intro j v hj
          rw [cell_of_block g3]
          rw [List.getElem?_take] at hj
          split at hj
          · simpa using hj
          · cases hj
      · simp [RepS]
    · intro b k hi
      unfold frzP
      split
      · rename_i es
        simp only [StO] at h0
        obtain ⟨b', k', en, clock, g1, g2, g3, g4, g5, g6, g7⟩ := h0
        rw [hi] at g1; cases g1
        simp only [RepS, Rep]
        exact ⟨b, en, clock, rfl, fun h => h.2 k hi, g3, g4, g5, g6, RepMap.keep hkp _ _ g7⟩
      · simp [RepS]
  have hget : ∀ i y, ((frzH id o h).set id .dead)[i]? = some y → (i = id ∧ y = .dead) ∨ (i ≠ id ∧ ∃ y', h[i]? = some y' ∧ y = frzO id o y') := by
    intro i y hy
    rcases set_get hy with ⟨h1, h2, _⟩ | ⟨h1, h2⟩
    · exact .inl ⟨h1, h2⟩
    · rw [frzH_get] at h2
      cases hh : h[i]? with
      | none => rw [hh] at h2; cases h2
      | some y' => rw [hh] at h2; simp at h2; exact .inr ⟨h1, y', rfl, h2.symm⟩
  have hlv : ∀ y, live (frzO id o y) = live y := by intro y; cases y <;> rfl
  have hM' : ∀ i y b k, i ≠ id → h[i]? = some y → live y = true → ι i = some (b, k) → (M b ∧ ∀ k, ι id ≠ some (b, k)) := by
    intro i y b k hne hy l e
    exact ⟨(H.objs i y hy).ownM l e, fun k' e' => hne (H.dist i id y o b k k' hy ho l hl e e')⟩
  refine ⟨fun b => M b ∧ ∀ k, ι id ≠ some (b, k), ⟨?_, ?_, ?_⟩, hfz, hkp, ⟨rfl, rfl, rfl, Nat.le_refl _, fun _ _ _ => rfl, fun _ _ h => h.1, ?_, ?_, ?_⟩⟩
  · intro i y hy
    simp only [List.length_set, frzH_length]
    rcases hget i y hy with ⟨rfl, rfl⟩ | ⟨hne, y', hy', rfl⟩
    · simp [StO]
    · have h1 := H.objs i y' hy'
      cases y' with
      | dead => simp [frzO, StO]
      | pin j x => simpa [frzO, StO] using h1
      | cells xs =>
        simp only [frzO, StO] at h1 ⊢
        obtain ⟨b, k, cs, el, g1, g2, g3, g4⟩ := h1
        exact ⟨b, k, cs, el, g1, hM' i _ b k hne hy' rfl g1, g3, RepSL.frz hfz hkp _ _ g4⟩
      | arr e z els =>
        simp only [frzO, StO] at h1 ⊢
        refine ⟨h1.1, ?_⟩
        rcases h1.2 with h1 | ⟨b, k, cs, el', g1, g2, g3, g4, g5, g6, g7⟩
        · exact .inl h1
        · exact .inr ⟨b, k, cs, el', g1, hM' i _ b _ hne hy' rfl g1, g3, g4, g5, g6, RepL.keep hkp _ _ g7⟩
      | map es =>
        simp only [frzO, StO] at h1 ⊢
        obtain ⟨b, k, en, clock, g1, g2, g3, g4, g5, g6, g7⟩ := h1
        exact ⟨b, k, en, clock, g1, hM' i _ b k hne hy' rfl g1, g3, g4, g5, g6, RepMap.keep hkp _ _ g7⟩
  · intro i j oi oj b k1 k2 h1 h2 l1 l2 e1 e2
    rcases hget i oi h1 with ⟨rfl, rfl⟩ | ⟨hne, y', hy', rfl⟩
    · simp [live] at l1
    · rcases hget j oj h2 with ⟨rfl, rfl⟩ | ⟨hne2, y2, hy2, rfl⟩
      · simp [live] at l2
      · rw [hlv] at l1 l2
        exact H.dist i j y' y2 b k1 k2 hy' hy2 l1 l2 e1 e2
  · intro b hb; exact H.mlt b hb.1
  · intro b hb hn
    exact ⟨hb, fun k e => hn ⟨id, o, k, ho, hl, e⟩⟩
  · rintro b hb ⟨i, y, k, h1, h2, h3⟩
    rcases hget i y h1 with ⟨rfl, rfl⟩ | ⟨hne, y', hy', rfl⟩
    · simp [live] at h2
    · rw [hlv] at h2; exact ⟨i, y', k, hy', h2, h3⟩
  · rintro b hb ⟨i, y, k, h0, h1, h2, h3⟩
    rcases hget i y h1 with ⟨rfl, rfl⟩ | ⟨hne, y', hy', rfl⟩
    · simp [live] at h2
    · rw [hlv] at h2; exact ⟨i, y', k, h0, hy', h2, h3⟩

end Go.AV0
