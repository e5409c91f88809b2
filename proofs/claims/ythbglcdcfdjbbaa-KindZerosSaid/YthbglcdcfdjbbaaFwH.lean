/- Operations that make or write objects of one's own. -/
import Derived.Test.YthbglcdcfdjbbaaFwG
namespace Go.AV0

/-- what an operation came to -/
def Out (ι : Iota) (w : World) (M : Nat → Prop) (h : List SO) (us : Us) (n : Nat) (a : Act) (K : SV → AF → List SO → Prop) (r : Result Value) : Prop :=
  ∃ c s α' h' ι' w' M', r = .ok c w' ∧ K s α' h' ∧ St ι' w' M' h' ∧ FR ι' h'.length w' M' n α' a ∧ RepS ι' h'.length w' M' s c ∧ Grow ι w M h us ι' w' M' h'

theorem Out.same {ι w M h us n a α} {K : SV → AF → List SO → Prop} {r : Result Value} (H : St ι w M h) (F : FR ι h.length w M n α a) {c : Value} {s : SV} (hr : r = .ok c w) (hk : K s α h) (hs : RepS ι h.length w M s c) :
    Out ι w M h us n a K r := ⟨c, s, α, h, ι, w, M, hr, hk, H, F, hs, Grow.refl ι w M h us⟩

theorem rep_one {ι N w M s c} (h : RepS ι N w M s c) (ho : one s = true) : c.oneCell' = true := by
  cases s with
  | v x => cases x with
    | c v => simp only [RepS, Rep] at h; subst h; simpa [one] using ho
    | sl els => simp only [RepS, Rep] at h; obtain ⟨_, _, rfl, _⟩ := h; rfl
    | ptr o => cases o with
      | none => simp only [RepS, Rep] at h; subst h; rfl
      | some ys => simp only [RepS, Rep] at h; obtain ⟨_, _, rfl, _⟩ := h; rfl
    | ifc o => cases o with
      | none => simp only [RepS, Rep] at h; subst h; rfl
      | some ys => obtain ⟨t, v⟩ := ys; simp only [RepS, Rep] at h; obtain ⟨_, rfl, _⟩ := h; rfl
    | agg l => simp [one] at ho
    | tup l => simp [one] at ho
    | map o => cases o with
      | none => simp only [RepS, Rep] at h; subst h; rfl
      | some ys => simp only [RepS, Rep] at h; obtain ⟨_, _, _, rfl, _⟩ := h; rfl
    | clo f a b => simp only [RepS, Rep] at h; obtain ⟨_, _, rfl, _⟩ := h; rfl
  | ref a b => simp only [RepS] at h; obtain ⟨_, _, _, _, rfl⟩ := h; rfl
  | eref a b d => simp only [RepS] at h; obtain ⟨_, _, _, _, _, _, rfl⟩ := h; rfl
  | ms a => simp only [RepS] at h; rcases h.2 with ⟨_, rfl⟩ | ⟨_, _, _, _, _, rfl⟩ <;> rfl
  | mm a => simp only [RepS] at h; obtain ⟨_, _, _, _, rfl⟩ := h; rfl
  | clo f a b => simp only [RepS] at h; obtain ⟨_, _, rfl, _⟩ := h; rfl
  | any => simp [one] at ho
  | tup l => simp [one] at ho
  | agg l => simp [one] at ho

theorem one_cells {c : Value} (h : c.oneCell' = true) : c.cells = #[c] := by
  cases c <;> first | rfl | (simp [Value.oneCell'] at h)

def allOne : List SV → Bool
  | [] => true
  | x :: l => one x && allOne l

theorem allOne_mem : ∀ {l : List SV}, allOne l = true → ∀ x ∈ l, one x = true
  | x :: l, h, y, hy => by
    simp only [allOne, Bool.and_eq_true] at h
    rcases List.mem_cons.1 hy with rfl | hy
    · exact h.1
    · exact allOne_mem h.2 y hy

theorem repSL_one {ι N w M} : ∀ {l : List SV} {cs : List Value}, RepSL ι N w M l cs → allOne l = true → ∀ v ∈ cs, v.oneCell' = true
  | [], cs, r, _, v, hv => by simp only [RepSL] at r; subst r; simp at hv
  | x :: l, cs, r, h, v, hv => by
    simp only [allOne, Bool.and_eq_true] at h
    simp only [RepSL] at r; obtain ⟨c, cs', rfl, h1, h2⟩ := r
    rcases List.mem_cons.1 hv with rfl | hv
    · exact rep_one h1 h.1
    · exact repSL_one h2 h.2 v hv

/-- a value's cells -/
def cellsO (s : SV) : Option (List SV) :=
  match s with
  | .v (.agg xs) => some (xs.map .v)
  | .agg l => some l
  | s => bif one s then some [s] else none

theorem cellsO_ok {ι N w M s c l} (h : cellsO s = some l) (hs : RepS ι N w M s c) : RepSL ι N w M l c.cells.toList := by
  unfold cellsO at h
  split at h
  · cases h; simp only [RepS, Rep] at hs; obtain ⟨cs, rfl, h⟩ := hs; exact RepSL.ofL h
  · cases h; simp only [RepS] at hs; obtain ⟨cs, rfl, h⟩ := hs; exact h
  · cases ho : one s with
    | false => rw [ho] at h; cases h
    | true =>
      rw [ho] at h; cases h
      rw [one_cells (rep_one hs ho)]
      simp only [RepSL]; exact ⟨c, [], rfl, hs, rfl⟩

/-! ### new objects -/
def valloc (T : TT) (t : Nat) (α : AF) (h : List SO) (K : SV → AF → List SO → Prop) : Prop :=
  onO (T.find t) fun i => forceN h.length fun id => K (.ref id 0) α (h ++ [.cells (i.zero.map fun v => .v (ofVal v))])

def vbox (s : SV) (α : AF) (h : List SO) (K : SV → AF → List SO → Prop) : Prop :=
  onO (cellsO s) fun l => forceN h.length fun id => K (.ref id 0) α (h ++ [.cells l])

theorem push_ok {ι w M h us n a α} {K : SV → AF → List SO → Prop} (H : St ι w M h) (F : FR ι h.length w M n α a) {l : List SV} {cs : Array Value} (e : TypeId) (hr : RepSL ι h.length w M l cs.toList)
    (hk : K (.ref h.length 0) α (h ++ [.cells l])) : Out ι w M h us n a K (.ok (.pointer (some ⟨w.heap.size, 0, none⟩)) { w with heap := w.heap.push (.cells cs e) }) := by
  have hag : Agree ι h.length (upd ι h.length (some (w.heap.size, (0, 0, 0)))) (h.length + 1) := ⟨by omega, fun i hi => upd_ne ι _ (by omega)⟩
  have hkp : Keep w M { w with heap := w.heap.push (.cells cs e) } (fun b => M b ∨ b = w.heap.size) := fun b hb hm =>
    ⟨by rintro (h | h); exact hm h; omega, by show (w.heap.push _)[b]? = _; rw [Array.getElem?_push, if_neg (by omega)]⟩
  obtain ⟨g1, g2, g3, g4⟩ := H.alloc us (.cells l) (.cells cs e) (0, 0, 0) { w with heap := w.heap.push (.cells cs e) } rfl rfl rfl rfl (by
    simp only [StO]
    refine ⟨w.heap.size, (0, 0, 0), cs, e, upd_same _ _ _, .inr rfl, ?_, RepSL.keep hag hkp _ _ hr⟩
    show (w.heap.push _)[w.heap.size]? = _; simp)
  refine ⟨_, _, α, _, _, _, _, rfl, hk, g1, ?_, ?_, g4⟩
  · simpa using F.keep g2 g3
  · simp only [RepS, List.length_append, List.length_singleton]
    exact ⟨by omega, w.heap.size, (0, 0, 0), upd_same _ _ _, rfl⟩

theorem valloc_ok {P : Program} {T : TT} (hT : T.all P = true) {t : Nat} {ι w M h us n a α} {K : SV → AF → List SO → Prop} (hv : valloc T t α h K) (H : St ι w M h) (F : FR ι h.length w M n α a) :
    Out ι w M h us n a K ((Instr.alloc t true (.tuple #[])).run P w) := by
  obtain ⟨i, hi, hv⟩ := onO_some hv
  rw [forceN_eq] at hv
  obtain ⟨z, h1, h2, h3⟩ := run_zero (TT.ok hT t i hi)
  have := push_ok (us := us) H F (cs := z.cells) (l := i.zero.map fun v => .v (ofVal v)) t (by
    rw [h2]
    have := RepSL.ofL (ι := ι) (N := h.length) (repL_ofVal w M i.zero)
    simpa [Function.comp_def] using this) hv
  simpa [Instr.alloc, h1, newVar, newRow] using this

theorem vbox_ok {P : Program} {t : Nat} {s : SV} {c : Value} {ι w M h us n a α} {K : SV → AF → List SO → Prop} (hv : vbox s α h K) (H : St ι w M h) (F : FR ι h.length w M n α a) (hs : RepS ι h.length w M s c) :
    Out ι w M h us n a K ((Instr.box t c).run P w) := by
  obtain ⟨l, hl, hv⟩ := onO_some hv
  rw [forceN_eq] at hv
  have := push_ok (us := us) H F (cs := c.cells) (l := l) t (cellsO_ok hl hs) hv
  simpa [Instr.box, newVar, newRow] using this

def vmakeMap (h : List SO) (α : AF) (K : SV → AF → List SO → Prop) : Prop := forceN h.length fun id => K (.mm id) α (h ++ [.map []])

theorem vmakeMap_ok {P : Program} {t : Nat} {ι w M h us n a α} {K : SV → AF → List SO → Prop} (hv : vmakeMap h α K) (H : St ι w M h) (F : FR ι h.length w M n α a) :
    Out ι w M h us n a K ((Instr.makeMap t none).run P w) := by
  unfold vmakeMap at hv
  rw [forceN_eq] at hv
  obtain ⟨g1, g2, g3, g4⟩ := H.alloc us (.map []) (.map #[] 0) (0, 0, 0) { w with heap := w.heap.push (.map #[] 0) } rfl rfl rfl rfl (by
    simp only [StO]
    refine ⟨w.heap.size, (0, 0, 0), #[], 0, upd_same _ _ _, .inr rfl, ?_, by simp [stamped], by simp, by simp, by simp [RepMap]⟩
    show (w.heap.push _)[w.heap.size]? = _; simp)
  have : Out ι w M h us n a K (.ok (.map (some w.heap.size)) { w with heap := w.heap.push (.map #[] 0) }) := by
    refine ⟨_, _, α, _, _, _, _, rfl, hv, g1, by simpa using F.keep g2 g3, ?_, g4⟩
    simp only [RepS, List.length_append, List.length_singleton]
    exact ⟨by omega, w.heap.size, (0, 0, 0), upd_same _ _ _, rfl⟩
  simpa [Instr.makeMap] using this

/-- a new array, full -/
theorem pushArr_ok {ι w M h us n a α} {K : SV → AF → List SO → Prop} (H : St ι w M h) (F : FR ι h.length w M n α a) {els : List (List AV)} {z : Nat} {cs : Array Value} (e : TypeId) (hz : ∀ x ∈ els, x.length = z)
    (hlen : els.length ≤ maxLen) (hr : RepL w M els.flatten cs.toList)
    (hk : K (.ms h.length) α (h ++ [.arr e z els])) : Out ι w M h us n a K (.ok (.slice (some ⟨w.heap.size, 0, none⟩) els.length els.length) { w with heap := w.heap.push (.cells cs e) }) := by
  have hkp : Keep w M { w with heap := w.heap.push (.cells cs e) } (fun b => M b ∨ b = w.heap.size) := fun b hb hm =>
    ⟨by rintro (h | h); exact hm h; omega, by show (w.heap.push _)[b]? = _; rw [Array.getElem?_push, if_neg (by omega)]⟩
  have hcl := hr.length
  rw [flat_len hz] at hcl
  obtain ⟨g1, g2, g3, g4⟩ := H.alloc us (.arr e z els) (.cells cs e) (els.length, z, els.length) { w with heap := w.heap.push (.cells cs e) } rfl rfl rfl rfl (by
    simp only [StO]
    refine ⟨hz, .inr ⟨w.heap.size, els.length, cs, e, upd_same _ _ _, .inr rfl, ?_, by simpa using hcl, Nat.le_refl _, ⟨hlen, .inr rfl⟩, ?_⟩⟩
    · show (w.heap.push _)[w.heap.size]? = _; simp
    · rw [List.take_of_length_le (by omega)]; exact RepL.keep hkp _ _ hr)
  refine ⟨_, _, α, _, _, _, _, rfl, hk, g1, by simpa using F.keep g2 g3, ?_, g4⟩
  simp only [RepS, List.length_append, List.length_singleton]
  exact ⟨by omega, .inr ⟨w.heap.size, els.length, z, els.length, upd_same _ _ _, rfl⟩⟩

/-! ### filling -/
def setAt : List SV → Nat → List SV → Option (List SV)
  | xs, 0, [] => some xs
  | _ :: xs, 0, v :: vs => match setAt xs 0 vs with
    | some r => some (v :: r)
    | none => none
  | x :: xs, n + 1, vs => match setAt xs n vs with
    | some r => some (x :: r)
    | none => none
  | [], _, _ => none

theorem setAt_ok {ι N w M} : ∀ {xs : List SV} {off : Nat} {vs r : List SV} {cs ds : List Value}, setAt xs off vs = some r → RepSL ι N w M xs cs → RepSL ι N w M vs ds →
    off + vs.length ≤ xs.length ∧ RepSL ι N w M r (cs.take off ++ ds ++ cs.drop (off + ds.length))
  | xs, 0, [], r, cs, ds, h, hx, hv => by
    cases xs <;> simp only [setAt] at h <;> cases h <;> simp only [RepSL] at hv <;> subst hv <;> exact ⟨by simp, by simpa using hx⟩
  | x :: xs, 0, v :: vs, r, cs, ds, h, hx, hv => by
    simp only [setAt] at h
    split at h <;> cases h
    rename_i r' hr
    simp only [RepSL] at hx hv
    obtain ⟨c, cs', rfl, h1, h2⟩ := hx
    obtain ⟨d, ds', rfl, h3, h4⟩ := hv
    obtain ⟨g1, g2⟩ := setAt_ok hr h2 h4
    refine ⟨by simp only [List.length_cons]; omega, ?_⟩
    simp only [RepSL]
    exact ⟨d, ds' ++ cs'.drop ds'.length, by simp, h3, by simpa using g2⟩
  | x :: xs, n + 1, vs, r, cs, ds, h, hx, hv => by
    simp only [setAt] at h
    split at h <;> cases h
    rename_i r' hr
    simp only [RepSL] at hx
    obtain ⟨c, cs', rfl, h1, h2⟩ := hx
    obtain ⟨g1, g2⟩ := setAt_ok hr h2 hv
    refine ⟨by simp only [List.length_cons]; omega, ?_⟩
    simp only [RepSL]
    refine ⟨c, _, ?_, h1, g2⟩
    rw [show n + 1 + ds.length = (n + ds.length) + 1 by omega]
    simp
  | [], n + 1, vs, r, cs, ds, h, hx, hv => by simp [setAt] at h
  | [], 0, v :: vs, r, cs, ds, h, hx, hv => by simp [setAt] at h

def afill (place : Nat → Option (Nat × Nat)) (cells : List SV) : List (Nat × SV) → Option (List SV)
  | [] => some cells
  | (i, s) :: rest =>
    match place i, cellsO s with
    | some (off, size), some l => bif Nat.beq l.length size then (match setAt cells off l with
      | some c => afill place c rest
      | none => none) else none
    | _, _ => none

theorem foldl_set (vs : List Value) : ∀ (k : Nat) (off : Nat) (cs : Array Value), off + k + vs.length ≤ cs.size →
    ((vs.zipIdx k).foldl (fun cs (p : Value × Nat) => cs.setIfInBounds (off + p.2) p.1) cs).toList = cs.toList.take (off + k) ++ vs ++ cs.toList.drop (off + k + vs.length) := by
  induction vs with
  | nil => intro k off cs h; simp
  | cons v vs ih =>
    intro k off cs h
    simp only [List.zipIdx_cons, List.foldl_cons]
    rw [ih (k + 1) off (cs.setIfInBounds (off + k) v) (by simp at h ⊢; omega)]
    simp only [List.length_cons] at h
    have := list_seg_step cs.toList (off + k) v vs (by simp; omega)
    simpa [Array.toList_setIfInBounds, Nat.add_assoc] using this

theorem foldl_arr (vs : Array Value) (off : Nat) (cs : Array Value) (h : off + vs.size ≤ cs.size) :
    (vs.zipIdx.foldl (fun cs (p : Value × Nat) => cs.setIfInBounds (off + p.2) p.1) cs).toList = cs.toList.take off ++ vs.toList ++ cs.toList.drop (off + vs.size) := by
  have := foldl_set vs.toList 0 off cs (by simpa using h)
  rw [← Array.foldl_toList]
  simpa using this

def RepP (ι : Iota) (N : Nat) (w : World) (M : Nat → Prop) : List (Nat × SV) → List (Nat × Value) → Prop
  | [], ps => ps = []
  | (i, s) :: l, ps => ∃ c ps', ps = (i, c) :: ps' ∧ RepS ι N w M s c ∧ RepP ι N w M l ps'

theorem afill_ok {ι N w M place place'} (hp : ∀ i p, place i = some p → place' i = some p) : ∀ {parts : List (Nat × SV)} {parts' : List (Nat × Value)} {cells r : List SV} {cs : Array Value},
    afill place cells parts = some r → RepSL ι N w M cells cs.toList → RepP ι N w M parts parts' → ∃ cs', Instr.fill place' cs parts' = some cs' ∧ RepSL ι N w M r cs'.toList ∧ cs'.size = cs.size
  | [], parts', cells, r, cs, h, hc, hr => by
    simp only [afill] at h; cases h
    simp only [RepP] at hr; subst hr
    exact ⟨cs, rfl, hc, rfl⟩
  | (i, s) :: rest, parts', cells, r, cs, h, hc, hr => by
    simp only [RepP] at hr; obtain ⟨c, ps', rfl, h1, h2⟩ := hr
    simp only [afill] at h
    split at h <;> try (cases h; done)
    rename_i off size l hpl hco
    rcases nbeq (a := l.length) (b := size) with ⟨e, hl⟩ | ⟨e, _⟩
    · rw [e] at h; simp only [cond_true] at h
      split at h <;> try (cases h; done)
      rename_i c2 hc2
      have hcl := cellsO_ok hco h1
      obtain ⟨g1, g2⟩ := setAt_ok hc2 hc hcl
      have hln := hcl.length
      have hcn := hc.length
      simp only [Array.length_toList] at hln hcn
      have hfit : off + c.cells.size ≤ cs.size := by omega
      have hfold := foldl_arr c.cells off cs hfit
      simp only [Array.length_toList] at g2
      rw [← hfold] at g2
      obtain ⟨cs', k1, k2, k3⟩ := afill_ok hp h g2 h2
      refine ⟨cs', ?_, k2, ?_⟩
      · simp only [Instr.fill, hp i _ hpl]
        have : ¬ ((decide (c.cells.size ≠ size) || decide (off + c.cells.size > cs.size)) = true) := by simp; omega
        rw [if_neg this]
        exact k1
      · rw [k3, ← Array.length_toList, hfold]; simp; omega
    · rw [e] at h; cases h

end Go.AV0
