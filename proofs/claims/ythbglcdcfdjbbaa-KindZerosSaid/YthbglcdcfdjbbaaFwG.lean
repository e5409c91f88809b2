/- What becomes of the state: a new object, an object that is written, one that is moved, one that is frozen. -/
import Derived.Test.YthbglcdcfdjbbaaFwF
namespace Go.AV0

def upd (ι : Iota) (i : Nat) (x : Option (Nat × Nat × Nat × Nat)) : Iota := fun j => if j = i then x else ι j

theorem upd_same (ι i x) : upd ι i x i = x := by simp [upd]
theorem upd_ne (ι : Iota) {i j : Nat} (x) (h : j ≠ i) : upd ι i x j = ι j := by simp [upd, h]

theorem get_lt {α : Type} {l : List α} {i : Nat} {x : α} (h : l[i]? = some x) : i < l.length := by
  rcases Nat.lt_or_ge i l.length with h' | h'
  · exact h'
  · rw [List.getElem?_eq_none h'] at h; cases h

theorem StO.keep {ι N w M ι' N' w' M' i o} (ha : Agree ι N ι' N') (hk : Keep w M w' M') (hi : ι' i = ι i)
    (hb : ∀ b k, live o = true → ι i = some (b, k) → w'.heap[b]? = w.heap[b]? ∧ M' b) (h : StO ι N w M i o) : StO ι' N' w' M' i o := by
  cases o with
  | dead => simp [StO]
  | pin j x => simp only [StO] at h ⊢; rw [ha.2 j h.1]; exact ⟨Nat.lt_of_lt_of_le h.1 ha.1, h.2⟩
  | cells xs =>
    simp only [StO] at h ⊢; rw [hi]
    obtain ⟨b, k, cs, el, h1, h2, h3, h4⟩ := h
    obtain ⟨g1, g2⟩ := hb b k rfl h1
    exact ⟨b, k, cs, el, h1, g2, by rw [g1]; exact h3, RepSL.keep ha hk _ _ h4⟩
  | arr e z els =>
    simp only [StO] at h ⊢; rw [hi]
    refine ⟨h.1, ?_⟩
    rcases h.2 with h | ⟨b, k, cs, el', h1, h2, h3, h4, h5, h6, h7⟩
    · exact .inl h
    · obtain ⟨g1, g2⟩ := hb b _ rfl h1
      exact .inr ⟨b, k, cs, el', h1, g2, by rw [g1]; exact h3, h4, h5, h6, RepL.keep hk _ _ h7⟩
  | map es =>
    simp only [StO] at h ⊢; rw [hi]
    obtain ⟨b, k, en, clock, h1, h2, h3, h4, h5, h6, h7⟩ := h
    obtain ⟨g1, g2⟩ := hb b k rfl h1
    exact ⟨b, k, en, clock, h1, g2, by rw [g1]; exact h3, h4, h5, h6, RepMap.keep hk _ _ h7⟩

/-- a new block, and an object of one's own in it -/
theorem St.alloc {ι w M h} (us : Us) (H : St ι w M h) (so : SO) (o : Obj) (k : Nat × Nat × Nat) (w' : World) (hw : w'.heap = w.heap.push o) (ho : w'.os = w.os) (ht : w'.tape = w.tape) (hp : w'.output = w.output)
    (hs : StO (upd ι h.length (some (w.heap.size, k))) (h.length + 1) w' (fun b => M b ∨ b = w.heap.size) h.length so) :
    St (upd ι h.length (some (w.heap.size, k))) w' (fun b => M b ∨ b = w.heap.size) (h ++ [so]) ∧
    Agree ι h.length (upd ι h.length (some (w.heap.size, k))) (h.length + 1) ∧ Keep w M w' (fun b => M b ∨ b = w.heap.size) ∧
    Grow ι w M h us (upd ι h.length (some (w.heap.size, k))) w' (fun b => M b ∨ b = w.heap.size) (h ++ [so]) := by
  have hold : ∀ j, j < w.heap.size → w'.heap[j]? = w.heap[j]? := by
    intro j hj; rw [hw, Array.getElem?_push, if_neg (by omega)]
  have hsz : w'.heap.size = w.heap.size + 1 := by rw [hw]; simp
  have hag : Agree ι h.length (upd ι h.length (some (w.heap.size, k))) (h.length + 1) := ⟨by omega, fun i hi => upd_ne ι _ (by omega)⟩
  have hkp : Keep w M w' (fun b => M b ∨ b = w.heap.size) := fun b hb hm => ⟨by rintro (h | h); exact hm h; omega, hold b hb⟩
  have hget : ∀ i x, (h ++ [so])[i]? = some x → (i < h.length ∧ h[i]? = some x) ∨ (i = h.length ∧ x = so) := by
    intro i x hx
    rcases Nat.lt_or_ge i h.length with hi | hi
    · rw [List.getElem?_append_left hi] at hx; exact .inl ⟨hi, hx⟩
    · have : i = h.length := by
        have := get_lt hx; simp at this; omega
      subst this; simp at hx; exact .inr ⟨rfl, hx.symm⟩
  have hblk : ∀ i x b k', h[i]? = some x → live x = true → ι i = some (b, k') → b < w.heap.size := fun i x b k' h1 h2 h3 => H.mlt b (H.ownM ⟨i, x, k', h1, h2, h3⟩)
  refine ⟨⟨?_, ?_, ?_⟩, hag, hkp, ⟨ho, ht, hp, by omega, fun b hb _ => hold b hb, ?_, ?_, ?_, ?_⟩⟩
  · intro i x hx
    rcases hget i x hx with ⟨hi, hx⟩ | ⟨rfl, rfl⟩
    · simp only [List.length_append, List.length_singleton]
      refine StO.keep hag hkp (upd_ne ι _ (by omega)) ?_ (H.objs i x hx)
      intro b k' hl hι
      exact ⟨hold b (hblk i x b k' hx hl hι), .inl ((H.objs i x hx).ownM hl hι)⟩
    · simpa using hs
  · intro i j oi oj b k1 k2 hi hj li lj ei ej
    rcases hget i oi hi with ⟨hi1, hi2⟩ | ⟨rfl, rfl⟩ <;> rcases hget j oj hj with ⟨hj1, hj2⟩ | ⟨rfl, rfl⟩
    · rw [upd_ne ι _ (by omega)] at ei ej
      exact H.dist i j oi oj b k1 k2 hi2 hj2 li lj ei ej
    · rw [upd_ne ι _ (by omega)] at ei; rw [upd_same] at ej; cases ej
      exact absurd (hblk i oi _ k1 hi2 li ei) (by omega)
    · rw [upd_same] at ei; rw [upd_ne ι _ (by omega)] at ej; cases ei
      exact absurd (hblk j oj _ k2 hj2 lj ej) (by omega)
    · rfl
  · rintro b (hb | hb)
    · have := H.mlt b hb; omega
    · omega
  · rintro b hb (h1 | h1)
    · exact h1
    · omega
  · intro b hb _; exact .inl hb
  · rintro b hb ⟨i, x, k', h1, h2, h3⟩
    rcases hget i x h1 with ⟨hi, hx⟩ | ⟨rfl, rfl⟩
    · rw [upd_ne ι _ (by omega)] at h3; exact ⟨i, x, k', hx, h2, h3⟩
    · rw [upd_same] at h3; cases h3; omega
  · rintro b hb ⟨i, x, k', h0, h1, h2, h3⟩
    rcases hget i x h1 with ⟨hi, hx⟩ | ⟨rfl, rfl⟩
    · rw [upd_ne ι _ (by omega)] at h3; exact ⟨i, x, k', h0, hx, h2, h3⟩
    · rw [upd_same] at h3; cases h3; omega

theorem set_get {h : List SO} {id : Nat} {so : SO} {i : Nat} {x : SO} (hx : (h.set id so)[i]? = some x) : (i = id ∧ x = so ∧ id < h.length) ∨ (i ≠ id ∧ h[i]? = some x) := by
  rw [List.getElem?_set] at hx
  split at hx
  · rename_i e; subst e
    split at hx
    · cases hx; exact .inl ⟨rfl, rfl, by assumption⟩
    · cases hx
  · rename_i e; exact .inr ⟨fun h => e h.symm, hx⟩

/-- an object of one's own is written -/
theorem St.modify {ι w M h} (us : Us) (H : St ι w M h) {id : Nat} (hu : inU us id = true) {o : SO} {b : Nat} {k : Nat × Nat × Nat} (ho : h[id]? = some o) (hl : live o = true) (hi : ι id = some (b, k)) (so : SO) (w' : World)
    (hw : ∀ j, j ≠ b → w'.heap[j]? = w.heap[j]?) (hz : w'.heap.size = w.heap.size) (hos : w'.os = w.os) (ht : w'.tape = w.tape) (hp : w'.output = w.output)
    (hs : StO ι h.length w' M id so) :
    St ι w' M (h.set id so) ∧ Keep w M w' M ∧ Grow ι w M h us ι w' M (h.set id so) := by
  have hM : M b := (H.objs id o ho).ownM hl hi
  have hkp : Keep w M w' M := fun b' _ hm => ⟨hm, hw b' (fun e => hm (e ▸ hM))⟩
  refine ⟨⟨?_, ?_, ?_⟩, hkp, ⟨hos, ht, hp, by omega, ?_, fun _ _ x => x, fun _ x _ => x, ?_, ?_⟩⟩
  · intro i x hx
    simp only [List.length_set]
    rcases set_get hx with ⟨rfl, rfl, _⟩ | ⟨hne, hx⟩
    · exact hs
    · refine StO.keep ⟨Nat.le_refl _, fun _ _ => rfl⟩ hkp rfl ?_ (H.objs i x hx)
      intro b' k' l' e'
      refine ⟨hw b' ?_, (H.objs i x hx).ownM l' e'⟩
      intro e; subst e
      exact hne (H.dist i id x o b' k' k hx ho l' hl e' hi)
  · intro i j oi oj b' k1 k2 h1 h2 l1 l2 e1 e2
    have conv : ∀ i oi k1, (h.set id so)[i]? = some oi → live oi = true → ι i = some (b', k1) → ∃ oi', h[i]? = some oi' ∧ live oi' = true := by
      intro i oi k1 h1 l1 e1
      rcases set_get h1 with ⟨rfl, rfl, _⟩ | ⟨_, h1⟩
      · exact ⟨o, ho, hl⟩
      · exact ⟨oi, h1, l1⟩
    obtain ⟨oi', g1, g2⟩ := conv i oi k1 h1 l1 e1
    obtain ⟨oj', g3, g4⟩ := conv j oj k2 h2 l2 e2
    exact H.dist i j oi' oj' b' k1 k2 g1 g3 g2 g4 e1 e2
  · intro b' hb'; rw [hz]; exact H.mlt b' hb'
  · intro b' hb' hn
    exact hw b' (fun e => hn ⟨id, o, k, hu, ho, hl, e ▸ hi⟩)
  · rintro b' hb' ⟨i, x, k', h1, h2, h3⟩
    rcases set_get h1 with ⟨rfl, rfl, _⟩ | ⟨_, h1⟩
    · exact ⟨i, o, k', ho, hl, h3⟩
    · exact ⟨i, x, k', h1, h2, h3⟩
  · rintro b' hb' ⟨i, x, k', h0, h1, h2, h3⟩
    rcases set_get h1 with ⟨rfl, rfl, _⟩ | ⟨_, h1⟩
    · exact ⟨i, o, k', h0, ho, hl, h3⟩
    · exact ⟨i, x, k', h0, h1, h2, h3⟩

/-! ### what speaks of an object that has moved is forgotten -/
mutual
def kill (id : Nat) : SV → SV
  | .any => .any
  | .v x => .v x
  | .ref a b => bif Nat.beq a id then .any else .ref a b
  | .eref a b c => bif Nat.beq a id then .any else .eref a b c
  | .ms a => bif Nat.beq a id then .any else .ms a
  | .mm a => bif Nat.beq a id then .any else .mm a
  | .tup l => .tup (killL id l)
  | .agg l => .agg (killL id l)
  | .clo f a b => .clo f (killL id a) (killL id b)
def killL (id : Nat) : List SV → List SV
  | [] => []
  | x :: l => kill id x :: killL id l
end

def killO (id : Nat) : SO → SO
  | .cells xs => .cells (killL id xs)
  | .pin j x => bif Nat.beq j id then .dead else .pin j x
  | o => o

def killF (id : Nat) : List (Nat × SV) → List (Nat × SV)
  | [] => []
  | (j, s) :: l => (j, kill id s) :: killF id l

def killD (id : Nat) : List (Nat × List SV × List SV) → List (Nat × List SV × List SV)
  | [] => []
  | (f, a, b) :: l => (f, killL id a, killL id b) :: killD id l

/-- the identities but one live on -/
def Agree1 (id : Nat) (ι : Iota) (N : Nat) (ι' : Iota) (N' : Nat) : Prop := N ≤ N' ∧ ∀ i, i < N → i ≠ id → ι' i = ι i

theorem nbeq {a b : Nat} : (Nat.beq a b = true ∧ a = b) ∨ (Nat.beq a b = false ∧ a ≠ b) := by
  cases h : Nat.beq a b with
  | true => exact .inl ⟨rfl, Nat.eq_of_beq_eq_true h⟩
  | false => exact .inr ⟨rfl, fun e => by subst e; simp at h⟩

mutual
theorem RepS.kill {id ι N w M ι' N' w' M'} (ha : Agree1 id ι N ι' N') (h : Keep w M w' M') : ∀ (s : SV) (c : Value), RepS ι N w M s c → RepS ι' N' w' M' (kill id s) c
  | .any, _, _ => by simp [AV0.kill, RepS]
  | .v x, c, r => by simp only [AV0.kill, RepS] at r ⊢; exact Rep.keep h x c r
  | .ref a off, c, r => by
    simp only [AV0.kill]
    rcases nbeq (a := a) (b := id) with ⟨e, _⟩ | ⟨e, hne⟩
    · simp [e, RepS]
    · simp only [e, cond_false, RepS] at r ⊢; rw [ha.2 a r.1 hne]; exact ⟨Nat.lt_of_lt_of_le r.1 ha.1, r.2⟩
  | .eref a i off, c, r => by
    simp only [AV0.kill]
    rcases nbeq (a := a) (b := id) with ⟨e, _⟩ | ⟨e, hne⟩
    · simp [e, RepS]
    · simp only [e, cond_false, RepS] at r ⊢; rw [ha.2 a r.1 hne]; exact ⟨Nat.lt_of_lt_of_le r.1 ha.1, r.2⟩
  | .ms a, c, r => by
    simp only [AV0.kill]
    rcases nbeq (a := a) (b := id) with ⟨e, _⟩ | ⟨e, hne⟩
    · simp [e, RepS]
    · simp only [e, cond_false, RepS] at r ⊢; rw [ha.2 a r.1 hne]; exact ⟨Nat.lt_of_lt_of_le r.1 ha.1, r.2⟩
  | .mm a, c, r => by
    simp only [AV0.kill]
    rcases nbeq (a := a) (b := id) with ⟨e, _⟩ | ⟨e, hne⟩
    · simp [e, RepS]
    · simp only [e, cond_false, RepS] at r ⊢; rw [ha.2 a r.1 hne]; exact ⟨Nat.lt_of_lt_of_le r.1 ha.1, r.2⟩
  | .tup l, c, r => by
    simp only [AV0.kill, RepS] at r ⊢; obtain ⟨cs, h1, h2⟩ := r; exact ⟨cs, h1, RepSL.kill ha h l _ h2⟩
  | .agg l, c, r => by
    simp only [AV0.kill, RepS] at r ⊢; obtain ⟨cs, h1, h2⟩ := r; exact ⟨cs, h1, RepSL.kill ha h l _ h2⟩
  | .clo fn first cap, c, r => by
    simp only [AV0.kill, RepS] at r ⊢; obtain ⟨fs, cs, h1, h2, h3⟩ := r; exact ⟨fs, cs, h1, RepSL.kill ha h first _ h2, RepSL.kill ha h cap _ h3⟩
theorem RepSL.kill {id ι N w M ι' N' w' M'} (ha : Agree1 id ι N ι' N') (h : Keep w M w' M') : ∀ (l : List SV) (cs : List Value), RepSL ι N w M l cs → RepSL ι' N' w' M' (killL id l) cs
  | [], cs, r => by simpa [killL, RepSL] using r
  | x :: xs, cs, r => by
    simp only [killL, RepSL] at r ⊢; obtain ⟨c, cs', h1, h2, h3⟩ := r
    exact ⟨c, cs', h1, RepS.kill ha h x c h2, RepSL.kill ha h xs cs' h3⟩
end

theorem look_killF (id : Nat) : ∀ (l : List (Nat × SV)) (i : Nat), look (killF id l) i = (look l i).map (kill id)
  | [], i => rfl
  | (j, s) :: l, i => by
    simp only [killF, look]
    cases Nat.beq i j <;> simp [look_killF id l i]

theorem RepD.kill {id ι N w M ι' N' w' M'} (ha : Agree1 id ι N ι' N') (h : Keep w M w' M') : ∀ (l : List (Nat × List SV × List SV)) (ds : List Deferred), RepD ι N w M l ds → RepD ι' N' w' M' (killD id l) ds
  | [], ds, r => by simpa [killD, RepD] using r
  | (f, as, cs) :: l, ds, r => by
    simp only [killD, RepD] at r ⊢
    obtain ⟨cs', as', ds', h1, h2, h3, h4⟩ := r
    exact ⟨cs', as', ds', h1, RepSL.kill ha h as _ h2, RepSL.kill ha h cs _ h3, RepD.kill ha h l ds' h4⟩

def killA (id : Nat) (α : AF) : AF := ⟨killF id α.s, killD id α.d⟩

theorem FR.kill {id ι N w M ι' N' w' M' n α a} (ha : Agree1 id ι N ι' N') (h : Keep w M w' M') (H : FR ι N w M n α a) : FR ι' N' w' M' n (killA id α) a := by
  refine ⟨H.size, ?_, RepD.kill ha h _ _ H.defs⟩
  intro i s hs
  simp only [killA, look_killF] at hs
  cases hl : look α.s i with
  | none => rw [hl] at hs; cases hs
  | some s' =>
    rw [hl] at hs; simp at hs; subst hs
    obtain ⟨c, h1, h2⟩ := H.slot i s' hl
    exact ⟨c, h1, RepS.kill ha h s' c h2⟩

def killH (id : Nat) : List SO → List SO
  | [] => []
  | o :: l => killO id o :: killH id l

theorem killH_get (id : Nat) : ∀ (l : List SO) (i : Nat), (killH id l)[i]? = (l[i]?).map (killO id)
  | [], i => by simp [killH]
  | o :: l, 0 => by simp [killH]
  | o :: l, i + 1 => by simp [killH, killH_get id l i]

theorem killH_length (id : Nat) : ∀ (l : List SO), (killH id l).length = l.length
  | [] => rfl
  | o :: l => by simp [killH, killH_length id l]

theorem live_killO (id : Nat) (o : SO) : live (killO id o) = live o := by
  cases o <;> first | rfl | (simp only [killO]; rename_i j _; cases Nat.beq j id <;> rfl)

theorem StO.kill {id ι N w M ι' N' w' M' i o} (ha : Agree1 id ι N ι' N') (hk : Keep w M w' M') (hi : ι' i = ι i)
    (hb : ∀ b k, live o = true → ι i = some (b, k) → w'.heap[b]? = w.heap[b]? ∧ M' b) (h : StO ι N w M i o) : StO ι' N' w' M' i (killO id o) := by
  cases o with
  | dead => simp [killO, StO]
  | pin j x =>
    simp only [killO]
    rcases nbeq (a := j) (b := id) with ⟨e, _⟩ | ⟨e, hne⟩
    · simp [e, StO]
    · simp only [e, cond_false, StO] at h ⊢; rw [ha.2 j h.1 hne]; exact ⟨Nat.lt_of_lt_of_le h.1 ha.1, h.2⟩
  | cells xs =>
    simp only [killO, StO] at h ⊢; rw [hi]
    obtain ⟨b, k, cs, el, h1, h2, h3, h4⟩ := h
    obtain ⟨g1, g2⟩ := hb b k rfl h1
    exact ⟨b, k, cs, el, h1, g2, by rw [g1]; exact h3, RepSL.kill ha hk _ _ h4⟩
  | arr e z els =>
    simp only [killO, StO] at h ⊢; rw [hi]
    refine ⟨h.1, ?_⟩
    rcases h.2 with h | ⟨b, k, cs, el', h1, h2, h3, h4, h5, h6, h7⟩
    · exact .inl h
    · obtain ⟨g1, g2⟩ := hb b _ rfl h1
      exact .inr ⟨b, k, cs, el', h1, g2, by rw [g1]; exact h3, h4, h5, h6, RepL.keep hk _ _ h7⟩
  | map es =>
    simp only [killO, StO] at h ⊢; rw [hi]
    obtain ⟨b, k, en, clock, h1, h2, h3, h4, h5, h6, h7⟩ := h
    obtain ⟨g1, g2⟩ := hb b k rfl h1
    exact ⟨b, k, en, clock, h1, g2, by rw [g1]; exact h3, h4, h5, h6, RepMap.keep hk _ _ h7⟩

/-- an object of one's own moves to a block (its own, or a new one), what spoke of it is forgotten -/
theorem St.move {ι w M h} (us : Us) (H : St ι w M h) {id : Nat} (hu : inU us id = true) {o : SO} (ho : h[id]? = some o) (so : SO) (x : Option (Nat × Nat × Nat × Nat)) (w' : World) (M' : Nat → Prop)
    (hM : ∀ b, M' b → M b ∨ (w.heap.size ≤ b ∧ b < w'.heap.size)) (hM2 : ∀ b, M b → M' b) (hz : w.heap.size ≤ w'.heap.size)
    (hw : ∀ j, j < w.heap.size → (live o = true → ∀ b k, ι id = some (b, k) → j ≠ b) → w'.heap[j]? = w.heap[j]?)
    (hx : ∀ b k, x = some (b, k) → (w.heap.size ≤ b) ∨ (live o = true ∧ ∃ k', ι id = some (b, k')))
    (hos : w'.os = w.os) (ht : w'.tape = w.tape) (hp : w'.output = w.output) (hs : StO (upd ι id x) h.length w' M' id so) :
    St (upd ι id x) w' M' ((killH id h).set id so) ∧ Agree1 id ι h.length (upd ι id x) h.length ∧ Keep w M w' M' ∧ Grow ι w M h us (upd ι id x) w' M' ((killH id h).set id so) := by
  have hag : Agree1 id ι h.length (upd ι id x) h.length := ⟨Nat.le_refl _, fun i _ hne => upd_ne ι _ hne⟩
  have hown : ∀ b k, live o = true → ι id = some (b, k) → M b := fun b k l e => (H.objs id o ho).ownM l e
  have hkp : Keep w M w' M' := by
    intro b hb hm
    refine ⟨fun h' => ?_, hw b hb (fun l b' k e e' => hm (e' ▸ hown b' k l e))⟩
    rcases hM b h' with h' | h'
    · exact hm h'
    · omega
  have hlen : ((killH id h).set id so).length = h.length := by simp [killH_length]
  have hget : ∀ i y, ((killH id h).set id so)[i]? = some y → (i = id ∧ y = so) ∨ (i ≠ id ∧ ∃ y', h[i]? = some y' ∧ y = killO id y') := by
    intro i y hy
    rcases set_get hy with ⟨h1, h2, _⟩ | ⟨h1, h2⟩
    · exact .inl ⟨h1, h2⟩
    · rw [killH_get] at h2
      cases hh : h[i]? with
      | none => rw [hh] at h2; cases h2
      | some y' => rw [hh] at h2; simp at h2; exact .inr ⟨h1, y', rfl, h2.symm⟩
  have hblk : ∀ i y b k', h[i]? = some y → live y = true → ι i = some (b, k') → b < w.heap.size := fun i y b k' h1 h2 h3 => H.mlt b (H.ownM ⟨i, y, k', h1, h2, h3⟩)
  have other : ∀ i y b k', i ≠ id → h[i]? = some y → live y = true → ι i = some (b, k') → ∀ k'', x ≠ some (b, k'') := by
    intro i y b k' hne h1 h2 h3 k'' e
    rcases hx b k'' e with h4 | ⟨h4, k3, h5⟩
    · have := hblk i y b k' h1 h2 h3; omega
    · exact hne (H.dist i id y o b k' k3 h1 ho h2 h4 h3 h5)
  refine ⟨⟨?_, ?_, ?_⟩, hag, hkp, ⟨hos, ht, hp, hz, ?_, ?_, fun b hb _ => hM2 b hb, ?_, ?_⟩⟩
  · intro i y hy
    rw [hlen]
    rcases hget i y hy with ⟨rfl, rfl⟩ | ⟨hne, y', hy', rfl⟩
    · exact hs
    · refine StO.kill hag hkp (upd_ne ι _ hne) ?_ (H.objs i y' hy')
      intro b k l e
      refine ⟨hw b (hblk i y' b k hy' l e) ?_, hM2 b ((H.objs i y' hy').ownM l e)⟩
      intro l2 b2 k2 e2 eb; subst eb
      exact hne (H.dist i id y' o b k k2 hy' ho l l2 e e2)
  · intro i j oi oj b k1 k2 h1 h2 l1 l2 e1 e2
    rcases hget i oi h1 with ⟨rfl, rfl⟩ | ⟨hne, y', hy', rfl⟩ <;> rcases hget j oj h2 with ⟨rfl, rfl⟩ | ⟨hne2, y2, hy2, rfl⟩
    · rfl
    · rw [upd_same] at e1; rw [upd_ne ι _ hne2] at e2; rw [live_killO] at l2
      exact absurd e1 (other j y2 b k2 hne2 hy2 l2 e2 k1)
    · rw [upd_same] at e2; rw [upd_ne ι _ hne] at e1; rw [live_killO] at l1
      exact absurd e2 (other i y' b k1 hne hy' l1 e1 k2)
    · rw [upd_ne ι _ hne] at e1; rw [upd_ne ι _ hne2] at e2; rw [live_killO] at l1 l2
      exact H.dist i j y' y2 b k1 k2 hy' hy2 l1 l2 e1 e2
  · intro b hb
    rcases hM b hb with h' | h'
    · have := H.mlt b h'; omega
    · exact h'.2
  · intro b hb hn
    exact hw b hb (fun l b' k e eb => hn ⟨id, o, k, hu, ho, l, eb ▸ e⟩)
  · intro b hb h'
    rcases hM b h' with h' | h'
    · exact h'
    · omega
  · rintro b hb ⟨i, y, k, h1, h2, h3⟩
    rcases hget i y h1 with ⟨rfl, rfl⟩ | ⟨hne, y', hy', rfl⟩
    · rw [upd_same] at h3
      rcases hx b k h3 with h4 | ⟨h4, k', h5⟩
      · omega
      · exact ⟨i, o, k', ho, h4, h5⟩
    · rw [upd_ne ι _ hne] at h3; rw [live_killO] at h2
      exact ⟨i, y', k, hy', h2, h3⟩
  · rintro b hb ⟨i, y, k, h0, h1, h2, h3⟩
    rcases hget i y h1 with ⟨rfl, rfl⟩ | ⟨hne, y', hy', rfl⟩
    · rw [upd_same] at h3
      rcases hx b k h3 with h4 | ⟨h4, k', h5⟩
      · omega
      · exact ⟨i, o, k', h0, ho, h4, h5⟩
    · rw [upd_ne ι _ hne] at h3; rw [live_killO] at h2
      exact ⟨i, y', k, h0, hy', h2, h3⟩

end Go.AV0
