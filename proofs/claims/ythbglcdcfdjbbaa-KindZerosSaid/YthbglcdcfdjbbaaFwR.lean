/- Calls that hand on objects of one's own. -/
import Derived.Test.YthbglcdcfdjbbaaFwQ
namespace Go.AV0

/-! ### other names -/
/-- the name that the caller has for the callee's i-th object -/
def rn (N : Nat) : List Nat → Nat → Nat
  | [], i => N + i
  | x :: _, 0 => x
  | _ :: l, i + 1 => rn N l i

mutual
def renS (N : Nat) (sel : List Nat) : SV → SV
  | .any => .any
  | .v x => .v x
  | .ref a b => .ref (rn N sel a) b
  | .eref a b c => .eref (rn N sel a) b c
  | .ms a => .ms (rn N sel a)
  | .mm a => .mm (rn N sel a)
  | .tup l => .tup (renL N sel l)
  | .agg l => .agg (renL N sel l)
  | .clo f a b => .clo f (renL N sel a) (renL N sel b)
def renL (N : Nat) (sel : List Nat) : List SV → List SV
  | [] => []
  | x :: l => renS N sel x :: renL N sel l
end

def renO (N : Nat) (sel : List Nat) : SO → SO
  | .cells xs => .cells (renL N sel xs)
  | .pin j x => .pin (rn N sel j) x
  | .dead => .dead
  | .arr e z els => .arr e z els
  | .map es => .map es

def renH (N : Nat) (sel : List Nat) : List SO → List SO
  | [] => []
  | x :: l => renO N sel x :: renH N sel l

theorem renH_get (N : Nat) (sel : List Nat) : ∀ (l : List SO) (i : Nat), (renH N sel l)[i]? = (l[i]?).map (renO N sel)
  | [], i => by simp [renH]
  | o :: l, 0 => by simp [renH]
  | o :: l, i + 1 => by simp [renH, renH_get N sel l i]

theorem renH_length (N : Nat) (sel : List Nat) : ∀ (l : List SO), (renH N sel l).length = l.length
  | [] => rfl
  | o :: l => by simp [renH, renH_length N sel l]

theorem live_renO (N sel o) : live (renO N sel o) = live o := by cases o <;> rfl

mutual
theorem RepS.ren {ι ι' : Iota} {m N' : Nat} {w M N sel} (hρ : ∀ i, i < m → rn N sel i < N' ∧ ι' (rn N sel i) = ι i) : ∀ (s : SV) (c : Value), RepS ι m w M s c → RepS ι' N' w M (renS N sel s) c
  | .any, c, r => by simp [renS, RepS]
  | .v x, c, r => by simpa [renS, RepS] using r
  | .ref a b, c, r => by simp only [renS, RepS] at r ⊢; obtain ⟨h1, h2⟩ := hρ a r.1; rw [h2]; exact ⟨h1, r.2⟩
  | .eref a b d, c, r => by simp only [renS, RepS] at r ⊢; obtain ⟨h1, h2⟩ := hρ a r.1; rw [h2]; exact ⟨h1, r.2⟩
  | .ms a, c, r => by simp only [renS, RepS] at r ⊢; obtain ⟨h1, h2⟩ := hρ a r.1; rw [h2]; exact ⟨h1, r.2⟩
  | .mm a, c, r => by simp only [renS, RepS] at r ⊢; obtain ⟨h1, h2⟩ := hρ a r.1; rw [h2]; exact ⟨h1, r.2⟩
  | .tup l, c, r => by simp only [renS, RepS] at r ⊢; obtain ⟨cs, h1, h2⟩ := r; exact ⟨cs, h1, RepSL.ren hρ l _ h2⟩
  | .agg l, c, r => by simp only [renS, RepS] at r ⊢; obtain ⟨cs, h1, h2⟩ := r; exact ⟨cs, h1, RepSL.ren hρ l _ h2⟩
  | .clo f a b, c, r => by
    simp only [renS, RepS] at r ⊢; obtain ⟨x, y, h1, h2, h3⟩ := r
    exact ⟨x, y, h1, RepSL.ren hρ a _ h2, RepSL.ren hρ b _ h3⟩
theorem RepSL.ren {ι ι' : Iota} {m N' : Nat} {w M N sel} (hρ : ∀ i, i < m → rn N sel i < N' ∧ ι' (rn N sel i) = ι i) : ∀ (l : List SV) (cs : List Value), RepSL ι m w M l cs → RepSL ι' N' w M (renL N sel l) cs
  | [], cs, r => by simpa [renL, RepSL] using r
  | x :: l, cs, r => by
    simp only [renL, RepSL] at r ⊢; obtain ⟨c, cs', h1, h2, h3⟩ := r
    exact ⟨c, cs', h1, RepS.ren hρ x c h2, RepSL.ren hρ l cs' h3⟩
end

mutual
theorem RepS.unren {ι ι0 : Iota} {m N' : Nat} {w M N sel} (hρ : ∀ i, i < m → ι0 i = ι (rn N sel i)) : ∀ (s : SV) (c : Value), RepS ι N' w M (renS N sel s) c → ltS m s = true → RepS ι0 m w M s c
  | .any, c, r, _ => by simp [RepS]
  | .v x, c, r, _ => by simpa [renS, RepS] using r
  | .ref a b, c, r, h => by simp only [renS, RepS, ltS, Nat.blt_eq] at r h ⊢; rw [hρ a h]; exact ⟨h, r.2⟩
  | .eref a b d, c, r, h => by simp only [renS, RepS, ltS, Nat.blt_eq] at r h ⊢; rw [hρ a h]; exact ⟨h, r.2⟩
  | .ms a, c, r, h => by simp only [renS, RepS, ltS, Nat.blt_eq] at r h ⊢; rw [hρ a h]; exact ⟨h, r.2⟩
  | .mm a, c, r, h => by simp only [renS, RepS, ltS, Nat.blt_eq] at r h ⊢; rw [hρ a h]; exact ⟨h, r.2⟩
  | .tup l, c, r, h => by simp only [renS, RepS, ltS] at r h ⊢; obtain ⟨cs, h1, h2⟩ := r; exact ⟨cs, h1, RepSL.unren hρ l _ h2 h⟩
  | .agg l, c, r, h => by simp only [renS, RepS, ltS] at r h ⊢; obtain ⟨cs, h1, h2⟩ := r; exact ⟨cs, h1, RepSL.unren hρ l _ h2 h⟩
  | .clo f a b, c, r, h => by
    simp only [renS, RepS, ltS, Bool.and_eq_true] at r h ⊢; obtain ⟨x, y, h1, h2, h3⟩ := r
    exact ⟨x, y, h1, RepSL.unren hρ a _ h2 h.1, RepSL.unren hρ b _ h3 h.2⟩
theorem RepSL.unren {ι ι0 : Iota} {m N' : Nat} {w M N sel} (hρ : ∀ i, i < m → ι0 i = ι (rn N sel i)) : ∀ (l : List SV) (cs : List Value), RepSL ι N' w M (renL N sel l) cs → ltL m l = true → RepSL ι0 m w M l cs
  | [], cs, r, _ => by simpa [renL, RepSL] using r
  | x :: l, cs, r, h => by
    simp only [renL, RepSL, ltL, Bool.and_eq_true] at r h ⊢; obtain ⟨c, cs', h1, h2, h3⟩ := r
    exact ⟨c, cs', h1, RepS.unren hρ x c h2 h.1, RepSL.unren hρ l cs' h3 h.2⟩
end

theorem StO.ren {ι ι' : Iota} {m N' : Nat} {w M N sel i o} (hρ : ∀ i, i < m → rn N sel i < N' ∧ ι' (rn N sel i) = ι i) (hi : i < m) (h : StO ι m w M i o) : StO ι' N' w M (rn N sel i) (renO N sel o) := by
  have h0 := (hρ i hi).2
  cases o with
  | dead => simp [renO, StO]
  | pin j x => simp only [renO, StO] at h ⊢; obtain ⟨h1, h2⟩ := hρ j h.1; rw [h2]; exact ⟨h1, h.2⟩
  | cells xs => simp only [renO, StO] at h ⊢; rw [h0]; obtain ⟨b, k, cs, el, h1, h2, h3, h4⟩ := h; exact ⟨b, k, cs, el, h1, h2, h3, RepSL.ren hρ _ _ h4⟩
  | arr e z els => simp only [renO, StO] at h ⊢; rw [h0]; exact h
  | map es => simp only [renO, StO] at h ⊢; rw [h0]; exact h

theorem StO.unren {ι ι0 : Iota} {m N' : Nat} {w M N sel i o} (hρ : ∀ i, i < m → ι0 i = ι (rn N sel i)) (hi : i < m) (h : StO ι N' w M (rn N sel i) (renO N sel o)) (hl : ltO m o = true) : StO ι0 m w M i o := by
  have h0 := hρ i hi
  cases o with
  | dead => simp [StO]
  | pin j x => simp only [renO, StO, ltO, Nat.blt_eq] at h hl ⊢; rw [hρ j hl]; exact ⟨hl, h.2⟩
  | cells xs => simp only [renO, StO, ltO] at h hl ⊢; rw [h0]; obtain ⟨b, k, cs, el, h1, h2, h3, h4⟩ := h; exact ⟨b, k, cs, el, h1, h2, h3, RepSL.unren hρ _ _ h4 hl⟩
  | arr e z els => simp only [renO, StO] at h ⊢; rw [h0]; exact h
  | map es => simp only [renO, StO] at h ⊢; rw [h0]; exact h

/-! ### several names are forgotten -/
mutual
def kills (mv : List Nat) : SV → SV
  | .any => .any
  | .v x => .v x
  | .ref a b => bif inL mv a then .any else .ref a b
  | .eref a b c => bif inL mv a then .any else .eref a b c
  | .ms a => bif inL mv a then .any else .ms a
  | .mm a => bif inL mv a then .any else .mm a
  | .tup l => .tup (killsL mv l)
  | .agg l => .agg (killsL mv l)
  | .clo f a b => .clo f (killsL mv a) (killsL mv b)
def killsL (mv : List Nat) : List SV → List SV
  | [] => []
  | x :: l => kills mv x :: killsL mv l
end

def killsO (mv : List Nat) : SO → SO
  | .cells xs => .cells (killsL mv xs)
  | .pin j x => bif inL mv j then .dead else .pin j x
  | .dead => .dead
  | .arr e z els => .arr e z els
  | .map es => .map es

def killsF (mv : List Nat) : List (Nat × SV) → List (Nat × SV)
  | [] => []
  | (j, s) :: l => (j, kills mv s) :: killsF mv l

def killsD (mv : List Nat) : List (Nat × List SV × List SV) → List (Nat × List SV × List SV)
  | [] => []
  | (f, a, b) :: l => (f, killsL mv a, killsL mv b) :: killsD mv l

def killsH (mv : List Nat) : List SO → List SO
  | [] => []
  | o :: l => killsO mv o :: killsH mv l

/-- where nothing moves, nothing is forgotten -/
def killsA (mv : List Nat) (α : AF) : AF :=
  match mv with
  | [] => α
  | mv => ⟨killsF mv α.s, killsD mv α.d⟩

def AgreeM (mv : List Nat) (ι : Iota) (N : Nat) (ι' : Iota) (N' : Nat) : Prop := N ≤ N' ∧ ∀ i, i < N → inL mv i = false → ι' i = ι i

mutual
theorem RepS.kills {mv ι N w M ι' N' w' M'} (ha : AgreeM mv ι N ι' N') (h : Keep w M w' M') : ∀ (s : SV) (c : Value), RepS ι N w M s c → RepS ι' N' w' M' (kills mv s) c
  | .any, _, _ => by simp [AV0.kills, RepS]
  | .v x, c, r => by simp only [AV0.kills, RepS] at r ⊢; exact Rep.keep h x c r
  | .ref a off, c, r => by
    simp only [AV0.kills]
    cases e : inL mv a with
    | true => simp [RepS]
    | false => simp only [cond_false, RepS] at r ⊢; rw [ha.2 a r.1 e]; exact ⟨Nat.lt_of_lt_of_le r.1 ha.1, r.2⟩
  | .eref a i off, c, r => by
    simp only [AV0.kills]
    cases e : inL mv a with
    | true => simp [RepS]
    | false => simp only [cond_false, RepS] at r ⊢; rw [ha.2 a r.1 e]; exact ⟨Nat.lt_of_lt_of_le r.1 ha.1, r.2⟩
  | .ms a, c, r => by
    simp only [AV0.kills]
    cases e : inL mv a with
    | true => simp [RepS]
    | false => simp only [cond_false, RepS] at r ⊢; rw [ha.2 a r.1 e]; exact ⟨Nat.lt_of_lt_of_le r.1 ha.1, r.2⟩
  | .mm a, c, r => by
    simp only [AV0.kills]
    cases e : inL mv a with
    | true => simp [RepS]
    | false => simp only [cond_false, RepS] at r ⊢; rw [ha.2 a r.1 e]; exact ⟨Nat.lt_of_lt_of_le r.1 ha.1, r.2⟩
  | .tup l, c, r => by
    simp only [AV0.kills, RepS] at r ⊢; obtain ⟨cs, h1, h2⟩ := r; exact ⟨cs, h1, RepSL.kills ha h l _ h2⟩
  | .agg l, c, r => by
    simp only [AV0.kills, RepS] at r ⊢; obtain ⟨cs, h1, h2⟩ := r; exact ⟨cs, h1, RepSL.kills ha h l _ h2⟩
  | .clo fn first cap, c, r => by
    simp only [AV0.kills, RepS] at r ⊢; obtain ⟨fs, cs, h1, h2, h3⟩ := r; exact ⟨fs, cs, h1, RepSL.kills ha h first _ h2, RepSL.kills ha h cap _ h3⟩
theorem RepSL.kills {mv ι N w M ι' N' w' M'} (ha : AgreeM mv ι N ι' N') (h : Keep w M w' M') : ∀ (l : List SV) (cs : List Value), RepSL ι N w M l cs → RepSL ι' N' w' M' (killsL mv l) cs
  | [], cs, r => by simpa [killsL, RepSL] using r
  | x :: xs, cs, r => by
    simp only [killsL, RepSL] at r ⊢; obtain ⟨c, cs', h1, h2, h3⟩ := r
    exact ⟨c, cs', h1, RepS.kills ha h x c h2, RepSL.kills ha h xs cs' h3⟩
end

theorem look_killsF (mv : List Nat) : ∀ (l : List (Nat × SV)) (i : Nat), look (killsF mv l) i = (look l i).map (kills mv)
  | [], i => rfl
  | (j, s) :: l, i => by
    simp only [killsF, look]
    cases Nat.beq i j <;> simp [look_killsF mv l i]

theorem RepD.kills {mv ι N w M ι' N' w' M'} (ha : AgreeM mv ι N ι' N') (h : Keep w M w' M') : ∀ (l : List (Nat × List SV × List SV)) (ds : List Deferred), RepD ι N w M l ds → RepD ι' N' w' M' (killsD mv l) ds
  | [], ds, r => by simpa [killsD, RepD] using r
  | (f, as, cs) :: l, ds, r => by
    simp only [killsD, RepD] at r ⊢
    obtain ⟨cs', as', ds', h1, h2, h3, h4⟩ := r
    exact ⟨cs', as', ds', h1, RepSL.kills ha h as _ h2, RepSL.kills ha h cs _ h3, RepD.kills ha h l ds' h4⟩

theorem FR.kills {mv ι N w M ι' N' w' M' n α a} (ha : AgreeM mv ι N ι' N') (h : Keep w M w' M') (H : FR ι N w M n α a) : FR ι' N' w' M' n (killsA mv α) a := by
  unfold killsA
  split
  · refine FR.keep ⟨ha.1, fun i hi => ha.2 i hi rfl⟩ h H
  refine ⟨H.size, ?_, RepD.kills ha h _ _ H.defs⟩
  intro i s hs
  simp only [look_killsF] at hs
  cases hl : look α.s i with
  | none => rw [hl] at hs; cases hs
  | some s' =>
    rw [hl] at hs; simp at hs; subst hs
    obtain ⟨c, h1, h2⟩ := H.slot i s' hl
    exact ⟨c, h1, RepS.kills ha h s' c h2⟩

theorem killsH_get (mv : List Nat) : ∀ (l : List SO) (i : Nat), (killsH mv l)[i]? = (l[i]?).map (killsO mv)
  | [], i => by simp [killsH]
  | o :: l, 0 => by simp [killsH]
  | o :: l, i + 1 => by simp [killsH, killsH_get mv l i]

theorem killsH_length (mv : List Nat) : ∀ (l : List SO), (killsH mv l).length = l.length
  | [] => rfl
  | o :: l => by simp [killsH, killsH_length mv l]

theorem live_killsO (mv : List Nat) (o : SO) : live (killsO mv o) = live o := by
  cases o <;> first | rfl | (simp only [killsO]; rename_i j _; cases inL mv j <;> rfl)

theorem StO.kills {mv ι N w M ι' N' w' M' i o} (ha : AgreeM mv ι N ι' N') (hk : Keep w M w' M') (hi : ι' i = ι i)
    (hb : ∀ b k, live o = true → ι i = some (b, k) → w'.heap[b]? = w.heap[b]? ∧ M' b) (h : StO ι N w M i o) : StO ι' N' w' M' i (killsO mv o) := by
  cases o with
  | dead => simp [killsO, StO]
  | pin j x =>
    simp only [killsO]
    cases e : inL mv j with
    | true => simp [StO]
    | false => simp only [cond_false, StO] at h ⊢; rw [ha.2 j h.1 e]; exact ⟨Nat.lt_of_lt_of_le h.1 ha.1, h.2⟩
  | cells xs =>
    simp only [killsO, StO] at h ⊢; rw [hi]
    obtain ⟨b, k, cs, el, h1, h2, h3, h4⟩ := h
    obtain ⟨g1, g2⟩ := hb b k rfl h1
    exact ⟨b, k, cs, el, h1, g2, by rw [g1]; exact h3, RepSL.kills ha hk _ _ h4⟩
  | arr e z els =>
    simp only [killsO, StO] at h ⊢; rw [hi]
    refine ⟨h.1, ?_⟩
    rcases h.2 with h | ⟨b, k, cs, el', h1, h2, h3, h4, h5, h6, h7⟩
    · exact .inl h
    · obtain ⟨g1, g2⟩ := hb b _ rfl h1
      exact .inr ⟨b, k, cs, el', h1, g2, by rw [g1]; exact h3, h4, h5, h6, RepL.keep hk _ _ h7⟩
  | map es =>
    simp only [killsO, StO] at h ⊢; rw [hi]
    obtain ⟨b, k, en, clock, h1, h2, h3, h4, h5, h6, h7⟩ := h
    obtain ⟨g1, g2⟩ := hb b k rfl h1
    exact ⟨b, k, en, clock, h1, g2, by rw [g1]; exact h3, h4, h5, h6, RepMap.keep hk _ _ h7⟩

/-! ### contracts of functions that are handed objects -/
def IPost (ι : Iota) (w : World) (M : Nat → Prop) (h : List SO) (mv : List Nat) (Q : SV → List SO → Prop) (e : Ending) (w' : World) : Prop :=
  ∃ c s h' ι' M', e = .returned c ∧ Q s h' ∧ h.length ≤ h'.length ∧ St ι' w' M' h' ∧ RepS ι' h'.length w' M' s c ∧ Grow ι w M h none ι' w' M' h' ∧ ∀ i, i < h.length → inL mv i = false → ι' i = ι i

/-- called with these arguments, where it is handed these objects, it returns; Q tells the answer, and the objects; mv are those that may have moved -/
def AImp (P : Program) (f : FuncId) (args : List SV) (h : List SO) (mv : List Nat) (Q : SV → List SO → Prop) : Prop :=
  FnOk P f ∧ ∀ ι w M cs, St ι w M h → RepSL ι h.length w M args cs → Calls P f cs.toArray w (IPost ι w M h mv Q)

theorem AImp.mono {P f args h mv} {Q Q' : SV → List SO → Prop} (x : AImp P f args h mv Q) (hq : ∀ s h', Q s h' → Q' s h') : AImp P f args h mv Q' :=
  ⟨x.1, fun ι w M cs h1 h2 => (x.2 ι w M cs h1 h2).mono fun _ _ ⟨c, s, h', ι', M', a, b, d⟩ => ⟨c, s, h', ι', M', a, hq _ _ b, d⟩⟩

/-- the same, as what was deferred -/
def ADef (P : Program) (f : FuncId) (args : List SV) (h : List SO) (mv : List Nat) (Q : SV → List SO → Prop) : Prop :=
  FnOk P f ∧ ∀ ι w M cs u, St ι w M h → RepSL ι h.length w M args cs → CallsD P f cs.toArray u w (fun e u' w' => u' = u ∧ IPost ι w M h mv Q e w')

def putAll : List SO → List Nat → List SO → List SO
  | h, [], _ => h
  | h, _, [] => h
  | h, i :: l, o :: os => putAll (h.set i o) l os

def nodupB : List Nat → Bool
  | [] => true
  | x :: l => !inL l x && nodupB l

def allLt (N : Nat) : List Nat → Bool
  | [] => true
  | x :: l => Nat.blt x N && allLt N l

def pickAll (h : List SO) : List Nat → List (Option SO)
  | [] => []
  | x :: l => nth h x :: pickAll h l

def wrapAll (N : Nat) (sel : List Nat) : List SO → List (Option SO)
  | [] => []
  | x :: l => some (renO N sel x) :: wrapAll N sel l

def takeN : List SO → List Nat → List SO
  | [], _ => []
  | _, [] => []
  | x :: l, _ :: k => x :: takeN l k

def dropN : List SO → List Nat → List SO
  | l, [] => l
  | [], _ => []
  | _ :: l, _ :: k => dropN l k

def mapN (N : Nat) (sel : List Nat) : List Nat → List Nat
  | [] => []
  | x :: l => rn N sel x :: mapN N sel l

def killsH' (mv : List Nat) (h : List SO) : List SO :=
  match mv with
  | [] => h
  | mv => killsH mv h

/-- the caller's objects behind the call -/
def patch (h : List SO) (sel mv : List Nat) (h' : List SO) : List SO :=
  putAll (killsH' (mapN h.length sel mv) h) sel (renH h.length sel (takeN h' sel)) ++ renH h.length sel (dropN h' sel)

theorem inL_iff : ∀ {l : List Nat} {i : Nat}, inL l i = true ↔ i ∈ l
  | [], i => by simp [inL]
  | x :: l, i => by
    simp only [inL, Bool.or_eq_true, List.mem_cons, inL_iff (l := l)]
    constructor
    · rintro (h | h)
      · exact .inl (Nat.eq_of_beq_eq_true h).symm
      · exact .inr h
    · rintro (h | h)
      · subst h; exact .inl (Nat.beq_refl _)
      · exact .inr h

theorem rn_lt {N : Nat} : ∀ {sel : List Nat} {i : Nat}, i < sel.length → sel[i]? = some (rn N sel i)
  | [], i, h => by simp at h
  | x :: l, 0, _ => rfl
  | x :: l, i + 1, h => by simp only [List.getElem?_cons_succ, rn]; exact rn_lt (by simpa using h)

theorem rn_ge {N : Nat} : ∀ {sel : List Nat} {i : Nat}, sel.length ≤ i → rn N sel i = N + (i - sel.length)
  | [], i, h => by simp [rn]
  | x :: l, 0, h => by simp at h
  | x :: l, i + 1, h => by simp only [rn, List.length_cons]; rw [rn_ge (by simpa using h)]; congr 1; omega

theorem takeN_eq : ∀ {l : List SO} {k : List Nat}, takeN l k = l.take k.length
  | [], k => by simp [takeN]
  | x :: l, [] => by simp [takeN]
  | x :: l, _ :: k => by simp [takeN, takeN_eq (l := l) (k := k)]

theorem dropN_eq : ∀ {l : List SO} {k : List Nat}, dropN l k = l.drop k.length
  | [], [] => by simp [dropN]
  | [], _ :: k => by simp [dropN]
  | x :: l, [] => by simp [dropN]
  | x :: l, _ :: k => by simp [dropN, dropN_eq (l := l) (k := k)]

theorem pick_eq {N : Nat} {sel' : List Nat} {h : List SO} : ∀ {sel : List Nat} {h0 : List SO}, pickAll h sel = wrapAll N sel' h0 → sel.length = h0.length ∧ ∀ (i : Nat) o, h0[i]? = some o → ∃ j, sel[i]? = some j ∧ h[j]? = some (renO N sel' o)
  | [], [], _ => ⟨rfl, by simp⟩
  | [], _ :: _, e => by simp [pickAll, wrapAll] at e
  | _ :: _, [], e => by simp [pickAll, wrapAll] at e
  | x :: l, o :: os, e => by
    simp only [pickAll, wrapAll, List.cons.injEq] at e
    obtain ⟨h1, h2⟩ := pick_eq (sel := l) (h0 := os) e.2
    refine ⟨by simp [h1], ?_⟩
    intro i o' ho'
    cases i with
    | zero => simp at ho'; subst ho'; exact ⟨x, rfl, by rw [← nth_eq]; exact e.1⟩
    | succ i => simpa using h2 i o' (by simpa using ho')

theorem putAll_length : ∀ {sel : List Nat} {os : List SO} {h : List SO}, (putAll h sel os).length = h.length
  | [], _, h => by simp [putAll]
  | _ :: _, [], h => by simp [putAll]
  | x :: l, o :: os, h => by simp only [putAll]; rw [putAll_length]; simp

theorem putAll_get : ∀ {sel : List Nat} {os : List SO} {h : List SO} {j : Nat} {y : SO}, nodupB sel = true → os.length = sel.length → (putAll h sel os)[j]? = some y →
    (∃ k : Nat, sel[k]? = some j ∧ os[k]? = some y) ∨ (¬ j ∈ sel ∧ h[j]? = some y)
  | [], os, h, j, y, _, _, e => by simp only [putAll] at e; exact .inr ⟨by simp, e⟩
  | x :: l, [], h, j, y, _, hl, _ => by simp at hl
  | x :: l, o :: os, h, j, y, hn, hl, e => by
    simp only [nodupB, Bool.and_eq_true, Bool.not_eq_true'] at hn
    simp only [putAll] at e
    rcases putAll_get hn.2 (by simpa using hl) e with ⟨k, h1, h2⟩ | ⟨h1, h2⟩
    · exact .inl ⟨k + 1, by simpa using h1, by simpa using h2⟩
    · rcases set_get h2 with ⟨rfl, rfl, _⟩ | ⟨hne, h2⟩
      · exact .inl ⟨0, by simp, by simp⟩
      · exact .inr ⟨by simp [h1, hne], h2⟩

def idxN : List Nat → Nat → Option Nat
  | [], _ => none
  | x :: l, j => if x = j then some 0 else (idxN l j).map (· + 1)

theorem idxN_some : ∀ {sel : List Nat} {k j : Nat}, nodupB sel = true → sel[k]? = some j → idxN sel j = some k
  | [], k, j, _, h => by simp at h
  | x :: l, 0, j, hn, h => by simp at h; simp [idxN, h]
  | x :: l, k + 1, j, hn, h => by
    simp only [nodupB, Bool.and_eq_true, Bool.not_eq_true'] at hn
    have h' : l[k]? = some j := by simpa using h
    have hne : x ≠ j := by
      intro e; subst e
      have := inL_iff.2 (List.mem_of_getElem? h')
      rw [hn.1] at this; cases this
    simp [idxN, hne, idxN_some hn.2 h']

theorem idxN_none : ∀ {sel : List Nat} {j : Nat}, ¬ j ∈ sel → idxN sel j = none
  | [], j, _ => rfl
  | x :: l, j, h => by
    simp only [List.mem_cons, not_or] at h
    simp [idxN, Ne.symm h.1, idxN_none h.2]

theorem allLt_ok {N : Nat} : ∀ {sel : List Nat}, allLt N sel = true → ∀ j ∈ sel, j < N
  | [], _, j, hj => by cases hj
  | x :: l, h, j, hj => by
    simp only [allLt, Bool.and_eq_true, Nat.blt_eq] at h
    rcases List.mem_cons.1 hj with rfl | hj
    · exact h.1
    · exact allLt_ok h.2 j hj

/-- from the callee's state to the caller's -/
theorem ipost_cpost {ι w M h us n α a K} {h0 : List SO} {mv sel : List Nat} {Q : SV → List SO → Prop} {e : Ending} {w' : World} (H : St ι w M h) (F : FR ι h.length w M n α a)
    (hpick : pickAll h sel = wrapAll h.length sel h0) (hlt : ltH sel.length h0 = true) (hnd : nodupB sel = true) (hal : allLt h.length sel = true) (hus : sel.all (inU us) = true) (hk : ∀ s h', Q s h' → sel.length ≤ h'.length → K (renS h.length sel s) (killsA (mapN h.length sel mv) α) (patch h sel mv h')) :
    St (fun i => if i < sel.length then ι (rn h.length sel i) else none) w M h0 ∧ (∀ {args cs}, ltL sel.length args = true → RepSL ι h.length w M (renL h.length sel args) cs → RepSL (fun i => if i < sel.length then ι (rn h.length sel i) else none) h0.length w M args cs) ∧
    (IPost (fun i => if i < sel.length then ι (rn h.length sel i) else none) w M h0 mv Q e w' → CPost ι w M h us n a K e w') := by
  obtain ⟨hlen, hobj⟩ := pick_eq hpick
  have hρ0 : ∀ i, i < sel.length → (fun i => if i < sel.length then ι (rn h.length sel i) else none) i = ι (rn h.length sel i) := fun i hi => by simp [hi]
  generalize hι0 : (fun i => if i < sel.length then ι (rn h.length sel i) else none) = ι0 at hρ0 ⊢
  have hselN : ∀ {i j : Nat}, sel[i]? = some j → j < h.length := fun h1 => allLt_ok hal _ (List.mem_of_getElem? h1)
  have hrn : ∀ {i j : Nat}, sel[i]? = some j → rn h.length sel i = j := fun {i j} h1 => by
    have := rn_lt (N := h.length) (get_lt h1)
    rw [h1] at this; cases this; rfl
  have hobj' : ∀ (i : Nat) o, h0[i]? = some o → i < sel.length ∧ h[rn h.length sel i]? = some (renO h.length sel o) := by
    intro i o ho
    obtain ⟨j, h1, h2⟩ := hobj i o ho
    rw [hrn h1]; exact ⟨get_lt h1, h2⟩
  have hinj : ∀ i j, i < sel.length → j < sel.length → rn h.length sel i = rn h.length sel j → i = j := by
    intro i j hi hj e
    have h1 := idxN_some hnd (rn_lt (N := h.length) hi)
    have h2 := idxN_some hnd (rn_lt (N := h.length) hj)
    rw [e, h2] at h1; cases h1; rfl
  have H0 : St ι0 w M h0 := by
    refine ⟨?_, ?_, H.mlt⟩
    · intro i o ho
      obtain ⟨h1, h2⟩ := hobj' i o ho
      rw [← hlen]
      exact StO.unren hρ0 h1 (H.objs _ _ h2) (ltH_get hlt i o ho)
    · intro i j oi oj b k k' h1 h2 l1 l2 e1 e2
      obtain ⟨g1, g2⟩ := hobj' i oi h1
      obtain ⟨g3, g4⟩ := hobj' j oj h2
      rw [hρ0 i g1] at e1
      rw [hρ0 j g3] at e2
      exact hinj i j g1 g3 (H.dist _ _ _ _ b k k' g2 g4 (by rw [live_renO]; exact l1) (by rw [live_renO]; exact l2) e1 e2)
  refine ⟨H0, fun {args cs} hl hr => by rw [← hlen]; exact RepSL.unren hρ0 _ _ hr hl, ?_⟩
  rintro ⟨c, s, h', ι', M', rfl, q1, q2, q3, q4, q5, q6⟩
  rw [← hlen] at q2 q6
  have hown0 : ∀ {b}, own ι0 h0 b → own ι h b := by
    rintro b ⟨i, o, k, h1, h2, h3⟩
    obtain ⟨g1, g2⟩ := hobj' i o h1
    rw [hρ0 i g1] at h3
    exact ⟨_, _, k, g2, by rw [live_renO]; exact h2, h3⟩
  have hownU : ∀ {b}, own ι0 h0 b → ownT ι h us b := by
    rintro b ⟨i, o, k, h1, h2, h3⟩
    obtain ⟨g1, g2⟩ := hobj' i o h1
    rw [hρ0 i g1] at h3
    exact ⟨_, _, k, List.all_eq_true.1 hus _ (List.mem_of_getElem? (rn_lt (N := h.length) g1)), g2, by rw [live_renO]; exact h2, h3⟩
  have hkp : Keep w M w' M' := q5.keepM H0
  let ι2 : Iota := fun j => if j < h.length then (match idxN sel j with | some k => ι' k | none => ι j) else ι' (j - h.length + sel.length)
  have hι2 : ∀ i, ι2 (rn h.length sel i) = ι' i := by
    intro i
    rcases Nat.lt_or_ge i sel.length with hi | hi
    · have h1 := rn_lt (N := h.length) hi
      show (if _ < _ then _ else _) = _
      rw [if_pos (hselN h1), idxN_some hnd h1]
    · show (if _ < _ then _ else _) = _
      rw [rn_ge hi, if_neg (by omega)]
      congr 1; omega
  have hι2' : ∀ j, j < h.length → ¬ j ∈ sel → ι2 j = ι j := by
    intro j hj hn
    show (if _ < _ then _ else _) = _
    rw [if_pos hj, idxN_none hn]
  have hplen : (patch h sel mv h').length = h.length + (h'.length - sel.length) := by
    unfold patch killsH'
    rw [List.length_append, putAll_length, renH_length, dropN_eq, List.length_drop]
    split <;> simp [killsH_length]
  have hag : AgreeM (mapN h.length sel mv) ι h.length ι2 (patch h sel mv h').length := by
    refine ⟨by rw [hplen]; omega, ?_⟩
    intro j hj hn
    by_cases hs : j ∈ sel
    · obtain ⟨k, hk1⟩ := List.mem_iff_getElem?.1 hs
      have hkl := get_lt hk1
      have hkr := hrn hk1
      rw [← hkr, hι2 k, q6 k hkl ?_, hρ0 k hkl]
      cases hm : inL mv k with
      | false => rfl
      | true =>
        exfalso
        have : ∀ l : List Nat, inL l k = true → inL (mapN h.length sel l) (rn h.length sel k) = true := by
          intro l
          induction l with
          | nil => simp [inL]
          | cons x l ih =>
            simp only [inL, mapN, Bool.or_eq_true]
            rintro (e | e)
            · have := Nat.eq_of_beq_eq_true e; subst this; exact .inl (Nat.beq_refl _)
            · exact .inr (ih e)
        have h9 := this mv hm
        rw [hkr, hn] at h9
        cases h9
    · exact hι2' j hj hs
  have hρ2 : ∀ i, i < h'.length → rn h.length sel i < (patch h sel mv h').length ∧ ι2 (rn h.length sel i) = ι' i := by
    intro i hi
    refine ⟨?_, hι2 i⟩
    rw [hplen]
    rcases Nat.lt_or_ge i sel.length with h1 | h1
    · have := hselN (rn_lt (N := h.length) h1); omega
    · rw [rn_ge h1]; omega
  have hget : ∀ j y, (patch h sel mv h')[j]? = some y → (∃ i o, h'[i]? = some o ∧ j = rn h.length sel i ∧ y = renO h.length sel o) ∨ (j < h.length ∧ ¬ j ∈ sel ∧ ∃ o, h[j]? = some o ∧ live y = live o ∧ ((y = o ∧ mapN h.length sel mv = []) ∨ y = killsO (mapN h.length sel mv) o)) := by
    intro j y hy
    unfold patch at hy
    rcases Nat.lt_or_ge j h.length with hj | hj
    · have hkl : (killsH' (mapN h.length sel mv) h).length = h.length := by unfold killsH'; split <;> simp [killsH_length]
      rw [List.getElem?_append_left (by rw [putAll_length, hkl]; exact hj)] at hy
      rcases putAll_get hnd (by rw [renH_length, takeN_eq, List.length_take]; omega) hy with ⟨k, h1, h2⟩ | ⟨h1, h2⟩
      · left
        rw [renH_get, takeN_eq, List.getElem?_take, if_pos (get_lt h1)] at h2
        cases h3 : h'[k]? with
        | none => rw [h3] at h2; cases h2
        | some o => rw [h3] at h2; simp at h2; exact ⟨k, o, h3, (hrn h1).symm, h2.symm⟩
      · right
        refine ⟨hj, h1, ?_⟩
        unfold killsH' at h2
        split at h2
        · rename_i he; exact ⟨y, h2, rfl, .inl ⟨rfl, he⟩⟩
        · rw [killsH_get] at h2
          cases h3 : h[j]? with
          | none => rw [h3] at h2; cases h2
          | some o => rw [h3] at h2; simp at h2; subst h2; exact ⟨o, rfl, live_killsO _ _, .inr rfl⟩
    · left
      have hkl : (killsH' (mapN h.length sel mv) h).length = h.length := by unfold killsH'; split <;> simp [killsH_length]
      rw [List.getElem?_append_right (by rw [putAll_length, hkl]; exact hj), putAll_length, hkl, renH_get, dropN_eq, List.getElem?_drop] at hy
      cases h3 : h'[sel.length + (j - h.length)]? with
      | none => rw [h3] at hy; cases hy
      | some o =>
        rw [h3] at hy; simp at hy
        refine ⟨_, o, h3, ?_, hy.symm⟩
        rw [rn_ge (by omega)]; omega
  have hoth : ∀ {j o b k}, j < h.length → ¬ j ∈ sel → h[j]? = some o → live o = true → ι j = some (b, k) → ¬ own ι0 h0 b := by
    rintro j o b k hj hn ho hl he ⟨i, o', k', h1, h2, h3⟩
    obtain ⟨g1, g2⟩ := hobj' i o' h1
    rw [hρ0 i g1] at h3
    have := H.dist _ _ _ _ b k k' ho g2 hl (by rw [live_renO]; exact h2) he h3
    exact hn (this ▸ List.mem_of_getElem? (rn_lt (N := h.length) g1))
  have hblk : ∀ {j o b k}, h[j]? = some o → live o = true → ι j = some (b, k) → b < w.heap.size := fun h1 h2 h3 => H.mlt _ (H.ownM ⟨_, _, _, h1, h2, h3⟩)
  have hown2 : ∀ b, b < w.heap.size → own ι2 (patch h sel mv h') b → (own ι0 h0 b ∨ ∃ j o k, ¬ j ∈ sel ∧ j < h.length ∧ h[j]? = some o ∧ live o = true ∧ ι j = some (b, k) ∧ ∀ j' y k', (patch h sel mv h')[j']? = some y → live y = true → ι2 j' = some (b, k') → j' = j) := by
    rintro b hb ⟨j, y, k, h1, h2, h3⟩
    rcases hget j y h1 with ⟨i, o, g1, rfl, rfl⟩ | ⟨g1, g2, o, g3, g4, _⟩
    · left
      rw [hι2] at h3
      rw [live_renO] at h2
      exact q5.own1 b hb ⟨i, o, k, g1, h2, h3⟩
    · right
      rw [hι2' j g1 g2] at h3
      rw [g4] at h2
      refine ⟨j, o, k, g2, g1, g3, h2, h3, ?_⟩
      intro j' y' k' e1 e2 e3
      rcases hget j' y' e1 with ⟨i, o', f1, rfl, rfl⟩ | ⟨f1, f2, o', f3, f4, _⟩
      · rw [hι2] at e3; rw [live_renO] at e2
        exact absurd (q5.own1 b hb ⟨i, o', k', f1, e2, e3⟩) (hoth g1 g2 g3 h2 h3)
      · rw [hι2' j' f1 f2] at e3; rw [f4] at e2
        exact H.dist _ _ _ _ b k' k f3 g3 e2 h2 e3 h3
  refine ⟨c, _, _, patch h sel mv h', ι2, M', rfl, hk s h' q1 q2, ⟨?_, ?_, q3.mlt⟩, F.kills hag hkp, RepS.ren hρ2 _ _ q4, ?_⟩
  · intro j y hy
    rcases hget j y hy with ⟨i, o, g1, rfl, rfl⟩ | ⟨g1, g2, o, g3, g4, g5⟩
    · exact StO.ren hρ2 (get_lt g1) (q3.objs i o g1)
    · have hb : ∀ b k, live o = true → ι j = some (b, k) → w'.heap[b]? = w.heap[b]? ∧ M' b := by
        intro b k l e
        have hno := hoth g1 g2 g3 l e
        exact ⟨q5.keep b (hblk g3 l e) (fun ho => hno ho.own), q5.m2 b ((H.objs j o g3).ownM l e) hno⟩
      rcases g5 with ⟨rfl, he⟩ | rfl
      · exact StO.keep ⟨hag.1, fun i hi => hag.2 i hi (by rw [he]; rfl)⟩ hkp (hι2' j g1 g2) hb (H.objs j _ g3)
      · exact StO.kills hag hkp (hι2' j g1 g2) hb (H.objs j o g3)
  · intro i j oi oj b k k' h1 h2 l1 l2 e1 e2
    rcases hget i oi h1 with ⟨i', o1, g1, rfl, rfl⟩ | ⟨g1, g2, o1, g3, g4, g5⟩ <;> rcases hget j oj h2 with ⟨j', o2, f1, rfl, rfl⟩ | ⟨f1, f2, o2, f3, f4, f5⟩
    · rw [hι2] at e1 e2; rw [live_renO] at l1 l2
      rw [q3.dist i' j' o1 o2 b k k' g1 f1 l1 l2 e1 e2]
    · rw [hι2' j f1 f2] at e2; rw [f4] at l2
      rw [hι2] at e1; rw [live_renO] at l1
      exact absurd (q5.own1 b (hblk f3 l2 e2) ⟨i', o1, k, g1, l1, e1⟩) (hoth f1 f2 f3 l2 e2)
    · rw [hι2' i g1 g2] at e1; rw [g4] at l1
      rw [hι2] at e2; rw [live_renO] at l2
      exact absurd (q5.own1 b (hblk g3 l1 e1) ⟨j', o2, k', f1, l2, e2⟩) (hoth g1 g2 g3 l1 e1)
    · rw [hι2' i g1 g2] at e1; rw [g4] at l1
      rw [hι2' j f1 f2] at e2; rw [f4] at l2
      exact H.dist _ _ _ _ b k k' g3 f3 l1 l2 e1 e2
  · refine ⟨q5.os, q5.tape, q5.output, q5.size, ?_, q5.m1, ?_, ?_, ?_⟩
    · intro b hb hn
      exact q5.keep b hb (fun ho => hn (hownU ho.own))
    · intro b hm hn
      exact q5.m2 b hm (fun ho => hn (hown0 ho))
    · intro b hb ho
      rcases hown2 b hb ho with h1 | ⟨j, o, k, h1, h2, h3, h4, h5, _⟩
      · exact hown0 h1
      · exact ⟨j, o, k, h3, h4, h5⟩
    · rintro b hb ⟨i, y, k, h0', h1, h2, h3⟩
      rcases hown2 b hb ⟨i, y, k, h1, h2, h3⟩ with g1 | ⟨j, o, k', g1, g2, g3, g4, g5, g6⟩
      · exact hownU g1
      · have := g6 i y k h1 h2 h3
        subst this
        exact ⟨i, o, k', h0', g3, g4, g5⟩

/-- a call that hands on objects of one's own -/
theorem call_imp {P us f args α h K} {args0 : List SV} {h0 : List SO} {mv : List Nat} {Q : SV → List SO → Prop} (hp : AImp P f args0 h0 mv Q) (sel : List Nat) (hargs : renL h.length sel args0 = args) (hpick : pickAll h sel = wrapAll h.length sel h0)
    (hchk : (ltL sel.length args0 && ltH sel.length h0 && nodupB sel && allLt h.length sel && sel.all (inU us)) = true)
    (hk : ∀ s h', Q s h' → sel.length ≤ h'.length → K (renS h.length sel s) (killsA (mapN h.length sel mv) α) (patch h sel mv h')) : CallEv P us f args α h K := by
  refine CallEv.intro hp.1 ?_
  intro ι w M n a cs H F hr
  simp only [Bool.and_eq_true] at hchk
  obtain ⟨⟨⟨⟨h1, h2⟩, h3⟩, h4⟩, h5⟩ := hchk
  obtain ⟨g1, g2, _⟩ := ipost_cpost (e := .outgrown) (w' := w) (mv := mv) (Q := Q) H F hpick h2 h3 h4 h5 hk
  subst hargs
  refine (hp.2 _ w M cs g1 (g2 h1 hr)).mono ?_
  intro e w' hq
  exact (ipost_cpost (e := e) (w' := w') H F hpick h2 h3 h4 h5 hk).2.2 hq

end Go.AV0
