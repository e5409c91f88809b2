/- Comparisons of any values; what else only reckons. -/
import Derived.Test.YthbglcdcfdjbbaaFwD
namespace Go.AV0

def isK : Operand → Bool
  | .const _ => true
  | _ => false

def isEq : BinOp → Bool
  | .eql => true
  | .neq => true
  | _ => false

/-- two nil interface values: only where one is the literal nil -/
def nilPair (x y : SV) : Bool :=
  match x, y with
  | .v (.ifc none), .v (.ifc none) => true
  | _, _ => false

def vbin (T : TT) (op : BinOp) (t : Nat) (c : Bool) (x y : SV) (K : SV → Prop) : Prop :=
  match x, y with
  | .v (.c (.int k a)), .v (.c (.int k' b)) => binC op (.int k a) (.int k' b) fun r => K (.v (.c r))
  | .v (.c (.string a)), .v (.c (.string b)) => binC op (.string a) (.string b) fun r => K (.v (.c r))
  | x, y => bif nilPair x y && !c then False else match op with
    | .eql => eqS T t x y fun b => K (.v (.c (.bool b)))
    | .neq => eqS T t x y fun b => K (.v (.c (.bool (!b))))
    | _ => False

def plain2 (c d : Value) : Prop := (∀ l m, ¬ (c = .agg l ∧ d = .agg m)) ∧ ¬ (c = .nilIface ∧ d = .nilIface)

theorem eqGuard_run {P : Program} {w : World} {op : BinOp} {t : Nat} {x y : Operand} {c d : Value} (h : (∀ l m, ¬ (c = .agg l ∧ d = .agg m))) (h2 : (c = .nilIface ∧ d = .nilIface) → (isK x || isK y) = true) :
    (eqGuard op t x y c d).run P w = .ok () w := by
  cases op <;> first | rfl | skip
  all_goals
    unfold eqGuard
    dsimp only [Bool.not_true]
    split
    · rfl
    · split
      · have := h2 ⟨rfl, rfl⟩
        cases x <;> cases y <;> first | (simp only [isK, Bool.or_self, Bool.false_eq_true] at this; done) | rfl
      · exact absurd ⟨rfl, rfl⟩ (h _ _)
      · rfl

theorem eqS_noAgg {T : TT} {t : Nat} {x y : SV} {K : Bool → Prop} {ι N w M c d} (h : eqS T t x y K) (hx : RepS ι N w M x c) (hy : RepS ι N w M y d) :
    (∀ l m, ¬ (c = .agg l ∧ d = .agg m)) ∧ ((c = .nilIface ∧ d = .nilIface) → nilPair x y = true) := by
  have h0 := onO_some h; clear h
  obtain ⟨i, hi, h⟩ := h0
  split at h
  · simp only [RepS, Rep] at hx hy; subst hx; subst hy; exact ⟨by simp, by simp⟩
  · simp only [RepS, Rep] at hx hy; subst hx; subst hy; exact ⟨by simp, by simp⟩
  · simp only [RepS, Rep] at hx hy; obtain ⟨b, off, rfl, _⟩ := hx; subst hy; exact ⟨by simp, by simp⟩
  · simp only [RepS, Rep] at hx hy; obtain ⟨b, off, rfl, _⟩ := hy; subst hx; exact ⟨by simp, by simp⟩
  · simp only [RepS, Rep] at hx hy; obtain ⟨_, b, k, _, rfl⟩ := hx; subst hy; exact ⟨by simp, by simp⟩
  · simp only [RepS, Rep] at hx hy; obtain ⟨ao, cap, rfl, _⟩ := hx; subst hy; exact ⟨by simp, by simp⟩
  · simp only [RepS, Rep] at hx hy; subst hx; subst hy; exact ⟨by simp, by simp⟩
  · simp only [RepS, Rep] at hx hy; subst hx; subst hy; exact ⟨by simp, by simp [nilPair]⟩
  · rename_i z _
    obtain ⟨t', v'⟩ := z; simp only [RepS, Rep] at hx hy; obtain ⟨c', rfl, _⟩ := hx; subst hy; exact ⟨by simp, by simp⟩
  · exact h.elim

/-- 'binOp' at other values than numbers and strings is the comparison -/
theorem binOp_eq {P : Program} {w w' : World} {t : Nat} {T : TT} {x y : SV} {K : Bool → Prop} {ι N M c d} (h : eqS T t x y K) (hx : RepS ι N w M x c) (hy : RepS ι N w M y d) :
    ((binOp .eql t c d).run P w' = (do pure (.bool (← Op.equal t c d)) : Sem Value).run P w') ∧ ((binOp .neq t c d).run P w' = (do pure (.bool (!(← Op.equal t c d))) : Sem Value).run P w') := by
  have h0 := onO_some h; clear h
  obtain ⟨i, hi, h⟩ := h0
  split at h
  · simp only [RepS, Rep] at hx hy; subst hx; subst hy; exact ⟨rfl, rfl⟩
  · simp only [RepS, Rep] at hx hy; subst hx; subst hy; exact ⟨rfl, rfl⟩
  · simp only [RepS, Rep] at hx hy; obtain ⟨b, off, rfl, _⟩ := hx; subst hy; exact ⟨rfl, rfl⟩
  · simp only [RepS, Rep] at hx hy; obtain ⟨b, off, rfl, _⟩ := hy; subst hx; exact ⟨rfl, rfl⟩
  · simp only [RepS, Rep] at hx hy; obtain ⟨_, b, k, _, rfl⟩ := hx; subst hy; exact ⟨rfl, rfl⟩
  · simp only [RepS, Rep] at hx hy; obtain ⟨ao, cap, rfl, _⟩ := hx; subst hy; exact ⟨rfl, rfl⟩
  · simp only [RepS, Rep] at hx hy; subst hx; subst hy; exact ⟨rfl, rfl⟩
  · simp only [RepS, Rep] at hx hy; subst hx; subst hy; exact ⟨rfl, rfl⟩
  · rename_i z _
    obtain ⟨t', v'⟩ := z; simp only [RepS, Rep] at hx hy; obtain ⟨c', rfl, _⟩ := hx; subst hy; exact ⟨rfl, rfl⟩
  · exact h.elim

theorem vbin_ok {P : Program} {T : TT} (hT : T.all P = true) {op : BinOp} {t : Nat} {ox oy : Operand} {x y : SV} {K : SV → Prop} {ι N w M c d}
    (hv : vbin T op t (isK ox || isK oy) x y K) (hx : RepS ι N w M x c) (hy : RepS ι N w M y d) :
    ∃ c' s', (∀ w', ((do eqGuard op t ox oy c d; binOp op t c d : Sem Value)).run P w' = .ok c' w') ∧ K s' ∧ RepS ι N w M s' c' := by
  unfold vbin at hv
  split at hv
  · simp only [RepS, Rep] at hx hy; subst hx; subst hy
    obtain ⟨r, h1, h2⟩ := intB_ok (P := P) (t := t) hv
    exact ⟨r, _, by intro w'; rw [Sem.run_bind, eqGuard_run (by simp) (by simp), Result.andThen_ok, h1], h2, by simp [RepS, Rep]⟩
  · simp only [RepS, Rep] at hx hy; subst hx; subst hy
    obtain ⟨r, h1, h2⟩ := strB_ok (P := P) (t := t) hv
    exact ⟨r, _, by intro w'; rw [Sem.run_bind, eqGuard_run (by simp) (by simp), Result.andThen_ok, h1], h2, by simp [RepS, Rep]⟩
  · cases hb : (nilPair x y && !(isK ox || isK oy)) with
    | true => rw [hb] at hv; exact hv.elim
    | false =>
      rw [hb] at hv; simp only [cond_false] at hv
      have guard : ∀ (w' : World), (∀ l m, ¬ (c = .agg l ∧ d = .agg m)) ∧ ((c = .nilIface ∧ d = .nilIface) → nilPair x y = true) → (eqGuard op t ox oy c d).run P w' = .ok () w' := by
        intro w' g
        exact eqGuard_run g.1 (fun e => by have := g.2 e; rw [this] at hb; cases hx : isK ox <;> cases hy : isK oy <;> simp_all)
      split at hv
      · obtain ⟨b, h1, h2⟩ := eqS_ok hT hv hx hy
        refine ⟨.bool b, _, ?_, h2, by simp [RepS, Rep]⟩
        intro w'
        rw [Sem.run_bind, guard w' (eqS_noAgg hv hx hy), Result.andThen_ok, (binOp_eq hv hx hy).1, Sem.run_bind, h1]; rfl
      · obtain ⟨b, h1, h2⟩ := eqS_ok hT hv hx hy
        refine ⟨.bool (!b), _, ?_, h2, by simp [RepS, Rep]⟩
        intro w'
        rw [Sem.run_bind, guard w' (eqS_noAgg hv hx hy), Result.andThen_ok, (binOp_eq hv hx hy).2, Sem.run_bind, h1]; rfl
      · exact hv.elim

/-! ### the rest of what only reckons -/
def vun (op : UnOp) (x : SV) (K : SV → Prop) : Prop :=
  match op, x with
  | .not, .v (.c (.bool b)) => K (.v (.c (.bool (!b))))
  | .neg, .v (.c (.int k n)) => K (.v (.c (.int k (k.wrap (0 - n)))))
  | _, _ => False

theorem vun_ok {P : Program} {op : UnOp} {x : SV} {K : SV → Prop} {ι N w M c} (hv : vun op x K) (hx : RepS ι N w M x c) :
    ∃ c' s', (∀ w', (Op.unary op c).run P w' = .ok c' w') ∧ K s' ∧ RepS ι N w M s' c' := by
  unfold vun at hv
  split at hv
  · simp only [RepS, Rep] at hx; subst hx; exact ⟨_, _, fun _ => rfl, hv, by simp [RepS, Rep]⟩
  · simp only [RepS, Rep] at hx; subst hx; exact ⟨_, _, fun _ => rfl, hv, by simp [RepS, Rep]⟩
  · exact hv.elim

def vnil (x : SV) (K : SV → Prop) : Prop :=
  match x with
  | .ref a b => K (.ref a b)
  | .eref a b c => K (.eref a b c)
  | .v (.ptr (some ys)) => K (.v (.ptr (some ys)))
  | _ => False

theorem vnil_ok {x : SV} {K : SV → Prop} {ι N w M c} (hv : vnil x K) (hx : RepS ι N w M x c) : (∃ a, c = .pointer (some a)) ∧ K x := by
  unfold vnil at hv
  split at hv
  · simp only [RepS] at hx; obtain ⟨_, b, k, _, rfl⟩ := hx; exact ⟨⟨_, rfl⟩, hv⟩
  · simp only [RepS] at hx; obtain ⟨_, b, k, z, n, _, rfl⟩ := hx; exact ⟨⟨_, rfl⟩, hv⟩
  · simp only [RepS, Rep] at hx; obtain ⟨b, off, rfl, _⟩ := hx; exact ⟨⟨_, rfl⟩, hv⟩
  · exact hv.elim

def vextract (x : SV) (i : Nat) (K : SV → Prop) : Prop :=
  match x with
  | .v (.tup xs) => onO (nth xs i) fun y => forceV y fun y => K (.v y)
  | .tup l => onO (nth l i) fun s => forceS s K
  | _ => False

theorem vextract_ok {P : Program} {x : SV} {i : Nat} {K : SV → Prop} {ι N w M c} (hv : vextract x i K) (hx : RepS ι N w M x c) :
    ∃ c' s', (∀ w', (Instr.extract c i).run P w' = .ok c' w') ∧ K s' ∧ RepS ι N w M s' c' := by
  unfold vextract at hv
  split at hv
  · obtain ⟨y, hy, hv⟩ := onO_some hv
    rw [forceV_eq] at hv; rw [nth_eq] at hy
    simp only [RepS, Rep] at hx; obtain ⟨cs, rfl, h⟩ := hx
    obtain ⟨c', h1, h2⟩ := h.get i y hy
    rw [Array.getElem?_toList] at h1
    exact ⟨c', _, fun w' => by simp [Instr.extract, h1], hv, by simpa [RepS] using h2⟩
  · obtain ⟨y, hy, hv⟩ := onO_some hv
    rw [forceS_eq] at hv; rw [nth_eq] at hy
    simp only [RepS] at hx; obtain ⟨cs, rfl, h⟩ := hx
    obtain ⟨c', h1, h2⟩ := h.get i y hy
    rw [Array.getElem?_toList] at h1
    exact ⟨c', _, fun w' => by simp [Instr.extract, h1], hv, h2⟩
  · exact hv.elim

/-- into an interface value -/
def vmakeI (T : TT) (t : Nat) (x : SV) (K : SV → Prop) : Prop :=
  onO (T.find t) fun i => match i.k with
    | .ifc => False
    | .oth => False
    | _ => match x with
      | .v y => K (.v (.ifc (some (t, y))))
      | _ => False

theorem vmakeI_ok {P : Program} {T : TT} (hT : T.all P = true) {t : Nat} {x : SV} {K : SV → Prop} {ι N w M c} (hv : vmakeI T t x K) (hx : RepS ι N w M x c) :
    ∃ c' s', (∀ w', (Instr.makeInterface t c).run P w' = .ok c' w') ∧ K s' ∧ RepS ι N w M s' c' := by
  have h0 := onO_some hv; clear hv
  obtain ⟨i, hi, hv⟩ := h0
  obtain ⟨d, h1, h2⟩ := tk_of (TT.ok hT t i hi)
  have key : ∀ y, x = .v y → K (.v (.ifc (some (t, y)))) → (∀ ms, d ≠ .interface ms) → ∃ c' s', (∀ w', (Instr.makeInterface t c).run P w' = .ok c' w') ∧ K s' ∧ RepS ι N w M s' c' := by
    intro y e k hd
    subst e
    refine ⟨.iface t c, _, ?_, k, ?_⟩
    · intro w'
      cases d <;> first | (simp [Instr.makeInterface, run_underlying h1]; done) | exact absurd rfl (hd _)
    · simp only [RepS, Rep] at hx ⊢; exact ⟨c, rfl, hx⟩
  split at hv
  · exact hv.elim
  · exact hv.elim
  · rename_i hk1 hk2
    cases x with
    | v y =>
      refine key y rfl hv ?_
      intro ms e; subst e
      cases hk : i.k <;> rw [hk] at h2 <;> simp [tkOk] at h2
      exact hk1 hk
    | _ => exact hv.elim

/-- a type's zero, of one cell -/
def zeroOf (T : TT) (t : Nat) : Option AV :=
  match T.find t with
  | some i => match i.zero with
    | [v] => bif isAggK i.k then none else some (ofVal v)
    | _ => none
  | none => none

end Go.AV0
