/- Regions that draw their order: what only reads is taken first, the rest in each order that may be. -/
import Derived.Test.YthbglcdcfdjbbaaFwP
namespace Go.AV0

section
variable {P : Program} {ops : Array Oper} {Q : Exit → Act → World → Prop} {md : Region.Mode} {S : World → Prop} {D : Nat → Bool}

/-- whatever order is picked; S holds behind each operation of D; behind one that is not of D nothing is asked any more -/
def wpAnyK (P : Program) (md : Region.Mode) (ops : Array Oper) (Q : Exit → Act → World → Prop) (S : World → Prop) (D : Nat → Bool) : Nat → Array Bool → Act → World → Prop
  | 0, listed, a, w => Region.ready md ops listed = [] ∧ Q .normal a w
  | fuel + 1, listed, a, w =>
    (Region.ready md ops listed = [] → Q .normal a w) ∧
    ∀ i ∈ Region.ready md ops listed, wpOp P ops Q i (fun a' w' => if D i = true then S w' ∧ wpAnyK P md ops Q S D fuel (listed.setIfInBounds i true) a' w' else wpAny P md ops Q fuel (listed.setIfInBounds i true) a' w') a w

theorem wpAny_of_K : ∀ (fuel : Nat) (listed : Array Bool) (a : Act) (w : World), wpAnyK P md ops Q S D fuel listed a w → wpAny P md ops Q fuel listed a w
  | 0, _, _, _, h => h
  | fuel + 1, _, _, _, h => ⟨h.1, fun i hi => wpOp_mono (fun a' w' h' => by
      split at h'
      · exact wpAny_of_K fuel _ a' w' h'.2
      · exact h') (h.2 i hi)⟩

theorem wpAnyK_first {i : Nat} {oi : Oper} {v : Value} (hi : ops[i]? = some oi) (hsel : ∀ (j : Nat) (o : Oper) cs b, ops[j]? = some o → o.op ≠ .select cs b)
    (hQ : ∀ c a w, Q (.panic c) (a.put oi.dst v) w → Q (.panic c) a w) (hDi : D i = true) (hD : ∀ (j : Nat) oj, ops[j]? = some oj → D j = false → ∃ e ∈ oj.after, Region.binds md e = true ∧ e.on = i) :
    ∀ (fuel : Nat) (listed : Array Bool) (a : Act) (w : World),
      (∀ (j : Nat) oj, ops[j]? = some oj → j ≠ i → listed.getD j true = false → (∀ e ∈ oj.after, Region.binds md e = true → e.on ≠ i) → oi.apart ops oj = true) →
      i ∈ Region.ready md ops listed → YieldsIf P ops S oi v a → S w →
      wpAnyK P md ops Q S D fuel (listed.setIfInBounds i true) (a.put oi.dst v) w → wpAnyK P md ops Q S D (fuel + 1) listed a w := by
  intro fuel
  induction fuel with
  | zero =>
    intro listed a w _ hr hy hS H
    refine ⟨fun h => (by rw [h] at hr; cases hr), fun j hj => ?_⟩
    by_cases hji : j = i
    · subst hji; exact hy.wpOp hi hS (by rw [if_pos hDi]; exact ⟨hS, H⟩)
    · have := ready_mono hj hji
      rw [H.1] at this
      cases this
  | succ fuel ih =>
    intro listed a w hfree hr hy hS H
    refine ⟨fun h => (by rw [h] at hr; cases hr), fun j hj => ?_⟩
    by_cases hji : j = i
    · subst hji; exact hy.wpOp hi hS (by rw [if_pos hDi]; exact ⟨hS, H⟩)
    · have h1 := H.2 j (ready_mono hj hji)
      obtain ⟨hjun, oj, hoj, hall⟩ := mem_ready.1 hj
      have hnot : ∀ e ∈ oj.after, Region.binds md e = true → e.on ≠ i := fun e he hb heq => by
        have h1 := hall e he hb
        have h0 := (mem_ready.1 hr).1
        rw [heq] at h1
        rcases Nat.lt_or_ge i listed.size with h' | h'
        · simp [h'] at h0 h1; rw [h0] at h1; cases h1
        · simp [Array.getElem?_eq_none h'] at h1
      have hDj : D j = true := by
        cases hd : D j with
        | true => rfl
        | false =>
          obtain ⟨e, he, hb, hon⟩ := hD j oj hoj hd
          exact absurd hon (hnot e he hb)
      simp only [hDj, if_true] at h1 ⊢
      have h2 := wpOp_putIf hoj (hfree j oj hoj hji hjun hnot) (fun cs b => hsel i oi cs b hi) (fun cs b => hsel j oj cs b hoj) hQ hy h1
      have hfree' : ∀ (k : Nat) ok, ops[k]? = some ok → k ≠ i → (listed.setIfInBounds j true).getD k true = false →
          (∀ e ∈ ok.after, Region.binds md e = true → e.on ≠ i) → oi.apart ops ok = true := fun k ok hk hki hun hno => by
        refine hfree k ok hk hki ?_ hno
        by_cases hjk : j = k
        · subst hjk; exact hjun
        · rw [getD_set_ne true hjk] at hun; exact hun
      refine wpOp_mono (fun a' w' h3 => ⟨h3.2.1, ih (listed.setIfInBounds j true) a' w' hfree' (ready_mono hr (Ne.symm hji)) h3.1 h3.2.1 ?_⟩) h2
      rw [Array.setIfInBounds_comm _ _ hji]
      exact h3.2.2
end

/-- what doesn't even read the world may be taken first, whatever ends a part -/
theorem wpAnyK_firstP {P : Program} {ops : Array Oper} {Q : Exit → Act → World → Prop} {md : Region.Mode} {S : World → Prop} {D : Nat → Bool} {i : Nat} {oi : Oper} {v : Value} (hi : ops[i]? = some oi) (hsel : ∀ (j : Nat) (o : Oper) cs b, ops[j]? = some o → o.op ≠ .select cs b)
    (hQ : ∀ c a w, Q (.panic c) (a.put oi.dst v) w → Q (.panic c) a w) :
    ∀ (fuel : Nat) (listed : Array Bool) (a : Act) (w : World),
      (∀ (j : Nat) oj, ops[j]? = some oj → j ≠ i → listed.getD j true = false → (∀ e ∈ oj.after, Region.binds md e = true → e.on ≠ i) → oi.apart ops oj = true) →
      i ∈ Region.ready md ops listed → Yields P ops oi v a → S w →
      wpAnyK P md ops Q S D fuel (listed.setIfInBounds i true) (a.put oi.dst v) w → wpAnyK P md ops Q S D (fuel + 1) listed a w := by
  intro fuel
  induction fuel with
  | zero =>
    intro listed a w _ hr hy hS H
    refine ⟨fun h => (by rw [h] at hr; cases hr), fun j hj => ?_⟩
    by_cases hji : j = i
    · subst hji
      refine hy.wpOp hi ?_
      split
      · exact ⟨hS, H⟩
      · exact wpAny_of_K _ _ _ _ H
    · have := ready_mono hj hji
      rw [H.1] at this
      cases this
  | succ fuel ih =>
    intro listed a w hfree hr hy hS H
    refine ⟨fun h => (by rw [h] at hr; cases hr), fun j hj => ?_⟩
    by_cases hji : j = i
    · subst hji
      refine hy.wpOp hi ?_
      split
      · exact ⟨hS, H⟩
      · exact wpAny_of_K _ _ _ _ H
    · have h1 := H.2 j (ready_mono hj hji)
      obtain ⟨hjun, oj, hoj, hall⟩ := mem_ready.1 hj
      have hnot : ∀ e ∈ oj.after, Region.binds md e = true → e.on ≠ i := fun e he hb heq => by
        have h1 := hall e he hb
        have h0 := (mem_ready.1 hr).1
        rw [heq] at h1
        rcases Nat.lt_or_ge i listed.size with h' | h'
        · simp [h'] at h0 h1; rw [h0] at h1; cases h1
        · simp [Array.getElem?_eq_none h'] at h1
      have h2 := wpOp_put hoj (hfree j oj hoj hji hjun hnot) (fun cs b => hsel i oi cs b hi) (fun cs b => hsel j oj cs b hoj) hQ hy h1
      have hfree' : ∀ (k : Nat) ok, ops[k]? = some ok → k ≠ i → (listed.setIfInBounds j true).getD k true = false →
          (∀ e ∈ ok.after, Region.binds md e = true → e.on ≠ i) → oi.apart ops ok = true := fun k ok hk hki hun hno => by
        refine hfree k ok hk hki ?_ hno
        by_cases hjk : j = k
        · subst hjk; exact hjun
        · rw [getD_set_ne true hjk] at hun; exact hun
      refine wpOp_mono (fun a' w' h3 => ?_) h2
      obtain ⟨h3, h4⟩ := h3
      split at h4
      · rename_i hd
        rw [if_pos hd]
        refine ⟨h4.1, ih (listed.setIfInBounds j true) a' w' hfree' (ready_mono hr (Ne.symm hji)) h3 h4.1 ?_⟩
        rw [Array.setIfInBounds_comm _ _ hji]
        exact h4.2
      · rename_i hd
        rw [if_neg hd]
        refine wpAny_first hi hsel hQ fuel (listed.setIfInBounds j true) a' w' hfree' (ready_mono hr (Ne.symm hji)) h3 ?_
        rw [Array.setIfInBounds_comm _ _ hji]
        exact h4

/-! ### a plan of a walk through all orders -/
inductive Plan where
  | done
  /-- a new part: what may be written, and which operations end the part -/
  | part (us : List Nat) (ends : List Nat) (p : Plan)
  /-- it only reads: it is taken first -/
  | take (i : Nat) (p : Plan)
  /-- it doesn't even read memory -/
  | pur (i : Nat) (p : Plan)
  /-- the one that may come up -/
  | one (i : Nat) (p : Plan)
  /-- the one that may come up, and it ends the part -/
  | fin (i : Nat) (p : Plan)
  /-- several may come up: this one, or one of the others -/
  | or (i : Nat) (p q : Plan)

def Plan.heads : Plan → List Nat
  | .one i _ => [i]
  | .or i _ q => i :: q.heads
  | _ => []

def notIn : List Nat → Nat → Bool
  | l, i => !inL l i

/-- each operation that ends the part waits for this one -/
def endsWait (ops : Array Oper) (ends : List Nat) (i : Nat) : Bool :=
  (List.range ops.size).all fun j => !inL ends j || ((ops[j]?).map fun o => o.after.any fun e => Region.binds .any e && e.on == i).getD true

def nextE (e : Option (List Nat)) (i : Nat) : Option (List Nat) :=
  match e with
  | some ends => bif inL ends i then none else some ends
  | none => none

def takeOk (ops : Array Oper) (ends : List Nat) (l : Array Bool) (i : Nat) : Bool :=
  Region.noSelect ops && Region.free .any ops l i && (Region.ready .any ops l).contains i && !inL ends i && endsWait ops ends i

mutual
def planOk (ops : Array Oper) : Plan → Nat → Option (List Nat) → Array Bool → Bool
  | .done, _, _, l => (Region.ready .any ops l) == []
  | .part _ ends p, f, none, l => planOk ops p f (some ends) l
  | .take i p, f + 1, some ends, l => takeOk ops ends l i && planOk ops p f (some ends) (l.setIfInBounds i true)
  | .pur i p, f + 1, e, l => (Region.noSelect ops && Region.free .any ops l i && (Region.ready .any ops l).contains i) && planOk ops p f e (l.setIfInBounds i true)
  | .one i p, f + 1, e, l => (Region.ready .any ops l == [i]) && planOk ops p f (nextE e i) (l.setIfInBounds i true)
  | .fin i p, f + 1, some ends, l => (Region.ready .any ops l == [i]) && inL ends i && planOk ops p f none (l.setIfInBounds i true)
  | .or i p q, f + 1, e, l => (Region.ready .any ops l == i :: q.heads) && (planOk ops p f (nextE e i) (l.setIfInBounds i true) && altOk ops q f e l)
  | _, _, _, _ => false
def altOk (ops : Array Oper) : Plan → Nat → Option (List Nat) → Array Bool → Bool
  | .one i p, f, e, l => planOk ops p f (nextE e i) (l.setIfInBounds i true)
  | .or i p q, f, e, l => planOk ops p f (nextE e i) (l.setIfInBounds i true) && altOk ops q f e l
  | _, _, _, _ => false
end

/-- it doesn't read memory -/
def rdReg : Op → Bool
  | .load .. => false
  | .lookup .. => false
  | .call c => match c.callee with
    | .builtin .len => false
    | _ => true
  | _ => true

/-- what only reads -/
def vrd (T : TT) (us : Us) (o : Oper) (α : AF) (h : List SO) (K : SV → Prop) : Prop :=
  match o.op with
  | .move x => onO (evs α x) fun s => forceS s K
  | .assign x => onO (evs α x) fun s => forceS s K
  | .pick c a b => onO (evs α c) fun s => match s with
    | .v (.c (.bool t)) => BSplit t (onO (evs α a) fun s => forceS s K) (onO (evs α b) fun s => forceS s K)
    | _ => False
  | .build t ps => onO (evP α ps.toList) fun r => vbuild T t r K
  | .load t x => onO (evs α x) fun s => bif safeId us s then vload T t s α h fun s _ _ => K s else False
  | .nilCheck x => onO (evs α x) fun s => vnil s K
  | .binOp op t x y _ => onO (evs α x) fun a => onO (evs α y) fun b => vbin T op t (isK x || isK y) a b K
  | .unOp op _ x => onO (evs α x) fun s => vun op s K
  | .convert a b x => onO (evs α x) fun s => vconvert T a b s K
  | .makeInterface t x => onO (evs α x) fun s => vmakeI T t s K
  | .makeFunc fn a b => onO (evL α a.toList) fun a => onO (evL α b.toList) fun b => K (mkClo fn a b)
  | .slice t x lo hi none => onO (evs α x) fun s => onO (evO α lo) fun l => onO (evO α hi) fun u => vslice T t s l u K
  | .fieldAddr t x f => onO (evs α x) fun s => vfieldAddr T t f s K
  | .field t x f => onO (evs α x) fun s => vfield T t f s K
  | .indexAddr t x i => onO (evs α x) fun s => onO (evs α i) fun i => vindexAddr T t s i h K
  | .index t x i => onO (evs α x) fun s => onO (evs α i) fun i => vindex T t s i K
  | .lookup t x i ok => onO (evs α x) fun s => onO (evs α i) fun i => bif safeId us s then vlookup T t s i ok h K else False
  | .typeAssert x _ t ok => onO (evs α x) fun s => vassert T s t ok K
  | .extract x i => onO (evs α x) fun s => vextract s i K
  | .call c => match c.callee with
    | .builtin .len => onO (evL α c.args.toList) fun args => match c.argTypes.toList, args with
      | [t], [s] => bif safeId us s then vlen T t s h K else False
      | _, _ => False
    | .builtin .max => onO (evL α c.args.toList) fun args => match args with
      | [x, y] => vmax x y K
      | _ => False
    | .builtin .min => onO (evL α c.args.toList) fun args => match args with
      | [x, y] => vmin x y K
      | _ => False
    | _ => False
  | _ => False

section
variable {P : Program} {T : TT} {us : Us} {o : Oper} {ι : Iota} {w : World} {M : Nat → Prop} {h : List SO} {n : Nat} {a : Act} {α : AF} {K : SV → Prop}

theorem vrd_ok (hT : T.all P = true) (hv : vrd T us o α h K) (H : St ι w M h) (F : FR ι h.length w M n α a) :
    ∃ c s, (∀ w', (rdReg o.op = true ∨ Same (UB ι h us) w w') → (execOp a.eval o).run P w' = .ok (.value c) w') ∧ K s ∧ RepS ι h.length w M s c := by
  have hv1 := hv
  unfold vrd at hv1
  clear hv
  split at hv1
  · rename_i x hop
    obtain ⟨s, hs, hv⟩ := onO_some hv1; rw [forceS_eq] at hv
    exact ⟨_, s, fun w' _ => by simp [execOp, hop], hv, evs_ok F hs⟩
  · rename_i x hop
    obtain ⟨s, hs, hv⟩ := onO_some hv1; rw [forceS_eq] at hv
    exact ⟨_, s, fun w' _ => by simp [execOp, hop], hv, evs_ok F hs⟩
  · rename_i c x y hop
    obtain ⟨s, hs, hv⟩ := onO_some hv1
    split at hv
    · rename_i t
      have hc := evs_ok F hs
      simp only [RepS, Rep] at hc
      obtain ⟨h1, h2⟩ := hv.elim
      cases t with
      | true =>
        obtain ⟨s, hs, hv⟩ := onO_some (h1 rfl); rw [forceS_eq] at hv
        exact ⟨_, s, fun w' _ => by simp [execOp, hop, hc, asBool], hv, evs_ok F hs⟩
      | false =>
        obtain ⟨s, hs, hv⟩ := onO_some (h2 rfl); rw [forceS_eq] at hv
        exact ⟨_, s, fun w' _ => by simp [execOp, hop, hc, asBool], hv, evs_ok F hs⟩
    · exact hv.elim
  · rename_i t ps hop
    obtain ⟨r, hr, hv⟩ := onO_some hv1
    have hr := evP_ok F hr
    obtain ⟨c, s, h1, h2, h3⟩ := vbuild_ok (P := P) (parts' := ps.map fun (i, x) => (i, a.eval x)) hT hv (by simpa using hr)
    exact ⟨c, s, fun w' _ => by simp only [execOp, hop, Sem.run_bind, h1, Result.andThen_ok, Sem.run_pure], h2, h3⟩
  · rename_i t x hop
    obtain ⟨s, hs, hv⟩ := onO_some hv1
    cases hsafe : safeId us s with
    | false => rw [hsafe] at hv; exact hv.elim
    | true =>
      rw [hsafe] at hv; simp only [cond_true] at hv
      obtain ⟨c, s', h1, h2, h3⟩ := vload_ok hT hsafe hv H (evs_ok F hs)
      exact ⟨c, s', fun w' hw' => by simp only [execOp, hop, Sem.run_bind, h1 w' (hw'.resolve_left (by rw [hop]; simp [rdReg])), Result.andThen_ok, Sem.run_pure], h2, h3⟩
  · rename_i x hop
    obtain ⟨s, hs, hv⟩ := onO_some hv1
    obtain ⟨⟨ad, had⟩, hk⟩ := vnil_ok hv (evs_ok F hs)
    exact ⟨.pointer (some ad), s, fun w' _ => by simp [execOp, hop, had], hk, by rw [← had]; exact evs_ok F hs⟩
  · rename_i op t x y t' hop
    obtain ⟨s, hs, hv⟩ := onO_some hv1
    obtain ⟨s2, hs2, hv⟩ := onO_some hv
    obtain ⟨c, s', h1, h2, h3⟩ := vbin_ok hT hv (evs_ok F hs) (evs_ok F hs2)
    exact ⟨c, s', fun w' _ => by simp only [execOp, hop]; rw [Sem.run_bind, h1 w']; rfl, h2, h3⟩
  · rename_i op t x hop
    obtain ⟨s, hs, hv⟩ := onO_some hv1
    obtain ⟨c, s', h1, h2, h3⟩ := vun_ok (P := P) hv (evs_ok F hs)
    exact ⟨c, s', fun w' _ => by simp only [execOp, hop, Sem.run_bind, h1, Result.andThen_ok, Sem.run_pure], h2, h3⟩
  · rename_i t u x hop
    obtain ⟨s, hs, hv⟩ := onO_some hv1
    obtain ⟨c, s', h1, h2, h3⟩ := vconvert_ok (P := P) hT hv (evs_ok F hs)
    exact ⟨c, s', fun w' _ => by simp only [execOp, hop, Sem.run_bind, h1, Result.andThen_ok, Sem.run_pure], h2, h3⟩
  · rename_i t x hop
    obtain ⟨s, hs, hv⟩ := onO_some hv1
    obtain ⟨c, s', h1, h2, h3⟩ := vmakeI_ok (P := P) hT hv (evs_ok F hs)
    exact ⟨c, s', fun w' _ => by simp only [execOp, hop, Sem.run_bind, h1, Result.andThen_ok, Sem.run_pure], h2, h3⟩
  · rename_i fn p q hop
    obtain ⟨x, hx, hv⟩ := onO_some hv1
    obtain ⟨y, hy, hv⟩ := onO_some hv
    exact ⟨.func fn (p.map a.eval) (q.map a.eval), _, fun w' _ => by simp [execOp, hop, Instr.makeFunc], hv, mkClo_ok (by simpa using evL_ok F hx) (by simpa using evL_ok F hy)⟩
  · rename_i t x lo hi hop
    obtain ⟨s, hs, hv⟩ := onO_some hv1
    obtain ⟨l, hl, hv⟩ := onO_some hv
    obtain ⟨u, hu, hv⟩ := onO_some hv
    obtain ⟨c, s', h1, h2, h3⟩ := vslice_ok (P := P) hT hv (evs_ok F hs) (evO_ok F hl) (evO_ok F hu)
    exact ⟨c, s', fun w' _ => by simp only [execOp, hop, Sem.run_bind, Option.map_none, h1, Result.andThen_ok, Sem.run_pure], h2, h3⟩
  · rename_i t x f hop
    obtain ⟨s, hs, hv⟩ := onO_some hv1
    obtain ⟨c, s', h1, h2, h3⟩ := vfieldAddr_ok (P := P) hT hv (evs_ok F hs)
    exact ⟨c, s', fun w' _ => by simp only [execOp, hop, Sem.run_bind, h1, Result.andThen_ok, Sem.run_pure], h2, h3⟩
  · rename_i t x f hop
    obtain ⟨s, hs, hv⟩ := onO_some hv1
    obtain ⟨c, s', h1, h2, h3⟩ := vfield_ok (P := P) hT hv (evs_ok F hs)
    exact ⟨c, s', fun w' _ => by simp only [execOp, hop, Sem.run_bind, h1, Result.andThen_ok, Sem.run_pure], h2, h3⟩
  · rename_i t x i hop
    obtain ⟨s, hs, hv⟩ := onO_some hv1
    obtain ⟨s2, hs2, hv⟩ := onO_some hv
    obtain ⟨c, s', h1, h2, h3⟩ := vindexAddr_ok (P := P) hT hv H (evs_ok F hs) (evs_ok F hs2)
    exact ⟨c, s', fun w' _ => by simp only [execOp, hop, Sem.run_bind, h1, Result.andThen_ok, Sem.run_pure], h2, h3⟩
  · rename_i t x i hop
    obtain ⟨s, hs, hv⟩ := onO_some hv1
    obtain ⟨s2, hs2, hv⟩ := onO_some hv
    obtain ⟨c, s', h1, h2, h3⟩ := vindex_ok (P := P) hT hv (evs_ok F hs) (evs_ok F hs2)
    exact ⟨c, s', fun w' _ => by simp only [execOp, hop, Sem.run_bind, h1, Result.andThen_ok, Sem.run_pure], h2, h3⟩
  · rename_i t x i ok hop
    obtain ⟨s, hs, hv⟩ := onO_some hv1
    obtain ⟨s2, hs2, hv⟩ := onO_some hv
    cases hsafe : safeId us s with
    | false => rw [hsafe] at hv; exact hv.elim
    | true =>
      rw [hsafe] at hv; simp only [cond_true] at hv
      obtain ⟨c, s', h1, h2, h3⟩ := vlookup_ok (P := P) hT hsafe hv H (evs_ok F hs) (evs_ok F hs2)
      exact ⟨c, s', fun w' hw' => by simp only [execOp, hop, Sem.run_bind, h1 w' (hw'.resolve_left (by rw [hop]; simp [rdReg])), Result.andThen_ok, Sem.run_pure], h2, h3⟩
  · rename_i x xt t ok hop
    obtain ⟨s, hs, hv⟩ := onO_some hv1
    obtain ⟨c, s', h1, h2, h3⟩ := vassert_ok (P := P) (xt := xt) hT hv (evs_ok F hs)
    exact ⟨c, s', fun w' _ => by simp only [execOp, hop, Sem.run_bind, h1, Result.andThen_ok, Sem.run_pure], h2, h3⟩
  · rename_i x i hop
    obtain ⟨s, hs, hv⟩ := onO_some hv1
    obtain ⟨c, s', h1, h2, h3⟩ := vextract_ok (P := P) hv (evs_ok F hs)
    exact ⟨c, s', fun w' _ => by simp only [execOp, hop, Sem.run_bind, h1, Result.andThen_ok, Sem.run_pure], h2, h3⟩
  · rename_i c hop
    split at hv1
    · rename_i hcal
      obtain ⟨args, hargs, hv⟩ := onO_some hv1
      have ha := evL_ok F hargs
      split at hv
      · rename_i t s hts
        simp only [RepSL] at ha; obtain ⟨c1, cs', hcs, h1, rfl⟩ := ha
        cases hsafe : safeId us s with
        | false => rw [hsafe] at hv; exact hv.elim
        | true =>
          rw [hsafe] at hv; simp only [cond_true] at hv
          obtain ⟨c', s', g1, g2, g3⟩ := vlen_ok (ty := o.type) hT hsafe hv H h1
          have e1 : c.argTypes = #[t] := by apply Array.ext'; simpa using hts
          have e2 : c.args.map a.eval = #[c1] := by apply Array.ext'; simpa using hcs
          exact ⟨c', s', fun w' hw' => by
            simp only [execOp, hop, resolve, hcal, Sem.run_bind, Sem.run_pure, Result.andThen_ok, invoke, builtin, e1, e2, g1 w' (hw'.resolve_left (by rw [hop]; simp [rdReg, hcal]))], g2, g3⟩
      · exact hv.elim
    · rename_i hcal
      obtain ⟨args, hargs, hv⟩ := onO_some hv1
      have ha := evL_ok F hargs
      split at hv
      · simp only [RepSL] at ha; obtain ⟨c1, cs', hcs, h1, d1, ds', rfl, h2, rfl⟩ := ha
        obtain ⟨c', s', g1, g2, g3⟩ := vmax_ok (P := P) (ts := c.argTypes) (ty := o.type) hv h1 h2
        have e2 : c.args.map a.eval = #[c1, d1] := by apply Array.ext'; simpa using hcs
        exact ⟨c', s', fun w' _ => by
            simp only [execOp, hop, resolve, hcal, Sem.run_bind, Sem.run_pure, Result.andThen_ok, invoke, builtin, e2, g1 w'], g2, g3⟩
      · exact hv.elim
    · rename_i hcal
      obtain ⟨args, hargs, hv⟩ := onO_some hv1
      have ha := evL_ok F hargs
      split at hv
      · simp only [RepSL] at ha; obtain ⟨c1, cs', hcs, h1, d1, ds', rfl, h2, rfl⟩ := ha
        obtain ⟨c', s', g1, g2, g3⟩ := vmin_ok (P := P) (ts := c.argTypes) (ty := o.type) hv h1 h2
        have e2 : c.args.map a.eval = #[c1, d1] := by apply Array.ext'; simpa using hcs
        exact ⟨c', s', fun w' _ => by
            simp only [execOp, hop, resolve, hcal, Sem.run_bind, Sem.run_pure, Result.andThen_ok, invoke, builtin, e2, g1 w'], g2, g3⟩
      · exact hv.elim
    · exact hv1.elim
  · exact hv1.elim
end


theorem wpAnyK_mono {P : Program} {md : Region.Mode} {ops : Array Oper} {Q : Exit → Act → World → Prop} {S S' : World → Prop} {D : Nat → Bool} (hS : ∀ w, S w → S' w) :
    ∀ (fuel : Nat) (listed : Array Bool) (a : Act) (w : World), wpAnyK P md ops Q S D fuel listed a w → wpAnyK P md ops Q S' D fuel listed a w
  | 0, _, _, _, h => h
  | fuel + 1, _, _, _, h => ⟨h.1, fun i hi => wpOp_mono (fun a' w' h' => by
      split at h'
      · rename_i hd; rw [if_pos hd]; exact ⟨hS _ h'.1, wpAnyK_mono hS fuel _ a' w' h'.2⟩
      · rename_i hd; rw [if_neg hd]; exact h') (h.2 i hi)⟩

abbrev DK := Us → (AF → List SO → Prop) → AF → List SO → Prop

def vdDone : DK := fun _ K α h => K α h
def vdPart (us : List Nat) (p : DK) : DK := fun _ K α h => p (some us) K α h
def vdTake (T : TT) (n : Nat) (ops : List Oper) (i : Nat) (p : DK) : DK := fun us K α h => match us with
  | some u => onO (nth ops i) fun o => vguard ops α o.guard (vrd T (some u) o α h fun s => vput n o.dst s α fun α => p (some u) K α h) (vput n o.dst (.v (.tup [])) α fun α => p (some u) K α h)
  | none => False
def vdPur (T : TT) (n : Nat) (ops : List Oper) (i : Nat) (p : DK) : DK := fun us K α h =>
  onO (nth ops i) fun o => bif rdReg o.op then vguard ops α o.guard (vrd T us o α h fun s => vput n o.dst s α fun α => p us K α h) (vput n o.dst (.v (.tup [])) α fun α => p us K α h) else False
def vdOne (P : Program) (T : TT) (n : Nat) (ops : List Oper) (i : Nat) (p : DK) : DK := fun us K α h =>
  onO (nth ops i) fun o => vguard ops α o.guard (vop P T us o α h fun s α h => vput n o.dst s α fun α => p us K α h) (vput n o.dst (.v (.tup [])) α fun α => p us K α h)
def vdFin (P : Program) (T : TT) (n : Nat) (ops : List Oper) (i : Nat) (p : DK) : DK := fun _ K α h =>
  onO (nth ops i) fun o => vguard ops α o.guard (vop P T none o α h fun s α h => vput n o.dst s α fun α => p none K α h) (vput n o.dst (.v (.tup [])) α fun α => p none K α h)
def vdOr (P : Program) (T : TT) (n : Nat) (ops : List Oper) (i : Nat) (p q : DK) : DK := fun us K α h =>
  (onO (nth ops i) fun o => vguard ops α o.guard (vop P T us o α h fun s α h => vput n o.dst s α fun α => p us K α h) (vput n o.dst (.v (.tup [])) α fun α => p us K α h)) ∧ q us K α h

/-- by the recursor itself: so the kernel meets the same terms as the elaborator -/
noncomputable def vdraw (P : Program) (T : TT) (n : Nat) (ops : List Oper) (p : Plan) : DK :=
  Plan.rec (motive := fun _ => DK) vdDone (fun us _ _ p => vdPart us p) (fun i _ p => vdTake T n ops i p) (fun i _ p => vdPur T n ops i p) (fun i _ p => vdOne P T n ops i p) (fun i _ p => vdFin P T n ops i p) (fun i _ _ p q => vdOr P T n ops i p q) p

section
variable {P : Program} {T : TT} {n : Nat} {ops : List Oper} {us : Us} {K : AF → List SO → Prop} {α : AF} {h : List SO} {i : Nat} {p q : Plan}
theorem vdraw_done : vdraw P T n ops .done us K α h = K α h := rfl
theorem vdraw_part {us' ends} : vdraw P T n ops (.part us' ends p) us K α h = vdraw P T n ops p (some us') K α h := rfl
theorem vdraw_take {u} : vdraw P T n ops (.take i p) (some u) K α h = onO (nth ops i) fun o => vguard ops α o.guard (vrd T (some u) o α h fun s => vput n o.dst s α fun α => vdraw P T n ops p (some u) K α h) (vput n o.dst (.v (.tup [])) α fun α => vdraw P T n ops p (some u) K α h) := rfl
theorem vdraw_takeN : vdraw P T n ops (.take i p) none K α h = False := rfl
theorem vdraw_pur : vdraw P T n ops (.pur i p) us K α h = onO (nth ops i) fun o => bif rdReg o.op then vguard ops α o.guard (vrd T us o α h fun s => vput n o.dst s α fun α => vdraw P T n ops p us K α h) (vput n o.dst (.v (.tup [])) α fun α => vdraw P T n ops p us K α h) else False := rfl
theorem vdraw_one : vdraw P T n ops (.one i p) us K α h = onO (nth ops i) fun o => vguard ops α o.guard (vop P T us o α h fun s α h => vput n o.dst s α fun α => vdraw P T n ops p us K α h) (vput n o.dst (.v (.tup [])) α fun α => vdraw P T n ops p us K α h) := rfl
theorem vdraw_fin : vdraw P T n ops (.fin i p) us K α h = onO (nth ops i) fun o => vguard ops α o.guard (vop P T none o α h fun s α h => vput n o.dst s α fun α => vdraw P T n ops p none K α h) (vput n o.dst (.v (.tup [])) α fun α => vdraw P T n ops p none K α h) := rfl
theorem vdraw_or : vdraw P T n ops (.or i p q) us K α h = ((onO (nth ops i) fun o => vguard ops α o.guard (vop P T us o α h fun s α h => vput n o.dst s α fun α => vdraw P T n ops p us K α h) (vput n o.dst (.v (.tup [])) α fun α => vdraw P T n ops p us K α h)) ∧ vdraw P T n ops q us K α h) := rfl
end

theorem Grow.toNone {ι w M h us ι' w' M' h'} (g : Grow ι w M h us ι' w' M' h') : Grow ι w M h none ι' w' M' h' := by
  refine ⟨g.os, g.tape, g.output, g.size, fun b hb hn => g.keep b hb (fun hx => hn ?_), g.m1, g.m2, g.own1, fun b hb hx => ?_⟩
  · obtain ⟨i, o, k, _, h1⟩ := hx; exact ⟨i, o, k, rfl, h1⟩
  · obtain ⟨i, o, k, h1⟩ := g.own1 b hb hx.own; exact ⟨i, o, k, rfl, h1⟩

/-- the end of a region -/
def Fin0 (ι0 : Iota) (w0 : World) (M0 : Nat → Prop) (h0 : List SO) (n : Nat) (K : AF → List SO → Prop) (e : Exit) (a' : Act) (w' : World) : Prop :=
  e = .normal ∧ ∃ α' h' ι' M', K α' h' ∧ St ι' w' M' h' ∧ FR ι' h'.length w' M' n α' a' ∧ Grow ι0 w0 M0 h0 none ι' w' M' h'

def WPm (P : Program) (ops : Array Oper) (Q : Exit → Act → World → Prop) (S : World → Prop) (e : Option (List Nat)) (f : Nat) (l : Array Bool) (a : Act) (w : World) : Prop :=
  match e with
  | some ends => wpAnyK P .any ops Q S (notIn ends) f l a w
  | none => wpAny P .any ops Q f l a w

def Cont (P : Program) (ops : Array Oper) (Q : Exit → Act → World → Prop) (S : World → Prop) (e : Option (List Nat)) (f : Nat) (l : Array Bool) (i : Nat) (a : Act) (w : World) : Prop :=
  match e with
  | some ends => if notIn ends i = true then S w ∧ wpAnyK P .any ops Q S (notIn ends) f (l.setIfInBounds i true) a w else wpAny P .any ops Q f (l.setIfInBounds i true) a w
  | none => wpAny P .any ops Q f (l.setIfInBounds i true) a w

theorem Cont.of {P ops Q S e f l i a w} (hS : S w) (h : WPm P ops Q S (nextE e i) f (l.setIfInBounds i true) a w) : Cont P ops Q S e f l i a w := by
  unfold Cont nextE WPm at *
  cases e with
  | none => exact h
  | some ends =>
    simp only at h ⊢
    cases hi : inL ends i with
    | true => simp only [hi, cond_true, notIn, Bool.not_true, Bool.false_eq_true, if_false] at h ⊢; exact h
    | false => simp only [hi, cond_false, notIn, Bool.not_false, if_true] at h ⊢; exact ⟨hS, h⟩

theorem WPm.all {P ops Q S e f l a w} {rs : List Nat} (hr : Region.ready .any ops l = rs) (hne : rs ≠ []) (h : ∀ i ∈ rs, wpOp P ops Q i (Cont P ops Q S e f l i) a w) : WPm P ops Q S e (f + 1) l a w := by
  unfold WPm
  cases e with
  | none => exact wpAny_all hr hne fun i hi => h i hi
  | some ends =>
    refine ⟨fun h0 => absurd (hr ▸ h0) hne, fun i hi => ?_⟩
    exact h i (hr ▸ hi)

section
variable {P : Program} {T : TT} {n : Nat} {ops : Array Oper} {K : AF → List SO → Prop} {ι0 : Iota} {w0 : World} {M0 : Nat → Prop} {h0 : List SO}

/-- what is asked of a plan -/
def PlanOk (P : Program) (T : TT) (n : Nat) (ops : Array Oper) (K : AF → List SO → Prop) (ι0 : Iota) (w0 : World) (M0 : Nat → Prop) (h0 : List SO) (p : Plan) : Prop :=
  (∀ f e l us α h ι w M a S, planOk ops p f e l = true → vdraw P T n ops.toList p us K α h → St ι w M h → FR ι h.length w M n α a → Grow ι0 w0 M0 h0 none ι w M h →
    (∀ ι' w' M' h', Grow ι w M h us ι' w' M' h' → S w') → WPm P ops (Fin0 ι0 w0 M0 h0 n K) S e f l a w) ∧
  (∀ f e l us α h ι w M a S, altOk ops p f e l = true → vdraw P T n ops.toList p us K α h → St ι w M h → FR ι h.length w M n α a → Grow ι0 w0 M0 h0 none ι w M h →
    (∀ ι' w' M' h', Grow ι w M h us ι' w' M' h' → S w') → ∀ j ∈ p.heads, wpOp P ops (Fin0 ι0 w0 M0 h0 n K) j (Cont P ops (Fin0 ι0 w0 M0 h0 n K) S e f l j) a w)

theorem one_ok (hT : T.all P = true) (hM0 : ∀ b, M0 b → b < w0.heap.size) {p : Plan} (ih : PlanOk P T n ops K ι0 w0 M0 h0 p) {i f e l us α h ι w M a} {S : World → Prop} (hp : planOk ops p f (nextE e i) (l.setIfInBounds i true) = true)
    (hv : onO (nth ops.toList i) fun o => vguard ops.toList α o.guard (vop P T us o α h fun s α h => vput n o.dst s α fun α => vdraw P T n ops.toList p us K α h) (vput n o.dst (.v (.tup [])) α fun α => vdraw P T n ops.toList p us K α h))
    (H : St ι w M h) (F : FR ι h.length w M n α a) (G : Grow ι0 w0 M0 h0 none ι w M h) (hS : ∀ ι' w' M' h', Grow ι w M h us ι' w' M' h' → S w') :
    wpOp P ops (Fin0 ι0 w0 M0 h0 n K) i (Cont P ops (Fin0 ι0 w0 M0 h0 n K) S e f l i) a w := by
  obtain ⟨o, ho, hv⟩ := onO_some hv
  have ho' : ops[i]? = some o := by rw [nth_eq, Array.getElem?_toList] at ho; exact ho
  unfold wpOp
  simp only [ho']
  rcases vguard_ok hv F with ⟨hw, hv⟩ | ⟨hw, hv⟩
  · rw [if_pos hw]
    left
    refine Oper.wp_mono ?_ (vop_ok (Q := Fin0 ι0 w0 M0 h0 n K) hT hv H F)
    rintro a' w' ⟨a1, c, s, α', h', ι', M', rfl, h1, h2, h3, h4, h5⟩
    obtain ⟨α2, h6, h7⟩ := h3.vput h4 h1
    refine Cont.of (hS _ _ _ _ h5) (ih.1 _ _ _ _ _ _ _ _ _ _ S hp h6 h2 h7 (G.trans hM0 h5.toNone) fun ι2 w2 M2 h2' g => hS _ _ _ _ (h5.trans H.mlt g))
  · rw [hw]; simp only [Bool.false_eq_true, if_false]
    obtain ⟨α2, h6, h7⟩ := F.vput (c := undef) (by simp only [RepS, Rep]; exact ⟨#[], rfl, by simp [RepL]⟩) hv
    exact Cont.of (hS _ _ _ _ (Grow.refl _ _ _ _ _)) (ih.1 _ _ _ _ _ _ _ _ _ _ S hp h6 H h7 G hS)

theorem vdraw_ok (hT : T.all P = true) (hM0 : ∀ b, M0 b → b < w0.heap.size) : ∀ p : Plan, PlanOk P T n ops K ι0 w0 M0 h0 p
  | .done => by
    refine ⟨fun f e l us α h ι w M a S hp hv H F G hS => ?_, fun f e l us α h ι w M a S hp hv H F G hS j hj => (by cases hj)⟩
    simp only [planOk, beq_iff_eq] at hp
    simp only [vdraw_done] at hv
    have hq : Fin0 ι0 w0 M0 h0 n K .normal a w := ⟨rfl, α, h, ι, M, hv, H, F, G⟩
    unfold WPm
    cases e with
    | none => exact wpAny_done hp hq f
    | some ends => cases f with
      | zero => exact ⟨hp, hq⟩
      | succ f => exact ⟨fun _ => hq, by rw [hp]; simp⟩
  | .part us' ends p => by
    refine ⟨fun f e l us α h ι w M a S hp hv H F G hS => ?_, fun f e l us α h ι w M a S hp hv H F G hS j hj => (by cases hj)⟩
    cases e with
    | some _ => simp [planOk] at hp
    | none =>
      simp only [planOk] at hp
      simp only [vdraw_part] at hv
      exact wpAny_of_K _ _ _ _ ((vdraw_ok hT hM0 p).1 f (some ends) l _ _ _ _ _ _ _ (fun _ => True) hp hv H F G (fun _ _ _ _ _ => trivial))
  | .take i p => by
    refine ⟨fun f e l us α h ι w M a S hp hv H F G hS => ?_, fun f e l us α h ι w M a S hp hv H F G hS j hj => (by cases hj)⟩
    cases e with
    | none => cases f <;> simp [planOk] at hp
    | some ends =>
    cases f with
    | zero => simp [planOk] at hp
    | succ f =>
    cases us with
    | none => simp [vdraw_takeN] at hv
    | some u =>
      simp only [planOk, takeOk, Bool.and_eq_true, Bool.not_eq_true'] at hp
      obtain ⟨⟨⟨⟨⟨p1, p2⟩, p3⟩, p4⟩, p5⟩, p6⟩ := hp
      simp only [vdraw_take] at hv
      obtain ⟨o, ho, hv⟩ := onO_some hv
      have ho' : ops[i]? = some o := by rw [nth_eq, Array.getElem?_toList] at ho; exact ho
      have hD : ∀ (j : Nat) oj, ops[j]? = some oj → notIn ends j = false → ∃ e ∈ oj.after, Region.binds .any e = true ∧ e.on = i := by
        intro j oj hj hd
        unfold endsWait at p5
        rw [List.all_eq_true] at p5
        have := p5 j (List.mem_range.2 (Array.getElem?_eq_some_iff.1 hj).1)
        simp only [notIn, Bool.not_eq_false'] at hd
        simp only [hd, Bool.not_true, Bool.false_or, hj, Option.map_some, Option.getD_some] at this
        obtain ⟨e, he, hb⟩ := Array.any_eq_true'.1 this
        simp only [Bool.and_eq_true, beq_iff_eq] at hb
        exact ⟨e, he, hb⟩
      have hSame : ∀ ι' w' M' h', Grow ι w M h (some u) ι' w' M' h' → Same (UB ι h (some u)) w w' := fun ι' w' M' h' g b hb hn => g.keep b hb (fun hx => hn ⟨by simp, hx⟩)
      refine wpAnyK_mono (S := fun w' => Same (UB ι h (some u)) w w' ∧ S w') (fun _ x => x.2) _ _ _ _ ?_
      have key : ∃ v α', YieldsIf P ops (fun w' => Same (UB ι h (some u)) w w' ∧ S w') o v a ∧ vdraw P T n ops.toList p (some u) K α' h ∧ FR ι h.length w M n α' (a.put o.dst v) := by
        rcases vguard_ok hv F with ⟨hw, hv⟩ | ⟨hw, hv⟩
        · obtain ⟨c, s, g1, g2, g3⟩ := vrd_ok hT hv H F
          obtain ⟨α2, h6, h7⟩ := F.vput g3 g2
          exact ⟨c, α2, .inl ⟨hw, fun w' hw' => g1 w' (.inr hw'.1)⟩, h6, h7⟩
        · obtain ⟨α2, h6, h7⟩ := F.vput (c := undef) (by simp only [RepS, Rep]; exact ⟨#[], rfl, by simp [RepL]⟩) hv
          exact ⟨undef, α2, .inr ⟨hw, rfl⟩, h6, h7⟩
      obtain ⟨v, α', hy, hv', F'⟩ := key
      refine wpAnyK_first ho' (Region.noSelect_spec p1) (fun c a w hq => (by cases hq.1)) (by simp [notIn, p4]) hD f l a w (Region.free_spec ho' p2) (by simpa using p3) hy ⟨fun _ _ _ => rfl, hS _ _ _ _ (Grow.refl _ _ _ _ _)⟩ ?_
      exact (vdraw_ok hT hM0 p).1 f (some ends) _ _ _ _ _ _ _ _ _ p6 hv' H F' G (fun ι' w' M' h' g => ⟨hSame _ _ _ _ g, hS _ _ _ _ g⟩)
  | .pur i p => by
    refine ⟨fun f e l us α h ι w M a S hp hv H F G hS => ?_, fun f e l us α h ι w M a S hp hv H F G hS j hj => (by cases hj)⟩
    cases f with
    | zero => simp [planOk] at hp
    | succ f =>
      simp only [planOk, Bool.and_eq_true] at hp
      obtain ⟨⟨⟨p1, p2⟩, p3⟩, p6⟩ := hp
      simp only [vdraw_pur] at hv
      obtain ⟨o, ho, hv⟩ := onO_some hv
      have ho' : ops[i]? = some o := by rw [nth_eq, Array.getElem?_toList] at ho; exact ho
      cases hreg : rdReg o.op with
      | false => rw [hreg] at hv; exact hv.elim
      | true =>
      rw [hreg] at hv; simp only [cond_true] at hv
      have key : ∃ v α', Yields P ops o v a ∧ vdraw P T n ops.toList p us K α' h ∧ FR ι h.length w M n α' (a.put o.dst v) := by
        rcases vguard_ok hv F with ⟨hw, hv⟩ | ⟨hw, hv⟩
        · obtain ⟨c, s, g1, g2, g3⟩ := vrd_ok hT hv H F
          obtain ⟨α2, h6, h7⟩ := F.vput g3 g2
          exact ⟨c, α2, .inl ⟨hw, fun w' => g1 w' (.inl hreg)⟩, h6, h7⟩
        · obtain ⟨α2, h6, h7⟩ := F.vput (c := undef) (by simp only [RepS, Rep]; exact ⟨#[], rfl, by simp [RepL]⟩) hv
          exact ⟨undef, α2, .inr ⟨hw, rfl⟩, h6, h7⟩
      obtain ⟨v, α', hy, hv', F'⟩ := key
      have hrec := (vdraw_ok hT hM0 p).1 f e (l.setIfInBounds i true) us α' h ι w M _ S p6 hv' H F' G hS
      unfold WPm at hrec ⊢
      cases e with
      | none => exact wpAny_first ho' (Region.noSelect_spec p1) (fun c a w hq => (by cases hq.1)) f l a w (Region.free_spec ho' p2) (by simpa using p3) hy hrec
      | some ends => exact wpAnyK_firstP ho' (Region.noSelect_spec p1) (fun c a w hq => (by cases hq.1)) f l a w (Region.free_spec ho' p2) (by simpa using p3) hy (hS _ _ _ _ (Grow.refl _ _ _ _ _)) hrec
  | .one i p => by
    refine ⟨fun f e l us α h ι w M a S hp hv H F G hS => ?_, fun f e l us α h ι w M a S hp hv H F G hS j hj => ?_⟩
    · cases f with
      | zero => simp [planOk] at hp
      | succ f =>
        simp only [planOk, Bool.and_eq_true, beq_iff_eq] at hp
        simp only [vdraw_one] at hv
        refine WPm.all hp.1 (by simp) fun j hj => ?_
        simp only [List.mem_singleton] at hj
        subst hj
        exact one_ok hT hM0 (vdraw_ok hT hM0 p) hp.2 hv H F G hS
    · simp only [Plan.heads, List.mem_singleton] at hj
      subst hj
      simp only [altOk] at hp
      simp only [vdraw_one] at hv
      exact one_ok hT hM0 (vdraw_ok hT hM0 p) hp hv H F G hS
  | .fin i p => by
    refine ⟨fun f e l us α h ι w M a S hp hv H F G hS => ?_, fun f e l us α h ι w M a S hp hv H F G hS j hj => (by cases hj)⟩
    cases e with
    | none => cases f <;> simp [planOk] at hp
    | some ends =>
    cases f with
    | zero => simp [planOk] at hp
    | succ f =>
      simp only [planOk, Bool.and_eq_true, beq_iff_eq] at hp
      obtain ⟨⟨p1, p2⟩, p3⟩ := hp
      simp only [vdraw_fin] at hv
      refine WPm.all p1 (by simp) fun j hj => ?_
      simp only [List.mem_singleton] at hj
      subst hj
      have h1 := one_ok (e := none) (S := fun _ => True) hT hM0 (vdraw_ok hT hM0 p) p3 hv H F G (fun _ _ _ _ _ => trivial)
      refine wpOp_mono ?_ h1
      intro a' w' h2
      unfold Cont at h2 ⊢
      simp only [notIn, p2, Bool.not_true, Bool.false_eq_true, if_false]
      exact h2
  | .or i p q => by
    refine ⟨fun f e l us α h ι w M a S hp hv H F G hS => ?_, fun f e l us α h ι w M a S hp hv H F G hS j hj => ?_⟩
    · cases f with
      | zero => simp [planOk] at hp
      | succ f =>
        simp only [planOk, Bool.and_eq_true, beq_iff_eq] at hp
        simp only [vdraw_or] at hv
        refine WPm.all hp.1 (by simp) fun j hj => ?_
        simp only [List.mem_cons] at hj
        rcases hj with rfl | hj
        · exact one_ok hT hM0 (vdraw_ok hT hM0 p) hp.2.1 hv.1 H F G hS
        · exact (vdraw_ok hT hM0 q).2 _ _ _ _ _ _ _ _ _ _ _ hp.2.2 hv.2 H F G hS j hj
    · simp only [altOk, Bool.and_eq_true] at hp
      simp only [vdraw_or] at hv
      simp only [Plan.heads, List.mem_cons] at hj
      rcases hj with rfl | hj
      · exact one_ok hT hM0 (vdraw_ok hT hM0 p) hp.1 hv.1 H F G hS
      · exact (vdraw_ok hT hM0 q).2 _ _ _ _ _ _ _ _ _ _ _ hp.2 hv.2 H F G hS j hj
end

theorem draw_ev {P : Program} {T : TT} {n : Nat} (hT : T.all P = true) (hm : P.follows .mixedOrders = true) {id : Nat} {ops : Array Oper} {Q : Exit → AF → List SO → Prop} {α : AF} {h : List SO} (p : Plan)
    (hp : planOk ops p ops.size none (Array.replicate ops.size false) = true) (hv : vdraw P T n ops.toList p none (Q .normal) α h) : DrawEv P none n id ops Q α h := by
  unfold DrawEv
  intro ι w M a H F
  refine wp_mono (?_ : (Code.region id ops true).wp P (Fin0 ι w M h n (Q .normal)) a w) ?_
  · refine wp_region_any hm ?_
    have hk : Keep w M { w with drawn := w.drawn + 1 } M := fun b hb hn => ⟨hn, rfl⟩
    have H' : St ι { w with drawn := w.drawn + 1 } M h := ⟨fun i o ho => StO.keep ⟨Nat.le_refl _, fun _ _ => rfl⟩ hk rfl (fun b k hl hi => ⟨rfl, (H.objs i o ho).ownM hl hi⟩) (H.objs i o ho), H.dist, H.mlt⟩
    have G' : Grow ι w M h none ι { w with drawn := w.drawn + 1 } M h := ⟨rfl, rfl, rfl, Nat.le_refl _, fun _ _ _ => rfl, fun _ _ x => x, fun _ x _ => x, fun _ _ x => x, fun _ _ x => x⟩
    exact (vdraw_ok hT H.mlt p).1 _ none _ none α h ι _ M a (fun _ => True) hp hv H' (F.keep ⟨Nat.le_refl _, fun _ _ => rfl⟩ hk) G' (fun _ _ _ _ _ => trivial)
  · rintro e a' w' ⟨rfl, h1⟩; exact h1

end Go.AV0
