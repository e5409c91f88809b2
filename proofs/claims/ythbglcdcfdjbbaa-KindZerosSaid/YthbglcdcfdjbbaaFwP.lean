/- Contracts of functions; calls. -/
import Derived.Test.YthbglcdcfdjbbaaFwO
namespace Go.AV0
open Go.RowKit

/-! ### what a function answers -/
/-- called with arguments of no mutable memory, it returns, and answers what Q says; what was there is as it was -/
def APure (P : Program) (f : FuncId) (args : List AV) (Q : AV → Prop) : Prop :=
  FnOk P f ∧ ∀ w M cs, (∀ b, M b → b < w.heap.size) → RepL w M args cs →
    Calls P f cs.toArray w (fun e w' => ∃ c v, e = .returned c ∧ Q v ∧ Below w.heap.size w w' ∧ Rep w' M v c)

theorem APure.mono {P f args} {Q Q' : AV → Prop} (h : APure P f args Q) (hq : ∀ v, Q v → Q' v) : APure P f args Q' :=
  ⟨h.1, fun w M cs h1 h2 => (h.2 w M cs h1 h2).mono fun _ _ ⟨c, v, a, b, d, e⟩ => ⟨c, v, a, hq v b, d, e⟩⟩

/-- a value of no mutable memory, one of an argument list -/
def clo1 (s : SV) : Option AV :=
  match s with
  | .v x => some (nrm x)
  | .agg l => match closedL l with
    | some xs => some (.agg (xs.map nrm))
    | none => none
  | .clo f a b => match closedL a with
    | some xs => match closedL b with
      | some ys => some (.clo f xs ys)
      | none => none
    | none => none
  | _ => none

theorem closedL_rep {ι N w M} : ∀ {l : List SV} {xs : List AV} {cs : List Value}, closedL l = some xs → RepSL ι N w M l cs → RepL w M xs cs
  | [], xs, cs, h, hr => by simp only [closedL] at h; cases h; simpa [RepSL, RepL] using hr
  | s :: l, xs, cs, h, hr => by
    cases s <;> simp only [closedL] at h <;> try (cases h; done)
    split at h <;> cases h
    rename_i r' hr'
    simp only [RepSL, RepS] at hr; obtain ⟨c, cs', rfl, h1, h2⟩ := hr
    simp only [RepL]; exact ⟨c, cs', rfl, h1, closedL_rep hr' h2⟩

theorem clo1_ok {ι N w M s x c} (h : clo1 s = some x) (hs : RepS ι N w M s c) : Rep w M x c := by
  unfold clo1 at h
  split at h
  · cases h; simp only [RepS] at hs; exact rep_nrm hs
  · split at h
    · rename_i l xs hl
      cases h
      simp only [RepS, Rep] at hs ⊢
      obtain ⟨cs, rfl, h⟩ := hs
      exact ⟨cs, rfl, repL_nrm (closedL_rep hl h)⟩
    · cases h
  · split at h
    · rename_i f a b xs hx
      split at h
      · rename_i ys hy
        cases h
        simp only [RepS, Rep] at hs ⊢
        obtain ⟨x, y, rfl, h1, h2⟩ := hs
        exact ⟨x, y, rfl, closedL_rep hx h1, closedL_rep hy h2⟩
      · cases h
    · cases h
  · cases h

def closeN : List SV → Option (List AV)
  | [] => some []
  | x :: l => match clo1 x with
    | some y => match closeN l with
      | some r => some (y :: r)
      | none => none
    | none => none

theorem closeN_ok {ι N w M} : ∀ {l : List SV} {r : List AV} {cs : List Value}, closeN l = some r → RepSL ι N w M l cs → RepL w M r cs
  | [], r, cs, h, hr => by simp only [closeN] at h; cases h; simpa [RepSL, RepL] using hr
  | s :: l, r, cs, h, hr => by
    simp only [closeN] at h
    split at h
    · rename_i y hy
      split at h <;> cases h
      rename_i r' hr'
      simp only [RepSL] at hr; obtain ⟨c, cs', rfl, h1, h2⟩ := hr
      simp only [RepL]; exact ⟨c, cs', rfl, clo1_ok hy h1, closeN_ok hr' h2⟩
    · cases h

theorem keep_below {w w' : World} {M : Nat → Prop} (h : Below w.heap.size w w') : Keep w M w' M := fun b hb hm => ⟨hm, h.block b hb⟩

/-- a call of a function that answers by its arguments alone -/
theorem call_pure {P us f args α h K} {args' : List AV} {Q : AV → Prop} (hp : APure P f args' Q) (hargs : closeN args = some args') (hk : ∀ v, Q v → K (.v v) α h) : CallEv P us f args α h K := by
  refine CallEv.intro hp.1 ?_
  intro ι w M n a cs H F hr
  refine (hp.2 w M cs H.mlt (closeN_ok hargs hr)).mono ?_
  rintro e w' ⟨c, v, rfl, hq, hb, hv⟩
  have hkp := keep_below (M := M) hb
  refine ⟨c, .v v, α, h, ι, M, rfl, hk v hq, ⟨?_, H.dist, fun b hm => Nat.lt_of_lt_of_le (H.mlt b hm) hb.size⟩, F.keep ⟨Nat.le_refl _, fun _ _ => rfl⟩ hkp, by simpa [RepS] using hv, ?_⟩
  · intro i o ho
    exact StO.keep ⟨Nat.le_refl _, fun _ _ => rfl⟩ hkp rfl (fun b k l e => ⟨hb.block b (H.mlt b ((H.objs i o ho).ownM l e)), (H.objs i o ho).ownM l e⟩) (H.objs i o ho)
  · exact ⟨hb.os, hb.tape, hb.output, hb.size, fun b hb' _ => hb.block b hb', fun _ _ x => x, fun _ x _ => x, fun _ _ x => x, fun _ _ x => x⟩

/-- an object of one's own is frozen ahead of a call -/
theorem call_frz {P us f args α h K} (id : Nat) {o : SO} (ho : nth h id = some o) (hl : live o = true) (hk : CallEv P us f (frzL id o args) (frzA id o α) ((frzH id o h).set id .dead) K) : CallEv P us f args α h K := by
  obtain ⟨h1, h2⟩ := hk.elim
  refine CallEv.intro h1 ?_
  intro ι w M n a cs H F hr
  rw [nth_eq] at ho
  obtain ⟨M', g1, g2, g3, g4⟩ := H.freeze us ho hl
  have hlen : ((frzH id o h).set id .dead).length = h.length := by simp [frzH_length]
  refine (h2 ι w M' n a cs g1 (by rw [hlen]; exact F.frz g2 g3) (by rw [hlen]; exact RepSL.frz g2 g3 _ _ hr)).mono ?_
  rintro e w' ⟨c, s, α', h', ι', M2, rfl, k1, k2, k3, k4, k5⟩
  exact ⟨c, s, α', h', ι', M2, rfl, k1, k2, k3, k4, g4.trans H.mlt k5⟩

/-! ### the end of a function -/
/-- which object is to be frozen next, so that a value reaches none -/
def nextId : Nat → List SO → SV → Option Nat
  | 0, _, _ => none
  | _ + 1, _, .any => none
  | _ + 1, _, .v _ => none
  | n + 1, h, .ref a _ => match nth h a with
    | some (.cells xs) => match first n h xs with
      | some j => some j
      | none => some a
    | _ => none
  | _ + 1, _, .eref _ _ _ => none
  | _ + 1, _, .ms a => some a
  | _ + 1, _, .mm a => some a
  | n + 1, h, .tup l => first n h l
  | n + 1, h, .agg l => first n h l
  | n + 1, h, .clo _ _ b => first n h b
where first : Nat → List SO → List SV → Option Nat
  | 0, _, _ => none
  | _ + 1, _, [] => none
  | n + 1, h, x :: l => match nextId n h x with
    | some j => some j
    | none => first n h l

/-- a value of no mutable memory, nil slices made plain -/
def plainS (s : SV) : Option AV :=
  match s with
  | .v (.tup xs) => some (.tup (xs.map nrm))
  | .v (.agg xs) => some (.agg (xs.map nrm))
  | .v x => some (nrm x)
  | .tup l => match closeN l with
    | some xs => some (.tup xs)
    | none => none
  | .agg l => match closeN l with
    | some xs => some (.agg xs)
    | none => none
  | .clo f a b => match closedL a with
    | some xs => match closedL b with
      | some ys => some (.clo f xs ys)
      | none => none
    | none => none
  | _ => none

theorem plainS_ok {ι N w M s x c} (h : plainS s = some x) (hs : RepS ι N w M s c) : Rep w M x c := by
  unfold plainS at h
  split at h
  · cases h; simp only [RepS, Rep] at hs ⊢; obtain ⟨cs, rfl, h⟩ := hs; exact ⟨cs, rfl, repL_nrm h⟩
  · cases h; simp only [RepS, Rep] at hs ⊢; obtain ⟨cs, rfl, h⟩ := hs; exact ⟨cs, rfl, repL_nrm h⟩
  · cases h; simp only [RepS] at hs; exact rep_nrm hs
  · split at h <;> cases h
    rename_i l xs hx
    simp only [RepS, Rep] at hs ⊢; obtain ⟨cs, rfl, h⟩ := hs; exact ⟨cs, rfl, closeN_ok hx h⟩
  · split at h <;> cases h
    rename_i l xs hx
    simp only [RepS, Rep] at hs ⊢; obtain ⟨cs, rfl, h⟩ := hs; exact ⟨cs, rfl, closeN_ok hx h⟩
  · split at h
    · rename_i f a b xs hx
      split at h
      · rename_i ys hy
        cases h
        simp only [RepS, Rep] at hs ⊢
        obtain ⟨x, y, rfl, h1, h2⟩ := hs
        exact ⟨x, y, rfl, closedL_rep hx h1, closedL_rep hy h2⟩
      · cases h
    · cases h
  · cases h

def retV : Nat → SV → List SO → (AV → Prop) → Prop
  | 0, _, _, _ => False
  | n + 1, s, h, Q => match nextId 20 h s with
    | some id => onO (nth h id) fun o => bif live o then retV n (frz id o s) ((frzH id o h).set id .dead) Q else False
    | none => onO (plainS s) Q

theorem retV_ok : ∀ (n : Nat) {s : SV} {h : List SO} {Q : AV → Prop} {ι w M c}, retV n s h Q → St ι w M h → RepS ι h.length w M s c → ∃ M' v, Q v ∧ Rep w M' v c ∧ (∀ b, M' b → M b) ∧ (∀ b, M b → ¬ own ι h b → M' b)
  | 0, s, h, Q, ι, w, M, c, hv, _, _ => by simp only [retV] at hv
  | n + 1, s, h, Q, ι, w, M, c, hv, H, hs => by
    simp only [retV] at hv
    split at hv
    · rename_i id _
      obtain ⟨o, ho, hv⟩ := onO_some hv
      cases hl : live o with
      | false => rw [hl] at hv; exact hv.elim
      | true =>
        rw [hl] at hv; simp only [cond_true] at hv
        rw [nth_eq] at ho
        obtain ⟨M', g1, g2, g3, g4⟩ := H.freeze none ho hl
        have hlen : ((frzH id o h).set id .dead).length = h.length := by simp [frzH_length]
        obtain ⟨M2, v, k1, k2, k3, k4⟩ := retV_ok n hv g1 (by rw [hlen]; exact RepS.frz g2 g3 _ _ hs)
        refine ⟨M2, v, k1, k2, fun b hb => g4.m1 b (g1.mlt b (k3 b hb)) (k3 b hb), ?_⟩
        intro b hb hn
        exact k4 b (g4.m2 b hb hn) (fun ho' => hn (g4.own1 b (H.mlt b hb) ho'))
    · obtain ⟨x, hx, hv⟩ := onO_some hv
      exact ⟨M, x, hv, plainS_ok hx hs, fun _ x => x, fun _ x _ => x⟩

def readR (tmps : Array Value) : ResultVar → Sem Value
  | .tmp t => pure (tmps.getD t undef)
  | .cell a t => do loadVar t (← asAddr (tmps.getD a undef))

theorem results_eq (fn : Func) (tmps : Array Value) : results fn tmps = (do let vs ← fn.results.mapM (readR tmps); pure (if h : vs.size = 1 then vs[0] else .tuple vs)) := rfl

/-- nil slices in a struct that is handed back are empty ones -/
def nrmSV (s : SV) : SV :=
  match s with
  | .v x => .v (nrm x)
  | s => s

def nrmS1 (s : SV) : SV :=
  match s with
  | .v (.agg xs) => .v (.agg (xs.map nrm))
  | .agg l => .agg (l.map nrmSV)
  | s => s

theorem rep_nrmSV {ι N w M s c} (h : RepS ι N w M s c) : RepS ι N w M (nrmSV s) c := by
  unfold nrmSV
  split
  · simp only [RepS] at h ⊢; exact rep_nrm h
  · exact h

theorem repSL_nrmSV {ι N w M} : ∀ {l : List SV} {cs : List Value}, RepSL ι N w M l cs → RepSL ι N w M (l.map nrmSV) cs
  | [], cs, h => by simpa [RepSL] using h
  | x :: l, cs, h => by
    simp only [RepSL] at h; obtain ⟨c, cs', rfl, h1, h2⟩ := h
    simp only [List.map_cons, RepSL]; exact ⟨c, cs', rfl, rep_nrmSV h1, repSL_nrmSV h2⟩

theorem rep_nrmS1 {ι N w M s c} (h : RepS ι N w M s c) : RepS ι N w M (nrmS1 s) c := by
  unfold nrmS1
  split
  · simp only [RepS, Rep] at h ⊢; obtain ⟨cs, rfl, h⟩ := h; exact ⟨cs, rfl, repL_nrm h⟩
  · simp only [RepS] at h ⊢; obtain ⟨cs, h1, h⟩ := h; exact ⟨cs, h1, repSL_nrmSV h⟩
  · exact h

/-- a function's results -/
def resV (T : TT) : List ResultVar → AF → List SO → (List SV → Prop) → Prop
  | [], _, _, k => k []
  | .tmp t :: l, α, h, k => onO (look α.s t) fun s => resV T l α h fun r => k (s :: r)
  | .cell t ty :: l, α, h, k => onO (look α.s t) fun s => vload T ty s α h fun s _ _ => resV T l α h fun r => k (nrmS1 s :: r)

theorem resV_ok {P : Program} {T : TT} (hT : T.all P = true) {ι w M h n α a} (H : St ι w M h) (F : FR ι h.length w M n α a) : ∀ {l : List ResultVar} {k : List SV → Prop}, resV T l α h k →
    ∃ r cs, k r ∧ RepSL ι h.length w M r cs ∧ (l.mapM (readR a.tmps)).run P w = .ok cs w
  | [], k, hv => ⟨[], [], hv, by simp [RepSL], by simp⟩
  | .tmp t :: l, k, hv => by
    simp only [resV] at hv
    obtain ⟨s, hs, hv⟩ := onO_some hv
    obtain ⟨c, h1, h2⟩ := F.slot t s hs
    obtain ⟨r, cs, g1, g2, g3⟩ := resV_ok hT H F hv
    refine ⟨s :: r, c :: cs, g1, by simp only [RepSL]; exact ⟨c, cs, rfl, h2, g2⟩, ?_⟩
    rw [List.mapM_cons]
    simp only [readR, Sem.run_bind, Sem.run_pure, Result.andThen_ok, g3]
    simp [h1]
  | .cell t ty :: l, k, hv => by
    simp only [resV] at hv
    obtain ⟨s, hs, hv⟩ := onO_some hv
    obtain ⟨c, h1, h2⟩ := F.slot t s hs
    obtain ⟨c', s', k1, k2, k3⟩ := vload_ok (us := none) hT rfl hv H h2
    obtain ⟨r, cs, g1, g2, g3⟩ := resV_ok hT H F k2
    refine ⟨nrmS1 s' :: r, c' :: cs, g1, by simp only [RepSL]; exact ⟨c', cs, rfl, rep_nrmS1 k3, g2⟩, ?_⟩
    rw [List.mapM_cons]
    have hc : ∃ ad, c = .pointer (some ad) := by
      have := k1 w (Same.refl _ _)
      cases c <;> simp [Instr.loadAt, Instr.sureAddr] at this
      rename_i x; cases x
      · simp at this
      · exact ⟨_, rfl⟩
    obtain ⟨ad, rfl⟩ := hc
    have h0 := k1 w (Same.refl _ _)
    simp only [Instr.loadAt, Instr.sureAddr, Sem.run_bind, Sem.run_pure, Result.andThen_ok] at h0
    have h2' : a.tmps.getD t undef = .pointer (some ad) := by simp [h1]
    simp only [readR, h2', asAddr, Sem.run_bind, Sem.run_pure, Result.andThen_ok, h0, g3]

/-- one result, or several -/
def tupS (l : List SV) : SV :=
  match l with
  | [s] => s
  | l => match closedL l with
    | some xs => .v (.tup xs)
    | none => .tup l

theorem tupS_ok {ι N w M l cs} (h : RepSL ι N w M l cs) : RepS ι N w M (tupS l) (if h : cs.toArray.size = 1 then cs.toArray[0] else .tuple cs.toArray) := by
  unfold tupS
  split
  · rename_i s
    simp only [RepSL] at h; obtain ⟨c, cs', rfl, h1, rfl⟩ := h
    simpa using h1
  · rename_i hne
    have hl := h.length
    have : ¬ cs.toArray.size = 1 := by
      intro e
      have : l.length = 1 := by simpa [hl] using e
      match l, this with
      | [s], _ => exact hne s rfl
    rw [dif_neg this]
    split
    · rename_i xs hx
      rw [closedL_map hx] at h
      simp only [RepS, Rep]; exact ⟨_, rfl, by simpa using h.toL⟩
    · simp only [RepS]; exact ⟨_, rfl, by simpa using h⟩

def RetQ (T : TT) (rs : List ResultVar) (Q : AV → Prop) (e : Exit) (α : AF) (h : List SO) : Prop :=
  match e with
  | .normal => match α.d with
    | [] => resV T rs α h fun l => retV 20 (tupS l) h Q
    | _ :: _ => False
  | .ret => match α.d with
    | [] => resV T rs α h fun l => retV 20 (tupS l) h Q
    | _ :: _ => False
  | _ => False

def initF (k : Nat) : List SV → List (Nat × SV)
  | [] => []
  | x :: l => (k, x) :: initF (k + 1) l

theorem look_initF {l : List SV} : ∀ {k i : Nat} {s : SV}, look (initF k l) i = some s → ∃ j, i = k + j ∧ l[j]? = some s := by
  induction l with
  | nil => intro k i s h; simp [initF, look] at h
  | cons x l ih =>
    intro k i s h
    rw [initF, look_cons] at h
    split at h
    · rename_i e; subst e; cases h; exact ⟨0, by simp, rfl⟩
    · obtain ⟨j, h1, h2⟩ := ih h
      exact ⟨j + 1, by omega, by simpa using h2⟩

theorem initF_ok {ι N w M n} {args : List SV} {cs : List Value} (h : RepSL ι N w M args cs) (hn : args.length ≤ n) : FR ι N w M n ⟨initF 0 args, []⟩ { tmps := cs.toArray ++ Array.replicate (n - cs.toArray.size) undef, defers := [] } := by
  have hl := h.length
  refine ⟨by simp; omega, ?_, by simp [RepD]⟩
  intro i s hs
  obtain ⟨j, rfl, h2⟩ := look_initF hs
  obtain ⟨c, h3, h4⟩ := h.get j s h2
  refine ⟨c, ?_, h4⟩
  have hj := get_lt h3
  simp only [Nat.zero_add]
  rw [Array.getElem?_append_left (by simpa using hj)]
  simpa using h3

/-- the frame at the start -/
def initK : Nat → List AV → List (Nat × SV) → (List (Nat × SV) → Prop) → Prop
  | _, [], acc, K => K acc
  | k, x :: l, acc, K => forceV x fun x => forceN k fun k => initK (k + 1) l ((k, .v x) :: acc) K

theorem initK_eq : ∀ (l : List AV) (k : Nat) (acc : List (Nat × SV)) (K : List (Nat × SV) → Prop), initK k l acc K → ∃ s, K s ∧ ∀ i v, look s i = some v → look acc i = some v ∨ ∃ j, i = k + j ∧ (l.map SV.v)[j]? = some v
  | [], k, acc, K, h => ⟨acc, h, fun i v hv => .inl hv⟩
  | x :: l, k, acc, K, h => by
    simp only [initK, forceV_eq, forceN_eq] at h
    obtain ⟨s, h1, h2⟩ := initK_eq l (k + 1) _ K h
    refine ⟨s, h1, ?_⟩
    intro i v hv
    rcases h2 i v hv with h3 | ⟨j, h3, h4⟩
    · rw [look_cons] at h3
      split at h3
      · rename_i e; subst e; cases h3; exact .inr ⟨0, by simp, rfl⟩
      · exact .inl h3
    · exact .inr ⟨j + 1, by omega, by simpa using h4⟩

theorem FR.ofInit {ι N w M n} {args : List AV} {cs : List Value} {s : List (Nat × SV)} (h : RepL w M args cs) (hn : args.length ≤ n) (hs : ∀ i v, look s i = some v → look [] i = some v ∨ ∃ j, i = 0 + j ∧ (args.map SV.v)[j]? = some v) :
    FR ι N w M n ⟨s, []⟩ { tmps := cs.toArray ++ Array.replicate (n - cs.toArray.size) undef, defers := [] } := by
  have hl := h.length
  refine ⟨by simp; omega, ?_, by simp [RepD]⟩
  intro i v hv
  rcases hs i v hv with h0 | ⟨j, rfl, h2⟩
  · simp [look] at h0
  · obtain ⟨c, h3, h4⟩ := (RepSL.ofL (ι := ι) (N := N) h).get j v h2
    refine ⟨c, ?_, h4⟩
    have hj := get_lt h3
    simp only [Nat.zero_add]
    rw [Array.getElem?_append_left (by simpa using hj)]
    simpa using h3

/-- a function's contract, out of its code -/
theorem apure_of {P : Program} {T : TT} (hT : T.all P = true) {f : FuncId} {fn : Func} {c : Code} {args : List AV} {Q : AV → Prop} {rs : List ResultVar} (hf : P.funcs[f]? = some fn) (hn : (fn.name == "runtime.NumGoroutine") = false)
    (hb : fn.body = some c) (hr : fn.results.toList = rs) (hlen : Nat.ble args.length fn.ntmps = true) (h : initK 0 args [] fun s => vcode P T fn.ntmps c (RetQ T rs Q) ⟨s, []⟩ []) : APure P f args Q := by
  refine ⟨⟨fn, hf, hn, by rw [hb]; rfl⟩, ?_⟩
  intro w M cs hM ha
  refine calls_of_wp hf hb ?_
  have H : St (fun _ => none) w M [] := ⟨by simp, by simp, hM⟩
  obtain ⟨s0, h, hs0⟩ := initK_eq args 0 [] _ h
  have F : FR (fun _ => none) ([] : List SO).length w M fn.ntmps ⟨s0, []⟩ { tmps := cs.toArray ++ Array.replicate (fn.ntmps - cs.toArray.size) undef, defers := [] } := FR.ofInit ha (Nat.le_of_ble_eq_true hlen) hs0
  refine wp_mono (vcode_ok hT c h H F) ?_
  rintro e a' w' ⟨α', h', ι', M', q1, q2, q3, q4⟩
  have fin : (match α'.d with
    | [] => resV T rs α' h' fun l => retV 20 (tupS l) h' Q
    | _ :: _ => False) → a'.defers = [] ∧ ∃ v, (results fn a'.tmps).run P w' = .ok v w' ∧ ∃ c v', Ending.returned v = .returned c ∧ Q v' ∧ Below w.heap.size w w' ∧ Rep w' M v' c := by
    intro hv
    split at hv
    rotate_left
    · exact hv.elim
    rename_i hd
    have hdef := q3.defs
    rw [hd] at hdef
    simp only [RepD] at hdef
    refine ⟨hdef, ?_⟩
    obtain ⟨r, vs, g1, g2, g3⟩ := resV_ok hT q2 q3 hv
    obtain ⟨M2, v', k1, k2, k3, k4⟩ := retV_ok 20 g1 q2 (tupS_ok g2)
    have hrun : (results fn a'.tmps).run P w' = .ok (if h : vs.toArray.size = 1 then vs.toArray[0] else .tuple vs.toArray) w' := by
      rw [results_eq, Array.mapM_eq_mapM_toList, hr]
      simp only [Sem.run_bind, Sem.run_map, g3, Result.andThen_ok, Sem.run_pure]
    refine ⟨_, hrun, _, v', rfl, k1, ⟨q4.os, q4.tape, q4.output, q4.size, fun b hb => q4.keep b hb (fun ⟨i, o, k, _, h1, _⟩ => by simp at h1)⟩, ?_⟩
    refine Rep.keep (M := M2) ?_ _ _ k2
    intro b hb hm
    refine ⟨fun hM' => hm ?_, rfl⟩
    refine k4 b (q4.m2 b hM' (fun ⟨i, o, k, h1, _⟩ => by simp at h1)) ?_
    intro ho
    have := q4.own1 b (hM b hM') ho
    obtain ⟨i, o, k, h1, _⟩ := this
    simp at h1
  cases e with
  | normal => exact fin q1
  | ret => exact fin q1
  | exit _ => exact q1.elim
  | goto _ => exact q1.elim
  | panic _ => exact q1.elim
  | outgrown => exact q1.elim

end Go.AV0
