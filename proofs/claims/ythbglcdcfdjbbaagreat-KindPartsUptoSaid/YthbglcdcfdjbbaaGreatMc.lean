/- KindPartsUptoSaid: of any type what it holds, for each text, value, number and key of bulk at most 1048576. This text: FwP, FwQ, FwR, FwS, FwU, FwW. -/
import Derived.Test.YthbglcdcfdjbbaaGreatMb
/- Contracts of functions; calls. -/
namespace Go.AV0
open Go.RowKit

/-! ### what a function answers -/
/-- called with arguments of no mutable memory, it returns, and answers what Q says; what was there is as it was -/
def APure (P : Program) (f : FuncId) (args : List AV) (Q : AV → Prop) : Prop :=
  FnOk P f ∧ ∀ w M cs, (∀ b, M b → b < w.heap.size) → GOk w M → RepL w M args cs →
    Calls P f cs.toArray w (fun e w' => ∃ c v, e = .returned c ∧ Q v ∧ Below w.heap.size w w' ∧ Rep w' M v c)

theorem APure.mono {P f args} {Q Q' : AV → Prop} (h : APure P f args Q) (hq : ∀ v, Q v → Q' v) : APure P f args Q' :=
  ⟨h.1, fun w M cs h1 h0 h2 => (h.2 w M cs h1 h0 h2).mono fun _ _ ⟨c, v, a, b, d, e⟩ => ⟨c, v, a, hq v b, d, e⟩⟩

/-- a value of no mutable memory, one of an argument list -/
def clo1 (s : SV) : Option AV :=
  match s with
  | .v x => some (nrm x)
  | .agg l => match closedL l with
    | some xs => some (.agg (xs.map nrm))
    | none => none
  | .clo f a b => match closedL a with
    | some xs => match closedL b with
      | some ys => some (.clo f xs ys)
      | none => none
    | none => none
  | _ => none

theorem closedL_rep {ι N w M} : ∀ {l : List SV} {xs : List AV} {cs : List Value}, closedL l = some xs → RepSL ι N w M l cs → RepL w M xs cs
  | [], xs, cs, h, hr => by simp only [closedL] at h; cases h; simpa [RepSL, RepL] using hr
  | s :: l, xs, cs, h, hr => by
    cases s <;> simp only [closedL] at h <;> try (cases h; done)
    split at h <;> cases h
    rename_i r' hr'
    simp only [RepSL, RepS] at hr; obtain ⟨c, cs', rfl, h1, h2⟩ := hr
    simp only [RepL]; exact ⟨c, cs', rfl, h1, closedL_rep hr' h2⟩

theorem clo1_ok {ι N w M s x c} (h : clo1 s = some x) (hs : RepS ι N w M s c) : Rep w M x c := by
  unfold clo1 at h
  split at h
  · cases h; simp only [RepS] at hs; exact rep_nrm hs
  · split at h
    · rename_i l xs hl
      cases h
      simp only [RepS, Rep] at hs ⊢
      obtain ⟨cs, rfl, h⟩ := hs
      exact ⟨cs, rfl, repL_nrm (closedL_rep hl h)⟩
    · cases h
  · split at h
    · rename_i f a b xs hx
      split at h
      · rename_i ys hy
        cases h
        simp only [RepS, Rep] at hs ⊢
        obtain ⟨x, y, rfl, h1, h2⟩ := hs
        exact ⟨x, y, rfl, closedL_rep hx h1, closedL_rep hy h2⟩
      · cases h
    · cases h
  · cases h

def closeN : List SV → Option (List AV)
  | [] => some []
  | x :: l => match clo1 x with
    | some y => match closeN l with
      | some r => some (y :: r)
      | none => none
    | none => none

theorem closeN_ok {ι N w M} : ∀ {l : List SV} {r : List AV} {cs : List Value}, closeN l = some r → RepSL ι N w M l cs → RepL w M r cs
  | [], r, cs, h, hr => by simp only [closeN] at h; cases h; simpa [RepSL, RepL] using hr
  | s :: l, r, cs, h, hr => by
    simp only [closeN] at h
    split at h
    · rename_i y hy
      split at h <;> cases h
      rename_i r' hr'
      simp only [RepSL] at hr; obtain ⟨c, cs', rfl, h1, h2⟩ := hr
      simp only [RepL]; exact ⟨c, cs', rfl, clo1_ok hy h1, closeN_ok hr' h2⟩
    · cases h

theorem keep_below {w w' : World} {M : Nat → Prop} (h : Below w.heap.size w w') : Keep w M w' M := fun b hb hm => ⟨hm, h.block b hb⟩

/-- a call of a function that answers by its arguments alone -/
theorem call_pure {P us f args α h K} {args' : List AV} {Q : AV → Prop} (hp : APure P f args' Q) (hargs : closeN args = some args') (hk : ∀ v, Q v → K (.v v) α h) : CallEv P us f args α h K := by
  refine CallEv.intro hp.1 ?_
  intro ι w M n a cs H F hr
  refine (hp.2 w M cs H.mlt H.gl (closeN_ok hargs hr)).mono ?_
  rintro e w' ⟨c, v, rfl, hq, hb, hv⟩
  have hkp := keep_below (M := M) hb
  refine ⟨c, .v v, α, h, ι, M, rfl, hk v hq, ⟨?_, H.dist, fun b hm => Nat.lt_of_lt_of_le (H.mlt b hm) hb.size, H.gl.keep hkp⟩, F.keep ⟨Nat.le_refl _, fun _ _ => rfl⟩ hkp, by simpa [RepS] using hv, ?_⟩
  · intro i o ho
    exact StO.keep ⟨Nat.le_refl _, fun _ _ => rfl⟩ hkp rfl (fun b k l e => ⟨hb.block b (H.mlt b ((H.objs i o ho).ownM l e)), (H.objs i o ho).ownM l e⟩) (H.objs i o ho)
  · exact ⟨hb.os, hb.tape, hb.output, hb.size, fun b hb' _ => hb.block b hb', fun _ _ x => x, fun _ x _ => x, fun _ _ x => x, fun _ _ x => x⟩

/-- an object of one's own is frozen ahead of a call -/
theorem call_frz {P us f args α h K} (id : Nat) {o : SO} (ho : nth h id = some o) (hl : live o = true) (hk : CallEv P us f (frzL id o args) (frzA id o α) ((frzH id o h).set id .dead) K) : CallEv P us f args α h K := by
  obtain ⟨h1, h2⟩ := hk.elim
  refine CallEv.intro h1 ?_
  intro ι w M n a cs H F hr
  rw [nth_eq] at ho
  obtain ⟨M', g1, g2, g3, g4⟩ := H.freeze us ho hl
  have hlen : ((frzH id o h).set id .dead).length = h.length := by simp [frzH_length]
  refine (h2 ι w M' n a cs g1 (by rw [hlen]; exact F.frz g2 g3) (by rw [hlen]; exact RepSL.frz g2 g3 _ _ hr)).mono ?_
  rintro e w' ⟨c, s, α', h', ι', M2, rfl, k1, k2, k3, k4, k5⟩
  exact ⟨c, s, α', h', ι', M2, rfl, k1, k2, k3, k4, g4.trans H.mlt k5⟩

/-! ### the end of a function -/
/-- which object is to be frozen next, so that a value reaches none -/
def nextId : Nat → List SO → SV → Option Nat
  | 0, _, _ => none
  | _ + 1, _, .any => none
  | _ + 1, _, .v _ => none
  | n + 1, h, .ref a _ => match nth h a with
    | some (.cells xs) => match first n h xs with
      | some j => some j
      | none => some a
    | _ => none
  | _ + 1, _, .eref _ _ _ => none
  | _ + 1, _, .ms a => some a
  | _ + 1, _, .mm a => some a
  | n + 1, h, .tup l => first n h l
  | n + 1, h, .agg l => first n h l
  | n + 1, h, .clo _ _ b => first n h b
where first : Nat → List SO → List SV → Option Nat
  | 0, _, _ => none
  | _ + 1, _, [] => none
  | n + 1, h, x :: l => match nextId n h x with
    | some j => some j
    | none => first n h l

/-- a value of no mutable memory, nil slices made plain -/
def plainS (s : SV) : Option AV :=
  match s with
  | .v (.tup xs) => some (.tup (xs.map nrm))
  | .v (.agg xs) => some (.agg (xs.map nrm))
  | .v x => some (nrm x)
  | .tup l => match closeN l with
    | some xs => some (.tup xs)
    | none => none
  | .agg l => match closeN l with
    | some xs => some (.agg xs)
    | none => none
  | .clo f a b => match closedL a with
    | some xs => match closedL b with
      | some ys => some (.clo f xs ys)
      | none => none
    | none => none
  | _ => none

theorem plainS_ok {ι N w M s x c} (h : plainS s = some x) (hs : RepS ι N w M s c) : Rep w M x c := by
  unfold plainS at h
  split at h
  · cases h; simp only [RepS, Rep] at hs ⊢; obtain ⟨cs, rfl, h⟩ := hs; exact ⟨cs, rfl, repL_nrm h⟩
  · cases h; simp only [RepS, Rep] at hs ⊢; obtain ⟨cs, rfl, h⟩ := hs; exact ⟨cs, rfl, repL_nrm h⟩
  · cases h; simp only [RepS] at hs; exact rep_nrm hs
  · split at h <;> cases h
    rename_i l xs hx
    simp only [RepS, Rep] at hs ⊢; obtain ⟨cs, rfl, h⟩ := hs; exact ⟨cs, rfl, closeN_ok hx h⟩
  · split at h <;> cases h
    rename_i l xs hx
    simp only [RepS, Rep] at hs ⊢; obtain ⟨cs, rfl, h⟩ := hs; exact ⟨cs, rfl, closeN_ok hx h⟩
  · split at h
    · rename_i f a b xs hx
      split at h
      · rename_i ys hy
        cases h
        simp only [RepS, Rep] at hs ⊢
        obtain ⟨x, y, rfl, h1, h2⟩ := hs
        exact ⟨x, y, rfl, closedL_rep hx h1, closedL_rep hy h2⟩
      · cases h
    · cases h
  · cases h

def retV : Nat → SV → List SO → (AV → Prop) → Prop
  | 0, _, _, _ => False
  | n + 1, s, h, Q => match nextId 20 h s with
    | some id => onO (nth h id) fun o => bif live o then retV n (frz id o s) ((frzH id o h).set id .dead) Q else False
    | none => onO (plainS s) Q

theorem retV_ok : ∀ (n : Nat) {s : SV} {h : List SO} {Q : AV → Prop} {ι w M c}, retV n s h Q → St ι w M h → RepS ι h.length w M s c → ∃ M' v, Q v ∧ Rep w M' v c ∧ (∀ b, M' b → M b) ∧ (∀ b, M b → ¬ own ι h b → M' b)
  | 0, s, h, Q, ι, w, M, c, hv, _, _ => by simp only [retV] at hv
  | n + 1, s, h, Q, ι, w, M, c, hv, H, hs => by
    simp only [retV] at hv
    split at hv
    · rename_i id _
      obtain ⟨o, ho, hv⟩ := onO_some hv
      cases hl : live o with
      | false => rw [hl] at hv; exact hv.elim
      | true =>
        rw [hl] at hv; simp only [cond_true] at hv
        rw [nth_eq] at ho
        obtain ⟨M', g1, g2, g3, g4⟩ := H.freeze none ho hl
        have hlen : ((frzH id o h).set id .dead).length = h.length := by simp [frzH_length]
        obtain ⟨M2, v, k1, k2, k3, k4⟩ := retV_ok n hv g1 (by rw [hlen]; exact RepS.frz g2 g3 _ _ hs)
        refine ⟨M2, v, k1, k2, fun b hb => g4.m1 b (g1.mlt b (k3 b hb)) (k3 b hb), ?_⟩
        intro b hb hn
        exact k4 b (g4.m2 b hb hn) (fun ho' => hn (g4.own1 b (H.mlt b hb) ho'))
    · obtain ⟨x, hx, hv⟩ := onO_some hv
      exact ⟨M, x, hv, plainS_ok hx hs, fun _ x => x, fun _ x _ => x⟩

def readR (tmps : Array Value) : ResultVar → Sem Value
  | .tmp t => pure (tmps.getD t undef)
  | .cell a t => do loadVar t (← asAddr (tmps.getD a undef))

theorem results_eq (fn : Func) (tmps : Array Value) : results fn tmps = (do let vs ← fn.results.mapM (readR tmps); pure (if h : vs.size = 1 then vs[0] else .tuple vs)) := rfl

/-- nil slices in a struct that is handed back are empty ones -/
def nrmSV (s : SV) : SV :=
  match s with
  | .v x => .v (nrm x)
  | s => s

def nrmS1 (s : SV) : SV :=
  match s with
  | .v (.agg xs) => .v (.agg (xs.map nrm))
  | .agg l => .agg (l.map nrmSV)
  | s => s

theorem rep_nrmSV {ι N w M s c} (h : RepS ι N w M s c) : RepS ι N w M (nrmSV s) c := by
  unfold nrmSV
  split
  · simp only [RepS] at h ⊢; exact rep_nrm h
  · exact h

theorem repSL_nrmSV {ι N w M} : ∀ {l : List SV} {cs : List Value}, RepSL ι N w M l cs → RepSL ι N w M (l.map nrmSV) cs
  | [], cs, h => by simpa [RepSL] using h
  | x :: l, cs, h => by
    simp only [RepSL] at h; obtain ⟨c, cs', rfl, h1, h2⟩ := h
    simp only [List.map_cons, RepSL]; exact ⟨c, cs', rfl, rep_nrmSV h1, repSL_nrmSV h2⟩

theorem rep_nrmS1 {ι N w M s c} (h : RepS ι N w M s c) : RepS ι N w M (nrmS1 s) c := by
  unfold nrmS1
  split
  · simp only [RepS, Rep] at h ⊢; obtain ⟨cs, rfl, h⟩ := h; exact ⟨cs, rfl, repL_nrm h⟩
  · simp only [RepS] at h ⊢; obtain ⟨cs, h1, h⟩ := h; exact ⟨cs, h1, repSL_nrmSV h⟩
  · exact h

/-- a function's results -/
def resV (T : TT) : List ResultVar → AF → List SO → (List SV → Prop) → Prop
  | [], _, _, k => k []
  | .tmp t :: l, α, h, k => onO (look α.s t) fun s => resV T l α h fun r => k (s :: r)
  | .cell t ty :: l, α, h, k => onO (look α.s t) fun s => vload T ty s α h fun s _ _ => resV T l α h fun r => k (nrmS1 s :: r)

theorem resV_ok {P : Program} {T : TT} (hT : T.all P = true) {ι w M h n α a} (H : St ι w M h) (F : FR ι h.length w M n α a) : ∀ {l : List ResultVar} {k : List SV → Prop}, resV T l α h k →
    ∃ r cs, k r ∧ RepSL ι h.length w M r cs ∧ (l.mapM (readR a.tmps)).run P w = .ok cs w
  | [], k, hv => ⟨[], [], hv, by simp [RepSL], by simp⟩
  | .tmp t :: l, k, hv => by
    simp only [resV] at hv
    obtain ⟨s, hs, hv⟩ := onO_some hv
    obtain ⟨c, h1, h2⟩ := F.slot t s hs
    obtain ⟨r, cs, g1, g2, g3⟩ := resV_ok hT H F hv
    refine ⟨s :: r, c :: cs, g1, by simp only [RepSL]; exact ⟨c, cs, rfl, h2, g2⟩, ?_⟩
    rw [List.mapM_cons]
    simp only [readR, Sem.run_bind, Sem.run_pure, Result.andThen_ok, g3]
    simp [h1]
  | .cell t ty :: l, k, hv => by
    simp only [resV] at hv
    obtain ⟨s, hs, hv⟩ := onO_some hv
    obtain ⟨c, h1, h2⟩ := F.slot t s hs
    obtain ⟨c', s', k1, k2, k3⟩ := vload_ok (us := none) hT rfl hv H h2
    obtain ⟨r, cs, g1, g2, g3⟩ := resV_ok hT H F k2
    refine ⟨nrmS1 s' :: r, c' :: cs, g1, by simp only [RepSL]; exact ⟨c', cs, rfl, rep_nrmS1 k3, g2⟩, ?_⟩
    rw [List.mapM_cons]
    have hc : ∃ ad, c = .pointer (some ad) := by
      have := k1 w (Same.refl _ _)
      cases c <;> simp [Instr.loadAt, Instr.sureAddr] at this
      rename_i x; cases x
      · simp at this
      · exact ⟨_, rfl⟩
    obtain ⟨ad, rfl⟩ := hc
    have h0 := k1 w (Same.refl _ _)
    simp only [Instr.loadAt, Instr.sureAddr, Sem.run_bind, Sem.run_pure, Result.andThen_ok] at h0
    have h2' : a.tmps.getD t undef = .pointer (some ad) := by simp [h1]
    simp only [readR, h2', asAddr, Sem.run_bind, Sem.run_pure, Result.andThen_ok, h0, g3]

/-- one result, or several -/
def tupS (l : List SV) : SV :=
  match l with
  | [s] => s
  | l => match closedL l with
    | some xs => .v (.tup xs)
    | none => .tup l

theorem tupS_ok {ι N w M l cs} (h : RepSL ι N w M l cs) : RepS ι N w M (tupS l) (if h : cs.toArray.size = 1 then cs.toArray[0] else .tuple cs.toArray) := by
  unfold tupS
  split
  · rename_i s
    simp only [RepSL] at h; obtain ⟨c, cs', rfl, h1, rfl⟩ := h
    simpa using h1
  · rename_i hne
    have hl := h.length
    have : ¬ cs.toArray.size = 1 := by
      intro e
      have : l.length = 1 := by simpa [hl] using e
      match l, this with
      | [s], _ => exact hne s rfl
    rw [dif_neg this]
    split
    · rename_i xs hx
      rw [closedL_map hx] at h
      simp only [RepS, Rep]; exact ⟨_, rfl, by simpa using h.toL⟩
    · simp only [RepS]; exact ⟨_, rfl, by simpa using h⟩

def RetQ (T : TT) (rs : List ResultVar) (Q : AV → Prop) (e : Exit) (α : AF) (h : List SO) : Prop :=
  match e with
  | .normal => match α.d with
    | [] => resV T rs α h fun l => retV 20 (tupS l) h Q
    | _ :: _ => False
  | .ret => match α.d with
    | [] => resV T rs α h fun l => retV 20 (tupS l) h Q
    | _ :: _ => False
  | _ => False

def initF (k : Nat) : List SV → List (Nat × SV)
  | [] => []
  | x :: l => (k, x) :: initF (k + 1) l

theorem look_initF {l : List SV} : ∀ {k i : Nat} {s : SV}, look (initF k l) i = some s → ∃ j, i = k + j ∧ l[j]? = some s := by
  induction l with
  | nil => intro k i s h; simp [initF, look] at h
  | cons x l ih =>
    intro k i s h
    rw [initF, look_cons] at h
    split at h
    · rename_i e; subst e; cases h; exact ⟨0, by simp, rfl⟩
    · obtain ⟨j, h1, h2⟩ := ih h
      exact ⟨j + 1, by omega, by simpa using h2⟩

theorem initF_ok {ι N w M n} {args : List SV} {cs : List Value} (h : RepSL ι N w M args cs) (hn : args.length ≤ n) : FR ι N w M n ⟨initF 0 args, []⟩ { tmps := cs.toArray ++ Array.replicate (n - cs.toArray.size) undef, defers := [] } := by
  have hl := h.length
  refine ⟨by simp; omega, ?_, by simp [RepD]⟩
  intro i s hs
  obtain ⟨j, rfl, h2⟩ := look_initF hs
  obtain ⟨c, h3, h4⟩ := h.get j s h2
  refine ⟨c, ?_, h4⟩
  have hj := get_lt h3
  simp only [Nat.zero_add]
  rw [Array.getElem?_append_left (by simpa using hj)]
  simpa using h3

/-- the frame at the start -/
def initK : Nat → List AV → List (Nat × SV) → (List (Nat × SV) → Prop) → Prop
  | _, [], acc, K => K acc
  | k, x :: l, acc, K => forceV x fun x => forceN k fun k => initK (k + 1) l ((k, .v x) :: acc) K

theorem initK_eq : ∀ (l : List AV) (k : Nat) (acc : List (Nat × SV)) (K : List (Nat × SV) → Prop), initK k l acc K → ∃ s, K s ∧ ∀ i v, look s i = some v → look acc i = some v ∨ ∃ j, i = k + j ∧ (l.map SV.v)[j]? = some v
  | [], k, acc, K, h => ⟨acc, h, fun i v hv => .inl hv⟩
  | x :: l, k, acc, K, h => by
    simp only [initK, forceV_eq, forceN_eq] at h
    obtain ⟨s, h1, h2⟩ := initK_eq l (k + 1) _ K h
    refine ⟨s, h1, ?_⟩
    intro i v hv
    rcases h2 i v hv with h3 | ⟨j, h3, h4⟩
    · rw [look_cons] at h3
      split at h3
      · rename_i e; subst e; cases h3; exact .inr ⟨0, by simp, rfl⟩
      · exact .inl h3
    · exact .inr ⟨j + 1, by omega, by simpa using h4⟩

theorem FR.ofInit {ι N w M n} {args : List AV} {cs : List Value} {s : List (Nat × SV)} (h : RepL w M args cs) (hn : args.length ≤ n) (hs : ∀ i v, look s i = some v → look [] i = some v ∨ ∃ j, i = 0 + j ∧ (args.map SV.v)[j]? = some v) :
    FR ι N w M n ⟨s, []⟩ { tmps := cs.toArray ++ Array.replicate (n - cs.toArray.size) undef, defers := [] } := by
  have hl := h.length
  refine ⟨by simp; omega, ?_, by simp [RepD]⟩
  intro i v hv
  rcases hs i v hv with h0 | ⟨j, rfl, h2⟩
  · simp [look] at h0
  · obtain ⟨c, h3, h4⟩ := (RepSL.ofL (ι := ι) (N := N) h).get j v h2
    refine ⟨c, ?_, h4⟩
    have hj := get_lt h3
    simp only [Nat.zero_add]
    rw [Array.getElem?_append_left (by simpa using hj)]
    simpa using h3

/-- a function's contract, out of its code -/
theorem apure_of {P : Program} {T : TT} (hT : T.all P = true) {f : FuncId} {fn : Func} {c : Code} {args : List AV} {Q : AV → Prop} {rs : List ResultVar} (hf : P.funcs[f]? = some fn) (hn : (fn.name == "runtime.NumGoroutine") = false)
    (hb : fn.body = some c) (hr : fn.results.toList = rs) (hlen : Nat.ble args.length fn.ntmps = true) (h : initK 0 args [] fun s => vcode P T fn.ntmps c (RetQ T rs Q) ⟨s, []⟩ []) : APure P f args Q := by
  refine ⟨⟨fn, hf, hn, by rw [hb]; rfl⟩, ?_⟩
  intro w M cs hM hG ha
  refine calls_of_wp hf hb ?_
  have H : St (fun _ => none) w M [] := ⟨by simp, by simp, hM, hG⟩
  obtain ⟨s0, h, hs0⟩ := initK_eq args 0 [] _ h
  have F : FR (fun _ => none) ([] : List SO).length w M fn.ntmps ⟨s0, []⟩ { tmps := cs.toArray ++ Array.replicate (fn.ntmps - cs.toArray.size) undef, defers := [] } := FR.ofInit ha (Nat.le_of_ble_eq_true hlen) hs0
  refine wp_mono (vcode_ok hT c h H F) ?_
  rintro e a' w' ⟨α', h', ι', M', q1, q2, q3, q4⟩
  have fin : (match α'.d with
    | [] => resV T rs α' h' fun l => retV 20 (tupS l) h' Q
    | _ :: _ => False) → a'.defers = [] ∧ ∃ v, (results fn a'.tmps).run P w' = .ok v w' ∧ ∃ c v', Ending.returned v = .returned c ∧ Q v' ∧ Below w.heap.size w w' ∧ Rep w' M v' c := by
    intro hv
    split at hv
    rotate_left
    · exact hv.elim
    rename_i hd
    have hdef := q3.defs
    rw [hd] at hdef
    simp only [RepD] at hdef
    refine ⟨hdef, ?_⟩
    obtain ⟨r, vs, g1, g2, g3⟩ := resV_ok hT q2 q3 hv
    obtain ⟨M2, v', k1, k2, k3, k4⟩ := retV_ok 20 g1 q2 (tupS_ok g2)
    have hrun : (results fn a'.tmps).run P w' = .ok (if h : vs.toArray.size = 1 then vs.toArray[0] else .tuple vs.toArray) w' := by
      rw [results_eq, Array.mapM_eq_mapM_toList, hr]
      simp only [Sem.run_bind, Sem.run_map, g3, Result.andThen_ok, Sem.run_pure]
    refine ⟨_, hrun, _, v', rfl, k1, ⟨q4.os, q4.tape, q4.output, q4.size, fun b hb => q4.keep b hb (fun ⟨i, o, k, _, h1, _⟩ => by simp at h1)⟩, ?_⟩
    refine Rep.keep (M := M2) ?_ _ _ k2
    intro b hb hm
    refine ⟨fun hM' => hm ?_, rfl⟩
    refine k4 b (q4.m2 b hM' (fun ⟨i, o, k, h1, _⟩ => by simp at h1)) ?_
    intro ho
    have := q4.own1 b (hM b hM') ho
    obtain ⟨i, o, k, h1, _⟩ := this
    simp at h1
  cases e with
  | normal => exact fin q1
  | ret => exact fin q1
  | exit _ => exact q1.elim
  | goto _ => exact q1.elim
  | panic _ => exact q1.elim
  | outgrown => exact q1.elim

end Go.AV0
/- Regions that draw their order: what only reads is taken first, the rest in each order that may be. -/
namespace Go.AV0

section
variable {P : Program} {ops : Array Oper} {Q : Exit → Act → World → Prop} {md : Region.Mode} {S : World → Prop} {D : Nat → Bool}

/-- whatever order is picked; S holds behind each operation of D; behind one that is not of D nothing is asked any more -/
def wpAnyK (P : Program) (md : Region.Mode) (ops : Array Oper) (Q : Exit → Act → World → Prop) (S : World → Prop) (D : Nat → Bool) : Nat → Array Bool → Act → World → Prop
  | 0, listed, a, w => Region.ready md ops listed = [] ∧ Q .normal a w
  | fuel + 1, listed, a, w =>
    (Region.ready md ops listed = [] → Q .normal a w) ∧
    ∀ i ∈ Region.ready md ops listed, wpOp P ops Q i (fun a' w' => if D i = true then S w' ∧ wpAnyK P md ops Q S D fuel (listed.setIfInBounds i true) a' w' else wpAny P md ops Q fuel (listed.setIfInBounds i true) a' w') a w

theorem wpAny_of_K : ∀ (fuel : Nat) (listed : Array Bool) (a : Act) (w : World), wpAnyK P md ops Q S D fuel listed a w → wpAny P md ops Q fuel listed a w
  | 0, _, _, _, h => h
  | fuel + 1, _, _, _, h => ⟨h.1, fun i hi => wpOp_mono (fun a' w' h' => by
      split at h'
      · exact wpAny_of_K fuel _ a' w' h'.2
      · exact h') (h.2 i hi)⟩

theorem wpAnyK_first {i : Nat} {oi : Oper} {v : Value} (hi : ops[i]? = some oi) (hsel : ∀ (j : Nat) (o : Oper) cs b, ops[j]? = some o → o.op ≠ .select cs b)
    (hQ : ∀ c a w, Q (.panic c) (a.put oi.dst v) w → Q (.panic c) a w) (hDi : D i = true) (hD : ∀ (j : Nat) oj, ops[j]? = some oj → D j = false → ∃ e ∈ oj.after, Region.binds md e = true ∧ e.on = i) :
    ∀ (fuel : Nat) (listed : Array Bool) (a : Act) (w : World),
      (∀ (j : Nat) oj, ops[j]? = some oj → j ≠ i → listed.getD j true = false → (∀ e ∈ oj.after, Region.binds md e = true → e.on ≠ i) → oi.apart ops oj = true) →
      i ∈ Region.ready md ops listed → YieldsIf P ops S oi v a → S w →
      wpAnyK P md ops Q S D fuel (listed.setIfInBounds i true) (a.put oi.dst v) w → wpAnyK P md ops Q S D (fuel + 1) listed a w := by
  intro fuel
  induction fuel with
  | zero =>
    intro listed a w _ hr hy hS H
    refine ⟨fun h => (by rw [h] at hr; cases hr), fun j hj => ?_⟩
    by_cases hji : j = i
    · subst hji; exact hy.wpOp hi hS (by rw [if_pos hDi]; exact ⟨hS, H⟩)
    · have := ready_mono hj hji
      rw [H.1] at this
      cases this
  | succ fuel ih =>
    intro listed a w hfree hr hy hS H
    refine ⟨fun h => (by rw [h] at hr; cases hr), fun j hj => ?_⟩
    by_cases hji : j = i
    · subst hji; exact hy.wpOp hi hS (by rw [if_pos hDi]; exact ⟨hS, H⟩)
    · have h1 := H.2 j (ready_mono hj hji)
      obtain ⟨hjun, oj, hoj, hall⟩ := mem_ready.1 hj
      have hnot : ∀ e ∈ oj.after, Region.binds md e = true → e.on ≠ i := fun e he hb heq => by
        have h1 := hall e he hb
        have h0 := (mem_ready.1 hr).1
        rw [heq] at h1
        rcases Nat.lt_or_ge i listed.size with h' | h'
        · simp [h'] at h0 h1; rw [h0] at h1; cases h1
        · simp [Array.getElem?_eq_none h'] at h1
      have hDj : D j = true := by
        cases hd : D j with
        | true => rfl
        | false =>
          obtain ⟨e, he, hb, hon⟩ := hD j oj hoj hd
          exact absurd hon (hnot e he hb)
      simp only [hDj, if_true] at h1 ⊢
      have h2 := wpOp_putIf hoj (hfree j oj hoj hji hjun hnot) (fun cs b => hsel i oi cs b hi) (fun cs b => hsel j oj cs b hoj) hQ hy h1
      have hfree' : ∀ (k : Nat) ok, ops[k]? = some ok → k ≠ i → (listed.setIfInBounds j true).getD k true = false →
          (∀ e ∈ ok.after, Region.binds md e = true → e.on ≠ i) → oi.apart ops ok = true := fun k ok hk hki hun hno => by
        refine hfree k ok hk hki ?_ hno
        by_cases hjk : j = k
        · subst hjk; exact hjun
        · rw [getD_set_ne true hjk] at hun; exact hun
      refine wpOp_mono (fun a' w' h3 => ⟨h3.2.1, ih (listed.setIfInBounds j true) a' w' hfree' (ready_mono hr (Ne.symm hji)) h3.1 h3.2.1 ?_⟩) h2
      rw [Array.setIfInBounds_comm _ _ hji]
      exact h3.2.2
end

/-- what doesn't even read the world may be taken first, whatever ends a part -/
theorem wpAnyK_firstP {P : Program} {ops : Array Oper} {Q : Exit → Act → World → Prop} {md : Region.Mode} {S : World → Prop} {D : Nat → Bool} {i : Nat} {oi : Oper} {v : Value} (hi : ops[i]? = some oi) (hsel : ∀ (j : Nat) (o : Oper) cs b, ops[j]? = some o → o.op ≠ .select cs b)
    (hQ : ∀ c a w, Q (.panic c) (a.put oi.dst v) w → Q (.panic c) a w) :
    ∀ (fuel : Nat) (listed : Array Bool) (a : Act) (w : World),
      (∀ (j : Nat) oj, ops[j]? = some oj → j ≠ i → listed.getD j true = false → (∀ e ∈ oj.after, Region.binds md e = true → e.on ≠ i) → oi.apart ops oj = true) →
      i ∈ Region.ready md ops listed → Yields P ops oi v a → S w →
      wpAnyK P md ops Q S D fuel (listed.setIfInBounds i true) (a.put oi.dst v) w → wpAnyK P md ops Q S D (fuel + 1) listed a w := by
  intro fuel
  induction fuel with
  | zero =>
    intro listed a w _ hr hy hS H
    refine ⟨fun h => (by rw [h] at hr; cases hr), fun j hj => ?_⟩
    by_cases hji : j = i
    · subst hji
      refine hy.wpOp hi ?_
      split
      · exact ⟨hS, H⟩
      · exact wpAny_of_K _ _ _ _ H
    · have := ready_mono hj hji
      rw [H.1] at this
      cases this
  | succ fuel ih =>
    intro listed a w hfree hr hy hS H
    refine ⟨fun h => (by rw [h] at hr; cases hr), fun j hj => ?_⟩
    by_cases hji : j = i
    · subst hji
      refine hy.wpOp hi ?_
      split
      · exact ⟨hS, H⟩
      · exact wpAny_of_K _ _ _ _ H
    · have h1 := H.2 j (ready_mono hj hji)
      obtain ⟨hjun, oj, hoj, hall⟩ := mem_ready.1 hj
      have hnot : ∀ e ∈ oj.after, Region.binds md e = true → e.on ≠ i := fun e he hb heq => by
        have h1 := hall e he hb
        have h0 := (mem_ready.1 hr).1
        rw [heq] at h1
        rcases Nat.lt_or_ge i listed.size with h' | h'
        · simp [h'] at h0 h1; rw [h0] at h1; cases h1
        · simp [Array.getElem?_eq_none h'] at h1
      have h2 := wpOp_put hoj (hfree j oj hoj hji hjun hnot) (fun cs b => hsel i oi cs b hi) (fun cs b => hsel j oj cs b hoj) hQ hy h1
      have hfree' : ∀ (k : Nat) ok, ops[k]? = some ok → k ≠ i → (listed.setIfInBounds j true).getD k true = false →
          (∀ e ∈ ok.after, Region.binds md e = true → e.on ≠ i) → oi.apart ops ok = true := fun k ok hk hki hun hno => by
        refine hfree k ok hk hki ?_ hno
        by_cases hjk : j = k
        · subst hjk; exact hjun
        · rw [getD_set_ne true hjk] at hun; exact hun
      refine wpOp_mono (fun a' w' h3 => ?_) h2
      obtain ⟨h3, h4⟩ := h3
      split at h4
      · rename_i hd
        rw [if_pos hd]
        refine ⟨h4.1, ih (listed.setIfInBounds j true) a' w' hfree' (ready_mono hr (Ne.symm hji)) h3 h4.1 ?_⟩
        rw [Array.setIfInBounds_comm _ _ hji]
        exact h4.2
      · rename_i hd
        rw [if_neg hd]
        refine wpAny_first hi hsel hQ fuel (listed.setIfInBounds j true) a' w' hfree' (ready_mono hr (Ne.symm hji)) h3 ?_
        rw [Array.setIfInBounds_comm _ _ hji]
        exact h4

/-! ### a plan of a walk through all orders -/
inductive Plan where
  | done
  /-- a new part: what may be written, and which operations end the part -/
  | part (us : List Nat) (ends : List Nat) (p : Plan)
  /-- it only reads: it is taken first -/
  | take (i : Nat) (p : Plan)
  /-- it doesn't even read memory -/
  | pur (i : Nat) (p : Plan)
  /-- the one that may come up -/
  | one (i : Nat) (p : Plan)
  /-- the one that may come up, and it ends the part -/
  | fin (i : Nat) (p : Plan)
  /-- several may come up: this one, or one of the others -/
  | or (i : Nat) (p q : Plan)

def Plan.heads : Plan → List Nat
  | .one i _ => [i]
  | .or i _ q => i :: q.heads
  | _ => []

def notIn : List Nat → Nat → Bool
  | l, i => !inL l i

/-- each operation that ends the part waits for this one -/
def endsWait (ops : Array Oper) (ends : List Nat) (i : Nat) : Bool :=
  (List.range ops.size).all fun j => !inL ends j || ((ops[j]?).map fun o => o.after.any fun e => Region.binds .any e && e.on == i).getD true

def nextE (e : Option (List Nat)) (i : Nat) : Option (List Nat) :=
  match e with
  | some ends => bif inL ends i then none else some ends
  | none => none

def takeOk (ops : Array Oper) (ends : List Nat) (l : Array Bool) (i : Nat) : Bool :=
  Region.noSelect ops && Region.free .any ops l i && (Region.ready .any ops l).contains i && !inL ends i && endsWait ops ends i

mutual
def planOk (ops : Array Oper) : Plan → Nat → Option (List Nat) → Array Bool → Bool
  | .done, _, _, l => (Region.ready .any ops l) == []
  | .part _ ends p, f, none, l => planOk ops p f (some ends) l
  | .take i p, f + 1, some ends, l => takeOk ops ends l i && planOk ops p f (some ends) (l.setIfInBounds i true)
  | .pur i p, f + 1, e, l => (Region.noSelect ops && Region.free .any ops l i && (Region.ready .any ops l).contains i) && planOk ops p f e (l.setIfInBounds i true)
  | .one i p, f + 1, e, l => (Region.ready .any ops l == [i]) && planOk ops p f (nextE e i) (l.setIfInBounds i true)
  | .fin i p, f + 1, some ends, l => (Region.ready .any ops l == [i]) && inL ends i && planOk ops p f none (l.setIfInBounds i true)
  | .or i p q, f + 1, e, l => (Region.ready .any ops l == i :: q.heads) && (planOk ops p f (nextE e i) (l.setIfInBounds i true) && altOk ops q f e l)
  | _, _, _, _ => false
def altOk (ops : Array Oper) : Plan → Nat → Option (List Nat) → Array Bool → Bool
  | .one i p, f, e, l => planOk ops p f (nextE e i) (l.setIfInBounds i true)
  | .or i p q, f, e, l => planOk ops p f (nextE e i) (l.setIfInBounds i true) && altOk ops q f e l
  | _, _, _, _ => false
end

/-- it doesn't read memory -/
def rdReg : Op → Bool
  | .load .. => false
  | .lookup .. => false
  | .call c => match c.callee with
    | .builtin .len => false
    | _ => true
  | _ => true

/-- what only reads -/
def vrd (T : TT) (us : Us) (o : Oper) (α : AF) (h : List SO) (K : SV → Prop) : Prop :=
  match o.op with
  | .move x => onO (evs α x) fun s => forceS s K
  | .assign x => onO (evs α x) fun s => forceS s K
  | .pick c a b => onO (evs α c) fun s => match s with
    | .v (.c (.bool t)) => BSplit t (onO (evs α a) fun s => forceS s K) (onO (evs α b) fun s => forceS s K)
    | _ => False
  | .build t ps => onO (evP α ps.toList) fun r => vbuild T t r K
  | .load t x => onO (evs α x) fun s => bif safeId us s then vload T t s α h fun s _ _ => K s else False
  | .nilCheck x => onO (evs α x) fun s => vnil s K
  | .binOp op t x y _ => onO (evs α x) fun a => onO (evs α y) fun b => vbin T op t (isK x || isK y) a b K
  | .unOp op _ x => onO (evs α x) fun s => vun op s K
  | .convert a b x => onO (evs α x) fun s => vconvert T a b s K
  | .makeInterface t x => onO (evs α x) fun s => vmakeI T t s K
  | .makeFunc fn a b => onO (evL α a.toList) fun a => onO (evL α b.toList) fun b => K (mkClo fn a b)
  | .slice t x lo hi none => onO (evs α x) fun s => onO (evO α lo) fun l => onO (evO α hi) fun u => vslice T t s l u K
  | .fieldAddr t x f => onO (evs α x) fun s => vfieldAddr T t f s K
  | .field t x f => onO (evs α x) fun s => vfield T t f s K
  | .indexAddr t x i => onO (evs α x) fun s => onO (evs α i) fun i => vindexAddr T t s i h K
  | .index t x i => onO (evs α x) fun s => onO (evs α i) fun i => vindex T t s i K
  | .lookup t x i ok => onO (evs α x) fun s => onO (evs α i) fun i => bif safeId us s then vlookup T t s i ok h K else False
  | .typeAssert x _ t ok => onO (evs α x) fun s => vassert T s t ok K
  | .extract x i => onO (evs α x) fun s => vextract s i K
  | .call c => match c.callee with
    | .builtin .len => onO (evL α c.args.toList) fun args => match c.argTypes.toList, args with
      | [t], [s] => bif safeId us s then vlen T t s h K else False
      | _, _ => False
    | .builtin .max => onO (evL α c.args.toList) fun args => match args with
      | [x, y] => vmax x y K
      | _ => False
    | .builtin .min => onO (evL α c.args.toList) fun args => match args with
      | [x, y] => vmin x y K
      | _ => False
    | _ => False
  | _ => False

section
variable {P : Program} {T : TT} {us : Us} {o : Oper} {ι : Iota} {w : World} {M : Nat → Prop} {h : List SO} {n : Nat} {a : Act} {α : AF} {K : SV → Prop}

theorem vrd_ok (hT : T.all P = true) (hv : vrd T us o α h K) (H : St ι w M h) (F : FR ι h.length w M n α a) :
    ∃ c s, (∀ w', (rdReg o.op = true ∨ Same (UB ι h us) w w') → (execOp a.eval o).run P w' = .ok (.value c) w') ∧ K s ∧ RepS ι h.length w M s c := by
  have hv1 := hv
  unfold vrd at hv1
  clear hv
  split at hv1
  · rename_i x hop
    obtain ⟨s, hs, hv⟩ := onO_some hv1; rw [forceS_eq] at hv
    exact ⟨_, s, fun w' _ => by simp [execOp, hop], hv, evs_ok F hs⟩
  · rename_i x hop
    obtain ⟨s, hs, hv⟩ := onO_some hv1; rw [forceS_eq] at hv
    exact ⟨_, s, fun w' _ => by simp [execOp, hop], hv, evs_ok F hs⟩
  · rename_i c x y hop
    obtain ⟨s, hs, hv⟩ := onO_some hv1
    split at hv
    · rename_i t
      have hc := evs_ok F hs
      simp only [RepS, Rep] at hc
      obtain ⟨h1, h2⟩ := hv.elim
      cases t with
      | true =>
        obtain ⟨s, hs, hv⟩ := onO_some (h1 rfl); rw [forceS_eq] at hv
        exact ⟨_, s, fun w' _ => by simp [execOp, hop, hc, asBool], hv, evs_ok F hs⟩
      | false =>
        obtain ⟨s, hs, hv⟩ := onO_some (h2 rfl); rw [forceS_eq] at hv
        exact ⟨_, s, fun w' _ => by simp [execOp, hop, hc, asBool], hv, evs_ok F hs⟩
    · exact hv.elim
  · rename_i t ps hop
    obtain ⟨r, hr, hv⟩ := onO_some hv1
    have hr := evP_ok F hr
    obtain ⟨c, s, h1, h2, h3⟩ := vbuild_ok (P := P) (parts' := ps.map fun (i, x) => (i, a.eval x)) hT hv (by simpa using hr)
    exact ⟨c, s, fun w' _ => by simp only [execOp, hop, Sem.run_bind, h1, Result.andThen_ok, Sem.run_pure], h2, h3⟩
  · rename_i t x hop
    obtain ⟨s, hs, hv⟩ := onO_some hv1
    cases hsafe : safeId us s with
    | false => rw [hsafe] at hv; exact hv.elim
    | true =>
      rw [hsafe] at hv; simp only [cond_true] at hv
      obtain ⟨c, s', h1, h2, h3⟩ := vload_ok hT hsafe hv H (evs_ok F hs)
      exact ⟨c, s', fun w' hw' => by simp only [execOp, hop, Sem.run_bind, h1 w' (hw'.resolve_left (by rw [hop]; simp [rdReg])), Result.andThen_ok, Sem.run_pure], h2, h3⟩
  · rename_i x hop
    obtain ⟨s, hs, hv⟩ := onO_some hv1
    obtain ⟨⟨ad, had⟩, hk⟩ := vnil_ok hv (evs_ok F hs)
    exact ⟨.pointer (some ad), s, fun w' _ => by simp [execOp, hop, had], hk, by rw [← had]; exact evs_ok F hs⟩
  · rename_i op t x y t' hop
    obtain ⟨s, hs, hv⟩ := onO_some hv1
    obtain ⟨s2, hs2, hv⟩ := onO_some hv
    obtain ⟨c, s', h1, h2, h3⟩ := vbin_ok hT hv (evs_ok F hs) (evs_ok F hs2)
    exact ⟨c, s', fun w' _ => by simp only [execOp, hop]; rw [Sem.run_bind, h1 w']; rfl, h2, h3⟩
  · rename_i op t x hop
    obtain ⟨s, hs, hv⟩ := onO_some hv1
    obtain ⟨c, s', h1, h2, h3⟩ := vun_ok (P := P) hv (evs_ok F hs)
    exact ⟨c, s', fun w' _ => by simp only [execOp, hop, Sem.run_bind, h1, Result.andThen_ok, Sem.run_pure], h2, h3⟩
  · rename_i t u x hop
    obtain ⟨s, hs, hv⟩ := onO_some hv1
    obtain ⟨c, s', h1, h2, h3⟩ := vconvert_ok (P := P) hT hv (evs_ok F hs)
    exact ⟨c, s', fun w' _ => by simp only [execOp, hop, Sem.run_bind, h1, Result.andThen_ok, Sem.run_pure], h2, h3⟩
  · rename_i t x hop
    obtain ⟨s, hs, hv⟩ := onO_some hv1
    obtain ⟨c, s', h1, h2, h3⟩ := vmakeI_ok (P := P) hT hv (evs_ok F hs)
    exact ⟨c, s', fun w' _ => by simp only [execOp, hop, Sem.run_bind, h1, Result.andThen_ok, Sem.run_pure], h2, h3⟩
  · rename_i fn p q hop
    obtain ⟨x, hx, hv⟩ := onO_some hv1
    obtain ⟨y, hy, hv⟩ := onO_some hv
    exact ⟨.func fn (p.map a.eval) (q.map a.eval), _, fun w' _ => by simp [execOp, hop, Instr.makeFunc], hv, mkClo_ok (by simpa using evL_ok F hx) (by simpa using evL_ok F hy)⟩
  · rename_i t x lo hi hop
    obtain ⟨s, hs, hv⟩ := onO_some hv1
    obtain ⟨l, hl, hv⟩ := onO_some hv
    obtain ⟨u, hu, hv⟩ := onO_some hv
    obtain ⟨c, s', h1, h2, h3⟩ := vslice_ok (P := P) hT hv (evs_ok F hs) (evO_ok F hl) (evO_ok F hu)
    exact ⟨c, s', fun w' _ => by simp only [execOp, hop, Sem.run_bind, Option.map_none, h1, Result.andThen_ok, Sem.run_pure], h2, h3⟩
  · rename_i t x f hop
    obtain ⟨s, hs, hv⟩ := onO_some hv1
    obtain ⟨c, s', h1, h2, h3⟩ := vfieldAddr_ok (P := P) hT hv (evs_ok F hs)
    exact ⟨c, s', fun w' _ => by simp only [execOp, hop, Sem.run_bind, h1, Result.andThen_ok, Sem.run_pure], h2, h3⟩
  · rename_i t x f hop
    obtain ⟨s, hs, hv⟩ := onO_some hv1
    obtain ⟨c, s', h1, h2, h3⟩ := vfield_ok (P := P) hT hv (evs_ok F hs)
    exact ⟨c, s', fun w' _ => by simp only [execOp, hop, Sem.run_bind, h1, Result.andThen_ok, Sem.run_pure], h2, h3⟩
  · rename_i t x i hop
    obtain ⟨s, hs, hv⟩ := onO_some hv1
    obtain ⟨s2, hs2, hv⟩ := onO_some hv
    obtain ⟨c, s', h1, h2, h3⟩ := vindexAddr_ok (P := P) hT hv H (evs_ok F hs) (evs_ok F hs2)
    exact ⟨c, s', fun w' _ => by simp only [execOp, hop, Sem.run_bind, h1, Result.andThen_ok, Sem.run_pure], h2, h3⟩
  · rename_i t x i hop
    obtain ⟨s, hs, hv⟩ := onO_some hv1
    obtain ⟨s2, hs2, hv⟩ := onO_some hv
    obtain ⟨c, s', h1, h2, h3⟩ := vindex_ok (P := P) hT hv (evs_ok F hs) (evs_ok F hs2)
    exact ⟨c, s', fun w' _ => by simp only [execOp, hop, Sem.run_bind, h1, Result.andThen_ok, Sem.run_pure], h2, h3⟩
  · rename_i t x i ok hop
    obtain ⟨s, hs, hv⟩ := onO_some hv1
    obtain ⟨s2, hs2, hv⟩ := onO_some hv
    cases hsafe : safeId us s with
    | false => rw [hsafe] at hv; exact hv.elim
    | true =>
      rw [hsafe] at hv; simp only [cond_true] at hv
      obtain ⟨c, s', h1, h2, h3⟩ := vlookup_ok (P := P) hT hsafe hv H (evs_ok F hs) (evs_ok F hs2)
      exact ⟨c, s', fun w' hw' => by simp only [execOp, hop, Sem.run_bind, h1 w' (hw'.resolve_left (by rw [hop]; simp [rdReg])), Result.andThen_ok, Sem.run_pure], h2, h3⟩
  · rename_i x xt t ok hop
    obtain ⟨s, hs, hv⟩ := onO_some hv1
    obtain ⟨c, s', h1, h2, h3⟩ := vassert_ok (P := P) (xt := xt) hT hv (evs_ok F hs)
    exact ⟨c, s', fun w' _ => by simp only [execOp, hop, Sem.run_bind, h1, Result.andThen_ok, Sem.run_pure], h2, h3⟩
  · rename_i x i hop
    obtain ⟨s, hs, hv⟩ := onO_some hv1
    obtain ⟨c, s', h1, h2, h3⟩ := vextract_ok (P := P) hv (evs_ok F hs)
    exact ⟨c, s', fun w' _ => by simp only [execOp, hop, Sem.run_bind, h1, Result.andThen_ok, Sem.run_pure], h2, h3⟩
  · rename_i c hop
    split at hv1
    · rename_i hcal
      obtain ⟨args, hargs, hv⟩ := onO_some hv1
      have ha := evL_ok F hargs
      split at hv
      · rename_i t s hts
        simp only [RepSL] at ha; obtain ⟨c1, cs', hcs, h1, rfl⟩ := ha
        cases hsafe : safeId us s with
        | false => rw [hsafe] at hv; exact hv.elim
        | true =>
          rw [hsafe] at hv; simp only [cond_true] at hv
          obtain ⟨c', s', g1, g2, g3⟩ := vlen_ok (ty := o.type) hT hsafe hv H h1
          have e1 : c.argTypes = #[t] := by apply Array.ext'; simpa using hts
          have e2 : c.args.map a.eval = #[c1] := by apply Array.ext'; simpa using hcs
          exact ⟨c', s', fun w' hw' => by
            simp only [execOp, hop, resolve, hcal, Sem.run_bind, Sem.run_pure, Result.andThen_ok, invoke, builtin, e1, e2, g1 w' (hw'.resolve_left (by rw [hop]; simp [rdReg, hcal]))], g2, g3⟩
      · exact hv.elim
    · rename_i hcal
      obtain ⟨args, hargs, hv⟩ := onO_some hv1
      have ha := evL_ok F hargs
      split at hv
      · simp only [RepSL] at ha; obtain ⟨c1, cs', hcs, h1, d1, ds', rfl, h2, rfl⟩ := ha
        obtain ⟨c', s', g1, g2, g3⟩ := vmax_ok (P := P) (ts := c.argTypes) (ty := o.type) hv h1 h2
        have e2 : c.args.map a.eval = #[c1, d1] := by apply Array.ext'; simpa using hcs
        exact ⟨c', s', fun w' _ => by
            simp only [execOp, hop, resolve, hcal, Sem.run_bind, Sem.run_pure, Result.andThen_ok, invoke, builtin, e2, g1 w'], g2, g3⟩
      · exact hv.elim
    · rename_i hcal
      obtain ⟨args, hargs, hv⟩ := onO_some hv1
      have ha := evL_ok F hargs
      split at hv
      · simp only [RepSL] at ha; obtain ⟨c1, cs', hcs, h1, d1, ds', rfl, h2, rfl⟩ := ha
        obtain ⟨c', s', g1, g2, g3⟩ := vmin_ok (P := P) (ts := c.argTypes) (ty := o.type) hv h1 h2
        have e2 : c.args.map a.eval = #[c1, d1] := by apply Array.ext'; simpa using hcs
        exact ⟨c', s', fun w' _ => by
            simp only [execOp, hop, resolve, hcal, Sem.run_bind, Sem.run_pure, Result.andThen_ok, invoke, builtin, e2, g1 w'], g2, g3⟩
      · exact hv.elim
    · exact hv1.elim
  · exact hv1.elim
end

theorem wpAnyK_mono {P : Program} {md : Region.Mode} {ops : Array Oper} {Q : Exit → Act → World → Prop} {S S' : World → Prop} {D : Nat → Bool} (hS : ∀ w, S w → S' w) :
    ∀ (fuel : Nat) (listed : Array Bool) (a : Act) (w : World), wpAnyK P md ops Q S D fuel listed a w → wpAnyK P md ops Q S' D fuel listed a w
  | 0, _, _, _, h => h
  | fuel + 1, _, _, _, h => ⟨h.1, fun i hi => wpOp_mono (fun a' w' h' => by
      split at h'
      · rename_i hd; rw [if_pos hd]; exact ⟨hS _ h'.1, wpAnyK_mono hS fuel _ a' w' h'.2⟩
      · rename_i hd; rw [if_neg hd]; exact h') (h.2 i hi)⟩

abbrev DK := Us → (AF → List SO → Prop) → AF → List SO → Prop

def vdDone : DK := fun _ K α h => K α h
def vdPart (us : List Nat) (p : DK) : DK := fun _ K α h => p (some us) K α h
def vdTake (T : TT) (n : Nat) (ops : List Oper) (i : Nat) (p : DK) : DK := fun us K α h => match us with
  | some u => onO (nth ops i) fun o => vguard ops α o.guard (vrd T (some u) o α h fun s => vput n o.dst s α fun α => p (some u) K α h) (vput n o.dst (.v (.tup [])) α fun α => p (some u) K α h)
  | none => False
def vdPur (T : TT) (n : Nat) (ops : List Oper) (i : Nat) (p : DK) : DK := fun us K α h =>
  onO (nth ops i) fun o => bif rdReg o.op then vguard ops α o.guard (vrd T us o α h fun s => vput n o.dst s α fun α => p us K α h) (vput n o.dst (.v (.tup [])) α fun α => p us K α h) else False
def vdOne (P : Program) (T : TT) (n : Nat) (ops : List Oper) (i : Nat) (p : DK) : DK := fun us K α h =>
  onO (nth ops i) fun o => vguard ops α o.guard (vop P T us o α h fun s α h => vput n o.dst s α fun α => p us K α h) (vput n o.dst (.v (.tup [])) α fun α => p us K α h)
def vdFin (P : Program) (T : TT) (n : Nat) (ops : List Oper) (i : Nat) (p : DK) : DK := fun _ K α h =>
  onO (nth ops i) fun o => vguard ops α o.guard (vop P T none o α h fun s α h => vput n o.dst s α fun α => p none K α h) (vput n o.dst (.v (.tup [])) α fun α => p none K α h)
def vdOr (P : Program) (T : TT) (n : Nat) (ops : List Oper) (i : Nat) (p q : DK) : DK := fun us K α h =>
  (onO (nth ops i) fun o => vguard ops α o.guard (vop P T us o α h fun s α h => vput n o.dst s α fun α => p us K α h) (vput n o.dst (.v (.tup [])) α fun α => p us K α h)) ∧ q us K α h

/-- by the recursor itself: so the kernel meets the same terms as the elaborator -/
noncomputable def vdraw (P : Program) (T : TT) (n : Nat) (ops : List Oper) (p : Plan) : DK :=
  Plan.rec (motive := fun _ => DK) vdDone (fun us _ _ p => vdPart us p) (fun i _ p => vdTake T n ops i p) (fun i _ p => vdPur T n ops i p) (fun i _ p => vdOne P T n ops i p) (fun i _ p => vdFin P T n ops i p) (fun i _ _ p q => vdOr P T n ops i p q) p

section
variable {P : Program} {T : TT} {n : Nat} {ops : List Oper} {us : Us} {K : AF → List SO → Prop} {α : AF} {h : List SO} {i : Nat} {p q : Plan}
theorem vdraw_done : vdraw P T n ops .done us K α h = K α h := rfl
theorem vdraw_part {us' ends} : vdraw P T n ops (.part us' ends p) us K α h = vdraw P T n ops p (some us') K α h := rfl
theorem vdraw_take {u} : vdraw P T n ops (.take i p) (some u) K α h = onO (nth ops i) fun o => vguard ops α o.guard (vrd T (some u) o α h fun s => vput n o.dst s α fun α => vdraw P T n ops p (some u) K α h) (vput n o.dst (.v (.tup [])) α fun α => vdraw P T n ops p (some u) K α h) := rfl
theorem vdraw_takeN : vdraw P T n ops (.take i p) none K α h = False := rfl
theorem vdraw_pur : vdraw P T n ops (.pur i p) us K α h = onO (nth ops i) fun o => bif rdReg o.op then vguard ops α o.guard (vrd T us o α h fun s => vput n o.dst s α fun α => vdraw P T n ops p us K α h) (vput n o.dst (.v (.tup [])) α fun α => vdraw P T n ops p us K α h) else False := rfl
theorem vdraw_one : vdraw P T n ops (.one i p) us K α h = onO (nth ops i) fun o => vguard ops α o.guard (vop P T us o α h fun s α h => vput n o.dst s α fun α => vdraw P T n ops p us K α h) (vput n o.dst (.v (.tup [])) α fun α => vdraw P T n ops p us K α h) := rfl
theorem vdraw_fin : vdraw P T n ops (.fin i p) us K α h = onO (nth ops i) fun o => vguard ops α o.guard (vop P T none o α h fun s α h => vput n o.dst s α fun α => vdraw P T n ops p none K α h) (vput n o.dst (.v (.tup [])) α fun α => vdraw P T n ops p none K α h) := rfl
theorem vdraw_or : vdraw P T n ops (.or i p q) us K α h = ((onO (nth ops i) fun o => vguard ops α o.guard (vop P T us o α h fun s α h => vput n o.dst s α fun α => vdraw P T n ops p us K α h) (vput n o.dst (.v (.tup [])) α fun α => vdraw P T n ops p us K α h)) ∧ vdraw P T n ops q us K α h) := rfl
end

theorem Grow.toNone {ι w M h us ι' w' M' h'} (g : Grow ι w M h us ι' w' M' h') : Grow ι w M h none ι' w' M' h' := by
  refine ⟨g.os, g.tape, g.output, g.size, fun b hb hn => g.keep b hb (fun hx => hn ?_), g.m1, g.m2, g.own1, fun b hb hx => ?_⟩
  · obtain ⟨i, o, k, _, h1⟩ := hx; exact ⟨i, o, k, rfl, h1⟩
  · obtain ⟨i, o, k, h1⟩ := g.own1 b hb hx.own; exact ⟨i, o, k, rfl, h1⟩

/-- the end of a region -/
def Fin0 (ι0 : Iota) (w0 : World) (M0 : Nat → Prop) (h0 : List SO) (n : Nat) (K : AF → List SO → Prop) (e : Exit) (a' : Act) (w' : World) : Prop :=
  e = .normal ∧ ∃ α' h' ι' M', K α' h' ∧ St ι' w' M' h' ∧ FR ι' h'.length w' M' n α' a' ∧ Grow ι0 w0 M0 h0 none ι' w' M' h'

def WPm (P : Program) (ops : Array Oper) (Q : Exit → Act → World → Prop) (S : World → Prop) (e : Option (List Nat)) (f : Nat) (l : Array Bool) (a : Act) (w : World) : Prop :=
  match e with
  | some ends => wpAnyK P .any ops Q S (notIn ends) f l a w
  | none => wpAny P .any ops Q f l a w

def Cont (P : Program) (ops : Array Oper) (Q : Exit → Act → World → Prop) (S : World → Prop) (e : Option (List Nat)) (f : Nat) (l : Array Bool) (i : Nat) (a : Act) (w : World) : Prop :=
  match e with
  | some ends => if notIn ends i = true then S w ∧ wpAnyK P .any ops Q S (notIn ends) f (l.setIfInBounds i true) a w else wpAny P .any ops Q f (l.setIfInBounds i true) a w
  | none => wpAny P .any ops Q f (l.setIfInBounds i true) a w

theorem Cont.of {P ops Q S e f l i a w} (hS : S w) (h : WPm P ops Q S (nextE e i) f (l.setIfInBounds i true) a w) : Cont P ops Q S e f l i a w := by
  unfold Cont nextE WPm at *
  cases e with
  | none => exact h
  | some ends =>
    simp only at h ⊢
    cases hi : inL ends i with
    | true => simp only [hi, cond_true, notIn, Bool.not_true, Bool.false_eq_true, if_false] at h ⊢; exact h
    | false => simp only [hi, cond_false, notIn, Bool.not_false, if_true] at h ⊢; exact ⟨hS, h⟩

theorem WPm.all {P ops Q S e f l a w} {rs : List Nat} (hr : Region.ready .any ops l = rs) (hne : rs ≠ []) (h : ∀ i ∈ rs, wpOp P ops Q i (Cont P ops Q S e f l i) a w) : WPm P ops Q S e (f + 1) l a w := by
  unfold WPm
  cases e with
  | none => exact wpAny_all hr hne fun i hi => h i hi
  | some ends =>
    refine ⟨fun h0 => absurd (hr ▸ h0) hne, fun i hi => ?_⟩
    exact h i (hr ▸ hi)

section
variable {P : Program} {T : TT} {n : Nat} {ops : Array Oper} {K : AF → List SO → Prop} {ι0 : Iota} {w0 : World} {M0 : Nat → Prop} {h0 : List SO}

/-- what is asked of a plan -/
def PlanOk (P : Program) (T : TT) (n : Nat) (ops : Array Oper) (K : AF → List SO → Prop) (ι0 : Iota) (w0 : World) (M0 : Nat → Prop) (h0 : List SO) (p : Plan) : Prop :=
  (∀ f e l us α h ι w M a S, planOk ops p f e l = true → vdraw P T n ops.toList p us K α h → St ι w M h → FR ι h.length w M n α a → Grow ι0 w0 M0 h0 none ι w M h →
    (∀ ι' w' M' h', Grow ι w M h us ι' w' M' h' → S w') → WPm P ops (Fin0 ι0 w0 M0 h0 n K) S e f l a w) ∧
  (∀ f e l us α h ι w M a S, altOk ops p f e l = true → vdraw P T n ops.toList p us K α h → St ι w M h → FR ι h.length w M n α a → Grow ι0 w0 M0 h0 none ι w M h →
    (∀ ι' w' M' h', Grow ι w M h us ι' w' M' h' → S w') → ∀ j ∈ p.heads, wpOp P ops (Fin0 ι0 w0 M0 h0 n K) j (Cont P ops (Fin0 ι0 w0 M0 h0 n K) S e f l j) a w)

theorem one_ok (hT : T.all P = true) (hM0 : ∀ b, M0 b → b < w0.heap.size) {p : Plan} (ih : PlanOk P T n ops K ι0 w0 M0 h0 p) {i f e l us α h ι w M a} {S : World → Prop} (hp : planOk ops p f (nextE e i) (l.setIfInBounds i true) = true)
    (hv : onO (nth ops.toList i) fun o => vguard ops.toList α o.guard (vop P T us o α h fun s α h => vput n o.dst s α fun α => vdraw P T n ops.toList p us K α h) (vput n o.dst (.v (.tup [])) α fun α => vdraw P T n ops.toList p us K α h))
    (H : St ι w M h) (F : FR ι h.length w M n α a) (G : Grow ι0 w0 M0 h0 none ι w M h) (hS : ∀ ι' w' M' h', Grow ι w M h us ι' w' M' h' → S w') :
    wpOp P ops (Fin0 ι0 w0 M0 h0 n K) i (Cont P ops (Fin0 ι0 w0 M0 h0 n K) S e f l i) a w := by
  obtain ⟨o, ho, hv⟩ := onO_some hv
  have ho' : ops[i]? = some o := by rw [nth_eq, Array.getElem?_toList] at ho; exact ho
  unfold wpOp
  simp only [ho']
  rcases vguard_ok hv F with ⟨hw, hv⟩ | ⟨hw, hv⟩
  · rw [if_pos hw]
    left
    refine Oper.wp_mono ?_ (vop_ok (Q := Fin0 ι0 w0 M0 h0 n K) hT hv H F)
    rintro a' w' ⟨a1, c, s, α', h', ι', M', rfl, h1, h2, h3, h4, h5⟩
    obtain ⟨α2, h6, h7⟩ := h3.vput h4 h1
    refine Cont.of (hS _ _ _ _ h5) (ih.1 _ _ _ _ _ _ _ _ _ _ S hp h6 h2 h7 (G.trans hM0 h5.toNone) fun ι2 w2 M2 h2' g => hS _ _ _ _ (h5.trans H.mlt g))
  · rw [hw]; simp only [Bool.false_eq_true, if_false]
    obtain ⟨α2, h6, h7⟩ := F.vput (c := undef) (by simp only [RepS, Rep]; exact ⟨#[], rfl, by simp [RepL]⟩) hv
    exact Cont.of (hS _ _ _ _ (Grow.refl _ _ _ _ _)) (ih.1 _ _ _ _ _ _ _ _ _ _ S hp h6 H h7 G hS)

theorem vdraw_ok (hT : T.all P = true) (hM0 : ∀ b, M0 b → b < w0.heap.size) : ∀ p : Plan, PlanOk P T n ops K ι0 w0 M0 h0 p
  | .done => by
    refine ⟨fun f e l us α h ι w M a S hp hv H F G hS => ?_, fun f e l us α h ι w M a S hp hv H F G hS j hj => (by cases hj)⟩
    simp only [planOk, beq_iff_eq] at hp
    simp only [vdraw_done] at hv
    have hq : Fin0 ι0 w0 M0 h0 n K .normal a w := ⟨rfl, α, h, ι, M, hv, H, F, G⟩
    unfold WPm
    cases e with
    | none => exact wpAny_done hp hq f
    | some ends => cases f with
      | zero => exact ⟨hp, hq⟩
      | succ f => exact ⟨fun _ => hq, by rw [hp]; simp⟩
  | .part us' ends p => by
    refine ⟨fun f e l us α h ι w M a S hp hv H F G hS => ?_, fun f e l us α h ι w M a S hp hv H F G hS j hj => (by cases hj)⟩
    cases e with
    | some _ => simp [planOk] at hp
    | none =>
      simp only [planOk] at hp
      simp only [vdraw_part] at hv
      exact wpAny_of_K _ _ _ _ ((vdraw_ok hT hM0 p).1 f (some ends) l _ _ _ _ _ _ _ (fun _ => True) hp hv H F G (fun _ _ _ _ _ => trivial))
  | .take i p => by
    refine ⟨fun f e l us α h ι w M a S hp hv H F G hS => ?_, fun f e l us α h ι w M a S hp hv H F G hS j hj => (by cases hj)⟩
    cases e with
    | none => cases f <;> simp [planOk] at hp
    | some ends =>
    cases f with
    | zero => simp [planOk] at hp
    | succ f =>
    cases us with
    | none => simp [vdraw_takeN] at hv
    | some u =>
      simp only [planOk, takeOk, Bool.and_eq_true, Bool.not_eq_true'] at hp
      obtain ⟨⟨⟨⟨⟨p1, p2⟩, p3⟩, p4⟩, p5⟩, p6⟩ := hp
      simp only [vdraw_take] at hv
      obtain ⟨o, ho, hv⟩ := onO_some hv
      have ho' : ops[i]? = some o := by rw [nth_eq, Array.getElem?_toList] at ho; exact ho
      have hD : ∀ (j : Nat) oj, ops[j]? = some oj → notIn ends j = false → ∃ e ∈ oj.after, Region.binds .any e = true ∧ e.on = i := by
        intro j oj hj hd
        unfold endsWait at p5
        rw [List.all_eq_true] at p5
        have := p5 j (List.mem_range.2 (Array.getElem?_eq_some_iff.1 hj).1)
        simp only [notIn, Bool.not_eq_false'] at hd
        simp only [hd, Bool.not_true, Bool.false_or, hj, Option.map_some, Option.getD_some] at this
        obtain ⟨e, he, hb⟩ := Array.any_eq_true'.1 this
        simp only [Bool.and_eq_true, beq_iff_eq] at hb
        exact ⟨e, he, hb⟩
      have hSame : ∀ ι' w' M' h', Grow ι w M h (some u) ι' w' M' h' → Same (UB ι h (some u)) w w' := fun ι' w' M' h' g b hb hn => g.keep b hb (fun hx => hn ⟨by simp, hx⟩)
      refine wpAnyK_mono (S := fun w' => Same (UB ι h (some u)) w w' ∧ S w') (fun _ x => x.2) _ _ _ _ ?_
      have key : ∃ v α', YieldsIf P ops (fun w' => Same (UB ι h (some u)) w w' ∧ S w') o v a ∧ vdraw P T n ops.toList p (some u) K α' h ∧ FR ι h.length w M n α' (a.put o.dst v) := by
        rcases vguard_ok hv F with ⟨hw, hv⟩ | ⟨hw, hv⟩
        · obtain ⟨c, s, g1, g2, g3⟩ := vrd_ok hT hv H F
          obtain ⟨α2, h6, h7⟩ := F.vput g3 g2
          exact ⟨c, α2, .inl ⟨hw, fun w' hw' => g1 w' (.inr hw'.1)⟩, h6, h7⟩
        · obtain ⟨α2, h6, h7⟩ := F.vput (c := undef) (by simp only [RepS, Rep]; exact ⟨#[], rfl, by simp [RepL]⟩) hv
          exact ⟨undef, α2, .inr ⟨hw, rfl⟩, h6, h7⟩
      obtain ⟨v, α', hy, hv', F'⟩ := key
      refine wpAnyK_first ho' (Region.noSelect_spec p1) (fun c a w hq => (by cases hq.1)) (by simp [notIn, p4]) hD f l a w (Region.free_spec ho' p2) (by simpa using p3) hy ⟨fun _ _ _ => rfl, hS _ _ _ _ (Grow.refl _ _ _ _ _)⟩ ?_
      exact (vdraw_ok hT hM0 p).1 f (some ends) _ _ _ _ _ _ _ _ _ p6 hv' H F' G (fun ι' w' M' h' g => ⟨hSame _ _ _ _ g, hS _ _ _ _ g⟩)
  | .pur i p => by
    refine ⟨fun f e l us α h ι w M a S hp hv H F G hS => ?_, fun f e l us α h ι w M a S hp hv H F G hS j hj => (by cases hj)⟩
    cases f with
    | zero => simp [planOk] at hp
    | succ f =>
      simp only [planOk, Bool.and_eq_true] at hp
      obtain ⟨⟨⟨p1, p2⟩, p3⟩, p6⟩ := hp
      simp only [vdraw_pur] at hv
      obtain ⟨o, ho, hv⟩ := onO_some hv
      have ho' : ops[i]? = some o := by rw [nth_eq, Array.getElem?_toList] at ho; exact ho
      cases hreg : rdReg o.op with
      | false => rw [hreg] at hv; exact hv.elim
      | true =>
      rw [hreg] at hv; simp only [cond_true] at hv
      have key : ∃ v α', Yields P ops o v a ∧ vdraw P T n ops.toList p us K α' h ∧ FR ι h.length w M n α' (a.put o.dst v) := by
        rcases vguard_ok hv F with ⟨hw, hv⟩ | ⟨hw, hv⟩
        · obtain ⟨c, s, g1, g2, g3⟩ := vrd_ok hT hv H F
          obtain ⟨α2, h6, h7⟩ := F.vput g3 g2
          exact ⟨c, α2, .inl ⟨hw, fun w' => g1 w' (.inl hreg)⟩, h6, h7⟩
        · obtain ⟨α2, h6, h7⟩ := F.vput (c := undef) (by simp only [RepS, Rep]; exact ⟨#[], rfl, by simp [RepL]⟩) hv
          exact ⟨undef, α2, .inr ⟨hw, rfl⟩, h6, h7⟩
      obtain ⟨v, α', hy, hv', F'⟩ := key
      have hrec := (vdraw_ok hT hM0 p).1 f e (l.setIfInBounds i true) us α' h ι w M _ S p6 hv' H F' G hS
      unfold WPm at hrec ⊢
      cases e with
      | none => exact wpAny_first ho' (Region.noSelect_spec p1) (fun c a w hq => (by cases hq.1)) f l a w (Region.free_spec ho' p2) (by simpa using p3) hy hrec
      | some ends => exact wpAnyK_firstP ho' (Region.noSelect_spec p1) (fun c a w hq => (by cases hq.1)) f l a w (Region.free_spec ho' p2) (by simpa using p3) hy (hS _ _ _ _ (Grow.refl _ _ _ _ _)) hrec
  | .one i p => by
    refine ⟨fun f e l us α h ι w M a S hp hv H F G hS => ?_, fun f e l us α h ι w M a S hp hv H F G hS j hj => ?_⟩
    · cases f with
      | zero => simp [planOk] at hp
      | succ f =>
        simp only [planOk, Bool.and_eq_true, beq_iff_eq] at hp
        simp only [vdraw_one] at hv
        refine WPm.all hp.1 (by simp) fun j hj => ?_
        simp only [List.mem_singleton] at hj
        subst hj
        exact one_ok hT hM0 (vdraw_ok hT hM0 p) hp.2 hv H F G hS
    · simp only [Plan.heads, List.mem_singleton] at hj
      subst hj
      simp only [altOk] at hp
      simp only [vdraw_one] at hv
      exact one_ok hT hM0 (vdraw_ok hT hM0 p) hp hv H F G hS
  | .fin i p => by
    refine ⟨fun f e l us α h ι w M a S hp hv H F G hS => ?_, fun f e l us α h ι w M a S hp hv H F G hS j hj => (by cases hj)⟩
    cases e with
    | none => cases f <;> simp [planOk] at hp
    | some ends =>
    cases f with
    | zero => simp [planOk] at hp
    | succ f =>
      simp only [planOk, Bool.and_eq_true, beq_iff_eq] at hp
      obtain ⟨⟨p1, p2⟩, p3⟩ := hp
      simp only [vdraw_fin] at hv
      refine WPm.all p1 (by simp) fun j hj => ?_
      simp only [List.mem_singleton] at hj
      subst hj
      have h1 := one_ok (e := none) (S := fun _ => True) hT hM0 (vdraw_ok hT hM0 p) p3 hv H F G (fun _ _ _ _ _ => trivial)
      refine wpOp_mono ?_ h1
      intro a' w' h2
      unfold Cont at h2 ⊢
      simp only [notIn, p2, Bool.not_true, Bool.false_eq_true, if_false]
      exact h2
  | .or i p q => by
    refine ⟨fun f e l us α h ι w M a S hp hv H F G hS => ?_, fun f e l us α h ι w M a S hp hv H F G hS j hj => ?_⟩
    · cases f with
      | zero => simp [planOk] at hp
      | succ f =>
        simp only [planOk, Bool.and_eq_true, beq_iff_eq] at hp
        simp only [vdraw_or] at hv
        refine WPm.all hp.1 (by simp) fun j hj => ?_
        simp only [List.mem_cons] at hj
        rcases hj with rfl | hj
        · exact one_ok hT hM0 (vdraw_ok hT hM0 p) hp.2.1 hv.1 H F G hS
        · exact (vdraw_ok hT hM0 q).2 _ _ _ _ _ _ _ _ _ _ _ hp.2.2 hv.2 H F G hS j hj
    · simp only [altOk, Bool.and_eq_true] at hp
      simp only [vdraw_or] at hv
      simp only [Plan.heads, List.mem_cons] at hj
      rcases hj with rfl | hj
      · exact one_ok hT hM0 (vdraw_ok hT hM0 p) hp.1 hv.1 H F G hS
      · exact (vdraw_ok hT hM0 q).2 _ _ _ _ _ _ _ _ _ _ _ hp.2 hv.2 H F G hS j hj
end

theorem draw_ev {P : Program} {T : TT} {n : Nat} (hT : T.all P = true) (hm : P.follows .mixedOrders = true) {id : Nat} {ops : Array Oper} {Q : Exit → AF → List SO → Prop} {α : AF} {h : List SO} (p : Plan)
    (hp : planOk ops p ops.size none (Array.replicate ops.size false) = true) (hv : vdraw P T n ops.toList p none (Q .normal) α h) : DrawEv P none n id ops Q α h := by
  unfold DrawEv
  intro ι w M a H F
  refine wp_mono (?_ : (Code.region id ops true).wp P (Fin0 ι w M h n (Q .normal)) a w) ?_
  · refine wp_region_any hm ?_
    have hk : Keep w M { w with drawn := w.drawn + 1 } M := fun b hb hn => ⟨hn, rfl⟩
    have H' : St ι { w with drawn := w.drawn + 1 } M h := ⟨fun i o ho => StO.keep ⟨Nat.le_refl _, fun _ _ => rfl⟩ hk rfl (fun b k hl hi => ⟨rfl, (H.objs i o ho).ownM hl hi⟩) (H.objs i o ho), H.dist, H.mlt, H.gl.keep hk⟩
    have G' : Grow ι w M h none ι { w with drawn := w.drawn + 1 } M h := ⟨rfl, rfl, rfl, Nat.le_refl _, fun _ _ _ => rfl, fun _ _ x => x, fun _ x _ => x, fun _ _ x => x, fun _ _ x => x⟩
    exact (vdraw_ok hT H.mlt p).1 _ none _ none α h ι _ M a (fun _ => True) hp hv H' (F.keep ⟨Nat.le_refl _, fun _ _ => rfl⟩ hk) G' (fun _ _ _ _ _ => trivial)
  · rintro e a' w' ⟨rfl, h1⟩; exact h1

end Go.AV0
/- Calls that hand on objects of one's own. -/
namespace Go.AV0

/-! ### other names -/
/-- the name that the caller has for the callee's i-th object -/
def rn (N : Nat) : List Nat → Nat → Nat
  | [], i => N + i
  | x :: _, 0 => x
  | _ :: l, i + 1 => rn N l i

mutual
def renS (N : Nat) (sel : List Nat) : SV → SV
  | .any => .any
  | .v x => .v x
  | .ref a b => .ref (rn N sel a) b
  | .eref a b c => .eref (rn N sel a) b c
  | .ms a => .ms (rn N sel a)
  | .mm a => .mm (rn N sel a)
  | .tup l => .tup (renL N sel l)
  | .agg l => .agg (renL N sel l)
  | .clo f a b => .clo f (renL N sel a) (renL N sel b)
def renL (N : Nat) (sel : List Nat) : List SV → List SV
  | [] => []
  | x :: l => renS N sel x :: renL N sel l
end

def renO (N : Nat) (sel : List Nat) : SO → SO
  | .cells xs => .cells (renL N sel xs)
  | .pin j x => .pin (rn N sel j) x
  | .dead => .dead
  | .arr e z els => .arr e z els
  | .map es => .map es

def renH (N : Nat) (sel : List Nat) : List SO → List SO
  | [] => []
  | x :: l => renO N sel x :: renH N sel l

theorem renH_get (N : Nat) (sel : List Nat) : ∀ (l : List SO) (i : Nat), (renH N sel l)[i]? = (l[i]?).map (renO N sel)
  | [], i => by simp [renH]
  | o :: l, 0 => by simp [renH]
  | o :: l, i + 1 => by simp [renH, renH_get N sel l i]

theorem renH_length (N : Nat) (sel : List Nat) : ∀ (l : List SO), (renH N sel l).length = l.length
  | [] => rfl
  | o :: l => by simp [renH, renH_length N sel l]

theorem live_renO (N sel o) : live (renO N sel o) = live o := by cases o <;> rfl

mutual
theorem RepS.ren {ι ι' : Iota} {m N' : Nat} {w M N sel} (hρ : ∀ i, i < m → rn N sel i < N' ∧ ι' (rn N sel i) = ι i) : ∀ (s : SV) (c : Value), RepS ι m w M s c → RepS ι' N' w M (renS N sel s) c
  | .any, c, r => by simp [renS, RepS]
  | .v x, c, r => by simpa [renS, RepS] using r
  | .ref a b, c, r => by simp only [renS, RepS] at r ⊢; obtain ⟨h1, h2⟩ := hρ a r.1; rw [h2]; exact ⟨h1, r.2⟩
  | .eref a b d, c, r => by simp only [renS, RepS] at r ⊢; obtain ⟨h1, h2⟩ := hρ a r.1; rw [h2]; exact ⟨h1, r.2⟩
  | .ms a, c, r => by simp only [renS, RepS] at r ⊢; obtain ⟨h1, h2⟩ := hρ a r.1; rw [h2]; exact ⟨h1, r.2⟩
  | .mm a, c, r => by simp only [renS, RepS] at r ⊢; obtain ⟨h1, h2⟩ := hρ a r.1; rw [h2]; exact ⟨h1, r.2⟩
  | .tup l, c, r => by simp only [renS, RepS] at r ⊢; obtain ⟨cs, h1, h2⟩ := r; exact ⟨cs, h1, RepSL.ren hρ l _ h2⟩
  | .agg l, c, r => by simp only [renS, RepS] at r ⊢; obtain ⟨cs, h1, h2⟩ := r; exact ⟨cs, h1, RepSL.ren hρ l _ h2⟩
  | .clo f a b, c, r => by
    simp only [renS, RepS] at r ⊢; obtain ⟨x, y, h1, h2, h3⟩ := r
    exact ⟨x, y, h1, RepSL.ren hρ a _ h2, RepSL.ren hρ b _ h3⟩
theorem RepSL.ren {ι ι' : Iota} {m N' : Nat} {w M N sel} (hρ : ∀ i, i < m → rn N sel i < N' ∧ ι' (rn N sel i) = ι i) : ∀ (l : List SV) (cs : List Value), RepSL ι m w M l cs → RepSL ι' N' w M (renL N sel l) cs
  | [], cs, r => by simpa [renL, RepSL] using r
  | x :: l, cs, r => by
    simp only [renL, RepSL] at r ⊢; obtain ⟨c, cs', h1, h2, h3⟩ := r
    exact ⟨c, cs', h1, RepS.ren hρ x c h2, RepSL.ren hρ l cs' h3⟩
end

mutual
theorem RepS.unren {ι ι0 : Iota} {m N' : Nat} {w M N sel} (hρ : ∀ i, i < m → ι0 i = ι (rn N sel i)) : ∀ (s : SV) (c : Value), RepS ι N' w M (renS N sel s) c → ltS m s = true → RepS ι0 m w M s c
  | .any, c, r, _ => by simp [RepS]
  | .v x, c, r, _ => by simpa [renS, RepS] using r
  | .ref a b, c, r, h => by simp only [renS, RepS, ltS, Nat.blt_eq] at r h ⊢; rw [hρ a h]; exact ⟨h, r.2⟩
  | .eref a b d, c, r, h => by simp only [renS, RepS, ltS, Nat.blt_eq] at r h ⊢; rw [hρ a h]; exact ⟨h, r.2⟩
  | .ms a, c, r, h => by simp only [renS, RepS, ltS, Nat.blt_eq] at r h ⊢; rw [hρ a h]; exact ⟨h, r.2⟩
  | .mm a, c, r, h => by simp only [renS, RepS, ltS, Nat.blt_eq] at r h ⊢; rw [hρ a h]; exact ⟨h, r.2⟩
  | .tup l, c, r, h => by simp only [renS, RepS, ltS] at r h ⊢; obtain ⟨cs, h1, h2⟩ := r; exact ⟨cs, h1, RepSL.unren hρ l _ h2 h⟩
  | .agg l, c, r, h => by simp only [renS, RepS, ltS] at r h ⊢; obtain ⟨cs, h1, h2⟩ := r; exact ⟨cs, h1, RepSL.unren hρ l _ h2 h⟩
  | .clo f a b, c, r, h => by
    simp only [renS, RepS, ltS, Bool.and_eq_true] at r h ⊢; obtain ⟨x, y, h1, h2, h3⟩ := r
    exact ⟨x, y, h1, RepSL.unren hρ a _ h2 h.1, RepSL.unren hρ b _ h3 h.2⟩
theorem RepSL.unren {ι ι0 : Iota} {m N' : Nat} {w M N sel} (hρ : ∀ i, i < m → ι0 i = ι (rn N sel i)) : ∀ (l : List SV) (cs : List Value), RepSL ι N' w M (renL N sel l) cs → ltL m l = true → RepSL ι0 m w M l cs
  | [], cs, r, _ => by simpa [renL, RepSL] using r
  | x :: l, cs, r, h => by
    simp only [renL, RepSL, ltL, Bool.and_eq_true] at r h ⊢; obtain ⟨c, cs', h1, h2, h3⟩ := r
    exact ⟨c, cs', h1, RepS.unren hρ x c h2 h.1, RepSL.unren hρ l cs' h3 h.2⟩
end

theorem StO.ren {ι ι' : Iota} {m N' : Nat} {w M N sel i o} (hρ : ∀ i, i < m → rn N sel i < N' ∧ ι' (rn N sel i) = ι i) (hi : i < m) (h : StO ι m w M i o) : StO ι' N' w M (rn N sel i) (renO N sel o) := by
  have h0 := (hρ i hi).2
  cases o with
  | dead => simp [renO, StO]
  | pin j x => simp only [renO, StO] at h ⊢; obtain ⟨h1, h2⟩ := hρ j h.1; rw [h2]; exact ⟨h1, h.2⟩
  | cells xs => simp only [renO, StO] at h ⊢; rw [h0]; obtain ⟨b, k, cs, el, h1, h2, h3, h4⟩ := h; exact ⟨b, k, cs, el, h1, h2, h3, RepSL.ren hρ _ _ h4⟩
  | arr e z els => simp only [renO, StO] at h ⊢; rw [h0]; exact h
  | map es => simp only [renO, StO] at h ⊢; rw [h0]; exact h

theorem StO.unren {ι ι0 : Iota} {m N' : Nat} {w M N sel i o} (hρ : ∀ i, i < m → ι0 i = ι (rn N sel i)) (hi : i < m) (h : StO ι N' w M (rn N sel i) (renO N sel o)) (hl : ltO m o = true) : StO ι0 m w M i o := by
  have h0 := hρ i hi
  cases o with
  | dead => simp [StO]
  | pin j x => simp only [renO, StO, ltO, Nat.blt_eq] at h hl ⊢; rw [hρ j hl]; exact ⟨hl, h.2⟩
  | cells xs => simp only [renO, StO, ltO] at h hl ⊢; rw [h0]; obtain ⟨b, k, cs, el, h1, h2, h3, h4⟩ := h; exact ⟨b, k, cs, el, h1, h2, h3, RepSL.unren hρ _ _ h4 hl⟩
  | arr e z els => simp only [renO, StO] at h ⊢; rw [h0]; exact h
  | map es => simp only [renO, StO] at h ⊢; rw [h0]; exact h

/-! ### several names are forgotten -/
mutual
def kills (mv : List Nat) : SV → SV
  | .any => .any
  | .v x => .v x
  | .ref a b => bif inL mv a then .any else .ref a b
  | .eref a b c => bif inL mv a then .any else .eref a b c
  | .ms a => bif inL mv a then .any else .ms a
  | .mm a => bif inL mv a then .any else .mm a
  | .tup l => .tup (killsL mv l)
  | .agg l => .agg (killsL mv l)
  | .clo f a b => .clo f (killsL mv a) (killsL mv b)
def killsL (mv : List Nat) : List SV → List SV
  | [] => []
  | x :: l => kills mv x :: killsL mv l
end

def killsO (mv : List Nat) : SO → SO
  | .cells xs => .cells (killsL mv xs)
  | .pin j x => bif inL mv j then .dead else .pin j x
  | .dead => .dead
  | .arr e z els => .arr e z els
  | .map es => .map es

def killsF (mv : List Nat) : List (Nat × SV) → List (Nat × SV)
  | [] => []
  | (j, s) :: l => (j, kills mv s) :: killsF mv l

def killsD (mv : List Nat) : List (Nat × List SV × List SV) → List (Nat × List SV × List SV)
  | [] => []
  | (f, a, b) :: l => (f, killsL mv a, killsL mv b) :: killsD mv l

def killsH (mv : List Nat) : List SO → List SO
  | [] => []
  | o :: l => killsO mv o :: killsH mv l

/-- where nothing moves, nothing is forgotten -/
def killsA (mv : List Nat) (α : AF) : AF :=
  match mv with
  | [] => α
  | mv => ⟨killsF mv α.s, killsD mv α.d⟩

def AgreeM (mv : List Nat) (ι : Iota) (N : Nat) (ι' : Iota) (N' : Nat) : Prop := N ≤ N' ∧ ∀ i, i < N → inL mv i = false → ι' i = ι i

mutual
theorem RepS.kills {mv ι N w M ι' N' w' M'} (ha : AgreeM mv ι N ι' N') (h : Keep w M w' M') : ∀ (s : SV) (c : Value), RepS ι N w M s c → RepS ι' N' w' M' (kills mv s) c
  | .any, _, _ => by simp [AV0.kills, RepS]
  | .v x, c, r => by simp only [AV0.kills, RepS] at r ⊢; exact Rep.keep h x c r
  | .ref a off, c, r => by
    simp only [AV0.kills]
    cases e : inL mv a with
    | true => simp [RepS]
    | false => simp only [cond_false, RepS] at r ⊢; rw [ha.2 a r.1 e]; exact ⟨Nat.lt_of_lt_of_le r.1 ha.1, r.2⟩
  | .eref a i off, c, r => by
    simp only [AV0.kills]
    cases e : inL mv a with
    | true => simp [RepS]
    | false => simp only [cond_false, RepS] at r ⊢; rw [ha.2 a r.1 e]; exact ⟨Nat.lt_of_lt_of_le r.1 ha.1, r.2⟩
  | .ms a, c, r => by
    simp only [AV0.kills]
    cases e : inL mv a with
    | true => simp [RepS]
    | false => simp only [cond_false, RepS] at r ⊢; rw [ha.2 a r.1 e]; exact ⟨Nat.lt_of_lt_of_le r.1 ha.1, r.2⟩
  | .mm a, c, r => by
    simp only [AV0.kills]
    cases e : inL mv a with
    | true => simp [RepS]
    | false => simp only [cond_false, RepS] at r ⊢; rw [ha.2 a r.1 e]; exact ⟨Nat.lt_of_lt_of_le r.1 ha.1, r.2⟩
  | .tup l, c, r => by
    simp only [AV0.kills, RepS] at r ⊢; obtain ⟨cs, h1, h2⟩ := r; exact ⟨cs, h1, RepSL.kills ha h l _ h2⟩
  | .agg l, c, r => by
    simp only [AV0.kills, RepS] at r ⊢; obtain ⟨cs, h1, h2⟩ := r; exact ⟨cs, h1, RepSL.kills ha h l _ h2⟩
  | .clo fn first cap, c, r => by
    simp only [AV0.kills, RepS] at r ⊢; obtain ⟨fs, cs, h1, h2, h3⟩ := r; exact ⟨fs, cs, h1, RepSL.kills ha h first _ h2, RepSL.kills ha h cap _ h3⟩
theorem RepSL.kills {mv ι N w M ι' N' w' M'} (ha : AgreeM mv ι N ι' N') (h : Keep w M w' M') : ∀ (l : List SV) (cs : List Value), RepSL ι N w M l cs → RepSL ι' N' w' M' (killsL mv l) cs
  | [], cs, r => by simpa [killsL, RepSL] using r
  | x :: xs, cs, r => by
    simp only [killsL, RepSL] at r ⊢; obtain ⟨c, cs', h1, h2, h3⟩ := r
    exact ⟨c, cs', h1, RepS.kills ha h x c h2, RepSL.kills ha h xs cs' h3⟩
end

theorem look_killsF (mv : List Nat) : ∀ (l : List (Nat × SV)) (i : Nat), look (killsF mv l) i = (look l i).map (kills mv)
  | [], i => rfl
  | (j, s) :: l, i => by
    simp only [killsF, look]
    cases Nat.beq i j <;> simp [look_killsF mv l i]

theorem RepD.kills {mv ι N w M ι' N' w' M'} (ha : AgreeM mv ι N ι' N') (h : Keep w M w' M') : ∀ (l : List (Nat × List SV × List SV)) (ds : List Deferred), RepD ι N w M l ds → RepD ι' N' w' M' (killsD mv l) ds
  | [], ds, r => by simpa [killsD, RepD] using r
  | (f, as, cs) :: l, ds, r => by
    simp only [killsD, RepD] at r ⊢
    obtain ⟨cs', as', ds', h1, h2, h3, h4⟩ := r
    exact ⟨cs', as', ds', h1, RepSL.kills ha h as _ h2, RepSL.kills ha h cs _ h3, RepD.kills ha h l ds' h4⟩

theorem FR.kills {mv ι N w M ι' N' w' M' n α a} (ha : AgreeM mv ι N ι' N') (h : Keep w M w' M') (H : FR ι N w M n α a) : FR ι' N' w' M' n (killsA mv α) a := by
  unfold killsA
  split
  · refine FR.keep ⟨ha.1, fun i hi => ha.2 i hi rfl⟩ h H
  refine ⟨H.size, ?_, RepD.kills ha h _ _ H.defs⟩
  intro i s hs
  simp only [look_killsF] at hs
  cases hl : look α.s i with
  | none => rw [hl] at hs; cases hs
  | some s' =>
    rw [hl] at hs; simp at hs; subst hs
    obtain ⟨c, h1, h2⟩ := H.slot i s' hl
    exact ⟨c, h1, RepS.kills ha h s' c h2⟩

theorem killsH_get (mv : List Nat) : ∀ (l : List SO) (i : Nat), (killsH mv l)[i]? = (l[i]?).map (killsO mv)
  | [], i => by simp [killsH]
  | o :: l, 0 => by simp [killsH]
  | o :: l, i + 1 => by simp [killsH, killsH_get mv l i]

theorem killsH_length (mv : List Nat) : ∀ (l : List SO), (killsH mv l).length = l.length
  | [] => rfl
  | o :: l => by simp [killsH, killsH_length mv l]

theorem live_killsO (mv : List Nat) (o : SO) : live (killsO mv o) = live o := by
  cases o <;> first | rfl | (simp only [killsO]; rename_i j _; cases inL mv j <;> rfl)

theorem StO.kills {mv ι N w M ι' N' w' M' i o} (ha : AgreeM mv ι N ι' N') (hk : Keep w M w' M') (hi : ι' i = ι i)
    (hb : ∀ b k, live o = true → ι i = some (b, k) → w'.heap[b]? = w.heap[b]? ∧ M' b) (h : StO ι N w M i o) : StO ι' N' w' M' i (killsO mv o) := by
  cases o with
  | dead => simp [killsO, StO]
  | pin j x =>
    simp only [killsO]
    cases e : inL mv j with
    | true => simp [StO]
    | false => simp only [cond_false, StO] at h ⊢; rw [ha.2 j h.1 e]; exact ⟨Nat.lt_of_lt_of_le h.1 ha.1, h.2⟩
  | cells xs =>
    simp only [killsO, StO] at h ⊢; rw [hi]
    obtain ⟨b, k, cs, el, h1, h2, h3, h4⟩ := h
    obtain ⟨g1, g2⟩ := hb b k rfl h1
    exact ⟨b, k, cs, el, h1, g2, by rw [g1]; exact h3, RepSL.kills ha hk _ _ h4⟩
  | arr e z els =>
    simp only [killsO, StO] at h ⊢; rw [hi]
    refine ⟨h.1, ?_⟩
    rcases h.2 with h | ⟨b, k, cs, el', h1, h2, h3, h4, h5, h6, h7⟩
    · exact .inl h
    · obtain ⟨g1, g2⟩ := hb b _ rfl h1
      exact .inr ⟨b, k, cs, el', h1, g2, by rw [g1]; exact h3, h4, h5, h6, RepL.keep hk _ _ h7⟩
  | map es =>
    simp only [killsO, StO] at h ⊢; rw [hi]
    obtain ⟨b, k, en, clock, h1, h2, h3, h4, h5, h6, h7⟩ := h
    obtain ⟨g1, g2⟩ := hb b k rfl h1
    exact ⟨b, k, en, clock, h1, g2, by rw [g1]; exact h3, h4, h5, h6, RepMap.keep hk _ _ h7⟩

/-! ### contracts of functions that are handed objects -/
def IPost (ι : Iota) (w : World) (M : Nat → Prop) (h : List SO) (mv : List Nat) (Q : SV → List SO → Prop) (e : Ending) (w' : World) : Prop :=
  ∃ c s h' ι' M', e = .returned c ∧ Q s h' ∧ h.length ≤ h'.length ∧ St ι' w' M' h' ∧ RepS ι' h'.length w' M' s c ∧ Grow ι w M h none ι' w' M' h' ∧ ∀ i, i < h.length → inL mv i = false → ι' i = ι i

/-- called with these arguments, where it is handed these objects, it returns; Q tells the answer, and the objects; mv are those that may have moved -/
def AImp (P : Program) (f : FuncId) (args : List SV) (h : List SO) (mv : List Nat) (Q : SV → List SO → Prop) : Prop :=
  FnOk P f ∧ ∀ ι w M cs, St ι w M h → RepSL ι h.length w M args cs → Calls P f cs.toArray w (IPost ι w M h mv Q)

theorem AImp.mono {P f args h mv} {Q Q' : SV → List SO → Prop} (x : AImp P f args h mv Q) (hq : ∀ s h', Q s h' → Q' s h') : AImp P f args h mv Q' :=
  ⟨x.1, fun ι w M cs h1 h2 => (x.2 ι w M cs h1 h2).mono fun _ _ ⟨c, s, h', ι', M', a, b, d⟩ => ⟨c, s, h', ι', M', a, hq _ _ b, d⟩⟩

/-- the same, as what was deferred -/
def ADef (P : Program) (f : FuncId) (args : List SV) (h : List SO) (mv : List Nat) (Q : SV → List SO → Prop) : Prop :=
  FnOk P f ∧ ∀ ι w M cs u, St ι w M h → RepSL ι h.length w M args cs → CallsD P f cs.toArray u w (fun e u' w' => u' = u ∧ IPost ι w M h mv Q e w')

def putAll : List SO → List Nat → List SO → List SO
  | h, [], _ => h
  | h, _, [] => h
  | h, i :: l, o :: os => putAll (h.set i o) l os

def nodupB : List Nat → Bool
  | [] => true
  | x :: l => !inL l x && nodupB l

def allLt (N : Nat) : List Nat → Bool
  | [] => true
  | x :: l => Nat.blt x N && allLt N l

def pickAll (h : List SO) : List Nat → List (Option SO)
  | [] => []
  | x :: l => nth h x :: pickAll h l

def wrapAll (N : Nat) (sel : List Nat) : List SO → List (Option SO)
  | [] => []
  | x :: l => some (renO N sel x) :: wrapAll N sel l

def takeN : List SO → List Nat → List SO
  | [], _ => []
  | _, [] => []
  | x :: l, _ :: k => x :: takeN l k

def dropN : List SO → List Nat → List SO
  | l, [] => l
  | [], _ => []
  | _ :: l, _ :: k => dropN l k

def mapN (N : Nat) (sel : List Nat) : List Nat → List Nat
  | [] => []
  | x :: l => rn N sel x :: mapN N sel l

def killsH' (mv : List Nat) (h : List SO) : List SO :=
  match mv with
  | [] => h
  | mv => killsH mv h

/-- the caller's objects behind the call -/
def patch (h : List SO) (sel mv : List Nat) (h' : List SO) : List SO :=
  putAll (killsH' (mapN h.length sel mv) h) sel (renH h.length sel (takeN h' sel)) ++ renH h.length sel (dropN h' sel)

theorem inL_iff : ∀ {l : List Nat} {i : Nat}, inL l i = true ↔ i ∈ l
  | [], i => by simp [inL]
  | x :: l, i => by
    simp only [inL, Bool.or_eq_true, List.mem_cons, inL_iff (l := l)]
    constructor
    · rintro (h | h)
      · exact .inl (Nat.eq_of_beq_eq_true h).symm
      · exact .inr h
    · rintro (h | h)
      · subst h; exact .inl (Nat.beq_refl _)
      · exact .inr h

theorem rn_lt {N : Nat} : ∀ {sel : List Nat} {i : Nat}, i < sel.length → sel[i]? = some (rn N sel i)
  | [], i, h => by simp at h
  | x :: l, 0, _ => rfl
  | x :: l, i + 1, h => by simp only [List.getElem?_cons_succ, rn]; exact rn_lt (by simpa using h)

theorem rn_ge {N : Nat} : ∀ {sel : List Nat} {i : Nat}, sel.length ≤ i → rn N sel i = N + (i - sel.length)
  | [], i, h => by simp [rn]
  | x :: l, 0, h => by simp at h
  | x :: l, i + 1, h => by simp only [rn, List.length_cons]; rw [rn_ge (by simpa using h)]; congr 1; omega

theorem takeN_eq : ∀ {l : List SO} {k : List Nat}, takeN l k = l.take k.length
  | [], k => by simp [takeN]
  | x :: l, [] => by simp [takeN]
  | x :: l, _ :: k => by simp [takeN, takeN_eq (l := l) (k := k)]

theorem dropN_eq : ∀ {l : List SO} {k : List Nat}, dropN l k = l.drop k.length
  | [], [] => by simp [dropN]
  | [], _ :: k => by simp [dropN]
  | x :: l, [] => by simp [dropN]
  | x :: l, _ :: k => by simp [dropN, dropN_eq (l := l) (k := k)]

theorem pick_eq {N : Nat} {sel' : List Nat} {h : List SO} : ∀ {sel : List Nat} {h0 : List SO}, pickAll h sel = wrapAll N sel' h0 → sel.length = h0.length ∧ ∀ (i : Nat) o, h0[i]? = some o → ∃ j, sel[i]? = some j ∧ h[j]? = some (renO N sel' o)
  | [], [], _ => ⟨rfl, by simp⟩
  | [], _ :: _, e => by simp [pickAll, wrapAll] at e
  | _ :: _, [], e => by simp [pickAll, wrapAll] at e
  | x :: l, o :: os, e => by
    simp only [pickAll, wrapAll, List.cons.injEq] at e
    obtain ⟨h1, h2⟩ := pick_eq (sel := l) (h0 := os) e.2
    refine ⟨by simp [h1], ?_⟩
    intro i o' ho'
    cases i with
    | zero => simp at ho'; subst ho'; exact ⟨x, rfl, by rw [← nth_eq]; exact e.1⟩
    | succ i => simpa using h2 i o' (by simpa using ho')

theorem putAll_length : ∀ {sel : List Nat} {os : List SO} {h : List SO}, (putAll h sel os).length = h.length
  | [], _, h => by simp [putAll]
  | _ :: _, [], h => by simp [putAll]
  | x :: l, o :: os, h => by simp only [putAll]; rw [putAll_length]; simp

theorem putAll_get : ∀ {sel : List Nat} {os : List SO} {h : List SO} {j : Nat} {y : SO}, nodupB sel = true → os.length = sel.length → (putAll h sel os)[j]? = some y →
    (∃ k : Nat, sel[k]? = some j ∧ os[k]? = some y) ∨ (¬ j ∈ sel ∧ h[j]? = some y)
  | [], os, h, j, y, _, _, e => by simp only [putAll] at e; exact .inr ⟨by simp, e⟩
  | x :: l, [], h, j, y, _, hl, _ => by simp at hl
  | x :: l, o :: os, h, j, y, hn, hl, e => by
    simp only [nodupB, Bool.and_eq_true, Bool.not_eq_true'] at hn
    simp only [putAll] at e
    rcases putAll_get hn.2 (by simpa using hl) e with ⟨k, h1, h2⟩ | ⟨h1, h2⟩
    · exact .inl ⟨k + 1, by simpa using h1, by simpa using h2⟩
    · rcases set_get h2 with ⟨rfl, rfl, _⟩ | ⟨hne, h2⟩
      · exact .inl ⟨0, by simp, by simp⟩
      · exact .inr ⟨by simp [h1, hne], h2⟩

def idxN : List Nat → Nat → Option Nat
  | [], _ => none
  | x :: l, j => if x = j then some 0 else (idxN l j).map (· + 1)

theorem idxN_some : ∀ {sel : List Nat} {k j : Nat}, nodupB sel = true → sel[k]? = some j → idxN sel j = some k
  | [], k, j, _, h => by simp at h
  | x :: l, 0, j, hn, h => by simp at h; simp [idxN, h]
  | x :: l, k + 1, j, hn, h => by
    simp only [nodupB, Bool.and_eq_true, Bool.not_eq_true'] at hn
    have h' : l[k]? = some j := by simpa using h
    have hne : x ≠ j := by
      intro e; subst e
      have := inL_iff.2 (List.mem_of_getElem? h')
      rw [hn.1] at this; cases this
    simp [idxN, hne, idxN_some hn.2 h']

theorem idxN_none : ∀ {sel : List Nat} {j : Nat}, ¬ j ∈ sel → idxN sel j = none
  | [], j, _ => rfl
  | x :: l, j, h => by
    simp only [List.mem_cons, not_or] at h
    simp [idxN, Ne.symm h.1, idxN_none h.2]

theorem allLt_ok {N : Nat} : ∀ {sel : List Nat}, allLt N sel = true → ∀ j ∈ sel, j < N
  | [], _, j, hj => by cases hj
  | x :: l, h, j, hj => by
    simp only [allLt, Bool.and_eq_true, Nat.blt_eq] at h
    rcases List.mem_cons.1 hj with rfl | hj
    · exact h.1
    · exact allLt_ok h.2 j hj

/-- from the callee's state to the caller's -/
theorem ipost_cpost {ι w M h us n α a K} {h0 : List SO} {mv sel : List Nat} {Q : SV → List SO → Prop} {e : Ending} {w' : World} (H : St ι w M h) (F : FR ι h.length w M n α a)
    (hpick : pickAll h sel = wrapAll h.length sel h0) (hlt : ltH sel.length h0 = true) (hnd : nodupB sel = true) (hal : allLt h.length sel = true) (hus : sel.all (inU us) = true) (hk : ∀ s h', Q s h' → sel.length ≤ h'.length → K (renS h.length sel s) (killsA (mapN h.length sel mv) α) (patch h sel mv h')) :
    St (fun i => if i < sel.length then ι (rn h.length sel i) else none) w M h0 ∧ (∀ {args cs}, ltL sel.length args = true → RepSL ι h.length w M (renL h.length sel args) cs → RepSL (fun i => if i < sel.length then ι (rn h.length sel i) else none) h0.length w M args cs) ∧
    (IPost (fun i => if i < sel.length then ι (rn h.length sel i) else none) w M h0 mv Q e w' → CPost ι w M h us n a K e w') := by
  obtain ⟨hlen, hobj⟩ := pick_eq hpick
  have hρ0 : ∀ i, i < sel.length → (fun i => if i < sel.length then ι (rn h.length sel i) else none) i = ι (rn h.length sel i) := fun i hi => by simp [hi]
  generalize hι0 : (fun i => if i < sel.length then ι (rn h.length sel i) else none) = ι0 at hρ0 ⊢
  have hselN : ∀ {i j : Nat}, sel[i]? = some j → j < h.length := fun h1 => allLt_ok hal _ (List.mem_of_getElem? h1)
  have hrn : ∀ {i j : Nat}, sel[i]? = some j → rn h.length sel i = j := fun {i j} h1 => by
    have := rn_lt (N := h.length) (get_lt h1)
    rw [h1] at this; cases this; rfl
  have hobj' : ∀ (i : Nat) o, h0[i]? = some o → i < sel.length ∧ h[rn h.length sel i]? = some (renO h.length sel o) := by
    intro i o ho
    obtain ⟨j, h1, h2⟩ := hobj i o ho
    rw [hrn h1]; exact ⟨get_lt h1, h2⟩
  have hinj : ∀ i j, i < sel.length → j < sel.length → rn h.length sel i = rn h.length sel j → i = j := by
    intro i j hi hj e
    have h1 := idxN_some hnd (rn_lt (N := h.length) hi)
    have h2 := idxN_some hnd (rn_lt (N := h.length) hj)
    rw [e, h2] at h1; cases h1; rfl
  have H0 : St ι0 w M h0 := by
    refine ⟨?_, ?_, H.mlt, H.gl⟩
    · intro i o ho
      obtain ⟨h1, h2⟩ := hobj' i o ho
      rw [← hlen]
      exact StO.unren hρ0 h1 (H.objs _ _ h2) (ltH_get hlt i o ho)
    · intro i j oi oj b k k' h1 h2 l1 l2 e1 e2
      obtain ⟨g1, g2⟩ := hobj' i oi h1
      obtain ⟨g3, g4⟩ := hobj' j oj h2
      rw [hρ0 i g1] at e1
      rw [hρ0 j g3] at e2
      exact hinj i j g1 g3 (H.dist _ _ _ _ b k k' g2 g4 (by rw [live_renO]; exact l1) (by rw [live_renO]; exact l2) e1 e2)
  refine ⟨H0, fun {args cs} hl hr => by rw [← hlen]; exact RepSL.unren hρ0 _ _ hr hl, ?_⟩
  rintro ⟨c, s, h', ι', M', rfl, q1, q2, q3, q4, q5, q6⟩
  rw [← hlen] at q2 q6
  have hown0 : ∀ {b}, own ι0 h0 b → own ι h b := by
    rintro b ⟨i, o, k, h1, h2, h3⟩
    obtain ⟨g1, g2⟩ := hobj' i o h1
    rw [hρ0 i g1] at h3
    exact ⟨_, _, k, g2, by rw [live_renO]; exact h2, h3⟩
  have hownU : ∀ {b}, own ι0 h0 b → ownT ι h us b := by
    rintro b ⟨i, o, k, h1, h2, h3⟩
    obtain ⟨g1, g2⟩ := hobj' i o h1
    rw [hρ0 i g1] at h3
    exact ⟨_, _, k, List.all_eq_true.1 hus _ (List.mem_of_getElem? (rn_lt (N := h.length) g1)), g2, by rw [live_renO]; exact h2, h3⟩
  have hkp : Keep w M w' M' := q5.keepM H0
  let ι2 : Iota := fun j => if j < h.length then (match idxN sel j with | some k => ι' k | none => ι j) else ι' (j - h.length + sel.length)
  have hι2 : ∀ i, ι2 (rn h.length sel i) = ι' i := by
    intro i
    rcases Nat.lt_or_ge i sel.length with hi | hi
    · have h1 := rn_lt (N := h.length) hi
      show (if _ < _ then _ else _) = _
      rw [if_pos (hselN h1), idxN_some hnd h1]
    · show (if _ < _ then _ else _) = _
      rw [rn_ge hi, if_neg (by omega)]
      congr 1; omega
  have hι2' : ∀ j, j < h.length → ¬ j ∈ sel → ι2 j = ι j := by
    intro j hj hn
    show (if _ < _ then _ else _) = _
    rw [if_pos hj, idxN_none hn]
  have hplen : (patch h sel mv h').length = h.length + (h'.length - sel.length) := by
    unfold patch killsH'
    rw [List.length_append, putAll_length, renH_length, dropN_eq, List.length_drop]
    split <;> simp [killsH_length]
  have hag : AgreeM (mapN h.length sel mv) ι h.length ι2 (patch h sel mv h').length := by
    refine ⟨by rw [hplen]; omega, ?_⟩
    intro j hj hn
    by_cases hs : j ∈ sel
    · obtain ⟨k, hk1⟩ := List.mem_iff_getElem?.1 hs
      have hkl := get_lt hk1
      have hkr := hrn hk1
      rw [← hkr, hι2 k, q6 k hkl ?_, hρ0 k hkl]
      cases hm : inL mv k with
      | false => rfl
      | true =>
        exfalso
        have : ∀ l : List Nat, inL l k = true → inL (mapN h.length sel l) (rn h.length sel k) = true := by
          intro l
          induction l with
          | nil => simp [inL]
          | cons x l ih =>
            simp only [inL, mapN, Bool.or_eq_true]
            rintro (e | e)
            · have := Nat.eq_of_beq_eq_true e; subst this; exact .inl (Nat.beq_refl _)
            · exact .inr (ih e)
        have h9 := this mv hm
        rw [hkr, hn] at h9
        cases h9
    · exact hι2' j hj hs
  have hρ2 : ∀ i, i < h'.length → rn h.length sel i < (patch h sel mv h').length ∧ ι2 (rn h.length sel i) = ι' i := by
    intro i hi
    refine ⟨?_, hι2 i⟩
    rw [hplen]
    rcases Nat.lt_or_ge i sel.length with h1 | h1
    · have := hselN (rn_lt (N := h.length) h1); omega
    · rw [rn_ge h1]; omega
  have hget : ∀ j y, (patch h sel mv h')[j]? = some y → (∃ i o, h'[i]? = some o ∧ j = rn h.length sel i ∧ y = renO h.length sel o) ∨ (j < h.length ∧ ¬ j ∈ sel ∧ ∃ o, h[j]? = some o ∧ live y = live o ∧ ((y = o ∧ mapN h.length sel mv = []) ∨ y = killsO (mapN h.length sel mv) o)) := by
    intro j y hy
    unfold patch at hy
    rcases Nat.lt_or_ge j h.length with hj | hj
    · have hkl : (killsH' (mapN h.length sel mv) h).length = h.length := by unfold killsH'; split <;> simp [killsH_length]
      rw [List.getElem?_append_left (by rw [putAll_length, hkl]; exact hj)] at hy
      rcases putAll_get hnd (by rw [renH_length, takeN_eq, List.length_take]; omega) hy with ⟨k, h1, h2⟩ | ⟨h1, h2⟩
      · left
        rw [renH_get, takeN_eq, List.getElem?_take, if_pos (get_lt h1)] at h2
        cases h3 : h'[k]? with
        | none => rw [h3] at h2; cases h2
        | some o => rw [h3] at h2; simp at h2; exact ⟨k, o, h3, (hrn h1).symm, h2.symm⟩
      · right
        refine ⟨hj, h1, ?_⟩
        unfold killsH' at h2
        split at h2
        · rename_i he; exact ⟨y, h2, rfl, .inl ⟨rfl, he⟩⟩
        · rw [killsH_get] at h2
          cases h3 : h[j]? with
          | none => rw [h3] at h2; cases h2
          | some o => rw [h3] at h2; simp at h2; subst h2; exact ⟨o, rfl, live_killsO _ _, .inr rfl⟩
    · left
      have hkl : (killsH' (mapN h.length sel mv) h).length = h.length := by unfold killsH'; split <;> simp [killsH_length]
      rw [List.getElem?_append_right (by rw [putAll_length, hkl]; exact hj), putAll_length, hkl, renH_get, dropN_eq, List.getElem?_drop] at hy
      cases h3 : h'[sel.length + (j - h.length)]? with
      | none => rw [h3] at hy; cases hy
      | some o =>
        rw [h3] at hy; simp at hy
        refine ⟨_, o, h3, ?_, hy.symm⟩
        rw [rn_ge (by omega)]; omega
  have hoth : ∀ {j o b k}, j < h.length → ¬ j ∈ sel → h[j]? = some o → live o = true → ι j = some (b, k) → ¬ own ι0 h0 b := by
    rintro j o b k hj hn ho hl he ⟨i, o', k', h1, h2, h3⟩
    obtain ⟨g1, g2⟩ := hobj' i o' h1
    rw [hρ0 i g1] at h3
    have := H.dist _ _ _ _ b k k' ho g2 hl (by rw [live_renO]; exact h2) he h3
    exact hn (this ▸ List.mem_of_getElem? (rn_lt (N := h.length) g1))
  have hblk : ∀ {j o b k}, h[j]? = some o → live o = true → ι j = some (b, k) → b < w.heap.size := fun h1 h2 h3 => H.mlt _ (H.ownM ⟨_, _, _, h1, h2, h3⟩)
  have hown2 : ∀ b, b < w.heap.size → own ι2 (patch h sel mv h') b → (own ι0 h0 b ∨ ∃ j o k, ¬ j ∈ sel ∧ j < h.length ∧ h[j]? = some o ∧ live o = true ∧ ι j = some (b, k) ∧ ∀ j' y k', (patch h sel mv h')[j']? = some y → live y = true → ι2 j' = some (b, k') → j' = j) := by
    rintro b hb ⟨j, y, k, h1, h2, h3⟩
    rcases hget j y h1 with ⟨i, o, g1, rfl, rfl⟩ | ⟨g1, g2, o, g3, g4, _⟩
    · left
      rw [hι2] at h3
      rw [live_renO] at h2
      exact q5.own1 b hb ⟨i, o, k, g1, h2, h3⟩
    · right
      rw [hι2' j g1 g2] at h3
      rw [g4] at h2
      refine ⟨j, o, k, g2, g1, g3, h2, h3, ?_⟩
      intro j' y' k' e1 e2 e3
      rcases hget j' y' e1 with ⟨i, o', f1, rfl, rfl⟩ | ⟨f1, f2, o', f3, f4, _⟩
      · rw [hι2] at e3; rw [live_renO] at e2
        exact absurd (q5.own1 b hb ⟨i, o', k', f1, e2, e3⟩) (hoth g1 g2 g3 h2 h3)
      · rw [hι2' j' f1 f2] at e3; rw [f4] at e2
        exact H.dist _ _ _ _ b k' k f3 g3 e2 h2 e3 h3
  refine ⟨c, _, _, patch h sel mv h', ι2, M', rfl, hk s h' q1 q2, ⟨?_, ?_, q3.mlt, q3.gl⟩, F.kills hag hkp, RepS.ren hρ2 _ _ q4, ?_⟩
  · intro j y hy
    rcases hget j y hy with ⟨i, o, g1, rfl, rfl⟩ | ⟨g1, g2, o, g3, g4, g5⟩
    · exact StO.ren hρ2 (get_lt g1) (q3.objs i o g1)
    · have hb : ∀ b k, live o = true → ι j = some (b, k) → w'.heap[b]? = w.heap[b]? ∧ M' b := by
        intro b k l e
        have hno := hoth g1 g2 g3 l e
        exact ⟨q5.keep b (hblk g3 l e) (fun ho => hno ho.own), q5.m2 b ((H.objs j o g3).ownM l e) hno⟩
      rcases g5 with ⟨rfl, he⟩ | rfl
      · exact StO.keep ⟨hag.1, fun i hi => hag.2 i hi (by rw [he]; rfl)⟩ hkp (hι2' j g1 g2) hb (H.objs j _ g3)
      · exact StO.kills hag hkp (hι2' j g1 g2) hb (H.objs j o g3)
  · intro i j oi oj b k k' h1 h2 l1 l2 e1 e2
    rcases hget i oi h1 with ⟨i', o1, g1, rfl, rfl⟩ | ⟨g1, g2, o1, g3, g4, g5⟩ <;> rcases hget j oj h2 with ⟨j', o2, f1, rfl, rfl⟩ | ⟨f1, f2, o2, f3, f4, f5⟩
    · rw [hι2] at e1 e2; rw [live_renO] at l1 l2
      rw [q3.dist i' j' o1 o2 b k k' g1 f1 l1 l2 e1 e2]
    · rw [hι2' j f1 f2] at e2; rw [f4] at l2
      rw [hι2] at e1; rw [live_renO] at l1
      exact absurd (q5.own1 b (hblk f3 l2 e2) ⟨i', o1, k, g1, l1, e1⟩) (hoth f1 f2 f3 l2 e2)
    · rw [hι2' i g1 g2] at e1; rw [g4] at l1
      rw [hι2] at e2; rw [live_renO] at l2
      exact absurd (q5.own1 b (hblk g3 l1 e1) ⟨j', o2, k', f1, l2, e2⟩) (hoth g1 g2 g3 l1 e1)
    · rw [hι2' i g1 g2] at e1; rw [g4] at l1
      rw [hι2' j f1 f2] at e2; rw [f4] at l2
      exact H.dist _ _ _ _ b k k' g3 f3 l1 l2 e1 e2
  · refine ⟨q5.os, q5.tape, q5.output, q5.size, ?_, q5.m1, ?_, ?_, ?_⟩
    · intro b hb hn
      exact q5.keep b hb (fun ho => hn (hownU ho.own))
    · intro b hm hn
      exact q5.m2 b hm (fun ho => hn (hown0 ho))
    · intro b hb ho
      rcases hown2 b hb ho with h1 | ⟨j, o, k, h1, h2, h3, h4, h5, _⟩
      · exact hown0 h1
      · exact ⟨j, o, k, h3, h4, h5⟩
    · rintro b hb ⟨i, y, k, h0', h1, h2, h3⟩
      rcases hown2 b hb ⟨i, y, k, h1, h2, h3⟩ with g1 | ⟨j, o, k', g1, g2, g3, g4, g5, g6⟩
      · exact hownU g1
      · have := g6 i y k h1 h2 h3
        subst this
        exact ⟨i, o, k', h0', g3, g4, g5⟩

/-- a call that hands on objects of one's own -/
theorem call_imp {P us f args α h K} {args0 : List SV} {h0 : List SO} {mv : List Nat} {Q : SV → List SO → Prop} (hp : AImp P f args0 h0 mv Q) (sel : List Nat) (hargs : renL h.length sel args0 = args) (hpick : pickAll h sel = wrapAll h.length sel h0)
    (hchk : (ltL sel.length args0 && ltH sel.length h0 && nodupB sel && allLt h.length sel && sel.all (inU us)) = true)
    (hk : ∀ s h', Q s h' → sel.length ≤ h'.length → K (renS h.length sel s) (killsA (mapN h.length sel mv) α) (patch h sel mv h')) : CallEv P us f args α h K := by
  refine CallEv.intro hp.1 ?_
  intro ι w M n a cs H F hr
  simp only [Bool.and_eq_true] at hchk
  obtain ⟨⟨⟨⟨h1, h2⟩, h3⟩, h4⟩, h5⟩ := hchk
  obtain ⟨g1, g2, _⟩ := ipost_cpost (e := .outgrown) (w' := w) (mv := mv) (Q := Q) H F hpick h2 h3 h4 h5 hk
  subst hargs
  refine (hp.2 _ w M cs g1 (g2 h1 hr)).mono ?_
  intro e w' hq
  exact (ipost_cpost (e := e) (w' := w') H F hpick h2 h3 h4 h5 hk).2.2 hq

end Go.AV0
/- Contracts of functions that are handed objects, out of their code. -/
namespace Go.AV0

/-- behind a call: all in plain form -/
def behind (mv : List Nat) (s : SV) (α : AF) (h : List SO) (K : SV → AF → List SO → Prop) : Prop :=
  nfS s fun s => nfH h fun h => match mv with
    | [] => K s α h
    | mv => nfF (killsF mv α.s) fun l => K s ⟨l, killsD mv α.d⟩ h

theorem behind_eq {mv s α h K} : behind mv s α h K = K s (killsA mv α) h := by
  unfold behind killsA
  rw [nfS_eq, nfH_eq]
  cases mv with
  | nil => rfl
  | cons x l => simp only; rw [nfF_eq]

theorem call_obj {P us f args α h K} {args0 : List SV} {h0 : List SO} {mv : List Nat} {Q : SV → List SO → Prop} (hp : AImp P f args0 h0 mv Q) (sel : List Nat) (hargs : renL h.length sel args0 = args) (hpick : pickAll h sel = wrapAll h.length sel h0)
    (hchk : (ltL sel.length args0 && ltH sel.length h0 && nodupB sel && allLt h.length sel && sel.all (inU us)) = true)
    (hk : ∀ s h', Q s h' → behind (mapN h.length sel mv) (renS h.length sel s) α (patch h sel mv h') K) : CallEv P us f args α h K :=
  call_imp hp sel hargs hpick hchk fun s h' hq _ => by have := hk s h' hq; rwa [behind_eq] at this

/-! ### what was deferred -/
@[irreducible] def DefEv (P : Program) (f : FuncId) (args : List SV) (α : AF) (h : List SO) (K : List SO → Prop) : Prop :=
  FnOk P f ∧ ∀ ι w M n a cs u, St ι w M h → FR ι h.length w M n α a → RepSL ι h.length w M args cs → CallsD P f cs.toArray u w (fun e u' w' => u' = u ∧ CPost ι w M h none n a (fun _ α' h' => α' = α ∧ K h') e w')

theorem def_obj {P f args α h} {K : List SO → Prop} {args0 : List SV} {h0 : List SO} {Q : SV → List SO → Prop} (hp : ADef P f args0 h0 [] Q) (sel : List Nat) (hargs : renL h.length sel args0 = args) (hpick : pickAll h sel = wrapAll h.length sel h0)
    (hchk : (ltL sel.length args0 && ltH sel.length h0 && nodupB sel && allLt h.length sel) = true)
    (hk : ∀ s h', Q s h' → nfH (patch h sel [] h') K) : DefEv P f args α h K := by
  unfold DefEv
  refine ⟨hp.1, ?_⟩
  intro ι w M n a cs u H F hr
  simp only [Bool.and_eq_true] at hchk
  obtain ⟨⟨⟨h1, h2⟩, h3⟩, h4⟩ := hchk
  have h5 : sel.all (inU none) = true := by simp [inU]
  have hk' : ∀ s h', Q s h' → sel.length ≤ h'.length → (fun (_ : SV) (α' : AF) (h' : List SO) => α' = α ∧ K h') (renS h.length sel s) (killsA (mapN h.length sel []) α) (patch h sel [] h') := fun s h' hq _ => ⟨rfl, by have := hk s h' hq; rwa [nfH_eq] at this⟩
  obtain ⟨g1, g2, _⟩ := ipost_cpost (e := .outgrown) (w' := w) (us := none) (K := fun _ α' h' => α' = α ∧ K h') (mv := []) (Q := Q) H F hpick h2 h3 h4 h5 hk'
  subst hargs
  refine (hp.2 _ w M cs u g1 (g2 h1 hr)).mono ?_
  rintro e u' w' ⟨hu, hq⟩
  exact ⟨hu, (ipost_cpost (e := e) (w' := w') (us := none) (K := fun _ α' h' => α' = α ∧ K h') (mv := []) (Q := Q) H F hpick h2 h3 h4 h5 hk').2.2 hq⟩

/-! ### the end -/
/-- what is one's own and goes out is frozen, but not what one was handed -/
def retI : Nat → Nat → SV → List SO → (SV → List SO → Prop) → Prop
  | 0, _, s, h, k => nfS s fun s => nfH h fun h => k s h
  | n + 1, lo, s, h, k => match nextId 20 h s with
    | some id => bif Nat.blt id lo then nfS s fun s => nfH h fun h => k s h else onO (nth h id) fun o => bif live o then retI n lo (frz id o s) ((frzH id o h).set id .dead) k else False
    | none => match plainS s with
      | some x => nfH h fun h => k (.v x) h
      | none => nfS s fun s => nfH h fun h => k s h

theorem retI_ok : ∀ (n lo : Nat) {s : SV} {h : List SO} {k : SV → List SO → Prop} {ι w M c}, retI n lo s h k → St ι w M h → RepS ι h.length w M s c →
    ∃ M' s' h', k s' h' ∧ St ι w M' h' ∧ RepS ι h'.length w M' s' c ∧ Grow ι w M h none ι w M' h'
  | 0, lo, s, h, k, ι, w, M, c, hv, H, hs => by
    simp only [retI, nfS_eq, nfH_eq] at hv
    exact ⟨M, s, h, hv, H, hs, Grow.refl ι w M h none⟩
  | n + 1, lo, s, h, k, ι, w, M, c, hv, H, hs => by
    simp only [retI, nfS_eq, nfH_eq] at hv
    split at hv
    · rename_i id _
      cases hb : Nat.blt id lo with
      | true => rw [hb] at hv; exact ⟨M, s, h, hv, H, hs, Grow.refl ι w M h none⟩
      | false =>
        rw [hb] at hv; simp only [cond_false] at hv
        obtain ⟨o, ho, hv⟩ := onO_some hv
        cases hl : live o with
        | false => rw [hl] at hv; exact hv.elim
        | true =>
          rw [hl] at hv; simp only [cond_true] at hv
          rw [nth_eq] at ho
          obtain ⟨M', g1, g2, g3, g4⟩ := H.freeze none ho hl
          have hlen : ((frzH id o h).set id .dead).length = h.length := by simp [frzH_length]
          obtain ⟨M2, s', h', k1, k2, k3, k4⟩ := retI_ok n lo hv g1 (by rw [hlen]; exact RepS.frz g2 g3 _ _ hs)
          exact ⟨M2, s', h', k1, k2, k3, g4.trans H.mlt k4⟩
    · split at hv
      · rename_i x hx
        exact ⟨M, .v x, h, hv, H, by simp only [RepS]; exact plainS_ok hx hs, Grow.refl ι w M h none⟩
      · exact ⟨M, s, h, hv, H, hs, Grow.refl ι w M h none⟩

def pinL (p : Iota) : Nat → Nat → List SO
  | _, 0 => []
  | k, n + 1 => .pin k (p k) :: pinL p (k + 1) n

theorem pinL_get (p : Iota) : ∀ (n k i : Nat) o, (pinL p k n)[i]? = some o → i < n ∧ o = .pin (k + i) (p (k + i))
  | 0, k, i, o, h => by simp [pinL] at h
  | n + 1, k, 0, o, h => by simp [pinL] at h; exact ⟨by omega, h.symm⟩
  | n + 1, k, i + 1, o, h => by
    simp only [pinL, List.getElem?_cons_succ] at h
    obtain ⟨h1, h2⟩ := pinL_get p n (k + 1) i o h
    have h3 : k + 1 + i = k + (i + 1) := by omega
    exact ⟨by omega, by rw [h2, h3]⟩

/-- what may not have moved lies where it lay -/
def pinsOk (mv : List Nat) (p : Iota) (h : List SO) (m : Nat) : Nat → Nat → Prop
  | _, 0 => True
  | k, n + 1 => (bif inL mv k then True else nth h (m + k) = some (.pin k (p k))) ∧ pinsOk mv p h m (k + 1) n

theorem pinsOk_get {mv : List Nat} {p : Iota} {h : List SO} {m : Nat} : ∀ {n k : Nat}, pinsOk mv p h m k n → ∀ i, k ≤ i → i < k + n → inL mv i = false → h[m + i]? = some (.pin i (p i))
  | 0, k, _, i, h1, h2, _ => by omega
  | n + 1, k, hp, i, h1, h2, h3 => by
    simp only [pinsOk] at hp
    rcases Nat.lt_or_ge k i with h4 | h4
    · exact pinsOk_get hp.2 i (by omega) (by omega) h3
    · have : i = k := by omega
      subst this
      have := hp.1
      rw [h3, nth_eq] at this
      exact this

def FinI (mv : List Nat) (p : Iota) (m : Nat) (Q : SV → List SO → Prop) (s : SV) (h : List SO) : Prop :=
  pinsOk mv p h m 0 m ∧ ∃ k, (Nat.ble m k && Nat.ble k h.length && ltH k (h.take k) && ltS k s) = true ∧ Q s (h.take k)

def leaveV (P : Program) (T : TT) (rs : List ResultVar) (lo : Nat) (fin : SV → List SO → Prop) (s : List (Nat × SV)) : List (Nat × List SV × List SV) → List SO → Prop
  | [], h => resV T rs ⟨s, []⟩ h fun l => retI 20 lo (tupS l) h fin
  | (f, as, cs) :: l, h => DefEv P f (as ++ cs) ⟨s, l⟩ h fun h' => leaveV P T rs lo fin s l h'

def RetI (P : Program) (T : TT) (rs : List ResultVar) (lo : Nat) (fin : SV → List SO → Prop) (e : Exit) (α : AF) (h : List SO) : Prop :=
  match e with
  | .normal => leaveV P T rs lo fin α.s α.d h
  | .ret => leaveV P T rs lo fin α.s α.d h
  | _ => False

theorem St.shrink {ι w M h} (H : St ι w M h) (k : Nat) (hk : ltH k (h.take k) = true) (hl : k ≤ h.length) : St ι w M (h.take k) ∧ Grow ι w M h none ι w M (h.take k) := by
  have hlen : (h.take k).length = k := by simp; omega
  have F : FR ι h.length w M 0 ⟨[], []⟩ { tmps := #[], defers := [] } := ⟨rfl, fun i s h => by simp [look] at h, by simp [RepD]⟩
  have S : Sub ⟨[], []⟩ h ⟨[], []⟩ (h.take k) := ⟨rfl, rfl, by simp [SubF], ⟨h.drop k, (List.take_append_drop k h).symm⟩, by rw [hlen]; exact hk⟩
  obtain ⟨a, _, c⟩ := S.st H F
  exact ⟨a, c none⟩

theorem St.pins {ι w M h} (H : St ι w M h) : St ι w M (h ++ pinL ι 0 h.length) := by
  have hget : ∀ i x, (h ++ pinL ι 0 h.length)[i]? = some x → (i < h.length ∧ h[i]? = some x) ∨ (∃ j, j < h.length ∧ x = .pin j (ι j)) := by
    intro i x hx
    rcases Nat.lt_or_ge i h.length with hi | hi
    · rw [List.getElem?_append_left hi] at hx; exact .inl ⟨hi, hx⟩
    · rw [List.getElem?_append_right hi] at hx
      obtain ⟨h1, h2⟩ := pinL_get _ _ _ _ _ hx
      exact .inr ⟨_, h1, by simpa using h2⟩
  refine ⟨?_, ?_, H.mlt, H.gl⟩
  · intro i o ho
    rcases hget i o ho with ⟨h1, h2⟩ | ⟨j, h1, rfl⟩
    · exact StO.keep ⟨by simp, fun _ _ => rfl⟩ (fun b _ hm => ⟨hm, rfl⟩) rfl (fun b k l e => ⟨rfl, (H.objs i o h2).ownM l e⟩) (H.objs i o h2)
    · simp only [StO]; exact ⟨by simp; omega, trivial⟩
  · intro i j oi oj b k k' h1 h2 l1 l2 e1 e2
    rcases hget i oi h1 with ⟨g1, g2⟩ | ⟨_, _, rfl⟩
    · rcases hget j oj h2 with ⟨g3, g4⟩ | ⟨_, _, rfl⟩
      · exact H.dist i j oi oj b k k' g2 g4 l1 l2 e1 e2
      · simp [live] at l2
    · simp [live] at l1

theorem own_pins {ι h b} (x : own ι (h ++ pinL ι 0 h.length) b) : own ι h b := by
  obtain ⟨i, o, k, h1, h2, h3⟩ := x
  rcases Nat.lt_or_ge i h.length with hi | hi
  · rw [List.getElem?_append_left hi] at h1; exact ⟨i, o, k, h1, h2, h3⟩
  · rw [List.getElem?_append_right hi] at h1
    obtain ⟨_, h4⟩ := pinL_get _ _ _ _ _ h1
    subst h4; simp [live] at h2

theorem ownN {ι h b} : ownT ι h none b ↔ own ι h b := ⟨fun x => x.own, fun ⟨i, o, k, h⟩ => ⟨i, o, k, rfl, h⟩⟩

theorem leave_ok {P : Program} {T : TT} (hT : T.all P = true) {fn : Func} {rs : List ResultVar} (hr : fn.results.toList = rs) {lo : Nat} {fin : SV → List SO → Prop} {ι0 w0 M0 h0} (hM0 : ∀ b, M0 b → b < w0.heap.size) {R : Ending → World → Prop}
    (hR : ∀ c s h ι w M, fin s h → St ι w M h → RepS ι h.length w M s c → Grow ι0 w0 M0 h0 none ι w M h → R (.returned c) w) :
    ∀ (d : List (Nat × List SV × List SV)) {s h ι w M n a}, leaveV P T rs lo fin s d h → St ι w M h → FR ι h.length w M n ⟨s, d⟩ a → Grow ι0 w0 M0 h0 none ι w M h → Leaves P fn a.tmps R a.defers .returning w
  | [], s, h, ι, w, M, n, a, hv, H, F, G => by
    simp only [leaveV] at hv
    have hdef := F.defs
    simp only [RepD] at hdef
    rw [hdef]
    obtain ⟨r, vs, g1, g2, g3⟩ := resV_ok hT H F hv
    obtain ⟨M2, s', h', k1, k2, k3, k4⟩ := retI_ok 20 lo g1 H (tupS_ok g2)
    have hrun : (results fn a.tmps).run P w = .ok (if h : vs.toArray.size = 1 then vs.toArray[0] else .tuple vs.toArray) w := by
      rw [results_eq, Array.mapM_eq_mapM_toList, hr]
      simp only [Sem.run_bind, Sem.run_map, g3, Result.andThen_ok, Sem.run_pure]
    exact ⟨_, hrun, hR _ _ _ _ _ _ k1 k2 k3 (G.trans hM0 k4)⟩
  | (f, as, cs) :: l, s, h, ι, w, M, n, a, hv, H, F, G => by
    simp only [leaveV] at hv
    unfold DefEv at hv
    obtain ⟨hok, hv⟩ := hv
    have hdef := F.defs
    simp only [RepD] at hdef
    obtain ⟨cs', as', ds', h1, h2, h3, h4⟩ := hdef
    rw [h1]
    have F' : FR ι h.length w M n ⟨s, l⟩ { a with defers := ds' } := ⟨F.size, F.slot, h4⟩
    refine leaves_cons (f := f) (args := (as'.toList ++ cs'.toList).toArray) (by simp) ?_ ?_
    · simp only [invoke]
      rw [run_callFunc hok]
      congr 2
      apply Array.ext'
      simp
    · refine (hv ι w M n { a with defers := ds' } _ .returning H F' (h2.append h3)).mono ?_
      rintro e u' w' ⟨rfl, c, s', α', h', ι', M', rfl, ⟨rfl, hk⟩, q1, q2, q3, q4⟩
      exact leave_ok hT hr hM0 hR l (a := { a with defers := ds' }) hk q1 q2 (G.trans hM0 q4)

/-- the body, from its start on -/
theorem imp_body {P : Program} {T : TT} (hT : T.all P = true) {fn : Func} {c : Code} {args : List SV} {h : List SO} {mv : List Nat} {Q : SV → List SO → Prop} {rs : List ResultVar} (hlen : Nat.ble args.length fn.ntmps = true)
    (hv : ∀ p : Iota, nfH (h ++ pinL p 0 h.length) fun H => nfF (initF 0 args) fun s => vcode P T fn.ntmps c (RetI P T rs (h.length + h.length) (FinI mv p h.length Q)) ⟨s, []⟩ H) {ι w M cs} (H : St ι w M h) (ha : RepSL ι h.length w M args cs) :
    c.wp P (APost ι w M (h ++ pinL ι 0 h.length) none fn.ntmps (RetI P T rs (h.length + h.length) (FinI mv ι h.length Q))) { tmps := cs.toArray ++ Array.replicate (fn.ntmps - cs.toArray.size) undef, defers := [] } w := by
  have hv := hv ι
  rw [nfH_eq, nfF_eq] at hv
  refine vcode_ok hT c hv H.pins ?_
  refine initF_ok (RepSL.keep (ι := ι) (N := h.length) ⟨by simp, fun _ _ => rfl⟩ (fun b _ hm => ⟨hm, rfl⟩) _ _ ha) (Nat.le_of_ble_eq_true hlen)

theorem fin_ipost {ι w M h mv} (H0 : St ι w M h) {Q : SV → List SO → Prop} {c s h' ι' w' M'} (hf : FinI mv ι h.length Q s h') (H : St ι' w' M' h') (hs : RepS ι' h'.length w' M' s c)
    (G : Grow ι w M (h ++ pinL ι 0 h.length) none ι' w' M' h') : IPost ι w M h mv Q (.returned c) w' := by
  obtain ⟨hp, k, hk, hq⟩ := hf
  simp only [Bool.and_eq_true] at hk
  obtain ⟨⟨⟨h1, h2⟩, h3⟩, h4⟩ := hk
  have h1 := Nat.le_of_ble_eq_true h1
  have h2 := Nat.le_of_ble_eq_true h2
  obtain ⟨g1, g2⟩ := H.shrink k h3 h2
  have hlen : (h'.take k).length = k := by simp; omega
  refine ⟨c, s, h'.take k, ι', M', rfl, hq, by omega, g1, by rw [hlen]; exact RepS.lower _ _ hs h4, ?_, ?_⟩
  · have G' := G.trans H0.mlt g2
    refine ⟨G'.os, G'.tape, G'.output, G'.size, fun b hb hn => G'.keep b hb (fun x => hn (ownN.2 (own_pins x.own))), G'.m1, fun b hm hn => G'.m2 b hm (fun x => hn (own_pins x)), fun b hb x => own_pins (G'.own1 b hb x), fun b hb x => ownN.2 (own_pins (G'.own2 b hb x).own)⟩
  · intro i hi hm
    have := pinsOk_get hp i (Nat.zero_le _) (by omega) hm
    have h5 := H.objs _ _ this
    simp only [StO] at h5
    exact h5.2

theorem aimp_of {P : Program} {T : TT} (hT : T.all P = true) {f : FuncId} {fn : Func} {c : Code} {args : List SV} {h : List SO} {mv : List Nat} {Q : SV → List SO → Prop} {rs : List ResultVar} (hf : P.funcs[f]? = some fn) (hn : (fn.name == "runtime.NumGoroutine") = false)
    (hb : fn.body = some c) (hr : fn.results.toList = rs) (hlen : Nat.ble args.length fn.ntmps = true)
    (hv : ∀ p : Iota, nfH (h ++ pinL p 0 h.length) fun H => nfF (initF 0 args) fun s => vcode P T fn.ntmps c (RetI P T rs (h.length + h.length) (FinI mv p h.length Q)) ⟨s, []⟩ H) : AImp P f args h mv Q := by
  refine ⟨⟨fn, hf, hn, by rw [hb]; rfl⟩, ?_⟩
  intro ι w M cs H ha
  refine calls_of_wp_defers hf hb (wp_mono (imp_body hT hlen hv H ha) ?_)
  rintro e a' w' ⟨α', h', ι', M', q1, q2, q3, q4⟩
  have hR := fun c s h' ι' w' M' (a : FinI mv ι h.length Q s h') b d e => fin_ipost (ι := ι) (w := w) (M := M) (c := c) (ι' := ι') (w' := w') (M' := M') H a b d e
  cases e with
  | normal => exact leave_ok hT hr H.mlt hR _ q1 q2 q3 q4
  | ret => exact leave_ok hT hr H.mlt hR _ q1 q2 q3 q4
  | exit _ => exact q1.elim
  | goto _ => exact q1.elim
  | panic _ => exact q1.elim
  | outgrown => exact q1.elim

theorem adef_of {P : Program} {T : TT} (hT : T.all P = true) {f : FuncId} {fn : Func} {c : Code} {args : List SV} {h : List SO} {mv : List Nat} {Q : SV → List SO → Prop} {rs : List ResultVar} (hf : P.funcs[f]? = some fn) (hn : (fn.name == "runtime.NumGoroutine") = false)
    (hb : fn.body = some c) (hr : fn.results.toList = rs) (hlen : Nat.ble args.length fn.ntmps = true)
    (hv : ∀ p : Iota, nfH (h ++ pinL p 0 h.length) fun H => nfF (initF 0 args) fun s => vcode P T fn.ntmps c (fun e α h' => α.d = [] ∧ RetI P T rs (h.length + h.length) (FinI mv p h.length Q) e α h') ⟨s, []⟩ H) : ADef P f args h mv Q := by
  refine ⟨⟨fn, hf, hn, by rw [hb]; rfl⟩, ?_⟩
  intro ι w M cs u H ha
  have hv := hv ι
  rw [nfH_eq, nfF_eq] at hv
  have F := initF_ok (RepSL.keep (ι := ι) (N := h.length) (N' := (h ++ pinL ι 0 h.length).length) ⟨by simp, fun _ _ => rfl⟩ (fun b _ hm => ⟨hm, rfl⟩) _ _ ha) (Nat.le_of_ble_eq_true hlen)
  refine callsD_of_wp hf hb (wp_mono (vcode_ok hT c hv H.pins F) ?_)
  rintro e a' w' ⟨α', h', ι', M', ⟨hd, q1⟩, q2, q3, q4⟩
  have hR := fun c s h' ι' w' M' (a : FinI mv ι h.length Q s h') b d e => fin_ipost (ι := ι) (w := w) (M := M) (c := c) (ι' := ι') (w' := w') (M' := M') H a b d e
  have hdef := q3.defs
  rw [hd] at hdef
  simp only [RepD] at hdef
  cases e with
  | normal => have := leave_ok hT hr H.mlt hR _ q1 q2 q3 q4; rw [hdef] at this; exact ⟨hdef, this⟩
  | ret => have := leave_ok hT hr H.mlt hR _ q1 q2 q3 q4; rw [hdef] at this; exact ⟨hdef, this⟩
  | exit _ => exact q1.elim
  | goto _ => exact q1.elim
  | panic _ => exact q1.elim
  | outgrown => exact q1.elim

/-- a nil slice in an object of one's own, as an array of one's own that has nothing yet -/
theorem loop_own {P : Program} {us : Us} {n : Nat} {body : Code} {Q : Exit → AF → List SO → Prop} {α : AF} {h : List SO} (id pos e z : Nat) {xs : List SV} (ho : nth h id = some (.cells xs)) (hp : nth xs pos = some (.v (.c (.slice none 0 0)))) (hu : inU us id = true)
    (hk : nfH (h.set id (.cells (xs.set pos (.ms h.length))) ++ [.arr e z []]) fun h' => LoopEv P us n body Q α h') : LoopEv P us n body Q α h := by
  rw [nfH_eq] at hk
  unfold LoopEv at hk ⊢
  intro ι w M a H F
  rw [nth_eq] at ho hp
  obtain ⟨g1, g2, g3⟩ := H.push0 us (.arr e z []) (by simp only [StO]; exact ⟨by simp, .inl ⟨trivial, upd_same _ _ _⟩⟩)
  have hkp : Keep w M w M := fun b _ hm => ⟨hm, rfl⟩
  have ho' : (h ++ [SO.arr e z []])[id]? = some (.cells xs) := by rw [List.getElem?_append_left (get_lt ho)]; exact ho
  have h0 := g1.objs id _ ho'
  have h0' := h0
  simp only [StO] at h0
  obtain ⟨b, k, cs, el, k1, k2, k3, k4⟩ := h0
  have key : ∀ (xs : List SV) (cs : List Value) (pos : Nat), xs[pos]? = some (.v (.c (.slice none 0 0))) → RepSL (upd ι h.length none) (h ++ [SO.arr e z []]).length w M xs cs → RepSL (upd ι h.length none) (h ++ [SO.arr e z []]).length w M (xs.set pos (.ms h.length)) cs := by
    intro xs
    induction xs with
    | nil => intro cs pos hp _; simp at hp
    | cons x xs ih =>
      intro cs pos hp hr
      simp only [RepSL] at hr
      obtain ⟨c, cs', rfl, r1, r2⟩ := hr
      cases pos with
      | zero =>
        simp only [List.getElem?_cons_zero, Option.some.injEq] at hp
        subst hp
        simp only [RepS, Rep] at r1
        subst r1
        simp only [List.set_cons_zero, RepSL, RepS]
        exact ⟨_, cs', rfl, ⟨by simp, .inl ⟨upd_same _ _ _, rfl⟩⟩, r2⟩
      | succ pos =>
        simp only [List.set_cons_succ, RepSL]
        exact ⟨c, cs', rfl, r1, ih cs' pos (by simpa using hp) r2⟩
  obtain ⟨m1, m2, m3⟩ := g1.modify us hu ho' rfl k1 (.cells (xs.set pos (.ms h.length))) w (fun _ _ => rfl) rfl rfl rfl rfl (by
    simp only [StO]; exact ⟨b, k, cs, el, k1, k2, k3, key _ _ _ hp k4⟩)
  have hset : (h ++ [SO.arr e z []]).set id (.cells (xs.set pos (.ms h.length))) = h.set id (.cells (xs.set pos (.ms h.length))) ++ [.arr e z []] := by
    rw [List.set_append_left _ _ (get_lt ho)]
  rw [hset] at m1 m3
  have F' : FR (upd ι h.length none) (h.set id (.cells (xs.set pos (.ms h.length))) ++ [SO.arr e z []]).length w M n α a := by
    have := F.keep g2 hkp
    simpa using this
  refine wp_mono (hk _ w M a m1 F') ?_
  rintro e' a' w' ⟨α', h', ι', M', q1, q2, q3, q4⟩
  exact ⟨α', h', ι', M', q1, q2, q3, g3.trans H.mlt (m3.trans g1.mlt q4)⟩

/-- a state that says less, ahead of a region that draws -/
theorem draw_sub {P : Program} {us : Us} {n id : Nat} {ops : Array Oper} {Q : Exit → AF → List SO → Prop} {α : AF} {h : List SO} {α' : AF} {h' : List SO} (s : Sub α h α' h') (k : DrawEv P us n id ops Q α' h') : DrawEv P us n id ops Q α h := by
  unfold DrawEv at k ⊢
  intro ι w M a H F
  obtain ⟨g1, g2, g3⟩ := s.st H F
  refine wp_mono (k ι w M a g1 g2) ?_
  rintro e a' w' ⟨α2, h2, ι2, M2, q1, q2, q3, q4⟩
  exact ⟨α2, h2, ι2, M2, q1, q2, q3, (g3 us).trans H.mlt q4⟩

/-- several ways lead to one region that draws: what follows is shown once (main first: it tells what the region is) -/
theorem join_draw {P : Program} {us : Us} {n id : Nat} {ops : Array Oper} {Q : Exit → AF → List SO → Prop} {Y : Type} (αy : Y → AF) (hy : Y → List SO) {G : Prop}
    (main : (∀ y, DrawEv P us n id ops Q (αy y) (hy y)) → G) (tail : ∀ y, DrawEv P us n id ops Q (αy y) (hy y)) : G := main tail

end Go.AV0
/- Loops by plain counters; conditions by propositions. -/
namespace Go.AV0

theorem bsplit_d {p : Prop} [Decidable p] {A B : Prop} (h : p → decide p = true → A) (k : ¬ p → decide p = false → B) : BSplit (decide p) A B :=
  bsplit (fun e => h (of_decide_eq_true e) e) (fun e => k (of_decide_eq_false e) e)

/-- behind a round: there is a next one, or the loop is left -/
def Round1 {X : Type} (Inv : X → Prop) (αx : X → AF) (hx : X → List SO) (μ : X → Nat) (x : X) (Q : Exit → AF → List SO → Prop) (e : Exit) (α : AF) (h : List SO) : Prop :=
  match e with
  | .normal => ∃ x', Inv x' ∧ μ x' < μ x ∧ Sub α h (αx x') (hx x')
  | e => Q e α h

theorem loop_on {P : Program} {T : TT} {n : Nat} (hT : T.all P = true) {X : Type} (Inv : X → Prop) (αx : X → AF) (hx : X → List SO) (μ : X → Nat) (x0 : X) {body : Code} {Q : Exit → AF → List SO → Prop} {α : AF} {h : List SO}
    (hi : Inv x0) (h0 : Sub α h (αx x0) (hx x0)) (round : ∀ x, Inv x → vcode P T n body (Round1 Inv αx hx μ x Q) (αx x) (hx x)) : LoopEv P none n body Q α h := by
  unfold LoopEv
  intro ι w M a H F
  have key : ∀ m x, Inv x → μ x = m → ∀ ι w M a, St ι w M (hx x) → FR ι (hx x).length w M n (αx x) a → ∀ (b : Frame) (k : List Item) (cs : List Frame),
      ∃ e a' w', APost ι w M (hx x) none n Q e a' w' ∧ Arrives P (lone (b.at a (.code body :: .inLoop body :: k)) cs w) b k cs e a' w' := by
    intro m
    induction m using Nat.strongRecOn with
    | _ m ih =>
      intro x hi hm ι w M a H F b k cs
      obtain ⟨e, a1, w1, ⟨α1, h1, ι1, M1, q1, q2, q3, q4⟩, harr⟩ := vcode_ok hT body (round x hi) H F b (.inLoop body :: k) cs
      cases e with
      | normal =>
        obtain ⟨x', hi', hlt, hs⟩ := q1
        obtain ⟨s1, s2, s3⟩ := hs.st q2 q3
        obtain ⟨e2, a2, w2, ⟨α2, h2, ι2, M2, r1, r2, r3, r4⟩, harr2⟩ := ih (μ x') (hm ▸ hlt) x' hi' rfl ι1 w1 M1 a1 s1 s2 b k cs
        exact ⟨e2, a2, w2, ⟨α2, h2, ι2, M2, r1, r2, r3, q4.trans H.mlt ((s3 none).trans q2.mlt r4)⟩, .of_steps (Steps.trans harr (.one step_inLoop)) harr2⟩
      | exit id => exact ⟨_, a1, w1, ⟨α1, h1, ι1, M1, q1, q2, q3, q4⟩, .pass (x := .inLoop body) rfl (fun _ _ => .inl (by simp)) harr⟩
      | goto l => exact ⟨_, a1, w1, ⟨α1, h1, ι1, M1, q1, q2, q3, q4⟩, .pass (x := .inLoop body) rfl (fun _ _ => .inl (by simp)) harr⟩
      | ret => exact ⟨_, a1, w1, ⟨α1, h1, ι1, M1, q1, q2, q3, q4⟩, .pass (x := .inLoop body) rfl (fun _ _ => .inl (by simp)) harr⟩
      | panic ch => exact ⟨_, a1, w1, ⟨α1, h1, ι1, M1, q1, q2, q3, q4⟩, .pass (x := .inLoop body) rfl (fun _ _ => .inl (by simp)) harr⟩
      | outgrown => exact ⟨_, a1, w1, ⟨α1, h1, ι1, M1, q1, q2, q3, q4⟩, .pass (x := .inLoop body) rfl (fun _ _ => .inl (by simp)) harr⟩
  obtain ⟨s1, s2, s3⟩ := h0.st H F
  intro b k cs
  obtain ⟨e, a', w', ⟨α', h', ι', M', r1, r2, r3, r4⟩, harr⟩ := key _ x0 hi rfl ι w M a s1 s2 b k cs
  exact ⟨e, a', w', ⟨α', h', ι', M', r1, r2, r3, (s3 none).trans H.mlt r4⟩, .of_steps (.one step_loop) harr⟩
/-- a nil slice in a slot, made an own empty array ahead of a loop -/
theorem loop_own_t {P : Program} {us : Us} {n : Nat} {body : Code} {Q : Exit → AF → List SO → Prop} {α : AF} {h : List SO} (slot e z : Nat) (hs : look α.s slot = some (.v (.c (.slice none 0 0))))
    (hk : forceN h.length fun id => nfH (h ++ [.arr e z []]) fun h' => LoopEv P us n body Q ⟨(slot, .ms id) :: α.s, α.d⟩ h') : LoopEv P us n body Q α h := by
  rw [forceN_eq, nfH_eq] at hk
  unfold LoopEv at hk ⊢
  intro ι w M a H F
  obtain ⟨g1, g2, g3⟩ := H.push0 us (.arr e z []) (by simp only [StO]; exact ⟨by simp, .inl ⟨trivial, upd_same _ _ _⟩⟩)
  have hkp : Keep w M w M := fun b _ hm => ⟨hm, rfl⟩
  have F0 : FR (upd ι h.length none) (h ++ [SO.arr e z []]).length w M n α a := by
    have := F.keep g2 hkp
    simpa using this
  have F' : FR (upd ι h.length none) (h ++ [SO.arr e z []]).length w M n ⟨(slot, .ms h.length) :: α.s, α.d⟩ a := by
    refine ⟨F0.size, ?_, F0.defs⟩
    intro i s h'
    rw [look_cons] at h'
    by_cases hi : i = slot
    · subst hi
      simp at h'; subst h'
      obtain ⟨c, h1, h2⟩ := F.slot i _ hs
      simp only [RepS, Rep] at h2
      exact ⟨c, h1, by simp only [RepS]; exact ⟨by simp, .inl ⟨upd_same _ _ _, h2⟩⟩⟩
    · simp [hi] at h'
      exact F0.slot i s h'
  refine wp_mono (hk _ w M a g1 F') ?_
  rintro e' a' w' ⟨α', h', ι', M', q1, q2, q3, q4⟩
  exact ⟨α', h', ι', M', q1, q2, q3, g3.trans H.mlt q4⟩

/-- a contract out of code, where objects that are handed back stay objects (lo: those from there on are frozen) -/
theorem aimp_keep {P : Program} {T : TT} (hT : T.all P = true) (lo : Nat) {f : FuncId} {fn : Func} {c : Code} {args : List SV} {h : List SO} {mv : List Nat} {Q : SV → List SO → Prop} {rs : List ResultVar} (hf : P.funcs[f]? = some fn) (hn : (fn.name == "runtime.NumGoroutine") = false)
    (hb : fn.body = some c) (hr : fn.results.toList = rs) (hlen : Nat.ble args.length fn.ntmps = true)
    (hv : ∀ p : Iota, nfH (h ++ pinL p 0 h.length) fun H => nfF (initF 0 args) fun s => vcode P T fn.ntmps c (RetI P T rs lo (FinI mv p h.length Q)) ⟨s, []⟩ H) : AImp P f args h mv Q := by
  refine ⟨⟨fn, hf, hn, by rw [hb]; rfl⟩, ?_⟩
  intro ι w M cs H ha
  have hv := hv ι
  rw [nfH_eq, nfF_eq] at hv
  have F := initF_ok (RepSL.keep (ι := ι) (N := h.length) (N' := (h ++ pinL ι 0 h.length).length) ⟨by simp, fun _ _ => rfl⟩ (fun b _ hm => ⟨hm, rfl⟩) _ _ ha) (Nat.le_of_ble_eq_true hlen)
  refine calls_of_wp_defers hf hb (wp_mono (vcode_ok hT c hv H.pins F) ?_)
  rintro e a' w' ⟨α', h', ι', M', q1, q2, q3, q4⟩
  have hR := fun c s h' ι' w' M' (a : FinI mv ι h.length Q s h') b d e => fin_ipost (ι := ι) (w := w) (M := M) (c := c) (ι' := ι') (w' := w') (M' := M') H a b d e
  cases e with
  | normal => exact leave_ok hT hr H.mlt hR _ q1 q2 q3 q4
  | ret => exact leave_ok hT hr H.mlt hR _ q1 q2 q3 q4
  | exit _ => exact q1.elim
  | goto _ => exact q1.elim
  | panic _ => exact q1.elim
  | outgrown => exact q1.elim

end Go.AV0
/- Loops at the end of whose rounds objects are frozen; nil slices made plain ahead of a loop. -/
namespace Go.AV0

/-- objects of one's own become things that nobody writes any more -/
def frzMany : List Nat → AF → List SO → (AF → List SO → Prop) → Prop
  | [], α, h, k => k α h
  | id :: l, α, h, k => onO (nth h id) fun o => bif live o then frzMany l (frzA id o α) ((frzH id o h).set id .dead) k else False

theorem frzMany_ok (us : Us) : ∀ (l : List Nat) {α : AF} {h : List SO} {k : AF → List SO → Prop} {ι w M n a}, frzMany l α h k → St ι w M h → FR ι h.length w M n α a →
    ∃ M' α' h', k α' h' ∧ St ι w M' h' ∧ FR ι h'.length w M' n α' a ∧ Grow ι w M h us ι w M' h'
  | [], α, h, k, ι, w, M, n, a, hv, H, F => ⟨M, α, h, hv, H, F, Grow.refl ι w M h us⟩
  | id :: l, α, h, k, ι, w, M, n, a, hv, H, F => by
    simp only [frzMany] at hv
    obtain ⟨o, ho, hv⟩ := onO_some hv
    cases hl : live o with
    | false => rw [hl] at hv; exact hv.elim
    | true =>
      rw [hl] at hv; simp only [cond_true] at hv
      rw [nth_eq] at ho
      obtain ⟨M', g1, g2, g3, g4⟩ := H.freeze us ho hl
      have hlen : ((frzH id o h).set id .dead).length = h.length := by simp [frzH_length]
      obtain ⟨M2, α', h', k1, k2, k3, k4⟩ := frzMany_ok us l hv g1 (by rw [hlen]; exact F.frz g2 g3)
      exact ⟨M2, α', h', k1, k2, k3, g4.trans H.mlt k4⟩

/-- behind a round: objects are frozen, and there is a next one; or the loop is left -/
def RoundZ {X : Type} (Inv : X → Prop) (αx : X → AF) (hx : X → List SO) (μ : X → Nat) (x : X) (Q : Exit → AF → List SO → Prop) (e : Exit) (α : AF) (h : List SO) : Prop :=
  match e with
  | .normal => ∃ ids, frzMany ids α h fun α h => ∃ x', Inv x' ∧ μ x' < μ x ∧ Sub α h (αx x') (hx x')
  | e => Q e α h

theorem loop_onz {P : Program} {T : TT} {n : Nat} (hT : T.all P = true) {X : Type} (Inv : X → Prop) (αx : X → AF) (hx : X → List SO) (μ : X → Nat) (x0 : X) {body : Code} {Q : Exit → AF → List SO → Prop} {α : AF} {h : List SO}
    (hi : Inv x0) (h0 : Sub α h (αx x0) (hx x0)) (round : ∀ x, Inv x → vcode P T n body (RoundZ Inv αx hx μ x Q) (αx x) (hx x)) : LoopEv P none n body Q α h := by
  unfold LoopEv
  intro ι w M a H F
  have key : ∀ m x, Inv x → μ x = m → ∀ ι w M a, St ι w M (hx x) → FR ι (hx x).length w M n (αx x) a → ∀ (b : Frame) (k : List Item) (cs : List Frame),
      ∃ e a' w', APost ι w M (hx x) none n Q e a' w' ∧ Arrives P (lone (b.at a (.code body :: .inLoop body :: k)) cs w) b k cs e a' w' := by
    intro m
    induction m using Nat.strongRecOn with
    | _ m ih =>
      intro x hi hm ι w M a H F b k cs
      obtain ⟨e, a1, w1, ⟨α1, h1, ι1, M1, q1, q2, q3, q4⟩, harr⟩ := vcode_ok hT body (round x hi) H F b (.inLoop body :: k) cs
      cases e with
      | normal =>
        obtain ⟨ids, q1⟩ := q1
        obtain ⟨M1', α1', h1', ⟨x', hi', hlt, hs⟩, q2', q3', q4'⟩ := frzMany_ok none ids q1 q2 q3
        obtain ⟨s1, s2, s3⟩ := hs.st q2' q3'
        obtain ⟨e2, a2, w2, ⟨α2, h2, ι2, M2, r1, r2, r3, r4⟩, harr2⟩ := ih (μ x') (hm ▸ hlt) x' hi' rfl ι1 w1 M1' a1 s1 s2 b k cs
        exact ⟨e2, a2, w2, ⟨α2, h2, ι2, M2, r1, r2, r3, q4.trans H.mlt (q4'.trans q2.mlt ((s3 none).trans q2'.mlt r4))⟩, .of_steps (Steps.trans harr (.one step_inLoop)) harr2⟩
      | exit id => exact ⟨_, a1, w1, ⟨α1, h1, ι1, M1, q1, q2, q3, q4⟩, .pass (x := .inLoop body) rfl (fun _ _ => .inl (by simp)) harr⟩
      | goto l => exact ⟨_, a1, w1, ⟨α1, h1, ι1, M1, q1, q2, q3, q4⟩, .pass (x := .inLoop body) rfl (fun _ _ => .inl (by simp)) harr⟩
      | ret => exact ⟨_, a1, w1, ⟨α1, h1, ι1, M1, q1, q2, q3, q4⟩, .pass (x := .inLoop body) rfl (fun _ _ => .inl (by simp)) harr⟩
      | panic ch => exact ⟨_, a1, w1, ⟨α1, h1, ι1, M1, q1, q2, q3, q4⟩, .pass (x := .inLoop body) rfl (fun _ _ => .inl (by simp)) harr⟩
      | outgrown => exact ⟨_, a1, w1, ⟨α1, h1, ι1, M1, q1, q2, q3, q4⟩, .pass (x := .inLoop body) rfl (fun _ _ => .inl (by simp)) harr⟩
  obtain ⟨s1, s2, s3⟩ := h0.st H F
  intro b k cs
  obtain ⟨e, a', w', ⟨α', h', ι', M', r1, r2, r3, r4⟩, harr⟩ := key _ x0 hi rfl ι w M a s1 s2 b k cs
  exact ⟨e, a', w', ⟨α', h', ι', M', r1, r2, r3, (s3 none).trans H.mlt r4⟩, .of_steps (.one step_loop) harr⟩

/-- nil slices in an object of one's own, as empty ones -/
theorem loop_nrm {P : Program} {us : Us} {n : Nat} {body : Code} {Q : Exit → AF → List SO → Prop} {α : AF} {h : List SO} (id : Nat) {xs : List SV} (ho : nth h id = some (.cells xs)) (hu : inU us id = true)
    (hk : nfH (h.set id (.cells (xs.map nrmSV))) fun h' => LoopEv P us n body Q α h') : LoopEv P us n body Q α h := by
  rw [nfH_eq] at hk
  unfold LoopEv at hk ⊢
  intro ι w M a H F
  rw [nth_eq] at ho
  have h0 := H.objs id _ ho
  have h0' := h0
  simp only [StO] at h0
  obtain ⟨b, k, cs, el, k1, k2, k3, k4⟩ := h0
  obtain ⟨m1, m2, m3⟩ := H.modify us hu ho rfl k1 (.cells (xs.map nrmSV)) w (fun _ _ => rfl) rfl rfl rfl rfl (by
    simp only [StO]; exact ⟨b, k, cs, el, k1, k2, k3, repSL_nrmSV k4⟩)
  have F' : FR ι (h.set id (.cells (xs.map nrmSV))).length w M n α a := by simpa using F
  refine wp_mono (hk _ w M a m1 F') ?_
  rintro e' a' w' ⟨α', h', ι', M', q1, q2, q3, q4⟩
  exact ⟨α', h', ι', M', q1, q2, q3, m3.trans H.mlt q4⟩

/-- a state that says less, ahead of a loop -/
theorem loop_sub {P : Program} {us : Us} {n : Nat} {body : Code} {Q : Exit → AF → List SO → Prop} {α : AF} {h : List SO} {α' : AF} {h' : List SO} (s : Sub α h α' h') (k : LoopEv P us n body Q α' h') : LoopEv P us n body Q α h := by
  unfold LoopEv at k ⊢
  intro ι w M a H F
  obtain ⟨g1, g2, g3⟩ := s.st H F
  refine wp_mono (k ι w M a g1 g2) ?_
  rintro e a' w' ⟨α2, h2, ι2, M2, q1, q2, q3, q4⟩
  exact ⟨α2, h2, ι2, M2, q1, q2, q3, (g3 us).trans H.mlt q4⟩

/-- several ways lead to one loop: what follows is shown once (main first: it tells what the loop is) -/
theorem join_loop {P : Program} {us : Us} {n : Nat} {body : Code} {Q : Exit → AF → List SO → Prop} {Y : Type} (αy : Y → AF) (hy : Y → List SO) {G : Prop}
    (main : (∀ y, LoopEv P us n body Q (αy y) (hy y)) → G) (tail : ∀ y, LoopEv P us n body Q (αy y) (hy y)) : G := main tail

end Go.AV0
