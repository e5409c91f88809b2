/- The executor over code, and contracts of functions. -/
import Derived.Test.YthbglcdcfdjbbaaFwN
namespace Go.AV0

/-- what holds behind a piece of code -/
def APost (ι : Iota) (w : World) (M : Nat → Prop) (h : List SO) (us : Us) (n : Nat) (Q : Exit → AF → List SO → Prop) (e : Exit) (a' : Act) (w' : World) : Prop :=
  ∃ α' h' ι' M', Q e α' h' ∧ St ι' w' M' h' ∧ FR ι' h'.length w' M' n α' a' ∧ Grow ι w M h us ι' w' M' h'

theorem FR.vput {ι N w M n α a dst s c} {k : AF → Prop} (H : FR ι N w M n α a) (hs : RepS ι N w M s c) (hv : vput n dst s α k) : ∃ α', k α' ∧ FR ι N w M n α' (a.put dst c) := by
  unfold AV0.vput at hv
  split at hv
  · exact ⟨α, hv, by simpa [Act.put] using H⟩
  · rename_i d
    cases hb : Nat.blt d n with
    | false => rw [hb] at hv; exact hv.elim
    | true => rw [hb] at hv; exact ⟨_, hv, H.put (by simpa [Nat.blt_eq] using hb) hs⟩

theorem vops_ok {P : Program} {T : TT} {us : Us} {n : Nat} (hT : T.all P = true) {ops : Array Oper} {Q : Exit → Act → World → Prop} {Q' : AF → List SO → Prop} {ι0 w0 M0 h0}
    (hQ : ∀ a' w' α' h' ι' M', Q' α' h' → St ι' w' M' h' → FR ι' h'.length w' M' n α' a' → Grow ι0 w0 M0 h0 us ι' w' M' h' → Q .normal a' w') (hM0 : ∀ b, M0 b → b < w0.heap.size) :
    ∀ (l : List Oper) (k : Nat), ops.toList.drop k = l → ∀ {ι w M h α a}, vops P T us n ops.toList l Q' α h → St ι w M h → FR ι h.length w M n α a → Grow ι0 w0 M0 h0 us ι w M h → wpOps P ops Q (List.range' k l.length) a w := by
  intro l
  induction l with
  | nil => intro k hk ι w M h α a hv H F G; simp only [List.length_nil, List.range'_zero, wpOps]; exact hQ a w α h ι M hv H F G
  | cons o l ih =>
    intro k hk ι w M h α a hv H F G
    have ho : ops[k]? = some o := by
      have : (ops.toList.drop k)[0]? = some o := by rw [hk]; rfl
      rw [List.getElem?_drop] at this
      simpa using this
    have hk' : ops.toList.drop (k + 1) = l := by
      rw [← List.drop_drop, hk]; rfl
    simp only [List.length_cons, List.range'_succ, wpOps, ho]
    rw [vops_cons] at hv
    rcases vguard_ok hv F with ⟨hw, hv⟩ | ⟨hw, hv⟩
    · rw [if_pos hw]
      left
      refine Oper.wp_mono ?_ (vop_ok (Q := Q) hT hv H F)
      rintro a' w' ⟨a1, c, s, α', h', ι', M', rfl, h1, h2, h3, h4, h5⟩
      obtain ⟨α2, h6, h7⟩ := h3.vput h4 h1
      exact ih (k + 1) hk' h6 h2 h7 (G.trans hM0 h5)
    · rw [hw]; simp only [Bool.false_eq_true, if_false]
      obtain ⟨α2, h6, h7⟩ := F.vput (c := undef) (by simp only [RepS, Rep]; exact ⟨#[], rfl, by simp [RepL]⟩) hv
      exact ih (k + 1) hk' h6 H h7 G

@[irreducible] def LoopEv (P : Program) (us : Us) (n : Nat) (body : Code) (Q : Exit → AF → List SO → Prop) (α : AF) (h : List SO) : Prop :=
  ∀ ι w M a, St ι w M h → FR ι h.length w M n α a → (Code.loop body).wp P (APost ι w M h us n Q) a w

@[irreducible] def DrawEv (P : Program) (us : Us) (n : Nat) (id : Nat) (ops : Array Oper) (Q : Exit → AF → List SO → Prop) (α : AF) (h : List SO) : Prop :=
  ∀ ι w M a, St ι w M h → FR ι h.length w M n α a → (Code.region id ops true).wp P (APost ι w M h us n Q) a w

def eqN (a b : Nat) : Bool := Nat.beq a b

abbrev VK := (Exit → AF → List SO → Prop) → AF → List SO → Prop

def vcSkip : VK := fun Q α h => Q .normal α h
def vcRegion (P : Program) (T : TT) (n : Nat) (id : Nat) (ops : Array Oper) (draw : Bool) : VK := fun Q α h =>
  bif draw then DrawEv P none n id ops Q α h else vops P T none n ops.toList ops.toList (Q .normal) α h
def vcSeq (a b : VK) : VK := fun Q α h => a (fun e α h => match e with
      | .normal => b Q α h
      | e => Q e α h) α h
def vcCond (c : Operand) (x y : VK) : VK := fun Q α h => onO (evs α c) fun s => match s with
      | .v (.c (.bool t)) => BSplit t (x Q α h) (y Q α h)
      | _ => False
def vcBlock (id : Nat) (c : VK) : VK := fun Q α h => c (fun e α h => match e with
      | .exit id' => bif Nat.beq id' id then Q .normal α h else Q (.exit id') α h
      | e => Q e α h) α h
def vcLoop (P : Program) (n : Nat) (body : Code) : VK := fun Q α h => LoopEv P none n body Q α h
def vcExit (id : Nat) : VK := fun Q α h => Q (.exit id) α h
def vcRet : VK := fun Q α h => Q .ret α h
def vcNo : VK := fun _ _ _ => False

/-- by the recursor itself: so the kernel meets the same terms as the elaborator -/
noncomputable def vcode (P : Program) (T : TT) (n : Nat) (c : Code) : VK :=
  Code.rec (motive := fun _ => VK) vcSkip (fun id ops draw => vcRegion P T n id ops draw) (fun _ _ a b => vcSeq a b) (fun c _ _ x y => vcCond c x y) (fun id _ c => vcBlock id c) (fun body _ => vcLoop P n body)
    (fun _ _ _ _ _ _ => vcNo) (fun id => vcExit id) (fun _ _ => vcNo) (fun _ => vcNo) (fun _ => vcNo) vcRet (fun _ => vcNo) c

section
variable {P : Program} {T : TT} {n : Nat} {Q : Exit → AF → List SO → Prop} {α : AF} {h : List SO}
theorem vcode_region {id ops draw} : vcode P T n (.region id ops draw) Q α h = (bif draw then DrawEv P none n id ops Q α h else vops P T none n ops.toList ops.toList (Q .normal) α h) := rfl
theorem vcode_seq {a b} : vcode P T n (.seq a b) Q α h = vcode P T n a (fun e α h => match e with
      | .normal => vcode P T n b Q α h
      | e => Q e α h) α h := rfl
theorem vcode_cond {c x y} : vcode P T n (.cond c x y) Q α h = onO (evs α c) fun s => match s with
      | .v (.c (.bool t)) => BSplit t (vcode P T n x Q α h) (vcode P T n y Q α h)
      | _ => False := rfl
theorem vcode_block {id c} : vcode P T n (.block id c) Q α h = vcode P T n c (fun e α h => match e with
      | .exit id' => bif Nat.beq id' id then Q .normal α h else Q (.exit id') α h
      | e => Q e α h) α h := rfl
theorem vcode_loop {body} : vcode P T n (.loop body) Q α h = LoopEv P none n body Q α h := rfl
end

theorem vcode_ok {P : Program} {T : TT} {n : Nat} (hT : T.all P = true) : ∀ (c : Code) {Q : Exit → AF → List SO → Prop} {α h}, vcode P T n c Q α h →
    ∀ {ι w M a}, St ι w M h → FR ι h.length w M n α a → c.wp P (APost ι w M h none n Q) a w
  | .skip, Q, α, h, hv, ι, w, M, a, H, F => wp_skip ⟨α, h, ι, M, hv, H, F, Grow.refl ι w M h none⟩
  | .region id ops draw, Q, α, h, hv, ι, w, M, a, H, F => by
    rw [vcode_region] at hv
    cases draw with
    | true => simp only [cond_true] at hv; unfold DrawEv at hv; exact hv ι w M a H F
    | false =>
      simp only [cond_false] at hv
      refine wp_region ?_
      have := vops_ok (Q := APost ι w M h none n Q) hT (fun a' w' α' h' ι' M' h1 h2 h3 h4 => ⟨α', h', ι', M', h1, h2, h3, h4⟩) H.mlt ops.toList 0 rfl hv H F (Grow.refl ι w M h none)
      rw [List.range_eq_range']
      simpa using this
  | .seq x y, Q, α, h, hv, ι, w, M, a, H, F => by
    rw [vcode_seq] at hv
    refine wp_seq ?_
    refine wp_mono (vcode_ok hT x hv H F) ?_
    rintro e a' w' ⟨α', h', ι', M', h1, h2, h3, h4⟩
    cases e with
    | normal =>
      refine wp_mono (vcode_ok hT y h1 h2 h3) ?_
      rintro e2 a2 w2 ⟨α2, h2', ι2, M2, g1, g2, g3, g4⟩
      exact ⟨α2, h2', ι2, M2, g1, g2, g3, h4.trans H.mlt g4⟩
    | exit _ => exact ⟨α', h', ι', M', h1, h2, h3, h4⟩
    | goto _ => exact ⟨α', h', ι', M', h1, h2, h3, h4⟩
    | ret => exact ⟨α', h', ι', M', h1, h2, h3, h4⟩
    | panic _ => exact ⟨α', h', ι', M', h1, h2, h3, h4⟩
    | outgrown => exact ⟨α', h', ι', M', h1, h2, h3, h4⟩
  | .cond c x y, Q, α, h, hv, ι, w, M, a, H, F => by
    rw [vcode_cond] at hv
    obtain ⟨s, hs, hv⟩ := onO_some hv
    split at hv
    · rename_i t
      have hc := evs_ok F hs
      simp only [RepS, Rep] at hc
      obtain ⟨h1, h2⟩ := hv.elim
      cases t with
      | true => exact wp_cond_true hc (vcode_ok hT x (h1 rfl) H F)
      | false => exact wp_cond_false hc (vcode_ok hT y (h2 rfl) H F)
    · exact hv.elim
  | .block id c, Q, α, h, hv, ι, w, M, a, H, F => by
    rw [vcode_block] at hv
    refine wp_block ?_
    refine wp_mono (vcode_ok hT c hv H F) ?_
    rintro e a' w' ⟨α', h', ι', M', h1, h2, h3, h4⟩
    cases e with
    | exit id' =>
      simp only [Exit.inBlock]
      rcases nbeq (a := id') (b := id) with ⟨e1, e2⟩ | ⟨e1, e2⟩
      · rw [if_pos e2]; simp only [e1, cond_true] at h1; exact ⟨α', h', ι', M', h1, h2, h3, h4⟩
      · rw [if_neg e2]; simp only [e1, cond_false] at h1; exact ⟨α', h', ι', M', h1, h2, h3, h4⟩
    | normal => exact ⟨α', h', ι', M', h1, h2, h3, h4⟩
    | goto _ => exact ⟨α', h', ι', M', h1, h2, h3, h4⟩
    | ret => exact ⟨α', h', ι', M', h1, h2, h3, h4⟩
    | panic _ => exact ⟨α', h', ι', M', h1, h2, h3, h4⟩
    | outgrown => exact ⟨α', h', ι', M', h1, h2, h3, h4⟩
  | .loop body, Q, α, h, hv, ι, w, M, a, H, F => by
    rw [vcode_loop] at hv; unfold LoopEv at hv; exact hv ι w M a H F
  | .exit id, Q, α, h, hv, ι, w, M, a, H, F => wp_exit ⟨α, h, ι, M, hv, H, F, Grow.refl ι w M h none⟩
  | .ret, Q, α, h, hv, ι, w, M, a, H, F => wp_ret ⟨α, h, ι, M, hv, H, F, Grow.refl ι w M h none⟩
  | .rangeFunc .., Q, α, h, hv, _, _, _, _, _, _ => hv.elim
  | .scope _, Q, α, h, hv, _, _, _, _, _, _ => hv.elim
  | .label _, Q, α, h, hv, _, _, _, _, _, _ => hv.elim
  | .goto _, Q, α, h, hv, _, _, _, _, _, _ => hv.elim
  | .refuse _, Q, α, h, hv, _, _, _, _, _, _ => hv.elim

/-! ### loops -/
/-! no name behind N -/
mutual
def ltS (N : Nat) : SV → Bool
  | .any => true
  | .v _ => true
  | .ref a _ => Nat.blt a N
  | .eref a _ _ => Nat.blt a N
  | .ms a => Nat.blt a N
  | .mm a => Nat.blt a N
  | .tup l => ltL N l
  | .agg l => ltL N l
  | .clo _ a b => ltL N a && ltL N b
def ltL (N : Nat) : List SV → Bool
  | [] => true
  | x :: l => ltS N x && ltL N l
end

def ltO (N : Nat) : SO → Bool
  | .cells xs => ltL N xs
  | .pin j _ => Nat.blt j N
  | _ => true

def ltH (N : Nat) : List SO → Bool
  | [] => true
  | o :: l => ltO N o && ltH N l

mutual
theorem RepS.lower {ι N N' w M} : ∀ (s : SV) (c : Value), RepS ι N w M s c → ltS N' s = true → RepS ι N' w M s c
  | .any, _, _, _ => by simp [RepS]
  | .v x, c, r, _ => by simpa [RepS] using r
  | .ref a b, c, r, h => by simp only [RepS, ltS, Nat.blt_eq] at r h ⊢; exact ⟨h, r.2⟩
  | .eref a b d, c, r, h => by simp only [RepS, ltS, Nat.blt_eq] at r h ⊢; exact ⟨h, r.2⟩
  | .ms a, c, r, h => by simp only [RepS, ltS, Nat.blt_eq] at r h ⊢; exact ⟨h, r.2⟩
  | .mm a, c, r, h => by simp only [RepS, ltS, Nat.blt_eq] at r h ⊢; exact ⟨h, r.2⟩
  | .tup l, c, r, h => by simp only [RepS, ltS] at r h ⊢; obtain ⟨cs, h1, h2⟩ := r; exact ⟨cs, h1, RepSL.lower l _ h2 h⟩
  | .agg l, c, r, h => by simp only [RepS, ltS] at r h ⊢; obtain ⟨cs, h1, h2⟩ := r; exact ⟨cs, h1, RepSL.lower l _ h2 h⟩
  | .clo f a b, c, r, h => by
    simp only [RepS, ltS, Bool.and_eq_true] at r h ⊢; obtain ⟨x, y, h1, h2, h3⟩ := r
    exact ⟨x, y, h1, RepSL.lower a _ h2 h.1, RepSL.lower b _ h3 h.2⟩
theorem RepSL.lower {ι N N' w M} : ∀ (l : List SV) (cs : List Value), RepSL ι N w M l cs → ltL N' l = true → RepSL ι N' w M l cs
  | [], cs, r, _ => by simpa [RepSL] using r
  | x :: l, cs, r, h => by
    simp only [RepSL, ltL, Bool.and_eq_true] at r h ⊢; obtain ⟨c, cs', h1, h2, h3⟩ := r
    exact ⟨c, cs', h1, RepS.lower x c h2 h.1, RepSL.lower l cs' h3 h.2⟩
end

/-- a frame that says less -/
def SubF (s : List (Nat × SV)) (N : Nat) : List (Nat × SV) → Prop
  | [] => True
  | (i, v) :: r => (look s i = some v ∧ ltS N v = true) ∧ SubF s N r

theorem SubF.get {s N} : ∀ {r : List (Nat × SV)}, SubF s N r → ∀ i v, look r i = some v → look s i = some v ∧ ltS N v = true
  | (j, v') :: r, h, i, v, hl => by
    simp only [SubF] at h
    rw [look_cons] at hl
    split at hl
    · rename_i e; subst e; cases hl; exact h.1
    · exact SubF.get h.2 i v hl

/-- a state that says less: fewer slots; the objects at the end are let go -/
structure Sub (α : AF) (h : List SO) (α' : AF) (h' : List SO) : Prop where
  d : α'.d = []
  d' : α.d = []
  s : SubF α.s h'.length α'.s
  h : ∃ junk, h = h' ++ junk
  lt : ltH h'.length h' = true

theorem ltH_get {N} : ∀ {h : List SO}, ltH N h = true → ∀ (i : Nat) o, h[i]? = some o → ltO N o = true
  | x :: h, hl, 0, o, e => by simp only [ltH, Bool.and_eq_true] at hl; cases e; exact hl.1
  | x :: h, hl, i + 1, o, e => by simp only [ltH, Bool.and_eq_true] at hl; exact ltH_get hl.2 i o (by simpa using e)

theorem Sub.st {α h α' h'} (s : Sub α h α' h') {ι w M n a} (H : St ι w M h) (F : FR ι h.length w M n α a) : St ι w M h' ∧ FR ι h'.length w M n α' a ∧ ∀ us, Grow ι w M h us ι w M h' := by
  obtain ⟨junk, rfl⟩ := s.h
  have hget : ∀ (i : Nat) o, h'[i]? = some o → (h' ++ junk)[i]? = some o := by
    intro i o e
    rw [List.getElem?_append_left (get_lt e)]; exact e
  refine ⟨⟨?_, ?_, H.mlt⟩, ⟨F.size, ?_, ?_⟩, ?_⟩
  · intro i o e
    have h0 := H.objs i o (hget i o e)
    have hl := ltH_get s.lt i o e
    cases o with
    | dead => simp [StO]
    | pin j x => simp only [StO, ltO, Nat.blt_eq] at h0 hl ⊢; exact ⟨hl, h0.2⟩
    | cells xs =>
      simp only [StO, ltO] at h0 hl ⊢
      obtain ⟨b, k, cs, el, h1, h2, h3, h4⟩ := h0
      exact ⟨b, k, cs, el, h1, h2, h3, RepSL.lower _ _ h4 hl⟩
    | arr e z els => exact h0
    | map es => exact h0
  · intro i j oi oj b k k' h1 h2 h3 h4 h5 h6
    exact H.dist i j oi oj b k k' (hget i oi h1) (hget j oj h2) h3 h4 h5 h6
  · intro i v hl
    obtain ⟨h1, h2⟩ := s.s.get i v hl
    obtain ⟨c, h3, h4⟩ := F.slot i v h1
    exact ⟨c, h3, RepS.lower v c h4 h2⟩
  · rw [s.d]
    have := F.defs
    rw [s.d'] at this
    simpa [RepD] using this
  · intro us
    exact ⟨rfl, rfl, rfl, Nat.le_refl _, fun _ _ _ => rfl, fun _ _ x => x, fun _ x _ => x, fun b _ ⟨i, o, k, h1, h2, h3⟩ => ⟨i, o, k, hget i o h1, h2, h3⟩, fun b _ ⟨i, o, k, h0, h1, h2, h3⟩ => ⟨i, o, k, h0, hget i o h1, h2, h3⟩⟩

/-- a round: from a state of the family on -/
def RoundQ {X : Type} (αx : X → AF) (hx : X → List SO) (μ : X → Nat) (x : X) (Q : Exit → AF → List SO → Prop) (e : Exit) (α : AF) (h : List SO) : Prop :=
  match e with
  | .normal => ∃ x', μ x' < μ x ∧ Sub α h (αx x') (hx x')
  | e => Q e α h

theorem loop_inv {P : Program} {T : TT} {n : Nat} (hT : T.all P = true) {X : Type} (αx : X → AF) (hx : X → List SO) (μ : X → Nat) (x0 : X) {body : Code} {Q : Exit → AF → List SO → Prop} {α : AF} {h : List SO}
    (h0 : Sub α h (αx x0) (hx x0)) (round : ∀ x, vcode P T n body (RoundQ αx hx μ x Q) (αx x) (hx x)) : LoopEv P none n body Q α h := by
  unfold LoopEv
  intro ι w M a H F
  have key : ∀ m x, μ x = m → ∀ ι w M a, St ι w M (hx x) → FR ι (hx x).length w M n (αx x) a → ∀ (b : Frame) (k : List Item) (cs : List Frame),
      ∃ e a' w', APost ι w M (hx x) none n Q e a' w' ∧ Arrives P (lone (b.at a (.code body :: .inLoop body :: k)) cs w) b k cs e a' w' := by
    intro m
    induction m using Nat.strongRecOn with
    | _ m ih =>
      intro x hm ι w M a H F b k cs
      obtain ⟨e, a1, w1, ⟨α1, h1, ι1, M1, q1, q2, q3, q4⟩, harr⟩ := vcode_ok hT body (round x) H F b (.inLoop body :: k) cs
      cases e with
      | normal =>
        obtain ⟨x', hlt, hs⟩ := q1
        obtain ⟨s1, s2, s3⟩ := hs.st q2 q3
        obtain ⟨e2, a2, w2, ⟨α2, h2, ι2, M2, r1, r2, r3, r4⟩, harr2⟩ := ih (μ x') (hm ▸ hlt) x' rfl ι1 w1 M1 a1 s1 s2 b k cs
        exact ⟨e2, a2, w2, ⟨α2, h2, ι2, M2, r1, r2, r3, q4.trans H.mlt ((s3 none).trans q2.mlt r4)⟩, .of_steps (Steps.trans harr (.one step_inLoop)) harr2⟩
      | exit id => exact ⟨_, a1, w1, ⟨α1, h1, ι1, M1, q1, q2, q3, q4⟩, .pass (x := .inLoop body) rfl (fun _ _ => .inl (by simp)) harr⟩
      | goto l => exact ⟨_, a1, w1, ⟨α1, h1, ι1, M1, q1, q2, q3, q4⟩, .pass (x := .inLoop body) rfl (fun _ _ => .inl (by simp)) harr⟩
      | ret => exact ⟨_, a1, w1, ⟨α1, h1, ι1, M1, q1, q2, q3, q4⟩, .pass (x := .inLoop body) rfl (fun _ _ => .inl (by simp)) harr⟩
      | panic ch => exact ⟨_, a1, w1, ⟨α1, h1, ι1, M1, q1, q2, q3, q4⟩, .pass (x := .inLoop body) rfl (fun _ _ => .inl (by simp)) harr⟩
      | outgrown => exact ⟨_, a1, w1, ⟨α1, h1, ι1, M1, q1, q2, q3, q4⟩, .pass (x := .inLoop body) rfl (fun _ _ => .inl (by simp)) harr⟩
  obtain ⟨s1, s2, s3⟩ := h0.st H F
  intro b k cs
  obtain ⟨e, a', w', ⟨α', h', ι', M', r1, r2, r3, r4⟩, harr⟩ := key _ x0 rfl ι w M a s1 s2 b k cs
  exact ⟨e, a', w', ⟨α', h', ι', M', r1, r2, r3, (s3 none).trans H.mlt r4⟩, .of_steps (.one step_loop) harr⟩

end Go.AV0
