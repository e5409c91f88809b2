/- Loops by plain counters; conditions by propositions. -/
import Derived.Test.YthbglcdcfdjbbaaFwS
namespace Go.AV0

theorem bsplit_d {p : Prop} [Decidable p] {A B : Prop} (h : p → decide p = true → A) (k : ¬ p → decide p = false → B) : BSplit (decide p) A B :=
  bsplit (fun e => h (of_decide_eq_true e) e) (fun e => k (of_decide_eq_false e) e)

/-- behind a round: there is a next one, or the loop is left -/
def Round1 {X : Type} (Inv : X → Prop) (αx : X → AF) (hx : X → List SO) (μ : X → Nat) (x : X) (Q : Exit → AF → List SO → Prop) (e : Exit) (α : AF) (h : List SO) : Prop :=
  match e with
  | .normal => ∃ x', Inv x' ∧ μ x' < μ x ∧ Sub α h (αx x') (hx x')
  | e => Q e α h

theorem loop_on {P : Program} {T : TT} {n : Nat} (hT : T.all P = true) {X : Type} (Inv : X → Prop) (αx : X → AF) (hx : X → List SO) (μ : X → Nat) (x0 : X) {body : Code} {Q : Exit → AF → List SO → Prop} {α : AF} {h : List SO}
    (hi : Inv x0) (h0 : Sub α h (αx x0) (hx x0)) (round : ∀ x, Inv x → vcode P T n body (Round1 Inv αx hx μ x Q) (αx x) (hx x)) : LoopEv P none n body Q α h := by
  unfold LoopEv
  intro ι w M a H F
  have key : ∀ m x, Inv x → μ x = m → ∀ ι w M a, St ι w M (hx x) → FR ι (hx x).length w M n (αx x) a → ∀ (b : Frame) (k : List Item) (cs : List Frame),
      ∃ e a' w', APost ι w M (hx x) none n Q e a' w' ∧ Arrives P (lone (b.at a (.code body :: .inLoop body :: k)) cs w) b k cs e a' w' := by
    intro m
    induction m using Nat.strongRecOn with
    | _ m ih =>
      intro x hi hm ι w M a H F b k cs
      obtain ⟨e, a1, w1, ⟨α1, h1, ι1, M1, q1, q2, q3, q4⟩, harr⟩ := vcode_ok hT body (round x hi) H F b (.inLoop body :: k) cs
      cases e with
      | normal =>
        obtain ⟨x', hi', hlt, hs⟩ := q1
        obtain ⟨s1, s2, s3⟩ := hs.st q2 q3
        obtain ⟨e2, a2, w2, ⟨α2, h2, ι2, M2, r1, r2, r3, r4⟩, harr2⟩ := ih (μ x') (hm ▸ hlt) x' hi' rfl ι1 w1 M1 a1 s1 s2 b k cs
        exact ⟨e2, a2, w2, ⟨α2, h2, ι2, M2, r1, r2, r3, q4.trans H.mlt ((s3 none).trans q2.mlt r4)⟩, .of_steps (Steps.trans harr (.one step_inLoop)) harr2⟩
      | exit id => exact ⟨_, a1, w1, ⟨α1, h1, ι1, M1, q1, q2, q3, q4⟩, .pass (x := .inLoop body) rfl (fun _ _ => .inl (by simp)) harr⟩
      | goto l => exact ⟨_, a1, w1, ⟨α1, h1, ι1, M1, q1, q2, q3, q4⟩, .pass (x := .inLoop body) rfl (fun _ _ => .inl (by simp)) harr⟩
      | ret => exact ⟨_, a1, w1, ⟨α1, h1, ι1, M1, q1, q2, q3, q4⟩, .pass (x := .inLoop body) rfl (fun _ _ => .inl (by simp)) harr⟩
      | panic ch => exact ⟨_, a1, w1, ⟨α1, h1, ι1, M1, q1, q2, q3, q4⟩, .pass (x := .inLoop body) rfl (fun _ _ => .inl (by simp)) harr⟩
      | outgrown => exact ⟨_, a1, w1, ⟨α1, h1, ι1, M1, q1, q2, q3, q4⟩, .pass (x := .inLoop body) rfl (fun _ _ => .inl (by simp)) harr⟩
  obtain ⟨s1, s2, s3⟩ := h0.st H F
  intro b k cs
  obtain ⟨e, a', w', ⟨α', h', ι', M', r1, r2, r3, r4⟩, harr⟩ := key _ x0 hi rfl ι w M a s1 s2 b k cs
  exact ⟨e, a', w', ⟨α', h', ι', M', r1, r2, r3, (s3 none).trans H.mlt r4⟩, .of_steps (.one step_loop) harr⟩
/-- a nil slice in a slot, made an own empty array ahead of a loop -/
theorem loop_own_t {P : Program} {us : Us} {n : Nat} {body : Code} {Q : Exit → AF → List SO → Prop} {α : AF} {h : List SO} (slot e z : Nat) (hs : look α.s slot = some (.v (.c (.slice none 0 0))))
    (hk : forceN h.length fun id => nfH (h ++ [.arr e z []]) fun h' => LoopEv P us n body Q ⟨(slot, .ms id) :: α.s, α.d⟩ h') : LoopEv P us n body Q α h := by
  rw [forceN_eq, nfH_eq] at hk
  unfold LoopEv at hk ⊢
  intro ι w M a H F
  obtain ⟨g1, g2, g3⟩ := H.push0 us (.arr e z []) (by simp only [StO]; exact ⟨by simp, .inl ⟨trivial, upd_same _ _ _⟩⟩)
  have hkp : Keep w M w M := fun b _ hm => ⟨hm, rfl⟩
  have F0 : FR (upd ι h.length none) (h ++ [SO.arr e z []]).length w M n α a := by
    have := F.keep g2 hkp
    simpa using this
  have F' : FR (upd ι h.length none) (h ++ [SO.arr e z []]).length w M n ⟨(slot, .ms h.length) :: α.s, α.d⟩ a := by
    refine ⟨F0.size, ?_, F0.defs⟩
    intro i s h'
    rw [look_cons] at h'
    by_cases hi : i = slot
    · subst hi
      simp at h'; subst h'
      obtain ⟨c, h1, h2⟩ := F.slot i _ hs
      simp only [RepS, Rep] at h2
      exact ⟨c, h1, by simp only [RepS]; exact ⟨by simp, .inl ⟨upd_same _ _ _, h2⟩⟩⟩
    · simp [hi] at h'
      exact F0.slot i s h'
  refine wp_mono (hk _ w M a g1 F') ?_
  rintro e' a' w' ⟨α', h', ι', M', q1, q2, q3, q4⟩
  exact ⟨α', h', ι', M', q1, q2, q3, g3.trans H.mlt q4⟩

/-- a contract out of code, where objects that are handed back stay objects (lo: those from there on are frozen) -/
theorem aimp_keep {P : Program} {T : TT} (hT : T.all P = true) (lo : Nat) {f : FuncId} {fn : Func} {c : Code} {args : List SV} {h : List SO} {mv : List Nat} {Q : SV → List SO → Prop} {rs : List ResultVar} (hf : P.funcs[f]? = some fn) (hn : (fn.name == "runtime.NumGoroutine") = false)
    (hb : fn.body = some c) (hr : fn.results.toList = rs) (hlen : Nat.ble args.length fn.ntmps = true)
    (hv : ∀ p : Iota, nfH (h ++ pinL p 0 h.length) fun H => nfF (initF 0 args) fun s => vcode P T fn.ntmps c (RetI P T rs lo (FinI mv p h.length Q)) ⟨s, []⟩ H) : AImp P f args h mv Q := by
  refine ⟨⟨fn, hf, hn, by rw [hb]; rfl⟩, ?_⟩
  intro ι w M cs H ha
  have hv := hv ι
  rw [nfH_eq, nfF_eq] at hv
  have F := initF_ok (RepSL.keep (ι := ι) (N := h.length) (N' := (h ++ pinL ι 0 h.length).length) ⟨by simp, fun _ _ => rfl⟩ (fun b _ hm => ⟨hm, rfl⟩) _ _ ha) (Nat.le_of_ble_eq_true hlen)
  refine calls_of_wp_defers hf hb (wp_mono (vcode_ok hT c hv H.pins F) ?_)
  rintro e a' w' ⟨α', h', ι', M', q1, q2, q3, q4⟩
  have hR := fun c s h' ι' w' M' (a : FinI mv ι h.length Q s h') b d e => fin_ipost (ι := ι) (w := w) (M := M) (c := c) (ι' := ι') (w' := w') (M' := M') H a b d e
  cases e with
  | normal => exact leave_ok hT hr H.mlt hR _ q1 q2 q3 q4
  | ret => exact leave_ok hT hr H.mlt hR _ q1 q2 q3 q4
  | exit _ => exact q1.elim
  | goto _ => exact q1.elim
  | panic _ => exact q1.elim
  | outgrown => exact q1.elim

end Go.AV0
