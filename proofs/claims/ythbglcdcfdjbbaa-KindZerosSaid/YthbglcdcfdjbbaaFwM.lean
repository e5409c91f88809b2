/- The executor over operations, regions and code, and its soundness. -/
import Derived.Test.YthbglcdcfdjbbaaFwL
namespace Go.AV0

def FnOk (P : Program) (f : FuncId) : Prop := ∃ fn, P.funcs[f]? = some fn ∧ (fn.name == "runtime.NumGoroutine") = false ∧ fn.body.isSome = true

theorem run_callFunc {P : Program} {f : FuncId} (h : FnOk P f) (args : Array Value) (w : World) : (callFunc f args).run P w = .ok (.enter f args) w := by
  obtain ⟨fn, h1, h2, h3⟩ := h
  cases hb : fn.body with
  | none => rw [hb] at h3; cases h3
  | some b =>
    have h2' : ¬ fn.name = "runtime.NumGoroutine" := by simpa using h2
    simp [callFunc, h1, h2', hb]

/-- what a call, or an operation, leaves -/
def CPost (ι : Iota) (w : World) (M : Nat → Prop) (h : List SO) (us : Us) (n : Nat) (a : Act) (K : SV → AF → List SO → Prop) (e : Ending) (w' : World) : Prop :=
  ∃ c s α' h' ι' M', e = .returned c ∧ K s α' h' ∧ St ι' w' M' h' ∧ FR ι' h'.length w' M' n α' a ∧ RepS ι' h'.length w' M' s c ∧ Grow ι w M h us ι' w' M' h'

@[irreducible] def CallEv (P : Program) (us : Us) (f : FuncId) (args : List SV) (α : AF) (h : List SO) (K : SV → AF → List SO → Prop) : Prop :=
  FnOk P f ∧ ∀ ι w M n a cs, St ι w M h → FR ι h.length w M n α a → RepSL ι h.length w M args cs → Calls P f cs.toArray w (CPost ι w M h us n a K)

theorem CallEv.elim {P us f args α h K} (x : CallEv P us f args α h K) :
    FnOk P f ∧ ∀ ι w M n a cs, St ι w M h → FR ι h.length w M n α a → RepSL ι h.length w M args cs → Calls P f cs.toArray w (CPost ι w M h us n a K) := by
  unfold CallEv at x; exact x

theorem CallEv.intro {P us f args α h K} (x : FnOk P f) (y : ∀ ι w M n a cs, St ι w M h → FR ι h.length w M n α a → RepSL ι h.length w M args cs → Calls P f cs.toArray w (CPost ι w M h us n a K)) : CallEv P us f args α h K := by
  unfold CallEv; exact ⟨x, y⟩

/-- a function value's target: the function, what goes ahead of the arguments, what is captured -/
def cloOf (s : SV) : Option (FuncId × List SV × List SV) :=
  match s with
  | .v (.c (.func (.func f) a b)) => match a.toList, b.toList with
    | [], [] => some (f, [], [])
    | _, _ => none
  | .v (.clo (.func f) a b) => some (f, a.map .v, b.map .v)
  | .clo (.func f) a b => some (f, a, b)
  | _ => none

theorem cloOf_ok {s f a b} {ι N w M c} (h : cloOf s = some (f, a, b)) (hs : RepS ι N w M s c) : ∃ x y : Array Value, c = .func (.func f) x y ∧ RepSL ι N w M a x.toList ∧ RepSL ι N w M b y.toList := by
  unfold cloOf at h
  split at h <;> try (cases h; done)
  · rename_i f' a' b'
    split at h <;> cases h
    rename_i ha hb
    simp only [RepS, Rep] at hs; subst hs; exact ⟨a', b', rfl, by simp [RepSL, ha], by simp [RepSL, hb]⟩
  · cases h; simp only [RepS, Rep] at hs; obtain ⟨x, y, rfl, h1, h2⟩ := hs; exact ⟨x, y, rfl, RepSL.ofL h1, RepSL.ofL h2⟩
  · cases h; simp only [RepS] at hs; obtain ⟨x, y, rfl, h1, h2⟩ := hs; exact ⟨x, y, rfl, h1, h2⟩

def mkClo (fn : Fn) (a b : List SV) : SV :=
  match closedL a, closedL b with
  | some x, some y => .v (.clo fn x y)
  | _, _ => .clo fn a b

theorem mkClo_ok {fn a b} {ι N w M} {x y : Array Value} (h1 : RepSL ι N w M a x.toList) (h2 : RepSL ι N w M b y.toList) : RepS ι N w M (mkClo fn a b) (.func fn x y) := by
  unfold mkClo
  split
  · rename_i p q hp hq
    rw [closedL_map hp] at h1; rw [closedL_map hq] at h2
    simp only [RepS, Rep]; exact ⟨x, y, rfl, h1.toL, h2.toL⟩
  · simp only [RepS]; exact ⟨x, y, rfl, h1, h2⟩

def evO (α : AF) (x : Option Operand) : Option (Option SV) :=
  match x with
  | none => some none
  | some x => match evs α x with
    | some s => some (some s)
    | none => none

theorem evO_ok {ι N w M n α a} (H : FR ι N w M n α a) {x : Option Operand} {r : Option SV} (h : evO α x = some r) : RepO ι N w M r (x.map a.eval) := by
  unfold evO at h
  split at h
  · cases h; simp [RepO]
  · split at h <;> cases h
    rename_i s hs
    simp only [Option.map_some, RepO]; exact evs_ok H hs

def vbuiltin (_P : Program) (T : TT) (us : Us) (b : Builtin) (ts : List TypeId) (args : List SV) (α : AF) (h : List SO) (K : SV → AF → List SO → Prop) : Prop :=
  match b, ts, args with
  | .len, [t], [s] => bif safeId us s then vlen T t s h fun s => K s α h else False
  | .append, ts, [s, x] => vappend T us ts s x α h K
  | .max, _, [x, y] => vmax x y fun s => K s α h
  | .min, _, [x, y] => vmin x y fun s => K s α h
  | .complex, _, [.v (.c (.float .f64 a)), .v (.c (.float .f64 b))] => K (.v (.c (.complex .f64 a b))) α h
  | .real, _, [.v (.c (.complex k a _))] => K (.v (.c (.float k a))) α h
  | .imag, _, [.v (.c (.complex k _ b))] => K (.v (.c (.float k b))) α h
  | _, _, _ => False

def sing : List AV → List (List AV)
  | [] => []
  | y :: l => [y] :: sing l

theorem sing_flat : ∀ l : List AV, (sing l).flatten = l
  | [] => rfl
  | y :: l => by simp [sing, sing_flat l]

theorem sing_len : ∀ l : List AV, (sing l).length = l.length
  | [] => rfl
  | y :: l => by simp [sing, sing_len l]

theorem sing_one : ∀ l : List AV, ∀ x ∈ sing l, x.length = 1
  | [], x, h => by cases h
  | y :: l, x, h => by
    simp only [sing, List.mem_cons] at h
    rcases h with rfl | h
    · rfl
    · exact sing_one l x h

/-- an array of one's own, as a slice: it is an object of that kind from here on -/
def vsliceA (T : TT) (us : Us) (t id : Nat) (α : AF) (h : List SO) (K : SV → AF → List SO → Prop) : Prop :=
  onO (arOf T t) fun q => onO (nth h id) fun o => match o with
    | .cells xs => onO (closedL xs) fun ys => bif inU us id && Nat.beq q.2.2.size 1 && Nat.beq ys.length q.1 && Nat.ble 1 q.1 && Nat.ble q.1 1000 then K (.ms id) (killA id α) ((killH id h).set id (.arr q.2.1 1 (sing ys))) else False
    | _ => False

theorem vsliceA_ok {P : Program} {T : TT} (hT : T.all P = true) {us : Us} {t id : Nat} {ι : Iota} {w : World} {M : Nat → Prop} {h : List SO} {n : Nat} {a : Act} {α : AF} {K : SV → AF → List SO → Prop} {c : Value} (hv : vsliceA T us t id α h K)
    (H : St ι w M h) (F : FR ι h.length w M n α a) (hs : RepS ι h.length w M (.ref id 0) c) : Out ι w M h us n a K ((Instr.sliceAt t c none none none).run P w) := by
  obtain ⟨⟨k, e, j⟩, hq, hv⟩ := onO_some hv
  obtain ⟨q1, q2⟩ := arOf_ok hT hq
  obtain ⟨o, ho, hv⟩ := onO_some hv
  rw [nth_eq] at ho
  cases o with
  | cells xs =>
    obtain ⟨ys, hy, hv⟩ := onO_some hv
    cases hc : (inU us id && Nat.beq j.size 1 && Nat.beq ys.length k && Nat.ble 1 k && Nat.ble k 1000) with
    | false => simp only [hc, cond_false] at hv
    | true =>
      simp only [hc, cond_true] at hv
      simp only [Bool.and_eq_true] at hc
      obtain ⟨⟨⟨⟨c1, c2⟩, c3⟩, c4⟩, c5⟩ := hc
      have c2 := Nat.eq_of_beq_eq_true c2
      have c3 := Nat.eq_of_beq_eq_true c3
      have c4 := Nat.le_of_ble_eq_true c4
      have c5 := Nat.le_of_ble_eq_true c5
      have h0 := H.objs id _ ho
      simp only [StO] at h0
      obtain ⟨b, kk, cs, el, g1, g2, g3, g4⟩ := h0
      rw [closedL_map hy] at g4
      have g4 := g4.toL
      have hlen := g4.length
      have hcs : cs.size = k := by simpa [c3] using hlen
      simp only [RepS] at hs
      obtain ⟨hid, b', k', g5, rfl⟩ := hs
      rw [g1] at g5; cases g5
      obtain ⟨m1, m2, m3, m4⟩ := H.move us c1 ho (.arr e 1 (sing ys)) (some (b, k, 1, k)) w M (fun b hb => .inl hb) (fun b hb => hb) (Nat.le_refl _) (fun _ _ _ => rfl) (fun b2 k2 hk => by cases hk; exact .inr ⟨rfl, _, g1⟩) rfl rfl rfl (by
        simp only [StO]
        refine ⟨sing_one ys, .inr ⟨b, k, cs, el, by rw [upd_same, sing_len, c3], g2, g3, by omega, by rw [sing_len, c3]; exact Nat.le_refl _, ⟨by unfold maxLen; omega, .inl (by rw [sing_len, c3])⟩, ?_⟩⟩
        rw [sing_flat, sing_len, List.take_of_length_le (by simp; omega)]
        exact g4)
      have hrun : (Instr.sliceAt t (.pointer (some ⟨b, 0, none⟩)) none none none).run P w = .ok (.slice (some ⟨b, 0, none⟩) k k) w := by
        simp [Instr.sliceAt, run_underlying q1, Instr.sureAddr, Instr.sliceBounds, run_sizeOf q2, Addr.add_lit]
      refine ⟨_, _, _, _, _, _, _, hrun, hv, m1, by simpa [killH_length] using F.kill m2 m3, ?_, m4⟩
      simp only [RepS, List.length_set, killH_length]
      exact ⟨hid, .inr ⟨b, k, _, _, upd_same _ _ _, rfl⟩⟩
  | _ => exact hv.elim

/-! ### in plain form -/
mutual
def nfS : SV → (SV → Prop) → Prop
  | .any, K => K .any
  | .v x, K => K (.v x)
  | .ref a b, K => forceN a fun a => forceN b fun b => K (.ref a b)
  | .eref a b c, K => forceN a fun a => K (.eref a b c)
  | .ms a, K => forceN a fun a => K (.ms a)
  | .mm a, K => forceN a fun a => K (.mm a)
  | .tup l, K => nfL l fun l => K (.tup l)
  | .agg l, K => nfL l fun l => K (.agg l)
  | .clo f a b, K => nfL a fun a => nfL b fun b => K (.clo f a b)
def nfL : List SV → (List SV → Prop) → Prop
  | [], K => K []
  | x :: l, K => nfS x fun x => nfL l fun l => K (x :: l)
end

mutual
theorem nfS_eq : ∀ (s : SV) (K : SV → Prop), nfS s K = K s
  | .any, K => rfl
  | .v x, K => rfl
  | .ref a b, K => by simp only [nfS, forceN_eq]
  | .eref a b c, K => by simp only [nfS, forceN_eq]
  | .ms a, K => by simp only [nfS, forceN_eq]
  | .mm a, K => by simp only [nfS, forceN_eq]
  | .tup l, K => by simp only [nfS]; rw [nfL_eq l]
  | .agg l, K => by simp only [nfS]; rw [nfL_eq l]
  | .clo f a b, K => by simp only [nfS]; rw [nfL_eq a, nfL_eq b]
theorem nfL_eq : ∀ (l : List SV) (K : List SV → Prop), nfL l K = K l
  | [], K => rfl
  | x :: l, K => by simp only [nfL]; rw [nfS_eq x, nfL_eq l]
end

def nfH : List SO → (List SO → Prop) → Prop
  | [], K => K []
  | .dead :: l, K => nfH l fun l => K (.dead :: l)
  | .cells xs :: l, K => nfL xs fun xs => nfH l fun l => K (.cells xs :: l)
  | .arr e z els :: l, K => nfH l fun l => K (.arr e z els :: l)
  | .map es :: l, K => nfH l fun l => K (.map es :: l)
  | .pin j x :: l, K => forceN j fun j => nfH l fun l => K (.pin j x :: l)

theorem nfH_eq : ∀ (h : List SO) (K : List SO → Prop), nfH h K = K h
  | [], K => rfl
  | .dead :: l, K => by simp only [nfH]; rw [nfH_eq l]
  | .cells xs :: l, K => by simp only [nfH]; rw [nfL_eq, nfH_eq l]
  | .arr e z els :: l, K => by simp only [nfH]; rw [nfH_eq l]
  | .map es :: l, K => by simp only [nfH]; rw [nfH_eq l]
  | .pin j x :: l, K => by simp only [nfH, forceN_eq]; rw [nfH_eq l]

def nfF : List (Nat × SV) → (List (Nat × SV) → Prop) → Prop
  | [], K => K []
  | (j, s) :: l, K => nfS s fun s => nfF l fun l => K ((j, s) :: l)

theorem nfF_eq : ∀ (l : List (Nat × SV)) (K : List (Nat × SV) → Prop), nfF l K = K l
  | [], K => rfl
  | (j, s) :: l, K => by simp only [nfF]; rw [nfS_eq, nfF_eq l]

def vop0 (P : Program) (T : TT) (us : Us) (o : Oper) (α : AF) (h : List SO) (K : SV → AF → List SO → Prop) : Prop :=
  match o.op with
  | .move x => onO (evs α x) fun s => forceS s fun s => K s α h
  | .assign x => onO (evs α x) fun s => forceS s fun s => K s α h
  | .pick c a b => onO (evs α c) fun s => match s with
    | .v (.c (.bool t)) => BSplit t (onO (evs α a) fun s => forceS s fun s => K s α h) (onO (evs α b) fun s => forceS s fun s => K s α h)
    | _ => False
  | .alloc t => valloc T t α h K
  | .box _ x => onO (evs α x) fun s => vbox s α h K
  | .build t ps => onO (evP α ps.toList) fun r => vbuild T t r fun s => K s α h
  | .buildSlice t n ps => onO (evP α ps.toList) fun r => vbuildSlice T t n r α h K
  | .load t x => onO (evs α x) fun s => bif safeId us s then vload T t s α h K else False
  | .store t x y => onO (evs α x) fun s => onO (evs α y) fun v => vstore T us t s v α h K
  | .nilCheck x => onO (evs α x) fun s => vnil s fun s => K s α h
  | .binOp op t x y _ => onO (evs α x) fun a => onO (evs α y) fun b => vbin T op t (isK x || isK y) a b fun s => K s α h
  | .unOp op _ x => onO (evs α x) fun s => vun op s fun s => K s α h
  | .convert a b x => onO (evs α x) fun s => vconvert T a b s fun s => K s α h
  | .makeInterface t x => onO (evs α x) fun s => match s with
    | .mm id => onO (nth h id) fun o => bif live o then vmakeI T t (frzP o) fun s => K s (frzA id o α) ((frzH id o h).set id .dead) else False
    | s => vmakeI T t s fun s => K s α h
  | .makeFunc fn a b => onO (evL α a.toList) fun a => onO (evL α b.toList) fun b => K (mkClo fn a b) α h
  | .makeMap _ none => vmakeMap h α K
  | .slice t x lo hi none => onO (evs α x) fun s => match s, lo, hi with
    | .ref id 0, none, none => vsliceA T us t id α h K
    | s, lo, hi => onO (evO α lo) fun l => onO (evO α hi) fun u => vslice T t s l u fun s => K s α h
  | .fieldAddr t x f => onO (evs α x) fun s => vfieldAddr T t f s fun s => K s α h
  | .field t x f => onO (evs α x) fun s => vfield T t f s fun s => K s α h
  | .indexAddr t x i => onO (evs α x) fun s => onO (evs α i) fun i => vindexAddr T t s i h fun s => K s α h
  | .index t x i => onO (evs α x) fun s => onO (evs α i) fun i => vindex T t s i fun s => K s α h
  | .lookup t x i ok => onO (evs α x) fun s => onO (evs α i) fun i => bif safeId us s then vlookup T t s i ok h fun s => K s α h else False
  | .mapUpdate t m k v => onO (evs α m) fun m => onO (evs α k) fun k => onO (evs α v) fun v => vmapUpdate T us t m k v α h K
  | .typeAssert x _ t ok => onO (evs α x) fun s => vassert T s t ok fun s => K s α h
  | .extract x i => onO (evs α x) fun s => vextract s i fun s => K s α h
  | .call c => match c.callee with
    | .value x => onO (evs α x) fun f => onO (cloOf f) fun p => onO (evL α c.args.toList) fun args => CallEv P us p.1 (p.2.1 ++ args ++ p.2.2) α h K
    | .builtin b => onO (evL α c.args.toList) fun args => vbuiltin P T us b c.argTypes.toList args α h K
    | _ => False
  | .defer c => match c.callee with
    | .value x => onO (evs α x) fun f => onO (cloOf f) fun p => onO (evL α c.args.toList) fun args => match α with | ⟨l, e⟩ => K (.v (.tup [])) ⟨l, (p.1, p.2.1 ++ args, p.2.2) :: e⟩ h
    | _ => False
  | _ => False

/-- what changes the state leaves it in plain form -/
def nfO (op : Op) (h : List SO) (K : List SO → Prop) : Prop :=
  match op with
  | .alloc _ => nfH h K
  | .box _ _ => nfH h K
  | .buildSlice _ _ _ => nfH h K
  | .store _ _ _ => nfH h K
  | .makeMap _ _ => nfH h K
  | .makeInterface _ _ => nfH h K
  | .slice _ _ _ _ _ => nfH h K
  | .mapUpdate _ _ _ _ => nfH h K
  | .call c => match c.callee with
    | .builtin .append => nfH h K
    | _ => K h
  | _ => K h

theorem nfO_eq (op : Op) (h : List SO) (K : List SO → Prop) : nfO op h K = K h := by
  unfold nfO; split <;> first | exact nfH_eq _ _ | rfl | (split <;> first | exact nfH_eq _ _ | rfl)

def vop (P : Program) (T : TT) (us : Us) (o : Oper) (α : AF) (h : List SO) (K : SV → AF → List SO → Prop) : Prop :=
  vop0 P T us o α h fun s α h => nfO o.op h fun h => K s α h

theorem vop_eq {P : Program} {T : TT} {us : Us} {o : Oper} {α : AF} {h : List SO} {K : SV → AF → List SO → Prop} : vop P T us o α h K = vop0 P T us o α h K := by
  unfold vop
  congr 1
  funext s α h
  exact nfO_eq _ _ _

/-- behind an operation -/
def Nxt (ι : Iota) (w : World) (M : Nat → Prop) (h : List SO) (us : Us) (n : Nat) (dst : Option Tmp) (K : SV → AF → List SO → Prop) (a' : Act) (w' : World) : Prop :=
  ∃ a1 c s α' h' ι' M', a' = a1.put dst c ∧ K s α' h' ∧ St ι' w' M' h' ∧ FR ι' h'.length w' M' n α' a1 ∧ RepS ι' h'.length w' M' s c ∧ Grow ι w M h us ι' w' M' h'

section
variable {P : Program} {T : TT} {us : Us} {o : Oper} {ι : Iota} {w : World} {M : Nat → Prop} {h : List SO} {n : Nat} {a : Act} {α : AF} {K : SV → AF → List SO → Prop} {Q : Exit → Act → World → Prop}

theorem wp_value (H : St ι w M h) (F : FR ι h.length w M n α a) {c : Value} {s : SV} (hr : (execOp a.eval o).run P w = .ok (.value c) w) (hk : K s α h) (hs : RepS ι h.length w M s c) :
    o.wp P a w (Nxt ι w M h us n o.dst K) Q := by
  unfold Oper.wp; rw [hr]
  exact ⟨a, c, s, α, h, ι, M, rfl, hk, H, F, hs, Grow.refl ι w M h us⟩

theorem wp_out {r : Result Value} (hr : (execOp a.eval o).run P w = r.andThen fun c w' => .ok (.value c) w') (ho : Out ι w M h us n a K r) : o.wp P a w (Nxt ι w M h us n o.dst K) Q := by
  obtain ⟨c, s, α', h', ι', w', M', rfl, h1, h2, h3, h4, h5⟩ := ho
  unfold Oper.wp; rw [hr]
  exact ⟨a, c, s, α', h', ι', M', rfl, h1, h2, h3, h4, h5⟩

theorem wp_skip' {w' : World} (hr : (execOp a.eval o).run P w = .ok .skip w')
    (ho : ∃ α' h' ι' M', K .any α' h' ∧ St ι' w' M' h' ∧ FR ι' h'.length w' M' n α' a ∧ Grow ι w M h us ι' w' M' h') : o.wp P a w (Nxt ι w M h us n o.dst K) Q := by
  obtain ⟨α', h', ι', M', h1, h2, h3, h4⟩ := ho
  unfold Oper.wp; rw [hr]
  exact ⟨a, undef, .any, α', h', ι', M', rfl, h1, h2, h3, by simp [RepS], h4⟩

theorem wp_call {f : FuncId} {args : List SV} (hc : CallEv P us f args α h K) (H : St ι w M h) (F : FR ι h.length w M n α a) {cs : List Value} (hr : (execOp a.eval o).run P w = .ok (.enter f cs.toArray) w) (ha : RepSL ι h.length w M args cs) :
    o.wp P a w (Nxt ι w M h us n o.dst K) Q := by
  obtain ⟨_, hc⟩ := hc.elim
  unfold Oper.wp; rw [hr]
  refine (hc ι w M n a cs H F ha).mono ?_
  rintro e w' ⟨c, s, α', h', ι', M', rfl, h1, h2, h3, h4, h5⟩
  exact ⟨a, c, s, α', h', ι', M', rfl, h1, h2, h3, h4, h5⟩

theorem vbuiltin_ok (hT : T.all P = true) {b : Builtin} {ts : List TypeId} {ty : TypeId} {cst : Array Bool} {args : List SV} {cs : List Value} (hv : vbuiltin P T us b ts args α h K) (H : St ι w M h) (F : FR ι h.length w M n α a) (ha : RepSL ι h.length w M args cs) :
    ∃ r : Result Value, (builtin b ts.toArray ty cst cs.toArray).run P w = r.andThen (fun c w' => .ok (.value c) w') ∧ Out ι w M h us n a K r := by
  unfold vbuiltin at hv
  split at hv
  · rename_i t s
    simp only [RepSL] at ha; obtain ⟨c, cs', rfl, h1, rfl⟩ := ha
    cases hs : safeId us s with
    | false => rw [hs] at hv; exact hv.elim
    | true =>
      rw [hs] at hv; simp only [cond_true] at hv
      obtain ⟨c', s', g1, g2, g3⟩ := vlen_ok (ty := ty) hT hs hv H h1
      exact ⟨_, by simp [builtin], Out.same H F (g1 w (Same.refl _ _)) g2 g3⟩
  · rename_i s x
    simp only [RepSL] at ha; obtain ⟨c, cs', rfl, h1, d, ds', rfl, h2, rfl⟩ := ha
    exact ⟨_, by simp [builtin], vappend_ok (ty := ty) hT hv H F h1 h2⟩
  · rename_i x y
    simp only [RepSL] at ha; obtain ⟨c, cs', rfl, h1, d, ds', rfl, h2, rfl⟩ := ha
    obtain ⟨c', s', g1, g2, g3⟩ := vmax_ok (P := P) (ts := ts.toArray) (ty := ty) hv h1 h2
    exact ⟨_, by simp [builtin], Out.same H F (g1 w) g2 g3⟩
  · rename_i x y
    simp only [RepSL] at ha; obtain ⟨c, cs', rfl, h1, d, ds', rfl, h2, rfl⟩ := ha
    obtain ⟨c', s', g1, g2, g3⟩ := vmin_ok (P := P) (ts := ts.toArray) (ty := ty) hv h1 h2
    exact ⟨_, by simp [builtin], Out.same H F (g1 w) g2 g3⟩
  · simp only [RepSL, RepS, Rep] at ha; obtain ⟨c, cs', rfl, rfl, d, ds', rfl, rfl, rfl⟩ := ha
    rename_i p q
    exact ⟨.ok (.complex .f64 p q) w, rfl, Out.same H F rfl hv (by simp [RepS, Rep])⟩
  · simp only [RepSL, RepS, Rep] at ha; obtain ⟨c, cs', rfl, rfl, rfl⟩ := ha
    rename_i k p q
    exact ⟨.ok (.float k p) w, rfl, Out.same H F rfl hv (by simp [RepS, Rep])⟩
  · simp only [RepSL, RepS, Rep] at ha; obtain ⟨c, cs', rfl, rfl, rfl⟩ := ha
    rename_i k p q
    exact ⟨.ok (.float k q) w, rfl, Out.same H F rfl hv (by simp [RepS, Rep])⟩
  · exact hv.elim

end
end Go.AV0
