/- Contracts of functions that are handed objects, out of their code. -/
import Derived.Test.YthbglcdcfdjbbaaFwR
namespace Go.AV0

/-- behind a call: all in plain form -/
def behind (mv : List Nat) (s : SV) (α : AF) (h : List SO) (K : SV → AF → List SO → Prop) : Prop :=
  nfS s fun s => nfH h fun h => match mv with
    | [] => K s α h
    | mv => nfF (killsF mv α.s) fun l => K s ⟨l, killsD mv α.d⟩ h

theorem behind_eq {mv s α h K} : behind mv s α h K = K s (killsA mv α) h := by
  unfold behind killsA
  rw [nfS_eq, nfH_eq]
  cases mv with
  | nil => rfl
  | cons x l => simp only; rw [nfF_eq]

theorem call_obj {P us f args α h K} {args0 : List SV} {h0 : List SO} {mv : List Nat} {Q : SV → List SO → Prop} (hp : AImp P f args0 h0 mv Q) (sel : List Nat) (hargs : renL h.length sel args0 = args) (hpick : pickAll h sel = wrapAll h.length sel h0)
    (hchk : (ltL sel.length args0 && ltH sel.length h0 && nodupB sel && allLt h.length sel && sel.all (inU us)) = true)
    (hk : ∀ s h', Q s h' → behind (mapN h.length sel mv) (renS h.length sel s) α (patch h sel mv h') K) : CallEv P us f args α h K :=
  call_imp hp sel hargs hpick hchk fun s h' hq _ => by have := hk s h' hq; rwa [behind_eq] at this

/-! ### what was deferred -/
@[irreducible] def DefEv (P : Program) (f : FuncId) (args : List SV) (α : AF) (h : List SO) (K : List SO → Prop) : Prop :=
  FnOk P f ∧ ∀ ι w M n a cs u, St ι w M h → FR ι h.length w M n α a → RepSL ι h.length w M args cs → CallsD P f cs.toArray u w (fun e u' w' => u' = u ∧ CPost ι w M h none n a (fun _ α' h' => α' = α ∧ K h') e w')

theorem def_obj {P f args α h} {K : List SO → Prop} {args0 : List SV} {h0 : List SO} {Q : SV → List SO → Prop} (hp : ADef P f args0 h0 [] Q) (sel : List Nat) (hargs : renL h.length sel args0 = args) (hpick : pickAll h sel = wrapAll h.length sel h0)
    (hchk : (ltL sel.length args0 && ltH sel.length h0 && nodupB sel && allLt h.length sel) = true)
    (hk : ∀ s h', Q s h' → nfH (patch h sel [] h') K) : DefEv P f args α h K := by
  unfold DefEv
  refine ⟨hp.1, ?_⟩
  intro ι w M n a cs u H F hr
  simp only [Bool.and_eq_true] at hchk
  obtain ⟨⟨⟨h1, h2⟩, h3⟩, h4⟩ := hchk
  have h5 : sel.all (inU none) = true := by simp [inU]
  have hk' : ∀ s h', Q s h' → sel.length ≤ h'.length → (fun (_ : SV) (α' : AF) (h' : List SO) => α' = α ∧ K h') (renS h.length sel s) (killsA (mapN h.length sel []) α) (patch h sel [] h') := fun s h' hq _ => ⟨rfl, by have := hk s h' hq; rwa [nfH_eq] at this⟩
  obtain ⟨g1, g2, _⟩ := ipost_cpost (e := .outgrown) (w' := w) (us := none) (K := fun _ α' h' => α' = α ∧ K h') (mv := []) (Q := Q) H F hpick h2 h3 h4 h5 hk'
  subst hargs
  refine (hp.2 _ w M cs u g1 (g2 h1 hr)).mono ?_
  rintro e u' w' ⟨hu, hq⟩
  exact ⟨hu, (ipost_cpost (e := e) (w' := w') (us := none) (K := fun _ α' h' => α' = α ∧ K h') (mv := []) (Q := Q) H F hpick h2 h3 h4 h5 hk').2.2 hq⟩

/-! ### the end -/
/-- what is one's own and goes out is frozen, but not what one was handed -/
def retI : Nat → Nat → SV → List SO → (SV → List SO → Prop) → Prop
  | 0, _, s, h, k => nfS s fun s => nfH h fun h => k s h
  | n + 1, lo, s, h, k => match nextId 20 h s with
    | some id => bif Nat.blt id lo then nfS s fun s => nfH h fun h => k s h else onO (nth h id) fun o => bif live o then retI n lo (frz id o s) ((frzH id o h).set id .dead) k else False
    | none => match plainS s with
      | some x => nfH h fun h => k (.v x) h
      | none => nfS s fun s => nfH h fun h => k s h

theorem retI_ok : ∀ (n lo : Nat) {s : SV} {h : List SO} {k : SV → List SO → Prop} {ι w M c}, retI n lo s h k → St ι w M h → RepS ι h.length w M s c →
    ∃ M' s' h', k s' h' ∧ St ι w M' h' ∧ RepS ι h'.length w M' s' c ∧ Grow ι w M h none ι w M' h'
  | 0, lo, s, h, k, ι, w, M, c, hv, H, hs => by
    simp only [retI, nfS_eq, nfH_eq] at hv
    exact ⟨M, s, h, hv, H, hs, Grow.refl ι w M h none⟩
  | n + 1, lo, s, h, k, ι, w, M, c, hv, H, hs => by
    simp only [retI, nfS_eq, nfH_eq] at hv
    split at hv
    · rename_i id _
      cases hb : Nat.blt id lo with
      | true => rw [hb] at hv; exact ⟨M, s, h, hv, H, hs, Grow.refl ι w M h none⟩
      | false =>
        rw [hb] at hv; simp only [cond_false] at hv
        obtain ⟨o, ho, hv⟩ := onO_some hv
        cases hl : live o with
        | false => rw [hl] at hv; exact hv.elim
        | true =>
          rw [hl] at hv; simp only [cond_true] at hv
          rw [nth_eq] at ho
          obtain ⟨M', g1, g2, g3, g4⟩ := H.freeze none ho hl
          have hlen : ((frzH id o h).set id .dead).length = h.length := by simp [frzH_length]
          obtain ⟨M2, s', h', k1, k2, k3, k4⟩ := retI_ok n lo hv g1 (by rw [hlen]; exact RepS.frz g2 g3 _ _ hs)
          exact ⟨M2, s', h', k1, k2, k3, g4.trans H.mlt k4⟩
    · split at hv
      · rename_i x hx
        exact ⟨M, .v x, h, hv, H, by simp only [RepS]; exact plainS_ok hx hs, Grow.refl ι w M h none⟩
      · exact ⟨M, s, h, hv, H, hs, Grow.refl ι w M h none⟩

def pinL (p : Iota) : Nat → Nat → List SO
  | _, 0 => []
  | k, n + 1 => .pin k (p k) :: pinL p (k + 1) n

theorem pinL_get (p : Iota) : ∀ (n k i : Nat) o, (pinL p k n)[i]? = some o → i < n ∧ o = .pin (k + i) (p (k + i))
  | 0, k, i, o, h => by simp [pinL] at h
  | n + 1, k, 0, o, h => by simp [pinL] at h; exact ⟨by omega, h.symm⟩
  | n + 1, k, i + 1, o, h => by
    simp only [pinL, List.getElem?_cons_succ] at h
    obtain ⟨h1, h2⟩ := pinL_get p n (k + 1) i o h
    have h3 : k + 1 + i = k + (i + 1) := by omega
    exact ⟨by omega, by rw [h2, h3]⟩

theorem pinL_length (p : Iota) : ∀ (n k : Nat), (pinL p k n).length = n
  | 0, k => rfl
  | n + 1, k => by simp [pinL, pinL_length p n]

/-- what may not have moved lies where it lay -/
def pinsOk (mv : List Nat) (p : Iota) (h : List SO) (m : Nat) : Nat → Nat → Prop
  | _, 0 => True
  | k, n + 1 => (bif inL mv k then True else nth h (m + k) = some (.pin k (p k))) ∧ pinsOk mv p h m (k + 1) n

theorem pinsOk_get {mv : List Nat} {p : Iota} {h : List SO} {m : Nat} : ∀ {n k : Nat}, pinsOk mv p h m k n → ∀ i, k ≤ i → i < k + n → inL mv i = false → h[m + i]? = some (.pin i (p i))
  | 0, k, _, i, h1, h2, _ => by omega
  | n + 1, k, hp, i, h1, h2, h3 => by
    simp only [pinsOk] at hp
    rcases Nat.lt_or_ge k i with h4 | h4
    · exact pinsOk_get hp.2 i (by omega) (by omega) h3
    · have : i = k := by omega
      subst this
      have := hp.1
      rw [h3, nth_eq] at this
      exact this

def FinI (mv : List Nat) (p : Iota) (m : Nat) (Q : SV → List SO → Prop) (s : SV) (h : List SO) : Prop :=
  pinsOk mv p h m 0 m ∧ ∃ k, (Nat.ble m k && Nat.ble k h.length && ltH k (h.take k) && ltS k s) = true ∧ Q s (h.take k)

def leaveV (P : Program) (T : TT) (rs : List ResultVar) (lo : Nat) (fin : SV → List SO → Prop) (s : List (Nat × SV)) : List (Nat × List SV × List SV) → List SO → Prop
  | [], h => resV T rs ⟨s, []⟩ h fun l => retI 20 lo (tupS l) h fin
  | (f, as, cs) :: l, h => DefEv P f (as ++ cs) ⟨s, l⟩ h fun h' => leaveV P T rs lo fin s l h'

def RetI (P : Program) (T : TT) (rs : List ResultVar) (lo : Nat) (fin : SV → List SO → Prop) (e : Exit) (α : AF) (h : List SO) : Prop :=
  match e with
  | .normal => leaveV P T rs lo fin α.s α.d h
  | .ret => leaveV P T rs lo fin α.s α.d h
  | _ => False

theorem St.shrink {ι w M h} (H : St ι w M h) (k : Nat) (hk : ltH k (h.take k) = true) (hl : k ≤ h.length) : St ι w M (h.take k) ∧ Grow ι w M h none ι w M (h.take k) := by
  have hlen : (h.take k).length = k := by simp; omega
  have F : FR ι h.length w M 0 ⟨[], []⟩ { tmps := #[], defers := [] } := ⟨rfl, fun i s h => by simp [look] at h, by simp [RepD]⟩
  have S : Sub ⟨[], []⟩ h ⟨[], []⟩ (h.take k) := ⟨rfl, rfl, by simp [SubF], ⟨h.drop k, (List.take_append_drop k h).symm⟩, by rw [hlen]; exact hk⟩
  obtain ⟨a, _, c⟩ := S.st H F
  exact ⟨a, c none⟩

theorem St.pins {ι w M h} (H : St ι w M h) : St ι w M (h ++ pinL ι 0 h.length) := by
  have hget : ∀ i x, (h ++ pinL ι 0 h.length)[i]? = some x → (i < h.length ∧ h[i]? = some x) ∨ (∃ j, j < h.length ∧ x = .pin j (ι j)) := by
    intro i x hx
    rcases Nat.lt_or_ge i h.length with hi | hi
    · rw [List.getElem?_append_left hi] at hx; exact .inl ⟨hi, hx⟩
    · rw [List.getElem?_append_right hi] at hx
      obtain ⟨h1, h2⟩ := pinL_get _ _ _ _ _ hx
      exact .inr ⟨_, h1, by simpa using h2⟩
  refine ⟨?_, ?_, H.mlt⟩
  · intro i o ho
    rcases hget i o ho with ⟨h1, h2⟩ | ⟨j, h1, rfl⟩
    · exact StO.keep ⟨by simp, fun _ _ => rfl⟩ (fun b _ hm => ⟨hm, rfl⟩) rfl (fun b k l e => ⟨rfl, (H.objs i o h2).ownM l e⟩) (H.objs i o h2)
    · simp only [StO]; exact ⟨by simp; omega, trivial⟩
  · intro i j oi oj b k k' h1 h2 l1 l2 e1 e2
    rcases hget i oi h1 with ⟨g1, g2⟩ | ⟨_, _, rfl⟩
    · rcases hget j oj h2 with ⟨g3, g4⟩ | ⟨_, _, rfl⟩
      · exact H.dist i j oi oj b k k' g2 g4 l1 l2 e1 e2
      · simp [live] at l2
    · simp [live] at l1

theorem own_pins {ι h b} (x : own ι (h ++ pinL ι 0 h.length) b) : own ι h b := by
  obtain ⟨i, o, k, h1, h2, h3⟩ := x
  rcases Nat.lt_or_ge i h.length with hi | hi
  · rw [List.getElem?_append_left hi] at h1; exact ⟨i, o, k, h1, h2, h3⟩
  · rw [List.getElem?_append_right hi] at h1
    obtain ⟨_, h4⟩ := pinL_get _ _ _ _ _ h1
    subst h4; simp [live] at h2

theorem own_pins' {ι h b} (l : List SO) (x : own ι h b) : own ι (h ++ l) b := by
  obtain ⟨i, o, k, h1, h2, h3⟩ := x
  exact ⟨i, o, k, by rw [List.getElem?_append_left (get_lt h1)]; exact h1, h2, h3⟩

theorem ownN {ι h b} : ownT ι h none b ↔ own ι h b := ⟨fun x => x.own, fun ⟨i, o, k, h⟩ => ⟨i, o, k, rfl, h⟩⟩

theorem leave_ok {P : Program} {T : TT} (hT : T.all P = true) {fn : Func} {rs : List ResultVar} (hr : fn.results.toList = rs) {lo : Nat} {fin : SV → List SO → Prop} {ι0 w0 M0 h0} (hM0 : ∀ b, M0 b → b < w0.heap.size) {R : Ending → World → Prop}
    (hR : ∀ c s h ι w M, fin s h → St ι w M h → RepS ι h.length w M s c → Grow ι0 w0 M0 h0 none ι w M h → R (.returned c) w) :
    ∀ (d : List (Nat × List SV × List SV)) {s h ι w M n a}, leaveV P T rs lo fin s d h → St ι w M h → FR ι h.length w M n ⟨s, d⟩ a → Grow ι0 w0 M0 h0 none ι w M h → Leaves P fn a.tmps R a.defers .returning w
  | [], s, h, ι, w, M, n, a, hv, H, F, G => by
    simp only [leaveV] at hv
    have hdef := F.defs
    simp only [RepD] at hdef
    rw [hdef]
    obtain ⟨r, vs, g1, g2, g3⟩ := resV_ok hT H F hv
    obtain ⟨M2, s', h', k1, k2, k3, k4⟩ := retI_ok 20 lo g1 H (tupS_ok g2)
    have hrun : (results fn a.tmps).run P w = .ok (if h : vs.toArray.size = 1 then vs.toArray[0] else .tuple vs.toArray) w := by
      rw [results_eq, Array.mapM_eq_mapM_toList, hr]
      simp only [Sem.run_bind, Sem.run_map, g3, Result.andThen_ok, Sem.run_pure]
    exact ⟨_, hrun, hR _ _ _ _ _ _ k1 k2 k3 (G.trans hM0 k4)⟩
  | (f, as, cs) :: l, s, h, ι, w, M, n, a, hv, H, F, G => by
    simp only [leaveV] at hv
    unfold DefEv at hv
    obtain ⟨hok, hv⟩ := hv
    have hdef := F.defs
    simp only [RepD] at hdef
    obtain ⟨cs', as', ds', h1, h2, h3, h4⟩ := hdef
    rw [h1]
    have F' : FR ι h.length w M n ⟨s, l⟩ { a with defers := ds' } := ⟨F.size, F.slot, h4⟩
    refine leaves_cons (f := f) (args := (as'.toList ++ cs'.toList).toArray) (by simp) ?_ ?_
    · simp only [invoke]
      rw [run_callFunc hok]
      congr 2
      apply Array.ext'
      simp
    · refine (hv ι w M n { a with defers := ds' } _ .returning H F' (h2.append h3)).mono ?_
      rintro e u' w' ⟨rfl, c, s', α', h', ι', M', rfl, ⟨rfl, hk⟩, q1, q2, q3, q4⟩
      exact leave_ok hT hr hM0 hR l (a := { a with defers := ds' }) hk q1 q2 (G.trans hM0 q4)

/-- the body, from its start on -/
theorem imp_body {P : Program} {T : TT} (hT : T.all P = true) {fn : Func} {c : Code} {args : List SV} {h : List SO} {mv : List Nat} {Q : SV → List SO → Prop} {rs : List ResultVar} (hlen : Nat.ble args.length fn.ntmps = true)
    (hv : ∀ p : Iota, nfH (h ++ pinL p 0 h.length) fun H => nfF (initF 0 args) fun s => vcode P T fn.ntmps c (RetI P T rs (h.length + h.length) (FinI mv p h.length Q)) ⟨s, []⟩ H) {ι w M cs} (H : St ι w M h) (ha : RepSL ι h.length w M args cs) :
    c.wp P (APost ι w M (h ++ pinL ι 0 h.length) none fn.ntmps (RetI P T rs (h.length + h.length) (FinI mv ι h.length Q))) { tmps := cs.toArray ++ Array.replicate (fn.ntmps - cs.toArray.size) undef, defers := [] } w := by
  have hv := hv ι
  rw [nfH_eq, nfF_eq] at hv
  refine vcode_ok hT c hv H.pins ?_
  refine initF_ok (RepSL.keep (ι := ι) (N := h.length) ⟨by simp, fun _ _ => rfl⟩ (fun b _ hm => ⟨hm, rfl⟩) _ _ ha) (Nat.le_of_ble_eq_true hlen)

theorem fin_ipost {ι w M h mv} (H0 : St ι w M h) {Q : SV → List SO → Prop} {c s h' ι' w' M'} (hf : FinI mv ι h.length Q s h') (H : St ι' w' M' h') (hs : RepS ι' h'.length w' M' s c)
    (G : Grow ι w M (h ++ pinL ι 0 h.length) none ι' w' M' h') : IPost ι w M h mv Q (.returned c) w' := by
  obtain ⟨hp, k, hk, hq⟩ := hf
  simp only [Bool.and_eq_true] at hk
  obtain ⟨⟨⟨h1, h2⟩, h3⟩, h4⟩ := hk
  have h1 := Nat.le_of_ble_eq_true h1
  have h2 := Nat.le_of_ble_eq_true h2
  obtain ⟨g1, g2⟩ := H.shrink k h3 h2
  have hlen : (h'.take k).length = k := by simp; omega
  refine ⟨c, s, h'.take k, ι', M', rfl, hq, by omega, g1, by rw [hlen]; exact RepS.lower _ _ hs h4, ?_, ?_⟩
  · have G' := G.trans H0.mlt g2
    refine ⟨G'.os, G'.tape, G'.output, G'.size, fun b hb hn => G'.keep b hb (fun x => hn (ownN.2 (own_pins x.own))), G'.m1, fun b hm hn => G'.m2 b hm (fun x => hn (own_pins x)), fun b hb x => own_pins (G'.own1 b hb x), fun b hb x => ownN.2 (own_pins (G'.own2 b hb x).own)⟩
  · intro i hi hm
    have := pinsOk_get hp i (Nat.zero_le _) (by omega) hm
    have h5 := H.objs _ _ this
    simp only [StO] at h5
    exact h5.2

theorem aimp_of {P : Program} {T : TT} (hT : T.all P = true) {f : FuncId} {fn : Func} {c : Code} {args : List SV} {h : List SO} {mv : List Nat} {Q : SV → List SO → Prop} {rs : List ResultVar} (hf : P.funcs[f]? = some fn) (hn : (fn.name == "runtime.NumGoroutine") = false)
    (hb : fn.body = some c) (hr : fn.results.toList = rs) (hlen : Nat.ble args.length fn.ntmps = true)
    (hv : ∀ p : Iota, nfH (h ++ pinL p 0 h.length) fun H => nfF (initF 0 args) fun s => vcode P T fn.ntmps c (RetI P T rs (h.length + h.length) (FinI mv p h.length Q)) ⟨s, []⟩ H) : AImp P f args h mv Q := by
  refine ⟨⟨fn, hf, hn, by rw [hb]; rfl⟩, ?_⟩
  intro ι w M cs H ha
  refine calls_of_wp_defers hf hb (wp_mono (imp_body hT hlen hv H ha) ?_)
  rintro e a' w' ⟨α', h', ι', M', q1, q2, q3, q4⟩
  have hR := fun c s h' ι' w' M' (a : FinI mv ι h.length Q s h') b d e => fin_ipost (ι := ι) (w := w) (M := M) (c := c) (ι' := ι') (w' := w') (M' := M') H a b d e
  cases e with
  | normal => exact leave_ok hT hr H.mlt hR _ q1 q2 q3 q4
  | ret => exact leave_ok hT hr H.mlt hR _ q1 q2 q3 q4
  | exit _ => exact q1.elim
  | goto _ => exact q1.elim
  | panic _ => exact q1.elim
  | outgrown => exact q1.elim

theorem adef_of {P : Program} {T : TT} (hT : T.all P = true) {f : FuncId} {fn : Func} {c : Code} {args : List SV} {h : List SO} {mv : List Nat} {Q : SV → List SO → Prop} {rs : List ResultVar} (hf : P.funcs[f]? = some fn) (hn : (fn.name == "runtime.NumGoroutine") = false)
    (hb : fn.body = some c) (hr : fn.results.toList = rs) (hlen : Nat.ble args.length fn.ntmps = true)
    (hv : ∀ p : Iota, nfH (h ++ pinL p 0 h.length) fun H => nfF (initF 0 args) fun s => vcode P T fn.ntmps c (fun e α h' => α.d = [] ∧ RetI P T rs (h.length + h.length) (FinI mv p h.length Q) e α h') ⟨s, []⟩ H) : ADef P f args h mv Q := by
  refine ⟨⟨fn, hf, hn, by rw [hb]; rfl⟩, ?_⟩
  intro ι w M cs u H ha
  have hv := hv ι
  rw [nfH_eq, nfF_eq] at hv
  have F := initF_ok (RepSL.keep (ι := ι) (N := h.length) (N' := (h ++ pinL ι 0 h.length).length) ⟨by simp, fun _ _ => rfl⟩ (fun b _ hm => ⟨hm, rfl⟩) _ _ ha) (Nat.le_of_ble_eq_true hlen)
  refine callsD_of_wp hf hb (wp_mono (vcode_ok hT c hv H.pins F) ?_)
  rintro e a' w' ⟨α', h', ι', M', ⟨hd, q1⟩, q2, q3, q4⟩
  have hR := fun c s h' ι' w' M' (a : FinI mv ι h.length Q s h') b d e => fin_ipost (ι := ι) (w := w) (M := M) (c := c) (ι' := ι') (w' := w') (M' := M') H a b d e
  have hdef := q3.defs
  rw [hd] at hdef
  simp only [RepD] at hdef
  cases e with
  | normal => have := leave_ok hT hr H.mlt hR _ q1 q2 q3 q4; rw [hdef] at this; exact ⟨hdef, this⟩
  | ret => have := leave_ok hT hr H.mlt hR _ q1 q2 q3 q4; rw [hdef] at this; exact ⟨hdef, this⟩
  | exit _ => exact q1.elim
  | goto _ => exact q1.elim
  | panic _ => exact q1.elim
  | outgrown => exact q1.elim

/-- a nil slice in an object of one's own, as an array of one's own that has nothing yet -/
theorem loop_own {P : Program} {us : Us} {n : Nat} {body : Code} {Q : Exit → AF → List SO → Prop} {α : AF} {h : List SO} (id pos e z : Nat) {xs : List SV} (ho : nth h id = some (.cells xs)) (hp : nth xs pos = some (.v (.c (.slice none 0 0)))) (hu : inU us id = true)
    (hk : nfH (h.set id (.cells (xs.set pos (.ms h.length))) ++ [.arr e z []]) fun h' => LoopEv P us n body Q α h') : LoopEv P us n body Q α h := by
  rw [nfH_eq] at hk
  unfold LoopEv at hk ⊢
  intro ι w M a H F
  rw [nth_eq] at ho hp
  obtain ⟨g1, g2, g3⟩ := H.push0 us (.arr e z []) (by simp only [StO]; exact ⟨by simp, .inl ⟨trivial, upd_same _ _ _⟩⟩)
  have hkp : Keep w M w M := fun b _ hm => ⟨hm, rfl⟩
  have ho' : (h ++ [SO.arr e z []])[id]? = some (.cells xs) := by rw [List.getElem?_append_left (get_lt ho)]; exact ho
  have h0 := g1.objs id _ ho'
  have h0' := h0
  simp only [StO] at h0
  obtain ⟨b, k, cs, el, k1, k2, k3, k4⟩ := h0
  have key : ∀ (xs : List SV) (cs : List Value) (pos : Nat), xs[pos]? = some (.v (.c (.slice none 0 0))) → RepSL (upd ι h.length none) (h ++ [SO.arr e z []]).length w M xs cs → RepSL (upd ι h.length none) (h ++ [SO.arr e z []]).length w M (xs.set pos (.ms h.length)) cs := by
    intro xs
    induction xs with
    | nil => intro cs pos hp _; simp at hp
    | cons x xs ih =>
      intro cs pos hp hr
      simp only [RepSL] at hr
      obtain ⟨c, cs', rfl, r1, r2⟩ := hr
      cases pos with
      | zero =>
        simp only [List.getElem?_cons_zero, Option.some.injEq] at hp
        subst hp
        simp only [RepS, Rep] at r1
        subst r1
        simp only [List.set_cons_zero, RepSL, RepS]
        exact ⟨_, cs', rfl, ⟨by simp, .inl ⟨upd_same _ _ _, rfl⟩⟩, r2⟩
      | succ pos =>
        simp only [List.set_cons_succ, RepSL]
        exact ⟨c, cs', rfl, r1, ih cs' pos (by simpa using hp) r2⟩
  obtain ⟨m1, m2, m3⟩ := g1.modify us hu ho' rfl k1 (.cells (xs.set pos (.ms h.length))) w (fun _ _ => rfl) rfl rfl rfl rfl (by
    simp only [StO]; exact ⟨b, k, cs, el, k1, k2, k3, key _ _ _ hp k4⟩)
  have hset : (h ++ [SO.arr e z []]).set id (.cells (xs.set pos (.ms h.length))) = h.set id (.cells (xs.set pos (.ms h.length))) ++ [.arr e z []] := by
    rw [List.set_append_left _ _ (get_lt ho)]
  rw [hset] at m1 m3
  have F' : FR (upd ι h.length none) (h.set id (.cells (xs.set pos (.ms h.length))) ++ [SO.arr e z []]).length w M n α a := by
    have := F.keep g2 hkp
    simpa using this
  refine wp_mono (hk _ w M a m1 F') ?_
  rintro e' a' w' ⟨α', h', ι', M', q1, q2, q3, q4⟩
  exact ⟨α', h', ι', M', q1, q2, q3, g3.trans H.mlt (m3.trans g1.mlt q4)⟩

/-- a state that says less, ahead of a region that draws -/
theorem draw_sub {P : Program} {us : Us} {n id : Nat} {ops : Array Oper} {Q : Exit → AF → List SO → Prop} {α : AF} {h : List SO} {α' : AF} {h' : List SO} (s : Sub α h α' h') (k : DrawEv P us n id ops Q α' h') : DrawEv P us n id ops Q α h := by
  unfold DrawEv at k ⊢
  intro ι w M a H F
  obtain ⟨g1, g2, g3⟩ := s.st H F
  refine wp_mono (k ι w M a g1 g2) ?_
  rintro e a' w' ⟨α2, h2, ι2, M2, q1, q2, q3, q4⟩
  exact ⟨α2, h2, ι2, M2, q1, q2, q3, (g3 us).trans H.mlt q4⟩

/-- a state that says less, ahead of a call -/
theorem call_sub {P : Program} {us : Us} {f : FuncId} {args : List SV} {K : SV → AF → List SO → Prop} {α : AF} {h : List SO} {α' : AF} {h' : List SO} (s : Sub α h α' h') (hl : ltL h'.length args = true) (k : CallEv P us f args α' h' K) : CallEv P us f args α h K := by
  obtain ⟨k1, k2⟩ := k.elim
  refine CallEv.intro k1 ?_
  intro ι w M n a cs H F hr
  obtain ⟨g1, g2, g3⟩ := s.st H F
  refine (k2 ι w M n a cs g1 g2 (RepSL.lower _ _ hr hl)).mono ?_
  rintro e w' ⟨c, s', α2, h2, ι2, M2, rfl, q1, q2, q3, q4, q5⟩
  exact ⟨c, s', α2, h2, ι2, M2, rfl, q1, q2, q3, q4, (g3 us).trans H.mlt q5⟩

/-- several ways lead to one region that draws: what follows is shown once (main first: it tells what the region is) -/
theorem join_draw {P : Program} {us : Us} {n id : Nat} {ops : Array Oper} {Q : Exit → AF → List SO → Prop} {Y : Type} (αy : Y → AF) (hy : Y → List SO) {G : Prop}
    (main : (∀ y, DrawEv P us n id ops Q (αy y) (hy y)) → G) (tail : ∀ y, DrawEv P us n id ops Q (αy y) (hy y)) : G := main tail

end Go.AV0
