/- Assertions of types, maps that are read, lengths, conversions. -/
import Derived.Test.YthbglcdcfdjbbaaFwE
namespace Go.AV0

theorem zeroOf_ok {P : Program} {T : TT} (hT : T.all P = true) {t : Nat} {z : AV} (h : zeroOf T t = some z) (w : World) (M : Nat → Prop) :
    ∃ v, (∀ w', (zeroValue t).run P w' = .ok v w') ∧ Rep w M z v := by
  unfold zeroOf at h
  split at h <;> try (cases h; done)
  rename_i i hi
  split at h <;> try (cases h; done)
  rename_i v hv
  have ht := TT.ok hT t i hi
  obtain ⟨z', h1, h2, h3⟩ := run_zero ht
  cases ha : isAggK i.k with
  | true => rw [ha] at h; cases h
  | false =>
    rw [ha] at h; simp only [cond_false] at h; cases h
    rw [hv] at h2
    refine ⟨z', h1, ?_⟩
    have : z' = v := by
      rw [ha] at h3
      cases z' <;> simp_all [Value.cells, isAggV]
    rw [this]; exact rep_ofVal w M v

/-- an assertion of a type that is no interface -/
def zeroAV (T : TT) (t : Nat) : Option AV :=
  match T.find t with
  | some i => bif isAggK i.k then some (.agg (i.zero.map ofVal)) else zeroOf T t
  | none => none

theorem zeroAV_ok {P : Program} {T : TT} (hT : T.all P = true) {t : Nat} {z : AV} (h : zeroAV T t = some z) (w : World) (M : Nat → Prop) :
    ∃ v, (∀ w', (zeroValue t).run P w' = .ok v w') ∧ Rep w M z v := by
  unfold zeroAV at h
  split at h <;> try (cases h; done)
  rename_i i hi
  cases ha : isAggK i.k with
  | true =>
    rw [ha] at h; simp only [cond_true] at h; cases h
    obtain ⟨z', h1, h2, h3⟩ := run_zero (TT.ok hT t i hi)
    refine ⟨z', h1, ?_⟩
    rw [ha] at h3
    cases z' <;> simp only [isAggV, Bool.false_eq_true] at h3
    rename_i cs
    simp only [Value.cells] at h2
    simp only [Rep]; exact ⟨cs, rfl, by rw [h2]; exact repL_ofVal w M _⟩
  | false => rw [ha] at h; simp only [cond_false] at h; exact zeroOf_ok hT h w M

def vassert (T : TT) (x : SV) (a : Nat) (ok : Bool) (K : SV → Prop) : Prop :=
  onO (T.find a) fun i => match i.k with
    | .ifc => False
    | .oth => False
    | _ => match x with
      | .v (.ifc none) => bif ok then onO (zeroAV T a) fun z => K (.v (.tup [z, .c (.bool false)])) else False
      | .v (.ifc (some (t, v))) => bif Nat.beq t a then (bif ok then K (.v (.tup [v, .c (.bool true)])) else forceV v fun v => K (.v v))
          else bif ok then onO (zeroAV T a) fun z => K (.v (.tup [z, .c (.bool false)])) else False
      | _ => False

theorem vassert_ok {P : Program} {T : TT} (hT : T.all P = true) {x : SV} {xt a : Nat} {ok : Bool} {K : SV → Prop} {ι N w M c} (hv : vassert T x a ok K) (hx : RepS ι N w M x c) :
    ∃ c' s', (∀ w', (Instr.typeAssert c xt a ok).run P w' = .ok c' w') ∧ K s' ∧ RepS ι N w M s' c' := by
  have h0 := onO_some hv; clear hv
  obtain ⟨i, hi, hv⟩ := h0
  obtain ⟨d, h1, h2⟩ := tk_of (TT.ok hT a i hi)
  have hd : ∀ ms, d ≠ .interface ms := by
    intro ms e; subst e
    split at hv
    · exact hv
    · exact hv
    · rename_i hk1 hk2
      cases hk : i.k <;> rw [hk] at h2 <;> simp [tkOk] at h2
      exact hk1 hk
  split at hv
  · exact hv.elim
  · exact hv.elim
  · clear h2
    split at hv
    · cases ok with
      | false => exact hv.elim
      | true =>
        simp only [cond_true] at hv
        obtain ⟨z, hz, hv⟩ := onO_some hv
        obtain ⟨v, g1, g2⟩ := zeroAV_ok hT hz w M
        simp only [RepS, Rep] at hx; subst hx
        refine ⟨.tuple #[v, .bool false], _, ?_, hv, ?_⟩
        · intro w'
          cases d <;> first | (simp [Instr.typeAssert, run_underlying h1, g1]; done) | exact absurd rfl (hd _)
        · simp only [RepS, Rep]; exact ⟨_, rfl, by simp [RepL, Rep, g2]⟩
    · rename_i t v
      simp only [RepS, Rep] at hx; obtain ⟨c', rfl, hx⟩ := hx
      cases hb : Nat.beq t a with
      | true =>
        have e := Nat.eq_of_beq_eq_true hb; subst e
        simp only [hb, cond_true] at hv
        cases ok with
        | true =>
          refine ⟨.tuple #[c', .bool true], _, ?_, hv, ?_⟩
          · intro w'
            cases d <;> first | (simp [Instr.typeAssert, run_underlying h1]; done) | exact absurd rfl (hd _)
          · simp only [RepS, Rep]; exact ⟨_, rfl, by simp [RepL, Rep, hx]⟩
        | false =>
          simp only [cond_false] at hv
          rw [forceV_eq] at hv
          refine ⟨c', _, ?_, hv, by simpa [RepS] using hx⟩
          intro w'
          cases d <;> first | (simp [Instr.typeAssert, run_underlying h1]; done) | exact absurd rfl (hd _)
      | false =>
        have e : t ≠ a := by intro e; subst e; simp at hb
        simp only [hb, cond_false] at hv
        cases ok with
        | false => exact hv.elim
        | true =>
          simp only [cond_true] at hv
          obtain ⟨z, hz, hv⟩ := onO_some hv
          obtain ⟨v, g1, g2⟩ := zeroAV_ok hT hz w M
          refine ⟨.tuple #[v, .bool false], _, ?_, hv, ?_⟩
          · intro w'
            cases d <;> first | (simp [Instr.typeAssert, run_underlying h1, g1, e]; done) | exact absurd rfl (hd _)
          · simp only [RepS, Rep]; exact ⟨_, rfl, by simp [RepL, Rep, g2]⟩
    · exact hv.elim

/-! ### maps -/
def mget : List (ByteArray × AV) → ByteArray → Option AV
  | [], _ => none
  | (k', v) :: r, k => if k' = k then some v else mget r k

theorem mget_some : ∀ {es : List (ByteArray × AV)} {k : ByteArray} {v : AV}, mget es k = some v → (k, v) ∈ es
  | (k', v') :: r, k, v, h => by
    simp only [mget] at h
    split at h
    · rename_i e; subst e; cases h; simp
    · exact List.mem_cons_of_mem _ (mget_some h)

theorem mget_none : ∀ {es : List (ByteArray × AV)} {k : ByteArray}, mget es k = none → ∀ v, (k, v) ∉ es
  | [], _, _, _ => by simp
  | (k', v') :: r, k, h, v => by
    simp only [mget] at h
    split at h
    · cases h
    · rename_i e
      simp only [List.mem_cons, Prod.mk.injEq, not_or, not_and]
      exact ⟨fun e' => absurd e'.symm e, mget_none h v⟩

theorem RepMap.get {w M en} : ∀ {es : List (ByteArray × AV)}, RepMap w M en es → ∀ e ∈ es, RepEnt w M en e
  | e :: es, h, x, hx => by
    simp only [RepMap] at h
    rcases List.mem_cons.1 hx with rfl | hx
    · exact h.1
    · exact RepMap.get h.2 x hx

theorem keys_string {en : Array MapEntry} {es : List (ByteArray × AV)} (hp : (en.toList.map (·.key)).Perm (es.map fun e => Value.string e.1)) :
    ∀ x ∈ en.toList, ∃ k v, (k, v) ∈ es ∧ x.key = .string k := by
  intro x hx
  have : x.key ∈ en.toList.map (·.key) := List.mem_map_of_mem hx
  rw [hp.mem_iff] at this
  obtain ⟨e, he, h⟩ := List.mem_map.1 this
  exact ⟨e.1, e.2, he, h.symm⟩

theorem nodup_map {α β : Type} {f : α → β} (hf : ∀ a b, f a = f b → a = b) : ∀ {l : List α}, l.Nodup → (l.map f).Nodup
  | [], _ => by simp
  | a :: l, h => by
    simp only [List.nodup_cons] at h
    simp only [List.map_cons, List.nodup_cons, List.mem_map, not_exists, not_and]
    exact ⟨fun x hx e => h.1 (hf _ _ e ▸ hx), nodup_map hf h.2⟩

theorem keys_nodup {en : Array MapEntry} {es : List (ByteArray × AV)} (hp : (en.toList.map (·.key)).Perm (es.map fun e => Value.string e.1)) (hn : (es.map (·.1)).Nodup) :
    (en.toList.map (·.key)).Nodup := by
  rw [hp.nodup_iff]
  have : es.map (fun e => Value.string e.1) = (es.map (·.1)).map Value.string := by simp
  rw [this]
  exact nodup_map (fun a b h => by cases h; rfl) hn

theorem nodup_inj {α β : Type} {f : α → β} : ∀ {l : List α}, (l.map f).Nodup → ∀ {x y : α}, x ∈ l → y ∈ l → f x = f y → x = y
  | a :: l, h, x, y, hx, hy, e => by
    simp only [List.map_cons, List.nodup_cons, List.mem_map, not_exists, not_and] at h
    rcases List.mem_cons.1 hx with hx1 | hx1 <;> rcases List.mem_cons.1 hy with hy1 | hy1
    · rw [hx1, hy1]
    · exact absurd (by rw [← e, hx1]) (h.1 y hy1)
    · exact absurd (by rw [e, hy1]) (h.1 x hx1)
    · exact nodup_inj h.2 hx1 hy1 e

/-- a key is looked for -/
theorem find_ok {P : Program} {w : World} {M : Nat → Prop} {kt : Nat} {en : Array MapEntry} {es : List (ByteArray × AV)} (hk : P.underlying kt = some .string)
    (hp : (en.toList.map (·.key)).Perm (es.map fun e => Value.string e.1)) (hn : (es.map (·.1)).Nodup) (hr : RepMap w M en es) (k : ByteArray) :
    match mget es k with
    | some v => ∃ j e, (∀ w', (Instr.findKey kt (.string k) en.toList).run P w' = .ok (some (j, e.val)) w') ∧ en.toList[j]? = some e ∧ e.key = .string k ∧ Rep w M v e.val
    | none => ∀ w', (Instr.findKey kt (.string k) en.toList).run P w' = .ok none w' := by
  have hall : ∀ x ∈ en.toList, MapKept.IsKey .string x.key := by
    intro x hx
    obtain ⟨k', v', _, h⟩ := keys_string hp x hx
    rw [h]; trivial
  rcases MapKept.findNow_spec (d := .string) (k := .string k) trivial en.toList 0 hall with ⟨h1, h2⟩ | ⟨j, e, h1, h2, h3⟩
  · cases hm : mget es k with
    | none => exact fun w' => MapKept.run_findKey hk h1
    | some v =>
      have := RepMap.get hr _ (mget_some hm)
      simp only [RepEnt] at this
      obtain ⟨x, hx, hx2, _⟩ := this
      exact absurd hx2 (h2 x hx)
  · cases hm : mget es k with
    | none =>
      obtain ⟨k', v', hmem, h⟩ := keys_string hp e (List.mem_of_getElem? h2)
      rw [h3] at h; cases h
      exact absurd hmem (mget_none hm v')
    | some v =>
      have := RepMap.get hr _ (mget_some hm)
      simp only [RepEnt] at this
      obtain ⟨x, hx, hx2, hx3⟩ := this
      have hxe : x = e := nodup_inj (keys_nodup hp hn) hx (List.mem_of_getElem? h2) (by rw [hx2, h3])
      subst hxe
      exact ⟨0 + j, x, fun w' => MapKept.run_findKey hk h1, by simpa using h2, h3, hx3⟩

def mpOf (T : TT) (t : Nat) : Option (Nat × Nat) :=
  match T.find t with
  | some i => match i.k with
    | .mp k e => match T.find k with
      | some j => match j.k with
        | .str => some (k, e)
        | _ => none
      | none => none
    | _ => none
  | none => none

theorem mpOf_ok {P : Program} {T : TT} (hT : T.all P = true) {t k e : Nat} (h : mpOf T t = some (k, e)) : P.underlying t = some (.map k e) ∧ P.underlying k = some .string := by
  unfold mpOf at h
  split at h <;> try (cases h; done)
  rename_i i hi
  split at h <;> try (cases h; done)
  rename_i k' e' hk
  split at h <;> try (cases h; done)
  rename_i j hj
  split at h <;> try (cases h; done)
  rename_i hs
  cases h
  exact ⟨und_mp (TT.ok hT t i hi) hk, und_str (TT.ok hT _ _ hj) hs⟩

/-- a value is zero as a whole: of a type of one cell, or a struct -/
def strOf (s : SV) : Option ByteArray :=
  match s with
  | .v (.c (.string b)) => some b
  | _ => none

theorem strOf_ok {s : SV} {b} {ι N w M c} (h : strOf s = some b) (hs : RepS ι N w M s c) : c = .string b := by
  unfold strOf at h
  split at h <;> cases h
  simpa [RepS, Rep] using hs

def mapOf (h : List SO) (s : SV) : Option (Option (List (ByteArray × AV))) :=
  match s with
  | .v (.map o) => some o
  | .v (.c (.map none)) => some none
  | .mm id => match nth h id with
    | some (.map es) => some (some es)
    | _ => none
  | _ => none

def vlookup (T : TT) (t : Nat) (s x : SV) (ok : Bool) (h : List SO) (K : SV → Prop) : Prop :=
  onO (mpOf T t) fun p => onO (mapOf h s) fun m => onO (strOf x) fun k =>
    OptEv (match m with | some es => mget es k | none => none)
      (fun v => bif ok then K (.v (.tup [v, .c (.bool true)])) else forceV v fun v => K (.v v))
      (onO (zeroAV T p.2) fun z => bif ok then K (.v (.tup [z, .c (.bool false)])) else K (.v z))

theorem mapOf_ok {us : Us} {ι w M h s m c} (hsafe : safeId us s = true) (H : St ι w M h) (hm : mapOf h s = some m) (hs : RepS ι h.length w M s c) :
    (m = none ∧ c = .map none) ∨ ∃ es b en clock, m = some es ∧ c = .map (some b) ∧ ¬ UB ι h us b ∧ w.heap[b]? = some (.map en clock) ∧ (en.toList.map (·.key)).Perm (es.map fun e => Value.string e.1) ∧ (es.map (·.1)).Nodup ∧ RepMap w M en es := by
  unfold mapOf at hm
  split at hm
  · cases hm
    cases m with
    | none => simp only [RepS, Rep] at hs; exact .inl ⟨rfl, hs⟩
    | some es =>
      simp only [RepS, Rep] at hs
      obtain ⟨b, en, clock, h1, h2, h3, h4, h5, h6, h7⟩ := hs
      exact .inr ⟨es, b, en, clock, rfl, h1, UB.notM H h2, h3, h5, h6, h7⟩
  · cases hm; simp only [RepS, Rep] at hs; exact .inl ⟨rfl, hs⟩
  · rename_i id
    split at hm <;> cases hm
    rename_i es he
    rw [nth_eq] at he
    have h0 := H.objs id _ he
    simp only [StO] at h0
    obtain ⟨b, k, en, clock, h1, h2, h3, h4, h5, h6, h7⟩ := h0
    simp only [RepS] at hs
    obtain ⟨_, b', k', h8, rfl⟩ := hs
    rw [h1] at h8; cases h8
    have hU := UB.notId (us := us) H he rfl h1 (by cases us with | none => exact .inl rfl | some l => exact .inr ⟨l, rfl, by simpa [safeId] using hsafe⟩)
    exact .inr ⟨es, b, en, clock, rfl, rfl, hU, h3, h5, h6, h7⟩
  · cases hm

theorem run_checkString {P : Program} {w : World} {kt : Nat} (e : Bool) (k : ByteArray) (hk : P.underlying kt = some .string) : (Instr.checkKey e 10000 kt (.string k)).run P w = .ok () w := by
  show (Instr.checkKey e (9999 + 1) kt (.string k)).run P w = .ok () w
  unfold Instr.checkKey
  simp [run_underlying hk]

theorem vlookup_ok {P : Program} {T : TT} (hT : T.all P = true) {us : Us} {t : Nat} {s x : SV} {ok : Bool} {h K ι w M c d} (hsafe : safeId us s = true) (hv : vlookup T t s x ok h K) (H : St ι w M h)
    (hs : RepS ι h.length w M s c) (hx : RepS ι h.length w M x d) :
    ∃ c' s', (∀ w', Same (UB ι h us) w w' → (Instr.lookup t c d ok).run P w' = .ok c' w') ∧ K s' ∧ RepS ι h.length w M s' c' := by
  obtain ⟨⟨kt, et⟩, hp, hv⟩ := onO_some hv
  obtain ⟨m, hm, hv⟩ := onO_some hv
  obtain ⟨k, hk, hv⟩ := onO_some hv
  obtain ⟨h1, h2⟩ := mpOf_ok hT hp
  have hd := strOf_ok hk hx; subst hd
  obtain ⟨hsome, hnone⟩ := hv.elim
  have miss : (match m with | some es => mget es k | none => none) = none → ∀ (es : List MapEntry), (∀ w', (Instr.findKey kt (.string k) es).run P w' = .ok none w') →
      ∃ v z, (∀ w', (zeroValue et).run P w' = .ok v w') ∧ Rep w M z v ∧ (if ok = true then K (.v (.tup [z, .c (.bool false)])) else K (.v z)) := by
    intro hz es _
    obtain ⟨z, g1, g2⟩ := onO_some (hnone hz)
    obtain ⟨v, g3, g4⟩ := zeroAV_ok hT g1 w M
    exact ⟨v, z, g3, g4, by cases ok <;> simpa using g2⟩
  rcases mapOf_ok (us := us) hsafe H hm hs with ⟨rfl, rfl⟩ | ⟨es, b, en, clock, rfl, rfl, hU, h3, h4, h5, h6⟩
  · have hf : ∀ w', (Instr.findKey kt (.string k) ([] : List MapEntry)).run P w' = .ok none w' := fun w' => MapKept.run_findKey h2 rfl
    obtain ⟨v, z, g1, g2, g3⟩ := miss rfl [] hf
    cases ok with
    | true =>
      refine ⟨.tuple #[v, .bool false], _, ?_, by simpa using g3, ?_⟩
      · intro w' hw'
        simp [Instr.lookup, run_underlying h1, run_checkString _ _ h2, hf, g1]
      · simp only [RepS, Rep]; exact ⟨_, rfl, by simp [RepL, Rep, g2]⟩
    | false =>
      refine ⟨v, _, ?_, by simpa using g3, by simpa [RepS] using g2⟩
      intro w' hw'
      simp [Instr.lookup, run_underlying h1, run_checkString _ _ h2, hf, g1]
  · have hf := find_ok (P := P) (M := M) h2 h4 h5 h6 k
    have hg : ∀ w', Same (UB ι h us) w w' → (getObj b).run P w' = .ok (.map en clock) w' := by
      intro w' hw'
      have := hw' b (lt_of_some h3) hU
      rw [h3] at this; simp [getObj, Sem.run, this]
    cases hmk : mget es k with
    | some v =>
      rw [hmk] at hf
      obtain ⟨j, e, g1, g2, g3, g4⟩ := hf
      have hv := hsome v hmk
      cases ok with
      | true =>
        refine ⟨.tuple #[e.val, .bool true], _, ?_, by simpa using hv, ?_⟩
        · intro w' hw'
          simp [Instr.lookup, run_underlying h1, hg w' hw', run_checkString _ _ h2, g1]
        · simp only [RepS, Rep]; exact ⟨_, rfl, by simp [RepL, Rep, g4]⟩
      | false =>
        simp only [cond_false, forceV_eq] at hv
        refine ⟨e.val, _, ?_, hv, by simpa [RepS] using g4⟩
        intro w' hw'
        simp [Instr.lookup, run_underlying h1, hg w' hw', run_checkString _ _ h2, g1]
    | none =>
      rw [hmk] at hf
      obtain ⟨v, z, g1, g2, g3⟩ := miss hmk en.toList hf
      cases ok with
      | true =>
        refine ⟨.tuple #[v, .bool false], _, ?_, by simpa using g3, ?_⟩
        · intro w' hw'
          simp [Instr.lookup, run_underlying h1, hg w' hw', run_checkString _ _ h2, hf, g1]
        · simp only [RepS, Rep]; exact ⟨_, rfl, by simp [RepL, Rep, g2]⟩
      | false =>
        refine ⟨v, _, ?_, by simpa using g3, by simpa [RepS] using g2⟩
        intro w' hw'
        simp [Instr.lookup, run_underlying h1, hg w' hw', run_checkString _ _ h2, hf, g1]

end Go.AV0
