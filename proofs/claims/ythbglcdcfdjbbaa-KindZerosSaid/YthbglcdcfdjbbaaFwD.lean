/- More operations that write nothing. -/
import Derived.Test.YthbglcdcfdjbbaaFwC
namespace Go.AV0

theorem tk_of {P : Program} {t : Nat} {i : TI} (h : TOk P t i) : ∃ d, P.underlying t = some d ∧ tkOk i.k d = true := by
  obtain ⟨f, d, z, h1, h2, h3, h4, h5, h6, h7, h8⟩ := h.ex
  exact ⟨d, h2, h5⟩

theorem und_sl {P : Program} {t e : Nat} {i : TI} (h : TOk P t i) (hk : i.k = .sl e) : P.underlying t = some (.slice e) := by
  obtain ⟨d, h1, h2⟩ := tk_of h
  rw [hk] at h2; cases d <;> simp [tkOk] at h2; subst h2; exact h1
theorem und_ar {P : Program} {t n e : Nat} {i : TI} (h : TOk P t i) (hk : i.k = .ar n e) : P.underlying t = some (.array n e) := by
  obtain ⟨d, h1, h2⟩ := tk_of h
  rw [hk] at h2; cases d <;> simp [tkOk] at h2; obtain ⟨rfl, rfl⟩ := h2; exact h1
theorem und_str {P : Program} {t : Nat} {i : TI} (h : TOk P t i) (hk : i.k = .str) : P.underlying t = some .string := by
  obtain ⟨d, h1, h2⟩ := tk_of h
  rw [hk] at h2; cases d <;> simp [tkOk] at h2; exact h1
theorem und_mp {P : Program} {t a b : Nat} {i : TI} (h : TOk P t i) (hk : i.k = .mp a b) : P.underlying t = some (.map a b) := by
  obtain ⟨d, h1, h2⟩ := tk_of h
  rw [hk] at h2; cases d <;> simp [tkOk] at h2; obtain ⟨rfl, rfl⟩ := h2; exact h1
theorem und_pt {P : Program} {t e : Nat} {i : TI} (h : TOk P t i) (hk : i.k = .pt e) : P.underlying t = some (.pointer e) := by
  obtain ⟨d, h1, h2⟩ := tk_of h
  rw [hk] at h2; cases d <;> simp [tkOk] at h2; subst h2; exact h1
theorem und_int {P : Program} {t : Nat} {k : IntKind} {i : TI} (h : TOk P t i) (hk : i.k = .int k) : P.underlying t = some (.int k) := by
  obtain ⟨d, h1, h2⟩ := tk_of h
  rw [hk] at h2; cases d <;> simp [tkOk] at h2; subst h2; exact h1
theorem und_bl {P : Program} {t : Nat} {i : TI} (h : TOk P t i) (hk : i.k = .bl) : P.underlying t = some .bool := by
  obtain ⟨d, h1, h2⟩ := tk_of h
  rw [hk] at h2; cases d <;> simp [tkOk] at h2; exact h1
theorem und_ifc {P : Program} {t : Nat} {i : TI} (h : TOk P t i) (hk : i.k = .ifc) : ∃ ms, P.underlying t = some (.interface ms) := by
  obtain ⟨d, h1, h2⟩ := tk_of h
  rw [hk] at h2; cases d <;> simp [tkOk] at h2; exact ⟨_, h1⟩
theorem und_st {P : Program} {t : Nat} {fs} {i : TI} (h : TOk P t i) (hk : i.k = .st fs) : ∃ a, P.underlying t = some (.struct a) ∧ (a.toList.map fun f => (f.offset, f.type)) = fs := by
  obtain ⟨d, h1, h2⟩ := tk_of h
  rw [hk] at h2; cases d <;> simp [tkOk] at h2; exact ⟨_, h1, h2⟩

/-- the element's type and size of a slice's type -/
def slOf (T : TT) (t : Nat) : Option (Nat × TI) :=
  match T.find t with
  | some i => match i.k with
    | .sl e => match T.find e with
      | some j => some (e, j)
      | none => none
    | _ => none
  | none => none

theorem slOf_ok {P : Program} {T : TT} (hT : T.all P = true) {t e : Nat} {j : TI} (h : slOf T t = some (e, j)) : P.underlying t = some (.slice e) ∧ TOk P e j := by
  unfold slOf at h
  split at h <;> try (cases h; done)
  rename_i i hi
  split at h <;> try (cases h; done)
  rename_i e' hk
  split at h <;> try (cases h; done)
  rename_i j' hj
  cases h
  exact ⟨und_sl (TT.ok hT t i hi) hk, TT.ok hT _ _ hj⟩

def arOf (T : TT) (t : Nat) : Option (Nat × Nat × TI) :=
  match T.find t with
  | some i => match i.k with
    | .ar n e => match T.find e with
      | some j => some (n, e, j)
      | none => none
    | _ => none
  | none => none

theorem arOf_ok {P : Program} {T : TT} (hT : T.all P = true) {t n e : Nat} {j : TI} (h : arOf T t = some (n, e, j)) : P.underlying t = some (.array n e) ∧ TOk P e j := by
  unfold arOf at h
  split at h <;> try (cases h; done)
  rename_i i hi
  split at h <;> try (cases h; done)
  rename_i n' e' hk
  split at h <;> try (cases h; done)
  rename_i j' hj
  cases h
  exact ⟨und_ar (TT.ok hT t i hi) hk, TT.ok hT _ _ hj⟩

def intOfS (s : SV) : Option (IntKind × Int) :=
  match s with
  | .v (.c (.int k n)) => some (k, n)
  | _ => none

theorem intOfS_ok {s : SV} {k n} {ι N w M c} (h : intOfS s = some (k, n)) (hs : RepS ι N w M s c) : c = .int k n := by
  unfold intOfS at h
  split at h <;> cases h
  simpa [RepS, Rep] using hs

/-! ### indexAddr -/
def vindexAddr (T : TT) (t : Nat) (s x : SV) (h : List SO) (K : SV → Prop) : Prop :=
  onO (intOfS x) fun p => match s with
    | .v (.sl els) => onO (slOf T t) fun q => ElEv els p.2 fun e => match e with
      | [] => False
      | y :: ys => bif Nat.beq (y :: ys).length q.2.size then K (.v (.ptr (some (y :: ys)))) else False
    | .ms id => onO (slOf T t) fun q => onO (nth h id) fun o => match o with
      | .arr _ z els => bif Nat.beq z q.2.size then ElEv els p.2 fun _ => K (.eref id p.2.toNat 0) else False
      | _ => False
    | .ref id off => onO (arOf T t) fun q => match p.2 with
      | .ofNat i => bif Nat.blt i q.1 then K (.ref id (off + i * q.2.2.size)) else False
      | _ => False
    | _ => False

theorem vindexAddr_ok {P : Program} {T : TT} (hT : T.all P = true) {t : Nat} {s x : SV} {h K ι w M c d} (hv : vindexAddr T t s x h K) (H : St ι w M h)
    (hs : RepS ι h.length w M s c) (hx : RepS ι h.length w M x d) :
    ∃ c' s', (∀ w', (Instr.indexAt t c d).run P w' = .ok c' w') ∧ K s' ∧ RepS ι h.length w M s' c' := by
  obtain ⟨⟨k, i⟩, hp, hv⟩ := onO_some hv
  have hd := intOfS_ok hp hx
  subst hd
  cases s with
  | v y => cases y with
    | sl els =>
      obtain ⟨⟨e, j⟩, hq, hv⟩ := onO_some hv
      obtain ⟨h1, h2⟩ := slOf_ok hT hq
      obtain ⟨h0, x, hx, hv⟩ := hv.elim
      cases x with
      | nil => exact hv.elim
      | cons y ys =>
        simp only at hv
        cases hb : Nat.beq (y :: ys).length j.size with
        | false => simp only [hb, cond_false] at hv
        | true =>
          simp only [hb, cond_true] at hv
          have hl := Nat.eq_of_beq_eq_true hb
          simp only [RepS, Rep] at hs
          obtain ⟨ao, cap, rfl, g1, g2⟩ := hs
          rcases g2 with rfl | ⟨b, off, n, rfl, g2⟩
          · simp at hx
          · obtain ⟨g3, g4⟩ := g2.get _ _ hx
            have hlt : i.toNat < els.length := by
              rcases Nat.lt_or_ge i.toNat els.length with h' | h'
              · exact h'
              · rw [List.getElem?_eq_none h'] at hx; cases hx
            have hi : i < (els.length : Int) := by omega
            obtain ⟨g5, g6⟩ := g4.lt
            refine ⟨.pointer (some ⟨b, off + i.toNat * j.size, none⟩), _, ?_, hv, ?_⟩
            · intro w'
              simp at h0
              simp [Instr.indexAt, asIntOf, run_underlying h1, h0, hi, run_sizeOf h2, Addr.add_lit]
            · simp only [RepS, Rep]
              refine ⟨b, off + i.toNat * j.size, rfl, g5, g6, ?_⟩
              rw [← hl, g3]; exact g4
    | _ => exact hv.elim
  | ms id =>
    obtain ⟨⟨e, j⟩, hq, hv⟩ := onO_some hv
    obtain ⟨h1, h2⟩ := slOf_ok hT hq
    obtain ⟨o, ho, hv⟩ := onO_some hv
    rw [nth_eq] at ho
    have g0 := H.objs id o ho
    cases o with
    | arr e' z els =>
      cases hb : Nat.beq z j.size with
      | false => simp only [hb, cond_false] at hv
      | true =>
        simp only [hb, cond_true] at hv
        have hl := Nat.eq_of_beq_eq_true hb
        obtain ⟨h0, x, hx, hv⟩ := hv.elim
        have hlt : i.toNat < els.length := by
          rcases Nat.lt_or_ge i.toNat els.length with h' | h'
          · exact h'
          · rw [List.getElem?_eq_none h'] at hx; cases hx
        have hi : i < (els.length : Int) := by omega
        simp only [StO] at g0
        simp only [RepS] at hs
        obtain ⟨hid, hs⟩ := hs
        rcases g0.2 with g1 | ⟨b, k', cs, el', g1, g2, g3, g4, g5, g6, g7⟩
        · rw [g1.1] at hx; simp at hx
        · rcases hs with ⟨hn, _⟩ | ⟨b', k'', z', n', hn, rfl⟩
          · rw [g1] at hn; cases hn
          · rw [g1] at hn; cases hn
            refine ⟨.pointer (some ⟨b, i.toNat * z, none⟩), _, ?_, hv, ?_⟩
            · intro w'
              simp [Instr.indexAt, asIntOf, run_underlying h1, h0, hi, run_sizeOf h2, Addr.add_lit, hl]
            · simp only [RepS]
              exact ⟨hid, b, k', z, _, g1, by simp⟩
    | _ => exact hv.elim
  | ref id off =>
    obtain ⟨⟨n, e, j⟩, hq, hv⟩ := onO_some hv
    obtain ⟨h1, h2⟩ := arOf_ok hT hq
    cases i with
    | negSucc _ => exact hv.elim
    | ofNat i =>
      simp only at hv
      cases hb : Nat.blt i n with
      | false => simp only [hb, cond_false] at hv
      | true =>
        simp only [hb, cond_true] at hv
        have hlt : i < n := by simpa [Nat.blt_eq] using hb
        simp only [RepS] at hs
        obtain ⟨hid, b, k', g1, rfl⟩ := hs
        refine ⟨.pointer (some ⟨b, off + i * j.size, none⟩), _, ?_, hv, ?_⟩
        · intro w'
          have : (0 : Int) ≤ (i : Int) := by omega
          simp [Instr.indexAt, asIntOf, run_underlying h1, Instr.sureAddr, hlt, run_sizeOf h2, Addr.add_lit]
        · simp only [RepS]
          exact ⟨hid, b, k', g1, rfl⟩
  | _ => exact hv.elim

/-! ### index of a string, of an array -/
def vindex (T : TT) (t : Nat) (s x : SV) (K : SV → Prop) : Prop :=
  onO (intOfS x) fun p => match s with
    | .v (.c (.string b)) => onO (T.find t) fun i => match i.k with
      | .str => ElEv b.data.toList p.2 fun u => K (.v (.c (.int .u8 (u.toNat : Int))))
      | _ => False
    | .v (.agg xs) => onO (arOf T t) fun q => bif Nat.beq q.2.2.size 1 then (bif isAggK q.2.2.k then False else
        Side (p.2 < (q.1 : Int)) (ElEv xs p.2 fun x => forceV x fun x => K (.v x))) else False
    | _ => False

theorem vindex_ok {P : Program} {T : TT} (hT : T.all P = true) {t : Nat} {s x : SV} {K ι N w M c d} (hv : vindex T t s x K)
    (hs : RepS ι N w M s c) (hx : RepS ι N w M x d) :
    ∃ c' s', (∀ w', (Instr.index t c d).run P w' = .ok c' w') ∧ K s' ∧ RepS ι N w M s' c' := by
  obtain ⟨⟨k, i⟩, hp, hv⟩ := onO_some hv
  have hd := intOfS_ok hp hx
  subst hd
  cases s with
  | v y => cases y with
    | c v => cases v with
      | string b =>
        obtain ⟨j, hj, hv⟩ := onO_some hv
        have ht := TT.ok hT t j hj
        cases hk : j.k with
        | str =>
          simp only [hk] at hv
          obtain ⟨h0, u, hu, hv⟩ := hv.elim
          simp only [RepS, Rep] at hs; subst hs
          refine ⟨.int .u8 (u.toNat : Int), _, ?_, hv, by simp [RepS, Rep]⟩
          have hlt : i.toNat < b.size := by
            rcases Nat.lt_or_ge i.toNat b.size with h' | h'
            · exact h'
            · rw [List.getElem?_eq_none (by simpa using h')] at hu; cases hu
          have hb : b[i.toNat]? = some u := by
            rw [getElem?_pos b i.toNat hlt]
            have : b.data.toList[i.toNat]? = some b[i.toNat] := by
              rw [Array.getElem?_toList]; exact Array.getElem?_eq_getElem hlt
            rw [this] at hu; exact hu
          have h0' : 0 ≤ i := h0
          intro w'
          simp [Instr.index, asIntOf, run_underlying (und_str ht hk), h0', hb]
        | _ => simp only [hk] at hv
      | _ => exact hv.elim
    | agg xs =>
      obtain ⟨⟨n, e, j⟩, hq, hv⟩ := onO_some hv
      obtain ⟨h1, h2⟩ := arOf_ok hT hq
      cases hb : Nat.beq j.size 1 with
      | false => simp only [hb, cond_false] at hv
      | true =>
        have hz := Nat.eq_of_beq_eq_true hb
        simp only [hb, cond_true] at hv
        cases ha : isAggK j.k with
        | true => simp only [ha, cond_true] at hv
        | false =>
          simp only [ha, cond_false] at hv
          obtain ⟨hn, hv⟩ := hv.elim
          obtain ⟨h0, x, hx, hv⟩ := hv.elim
          rw [forceV_eq] at hv
          simp only [RepS, Rep] at hs
          obtain ⟨cs, rfl, hr⟩ := hs
          obtain ⟨c', g1, g2⟩ := hr.get _ _ hx
          refine ⟨c', _, ?_, hv, by simpa [RepS] using g2⟩
          have h0' : 0 ≤ i := h0
          have hn' : i < (n : Int) := hn
          simp only [Array.getElem?_toList] at g1
          intro w'
          simp [Instr.index, asIntOf, run_underlying h1, h0', hn', run_sizeOf h2, hz, part, run_isAgg h2, ha, g1]
    | _ => exact hv.elim
  | _ => exact hv.elim

/-! ### slicing -/
def optInt (s : Option SV) (d : Int) : Option Int :=
  match s with
  | none => some d
  | some (.v (.c (.int _ n))) => some n
  | _ => none

def vslice (T : TT) (t : Nat) (s : SV) (lo hi : Option SV) (K : SV → Prop) : Prop :=
  match s with
  | .v (.c (.string b)) => onO (T.find t) fun i => match i.k with
    | .str => onO (optInt lo 0) fun l => onO (optInt hi b.size) fun h => Side (0 ≤ l ∧ l ≤ h ∧ h ≤ b.size) (K (.v (.c (.string (b.extract l.toNat h.toNat)))))
    | _ => False
  | .v (.sl els) => onO (slOf T t) fun q => onO (optInt lo 0) fun l => onO (optInt hi els.length) fun h =>
      Side (0 ≤ l ∧ l ≤ h ∧ h ≤ els.length ∧ ∀ e ∈ els, e.length = q.2.size) (K (.v (.sl ((els.take h.toNat).drop l.toNat))))
  | _ => False

theorem sliceBounds_run {P : Program} {w : World} (b : Bool) (len cap : Nat) (lo hi : Option Value) (l h : Int)
    (hl : (lo = none ∧ l = 0) ∨ ∃ k, lo = some (.int k l)) (hh : (hi = none ∧ h = len) ∨ ∃ k, hi = some (.int k h)) (h0 : 0 ≤ l) (h1 : l ≤ h) (h2 : h ≤ cap) :
    (Instr.sliceBounds b len cap lo hi none).run P w = .ok (l.toNat, h.toNat, cap) w := by
  have e : ((h.toNat : Nat) : Int) = h := by omega
  rcases hl with ⟨rfl, rfl⟩ | ⟨k, rfl⟩ <;> rcases hh with ⟨rfl, rfl⟩ | ⟨k', rfl⟩
  · simp [Instr.sliceBounds]
  · have h3 : 0 ≤ h := by omega
    simp [Instr.sliceBounds, Instr.sliceBound, asIntOf, h3, h2]
  · simp [Instr.sliceBounds, Instr.sliceBound, asIntOf, h0, h1]
  · have h3 : 0 ≤ h := by omega
    simp [Instr.sliceBounds, Instr.sliceBound, asIntOf, h0, h1, h3, h2, e]

def RepO (ι : Iota) (N : Nat) (w : World) (M : Nat → Prop) : Option SV → Option Value → Prop
  | none, none => True
  | some a, some b => RepS ι N w M a b
  | _, _ => False

theorem optInt_ok {ι N w M} {s : Option SV} {d n : Int} {v : Option Value} (h : optInt s d = some n) (hs : RepO ι N w M s v) :
    (v = none ∧ n = d) ∨ ∃ k, v = some (.int k n) := by
  unfold optInt at h
  split at h
  · cases h; cases v with
    | none => exact .inl ⟨rfl, rfl⟩
    | some b => exact hs.elim
  · rename_i k n'
    cases h
    cases v with
    | none => exact hs.elim
    | some b => simp only [RepO, RepS, Rep] at hs; subst hs; exact .inr ⟨k, rfl⟩
  · cases h

theorem vslice_ok {P : Program} {T : TT} (hT : T.all P = true) {t : Nat} {s : SV} {lo hi : Option SV} {K ι N w M c} {vl vh : Option Value} (hv : vslice T t s lo hi K)
    (hs : RepS ι N w M s c) (hl : RepO ι N w M lo vl) (hh : RepO ι N w M hi vh) :
    ∃ c' s', (∀ w', (Instr.sliceAt t c vl vh none).run P w' = .ok c' w') ∧ K s' ∧ RepS ι N w M s' c' := by
  cases s with
  | v y => cases y with
    | c v => cases v with
      | string b =>
        obtain ⟨j, hj, hv⟩ := onO_some hv
        have ht := TT.ok hT t j hj
        cases hk : j.k with
        | str =>
          simp only [hk] at hv
          obtain ⟨l, h1, hv⟩ := onO_some hv
          obtain ⟨h, h2, hv⟩ := onO_some hv
          obtain ⟨⟨g0, g1, g2⟩, hv⟩ := hv.elim
          simp only [RepS, Rep] at hs; subst hs
          refine ⟨.string (b.extract l.toNat h.toNat), _, ?_, hv, by simp [RepS, Rep]⟩
          intro w'
          have hr := sliceBounds_run (P := P) (w := w') false b.size b.size vl vh l h (optInt_ok h1 hl) (optInt_ok h2 hh) g0 g1 g2
          simp [Instr.sliceAt, run_underlying (und_str ht hk), Instr.slice, hr]
        | _ => simp only [hk] at hv
      | _ => exact hv.elim
    | sl els =>
      obtain ⟨⟨e, j⟩, hq, hv⟩ := onO_some hv
      obtain ⟨q1, q2⟩ := slOf_ok hT hq
      obtain ⟨l, h1, hv⟩ := onO_some hv
      obtain ⟨h, h2, hv⟩ := onO_some hv
      obtain ⟨⟨g0, g1, g2, g3⟩, hv⟩ := hv.elim
      simp only [RepS, Rep] at hs
      obtain ⟨ao, cap, rfl, k1, k2⟩ := hs
      have hlen : ((els.take h.toNat).drop l.toNat).length = h.toNat - l.toNat := by simp; omega
      refine ⟨.slice (if cap = l.toNat then ao else ao.map (·.add (l.toNat * j.size))) (h.toNat - l.toNat) (cap - l.toNat), _, ?_, hv, ?_⟩
      · intro w'
        have hr := sliceBounds_run (P := P) (w := w') true els.length cap vl vh l h (optInt_ok h1 hl) (optInt_ok h2 hh) g0 g1 (by omega)
        simp [Instr.sliceAt, run_underlying q1, Instr.slice, hr, run_sizeOf q2]
      · simp only [RepS, Rep]
        refine ⟨_, _, by rw [hlen], by omega, ?_⟩
        rcases k2 with rfl | ⟨b, off, n, rfl, k2⟩
        · exact .inl (by simp)
        · by_cases hc : cap = l.toNat
          · left
            apply List.eq_nil_of_length_eq_zero; rw [hlen]; omega
          · right
            have hn : els = [] ∨ n = j.size := by
              cases els with
              | nil => exact .inl rfl
              | cons x xs =>
                simp only [RepEls] at k2
                have := g3 x (by simp)
                simp only at this
                exact .inr (by omega)
            rcases hn with rfl | hn
            · exact ⟨b, _, n, by simp [hc, Addr.add_lit]; rfl, by simp [RepEls]⟩
            · refine ⟨b, off + l.toNat * j.size, n, by simp [hc, Addr.add_lit], ?_⟩
              rw [← hn]
              exact (k2.take h.toNat).drop l.toNat
    | _ => exact hv.elim
  | _ => exact hv.elim

/-! ### comparisons and arithmetic -/
theorem intB_ok {P : Program} {op : BinOp} {k k' : IntKind} {a b : Int} {t : Nat} {K : Value → Prop} (h : binC op (.int k a) (.int k' b) K) :
    ∃ r, (∀ w, (binOp op t (.int k a) (.int k' b)).run P w = .ok r w) ∧ K r := by
  unfold binC at h
  simp only at h
  cases hs : isShift op with
  | true =>
    rw [hs] at h; simp only [cond_true] at h
    cases op <;> simp only [isShift, Bool.false_eq_true] at hs <;> simp only [intB] at h
    · obtain ⟨h0, h⟩ := h.elim
      exact ⟨_, fun w => by simp [binOp, Op.shift, Int.not_lt.2 h0], h⟩
    · obtain ⟨h0, h⟩ := h.elim
      exact ⟨_, fun w => by simp [binOp, Op.shift, Int.not_lt.2 h0], h⟩
  | false =>
    rw [hs] at h; simp only [cond_false] at h
    split at h
    · rename_i hk; subst hk
      cases op <;> simp only [isShift, Bool.true_eq_false] at hs <;> simp only [intB] at h
      case quo =>
        obtain ⟨h0, h⟩ := h.elim
        exact ⟨_, fun w => by simp [binOp, Op.intDiv, h0], h⟩
      case rem =>
        obtain ⟨h0, h⟩ := h.elim
        exact ⟨_, fun w => by simp [binOp, Op.intDiv, h0], h⟩
      case eql => exact ⟨.bool (a == b), fun w => by simp [binOp, Op.intCmp], by rw [show (a == b) = decide (a = b) by by_cases h : a = b <;> simp [h]]; exact h⟩
      case neq => exact ⟨.bool (a != b), fun w => by simp [binOp, Op.intCmp], by rw [show (a != b) = decide (a ≠ b) by by_cases h : a = b <;> simp [h]]; exact h⟩
      all_goals exact ⟨_, fun w => by simp [binOp, Op.intArith, Op.intBits, Op.intCmp], h⟩
    · exact h.elim

theorem strB_ok {P : Program} {op : BinOp} {a b : ByteArray} {t : Nat} {K : Value → Prop} (h : binC op (.string a) (.string b) K) :
    ∃ r, (∀ w, (binOp op t (.string a) (.string b)).run P w = .ok r w) ∧ K r := by
  unfold binC at h
  simp only at h
  have h6 : IntKind.i64.max = 9223372036854775807 := by decide
  cases op <;> simp only [strB] at h <;> try exact h.elim
  case add =>
    obtain ⟨h0, h⟩ := h.elim
    refine ⟨_, fun w => ?_, h⟩
    have : ¬ (IntKind.i64.max < (a.size : Int) + (b.size : Int)) := by rw [h6]; omega
    simp only [binOp, Op.stringOp, Sem.run_ite, Int.natCast_add, gt_iff_lt]
    rw [if_neg this]; rfl
  case eql => exact ⟨.bool (a.toList == b.toList), fun w => rfl, by rw [tl_beq]; exact h⟩
  case neq => exact ⟨.bool (!(a.toList == b.toList)), fun w => rfl, by rw [tl_beq]; simpa using h⟩
  case leq => exact ⟨.bool (slt a b || (a.toList == b.toList)), fun w => rfl, by rw [tl_beq]; exact h⟩
  case gtr => exact ⟨.bool (!(slt a b || (a.toList == b.toList))), fun w => rfl, by rw [tl_beq]; exact h⟩
  all_goals exact ⟨_, fun w => rfl, h⟩

/-- equality of pointers, bools, interface values with nil -/
def eqS (T : TT) (t : Nat) (x y : SV) (K : Bool → Prop) : Prop :=
  onO (T.find t) fun i => match i.k, x, y with
    | .bl, .v (.c (.bool a)), .v (.c (.bool b)) => K (decide (a = b))
    | .pt _, .v (.ptr none), .v (.ptr none) => K true
    | .pt _, .v (.ptr (some _)), .v (.ptr none) => K false
    | .pt _, .v (.ptr none), .v (.ptr (some _)) => K false
    | .pt _, .ref _ _, .v (.ptr none) => K false
    | .sl _, .v (.sl els), .v (.c (.slice none 0 0)) => AnyB (fun t => els ≠ [] → t = false) K
    | .sl _, .v (.c (.slice none 0 0)), .v (.c (.slice none 0 0)) => K true
    | .ifc, .v (.ifc none), .v (.ifc none) => K true
    | .ifc, .v (.ifc (some _)), .v (.ifc none) => K false
    | _, _, _ => False

theorem equal_def (t : Nat) (x y : Value) : Op.equal t x y = Op.equalIn (9999 + 1) t x y := rfl

theorem eqS_ok {P : Program} {T : TT} (hT : T.all P = true) {t : Nat} {x y : SV} {K : Bool → Prop} {ι N w M c d} (h : eqS T t x y K) (hx : RepS ι N w M x c) (hy : RepS ι N w M y d) :
    ∃ b, (∀ w', (Op.equal t c d).run P w' = .ok b w') ∧ K b := by
  have h0 := onO_some h; clear h
  obtain ⟨i, hi, h⟩ := h0
  have ht := TT.ok hT t i hi
  split at h
  · rename_i a b hk
    simp only [RepS, Rep] at hx hy; subst hx; subst hy
    exact ⟨a == b, fun w' => by rw [equal_def]; unfold Op.equalIn; simp [run_underlying (und_bl ht hk)], by rw [show (a == b) = decide (a = b) by cases a <;> cases b <;> rfl]; exact h⟩
  · rename_i e hk
    simp only [RepS, Rep] at hx hy; subst hx; subst hy
    exact ⟨true, fun w' => by rw [equal_def]; unfold Op.equalIn; simp [run_underlying (und_pt ht hk)], h⟩
  · rename_i e ys hk
    simp only [RepS, Rep] at hx hy; obtain ⟨b, off, rfl, _⟩ := hx; subst hy
    exact ⟨false, fun w' => by rw [equal_def]; unfold Op.equalIn; simp [run_underlying (und_pt ht hk)], h⟩
  · rename_i e ys hk
    simp only [RepS, Rep] at hx hy; obtain ⟨b, off, rfl, _⟩ := hy; subst hx
    exact ⟨false, fun w' => by rw [equal_def]; unfold Op.equalIn; simp [run_underlying (und_pt ht hk)], h⟩
  · rename_i e id off hk
    simp only [RepS, Rep] at hx hy; obtain ⟨_, b, k, _, rfl⟩ := hx; subst hy
    exact ⟨false, fun w' => by rw [equal_def]; unfold Op.equalIn; simp [run_underlying (und_pt ht hk)], h⟩
  · rename_i e els hk
    simp only [RepS, Rep] at hx hy; obtain ⟨ao, cap, rfl, h1, h2⟩ := hx; subst hy
    refine ⟨ao.isNone, ?_, h.elim _ ?_⟩
    · intro w'; rw [equal_def]; unfold Op.equalIn; cases ao <;> simp [run_underlying (und_sl ht hk)]
    · intro hne
      rcases h2 with h2 | ⟨b, off, n, rfl, _⟩
      · exact absurd h2 hne
      · rfl
  · rename_i e hk
    simp only [RepS, Rep] at hx hy; subst hx; subst hy
    exact ⟨true, fun w' => by rw [equal_def]; unfold Op.equalIn; simp [run_underlying (und_sl ht hk)], h⟩
  · rename_i hk
    simp only [RepS, Rep] at hx hy; subst hx; subst hy
    obtain ⟨ms, hms⟩ := und_ifc ht hk
    exact ⟨true, fun w' => by rw [equal_def]; unfold Op.equalIn; simp [run_underlying hms], h⟩
  · rename_i z hk
    simp only [RepS] at hx hy; obtain ⟨t', v'⟩ := z; simp only [Rep] at hx hy; obtain ⟨c', rfl, _⟩ := hx; subst hy
    obtain ⟨ms, hms⟩ := und_ifc ht hk
    exact ⟨false, fun w' => by rw [equal_def]; unfold Op.equalIn; simp [run_underlying hms], h⟩
  · exact h.elim

end Go.AV0
