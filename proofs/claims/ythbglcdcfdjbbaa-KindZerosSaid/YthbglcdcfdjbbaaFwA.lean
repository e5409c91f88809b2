/- Abstract values, what they stand for in a world, and how that is kept. -/
import Derived.Below
import Derived.OrdersHeld
import Derived.Defers
import Derived.WalkKit
import Derived.Laws.AppendOwn
import Derived.Laws.CopyRow
import Derived.MapKept
namespace Go.AV0

/-- values that reach no memory that is still written -/
inductive AV where
  | c (v : Value)
  | sl (els : List (List AV))
  | ptr (o : Option (List AV))
  | ifc (o : Option (TypeId × AV))
  | agg (xs : List AV)
  | tup (xs : List AV)
  | map (o : Option (List (ByteArray × AV)))
  | clo (fn : Fn) (first cap : List AV)
  deriving Inhabited

/-- a map's stamps are in order -/
def stamped (en : Array MapEntry) (clock : Nat) : Prop := (∀ e ∈ en.toList, e.born < clock) ∧ (en.toList.map (·.born)).Nodup

mutual
def Rep (w : World) (M : Nat → Prop) : AV → Value → Prop
  | .c v, c => c = v
  | .sl els, c => ∃ ao cap, c = .slice ao els.length cap ∧ els.length ≤ cap ∧ (els = [] ∨ ∃ b off n, ao = some ⟨b, off, none⟩ ∧ RepEls w M b n els off)
  | .ptr none, c => c = .pointer none
  | .ptr (some xs), c => ∃ b off, c = .pointer (some ⟨b, off, none⟩) ∧ b < w.heap.size ∧ ¬ M b ∧ RepAt w M b xs off
  | .ifc none, c => c = .nilIface
  | .ifc (some (t, v)), c => ∃ c', c = .iface t c' ∧ Rep w M v c'
  | .agg xs, c => ∃ cs, c = .agg cs ∧ RepL w M xs cs.toList
  | .tup xs, c => ∃ cs, c = .tuple cs ∧ RepL w M xs cs.toList
  | .map none, c => c = .map none
  | .map (some es), c => ∃ b en clock, c = .map (some b) ∧ ¬ M b ∧ w.heap[b]? = some (.map en clock) ∧ stamped en clock ∧ (en.toList.map (·.key)).Perm (es.map fun e => Value.string e.1) ∧ (es.map (·.1)).Nodup ∧ RepMap w M en es
  | .clo fn first cap, c => ∃ fs cs, c = .func fn fs cs ∧ RepL w M first fs.toList ∧ RepL w M cap cs.toList
def RepL (w : World) (M : Nat → Prop) : List AV → List Value → Prop
  | [], cs => cs = []
  | x :: xs, cs => ∃ c cs', cs = c :: cs' ∧ Rep w M x c ∧ RepL w M xs cs'
def RepAt (w : World) (M : Nat → Prop) (b : Nat) : List AV → Nat → Prop
  | [], _ => True
  | x :: xs, off => (¬ M b ∧ ∃ c, w.cell? ⟨b, off, none⟩ = some c ∧ Rep w M x c) ∧ RepAt w M b xs (off + 1)
def RepEls (w : World) (M : Nat → Prop) (b n : Nat) : List (List AV) → Nat → Prop
  | [], _ => True
  | e :: es, off => (e.length = n ∧ RepAt w M b e off) ∧ RepEls w M b n es (off + n)
def RepMap (w : World) (M : Nat → Prop) (en : Array MapEntry) : List (ByteArray × AV) → Prop
  | [] => True
  | e :: es => RepEnt w M en e ∧ RepMap w M en es
def RepEnt (w : World) (M : Nat → Prop) (en : Array MapEntry) : ByteArray × AV → Prop
  | (k, v) => ∃ x ∈ en.toList, x.key = .string k ∧ Rep w M v x.val
end

/-- what was there and stable is there and stable -/
def Keep (w : World) (M : Nat → Prop) (w' : World) (M' : Nat → Prop) : Prop :=
  ∀ b, b < w.heap.size → ¬ M b → ¬ M' b ∧ w'.heap[b]? = w.heap[b]?

theorem Keep.size {w M w' M'} (h : Keep w M w' M') {b : Nat} (hb : b < w.heap.size) (hm : ¬ M b) : b < w'.heap.size := by
  have h1 := (h b hb hm).2
  rcases Nat.lt_or_ge b w'.heap.size with h2 | h2
  · exact h2
  · rw [Array.getElem?_eq_none h2, Array.getElem?_eq_getElem hb] at h1; cases h1

theorem lt_of_cell {w : World} {b off : Nat} {c : Value} (h : w.cell? ⟨b, off, none⟩ = some c) : b < w.heap.size := by
  unfold World.cell? at h
  rcases Nat.lt_or_ge b w.heap.size with h2 | h2
  · exact h2
  · simp only [Array.getElem?_eq_none h2] at h; cases h

theorem Keep.cell {w M w' M'} (h : Keep w M w' M') {b off : Nat} {c : Value} (hm : ¬ M b) (hc : w.cell? ⟨b, off, none⟩ = some c) :
    ¬ M' b ∧ w'.cell? ⟨b, off, none⟩ = some c := by
  have h1 := h b (lt_of_cell hc) hm
  refine ⟨h1.1, ?_⟩
  unfold World.cell? at hc ⊢
  simp only at hc ⊢
  rw [h1.2]; exact hc

theorem lt_of_some {w : World} {b : Nat} {o : Obj} (h : w.heap[b]? = some o) : b < w.heap.size := by
  rcases Nat.lt_or_ge b w.heap.size with h2 | h2
  · exact h2
  · rw [Array.getElem?_eq_none h2] at h; cases h

mutual
theorem Rep.keep {w M w' M'} (h : Keep w M w' M') : ∀ (v : AV) (c : Value), Rep w M v c → Rep w' M' v c
  | .c v, c, r => by simpa [Rep] using r
  | .sl els, c, r => by
    simp only [Rep] at r ⊢
    obtain ⟨ao, cap, h1, h2, h3⟩ := r
    refine ⟨ao, cap, h1, h2, ?_⟩
    rcases h3 with h3 | ⟨b, off, n, h4, h5⟩
    · exact .inl h3
    · exact .inr ⟨b, off, n, h4, RepEls.keep h b n els off h5⟩
  | .ptr none, c, r => by simpa [Rep] using r
  | .ptr (some xs), c, r => by
    simp only [Rep] at r ⊢
    obtain ⟨b, off, h1, h2, h3, h4⟩ := r
    exact ⟨b, off, h1, h.size h2 h3, (h b h2 h3).1, RepAt.keep h b xs off h4⟩
  | .ifc none, c, r => by simpa [Rep] using r
  | .ifc (some (t, v)), c, r => by
    simp only [Rep] at r ⊢
    obtain ⟨c', h1, h2⟩ := r
    exact ⟨c', h1, Rep.keep h v c' h2⟩
  | .agg xs, c, r => by
    simp only [Rep] at r ⊢
    obtain ⟨cs, h1, h2⟩ := r
    exact ⟨cs, h1, RepL.keep h xs _ h2⟩
  | .tup xs, c, r => by
    simp only [Rep] at r ⊢
    obtain ⟨cs, h1, h2⟩ := r
    exact ⟨cs, h1, RepL.keep h xs _ h2⟩
  | .map none, c, r => by simpa [Rep] using r
  | .map (some es), c, r => by
    simp only [Rep] at r ⊢
    obtain ⟨b, en, clock, h1, h2, h3, hs, h4, h5, h6⟩ := r
    exact ⟨b, en, clock, h1, (h b (lt_of_some h3) h2).1, by rw [(h b (lt_of_some h3) h2).2]; exact h3, hs, h4, h5, RepMap.keep h en es h6⟩
  | .clo fn first cap, c, r => by
    simp only [Rep] at r ⊢
    obtain ⟨fs, cs, h1, h2, h3⟩ := r
    exact ⟨fs, cs, h1, RepL.keep h first _ h2, RepL.keep h cap _ h3⟩
theorem RepL.keep {w M w' M'} (h : Keep w M w' M') : ∀ (xs : List AV) (cs : List Value), RepL w M xs cs → RepL w' M' xs cs
  | [], cs, r => by simpa [RepL] using r
  | x :: xs, cs, r => by
    simp only [RepL] at r ⊢
    obtain ⟨c, cs', h1, h2, h3⟩ := r
    exact ⟨c, cs', h1, Rep.keep h x c h2, RepL.keep h xs cs' h3⟩
theorem RepAt.keep {w M w' M'} (h : Keep w M w' M') (b : Nat) : ∀ (xs : List AV) (off : Nat), RepAt w M b xs off → RepAt w' M' b xs off
  | [], off, r => by simp [RepAt]
  | x :: xs, off, r => by
    simp only [RepAt] at r ⊢
    obtain ⟨⟨h1, c, h2, h3⟩, h4⟩ := r
    obtain ⟨g1, g2⟩ := h.cell h1 h2
    exact ⟨⟨g1, c, g2, Rep.keep h x c h3⟩, RepAt.keep h b xs (off + 1) h4⟩
theorem RepEls.keep {w M w' M'} (h : Keep w M w' M') (b n : Nat) : ∀ (els : List (List AV)) (off : Nat), RepEls w M b n els off → RepEls w' M' b n els off
  | [], off, r => by simp [RepEls]
  | e :: es, off, r => by
    simp only [RepEls] at r ⊢
    exact ⟨⟨r.1.1, RepAt.keep h b e off r.1.2⟩, RepEls.keep h b n es _ r.2⟩
theorem RepMap.keep {w M w' M'} (h : Keep w M w' M') (en : Array MapEntry) : ∀ (es : List (ByteArray × AV)), RepMap w M en es → RepMap w' M' en es
  | [], r => by simp [RepMap]
  | e :: es, r => by
    simp only [RepMap] at r ⊢
    exact ⟨RepEnt.keep h en e r.1, RepMap.keep h en es r.2⟩
theorem RepEnt.keep {w M w' M'} (h : Keep w M w' M') (en : Array MapEntry) : ∀ (e : ByteArray × AV), RepEnt w M en e → RepEnt w' M' en e
  | (k, v), r => by
    simp only [RepEnt] at r ⊢
    obtain ⟨x, h1, h2, h3⟩ := r
    exact ⟨x, h1, h2, Rep.keep h v _ h3⟩
end

/-! ### the abstract value of a constant -/
def ofVal : Value → AV
  | .pointer none => .ptr none
  | .nilIface => .ifc none
  | .map none => .map none
  | v => .c v

theorem rep_ofVal (w M) (v : Value) : Rep w M (ofVal v) v := by
  unfold ofVal
  split
  · simp [Rep]
  · simp [Rep]
  · simp [Rep]
  · simp [Rep]

theorem repL_ofVal (w M) : ∀ vs : List Value, RepL w M (vs.map ofVal) vs
  | [] => by simp [RepL]
  | v :: vs => by simp only [List.map_cons, RepL]; exact ⟨v, vs, rfl, rep_ofVal w M v, repL_ofVal w M vs⟩

theorem RepL.length {w M} : ∀ {xs : List AV} {cs : List Value}, RepL w M xs cs → cs.length = xs.length
  | [], cs, r => by simp only [RepL] at r; subst r; rfl
  | x :: xs, cs, r => by simp only [RepL] at r; obtain ⟨c, cs', rfl, _, h⟩ := r; simp [RepL.length h]

theorem RepL.get {w M} : ∀ {xs : List AV} {cs : List Value}, RepL w M xs cs → ∀ (i : Nat) (x : AV), xs[i]? = some x → ∃ c, cs[i]? = some c ∧ Rep w M x c
  | [], cs, r, i, x, hx => by simp at hx
  | y :: xs, cs, r, i, x, hx => by
    simp only [RepL] at r; obtain ⟨c, cs', rfl, h1, h2⟩ := r
    cases i with
    | zero => simp at hx; subst hx; exact ⟨c, rfl, h1⟩
    | succ i => simp at hx; obtain ⟨d, e1, e2⟩ := RepL.get h2 i x hx; exact ⟨d, by simpa using e1, e2⟩

theorem RepL.append {w M} : ∀ {xs ys : List AV} {cs ds : List Value}, RepL w M xs cs → RepL w M ys ds → RepL w M (xs ++ ys) (cs ++ ds)
  | [], ys, cs, ds, r, k => by simp only [RepL] at r; subst r; simpa using k
  | x :: xs, ys, cs, ds, r, k => by
    simp only [RepL] at r; obtain ⟨c, cs', rfl, h1, h2⟩ := r
    simp only [List.cons_append, RepL]; exact ⟨c, cs' ++ ds, rfl, h1, RepL.append h2 k⟩

theorem RepL.drop {w M} : ∀ (n : Nat) {xs : List AV} {cs : List Value}, RepL w M xs cs → RepL w M (xs.drop n) (cs.drop n)
  | 0, xs, cs, r => by simpa using r
  | n + 1, [], cs, r => by simp only [RepL] at r; subst r; simp [RepL]
  | n + 1, x :: xs, cs, r => by
    simp only [RepL] at r; obtain ⟨c, cs', rfl, h1, h2⟩ := r
    simpa using RepL.drop n h2

theorem RepL.take {w M} : ∀ (n : Nat) {xs : List AV} {cs : List Value}, RepL w M xs cs → RepL w M (xs.take n) (cs.take n)
  | 0, xs, cs, r => by simp [RepL]
  | n + 1, [], cs, r => by simp only [RepL] at r; subst r; simp [RepL]
  | n + 1, x :: xs, cs, r => by
    simp only [RepL] at r; obtain ⟨c, cs', rfl, h1, h2⟩ := r
    simp only [List.take_succ_cons, RepL]; exact ⟨c, _, rfl, h1, RepL.take n h2⟩

theorem RepAt.get {w M b} : ∀ {xs : List AV} {off : Nat}, RepAt w M b xs off → ∀ (i : Nat) (x : AV), xs[i]? = some x → ¬ M b ∧ ∃ c, w.cell? ⟨b, off + i, none⟩ = some c ∧ Rep w M x c
  | [], off, r, i, x, hx => by simp at hx
  | y :: xs, off, r, i, x, hx => by
    simp only [RepAt] at r
    cases i with
    | zero => simp at hx; subst hx; exact r.1
    | succ i => simp at hx; have := RepAt.get r.2 i x hx; rwa [show off + 1 + i = off + (i + 1) by omega] at this

theorem RepAt.drop {w M b} : ∀ (n : Nat) {xs : List AV} {off : Nat}, RepAt w M b xs off → RepAt w M b (xs.drop n) (off + n)
  | 0, xs, off, r => by simpa using r
  | n + 1, [], off, r => by simp [RepAt]
  | n + 1, x :: xs, off, r => by
    simp only [RepAt] at r
    have := RepAt.drop n r.2
    rwa [show off + 1 + n = off + (n + 1) by omega] at this

theorem RepEls.get {w M b n} : ∀ {els : List (List AV)} {off : Nat}, RepEls w M b n els off → ∀ (i : Nat) (e : List AV), els[i]? = some e → e.length = n ∧ RepAt w M b e (off + i * n)
  | [], off, r, i, x, hx => by simp at hx
  | y :: xs, off, r, i, x, hx => by
    simp only [RepEls] at r
    cases i with
    | zero => simp at hx; subst hx; simpa using r.1
    | succ i =>
      simp at hx; have := RepEls.get r.2 i x hx
      rwa [show off + n + i * n = off + (i + 1) * n by rw [Nat.add_mul]; omega] at this

theorem RepEls.drop {w M b n} : ∀ (k : Nat) {els : List (List AV)} {off : Nat}, RepEls w M b n els off → RepEls w M b n (els.drop k) (off + k * n)
  | 0, xs, off, r => by simpa using r
  | k + 1, [], off, r => by simp [RepEls]
  | k + 1, x :: xs, off, r => by
    simp only [RepEls] at r
    have := RepEls.drop k r.2
    rwa [show off + n + k * n = off + (k + 1) * n by rw [Nat.add_mul]; omega] at this

theorem RepEls.take {w M b n} : ∀ (k : Nat) {els : List (List AV)} {off : Nat}, RepEls w M b n els off → RepEls w M b n (els.take k) off
  | 0, xs, off, r => by simp [RepEls]
  | k + 1, [], off, r => by simp [RepEls]
  | k + 1, x :: xs, off, r => by
    simp only [RepEls] at r
    simp only [List.take_succ_cons, RepEls]
    exact ⟨r.1, RepEls.take k r.2⟩

/-! ### slot values, objects of one's own -/
inductive SV where
  | any
  | v (x : AV)
  | ref (id off : Nat)
  | eref (id i off : Nat)
  | ms (id : Nat)
  | mm (id : Nat)
  | tup (l : List SV)
  | agg (l : List SV)
  | clo (fn : Fn) (first cap : List SV)
  deriving Inhabited

inductive SO where
  | dead
  | cells (xs : List SV)
  | arr (e : TypeId) (esz : Nat) (els : List (List AV))
  | map (es : List (ByteArray × AV))
  /-- no object: where another one lies -/
  | pin (j : Nat) (x : Option (Nat × Nat × Nat × Nat))
  deriving Inhabited

abbrev Iota := Nat → Option (Nat × Nat × Nat × Nat)   -- block, capacity, an element's size, how many elements

mutual
def RepS (ι : Iota) (N : Nat) (w : World) (M : Nat → Prop) : SV → Value → Prop
  | .any, _ => True
  | .v x, c => Rep w M x c
  | .ref id off, c => id < N ∧ ∃ b k, ι id = some (b, k) ∧ c = .pointer (some ⟨b, off, none⟩)
  | .eref id i off, c => id < N ∧ ∃ b k z n, ι id = some (b, k, z, n) ∧ c = .pointer (some ⟨b, i * z + off, none⟩)
  | .ms id, c => id < N ∧ ((ι id = none ∧ c = .slice none 0 0) ∨ ∃ b k z n, ι id = some (b, k, z, n) ∧ c = .slice (some ⟨b, 0, none⟩) n k)
  | .mm id, c => id < N ∧ ∃ b k, ι id = some (b, k) ∧ c = .map (some b)
  | .tup l, c => ∃ cs, c = .tuple cs ∧ RepSL ι N w M l cs.toList
  | .agg l, c => ∃ cs, c = .agg cs ∧ RepSL ι N w M l cs.toList
  | .clo fn first cap, c => ∃ fs cs, c = .func fn fs cs ∧ RepSL ι N w M first fs.toList ∧ RepSL ι N w M cap cs.toList
def RepSL (ι : Iota) (N : Nat) (w : World) (M : Nat → Prop) : List SV → List Value → Prop
  | [], cs => cs = []
  | x :: xs, cs => ∃ c cs', cs = c :: cs' ∧ RepS ι N w M x c ∧ RepSL ι N w M xs cs'
end

def StO (ι : Iota) (N : Nat) (w : World) (M : Nat → Prop) (i : Nat) : SO → Prop
  | .dead => True
  | .pin j x => j < N ∧ ι j = x
  | .cells xs => ∃ b k cs el, ι i = some (b, k) ∧ M b ∧ w.heap[b]? = some (.cells cs el (0, 0)) ∧ RepSL ι N w M xs cs.toList
  | .arr e esz els => (∀ x ∈ els, x.length = esz) ∧ ((els = [] ∧ ι i = none) ∨
      ∃ b k cs el, ι i = some (b, k, esz, els.length) ∧ M b ∧ w.heap[b]? = some (.cells cs el (0, 0)) ∧ cs.size = k * esz ∧ els.length ≤ k ∧ (k ≤ maxLen ∧ (k = els.length ∨ el = e)) ∧ RepL w M els.flatten (cs.toList.take (els.length * esz)))
  | .map es => ∃ b k en clock, ι i = some (b, k) ∧ M b ∧ w.heap[b]? = some (.map en clock) ∧ stamped en clock ∧ (en.toList.map (·.key)).Perm (es.map fun e => Value.string e.1) ∧ (es.map (·.1)).Nodup ∧ RepMap w M en es

def live : SO → Bool
  | .dead => false
  | .pin _ _ => false
  | _ => true

def own (ι : Iota) (h : List SO) (b : Nat) : Prop := ∃ i o k, h[i]? = some o ∧ live o = true ∧ ι i = some (b, k)

structure St (ι : Iota) (w : World) (M : Nat → Prop) (h : List SO) : Prop where
  objs : ∀ i o, h[i]? = some o → StO ι h.length w M i o
  dist : ∀ i j oi oj b k k', h[i]? = some oi → h[j]? = some oj → live oi = true → live oj = true → ι i = some (b, k) → ι j = some (b, k') → i = j
  mlt : ∀ b, M b → b < w.heap.size

def look : List (Nat × SV) → Nat → Option SV
  | [], _ => none
  | (j, v) :: r, i => bif Nat.beq i j then some v else look r i

/-- a frame: its slots; what it has deferred: the function, the arguments, what is captured -/
structure AF where
  s : List (Nat × SV)
  d : List (Nat × List SV × List SV)

def RepD (ι : Iota) (N : Nat) (w : World) (M : Nat → Prop) : List (Nat × List SV × List SV) → List Deferred → Prop
  | [], ds => ds = []
  | (f, as, cs) :: l, ds => ∃ cs' as' ds', ds = { target := .fn (.func f) cs', args := as' } :: ds' ∧ RepSL ι N w M as as'.toList ∧ RepSL ι N w M cs cs'.toList ∧ RepD ι N w M l ds'

structure FR (ι : Iota) (N : Nat) (w : World) (M : Nat → Prop) (n : Nat) (α : AF) (a : Act) : Prop where
  size : a.tmps.size = n
  slot : ∀ i s, look α.s i = some s → ∃ c, a.tmps[i]? = some c ∧ RepS ι N w M s c
  defs : RepD ι N w M α.d a.defers

def inL : List Nat → Nat → Bool
  | [], _ => false
  | x :: l, i => Nat.beq x i || inL l i

/-- may this object be written? (none: any) -/
def inU : Option (List Nat) → Nat → Bool
  | none, _ => true
  | some l, i => inL l i

abbrev Us := Option (List Nat)

def ownT (ι : Iota) (h : List SO) (us : Us) (b : Nat) : Prop := ∃ i o k, inU us i = true ∧ h[i]? = some o ∧ live o = true ∧ ι i = some (b, k)

theorem ownT.own {ι h us b} (x : ownT ι h us b) : own ι h b := let ⟨i, o, k, _, h1, h2, h3⟩ := x; ⟨i, o, k, h1, h2, h3⟩

structure Grow (ι : Iota) (w : World) (M : Nat → Prop) (h : List SO) (us : Us) (ι' : Iota) (w' : World) (M' : Nat → Prop) (h' : List SO) : Prop where
  os : w'.os = w.os
  tape : w'.tape = w.tape
  output : w'.output = w.output
  size : w.heap.size ≤ w'.heap.size
  keep : ∀ b, b < w.heap.size → ¬ ownT ι h us b → w'.heap[b]? = w.heap[b]?
  m1 : ∀ b, b < w.heap.size → M' b → M b
  m2 : ∀ b, M b → ¬ own ι h b → M' b
  own1 : ∀ b, b < w.heap.size → own ι' h' b → own ι h b
  own2 : ∀ b, b < w.heap.size → ownT ι' h' us b → ownT ι h us b

theorem Grow.refl (ι w M h us) : Grow ι w M h us ι w M h := ⟨rfl, rfl, rfl, Nat.le_refl _, fun _ _ _ => rfl, fun _ _ x => x, fun _ x _ => x, fun _ _ x => x, fun _ _ x => x⟩

theorem Grow.trans {ι w M h us ι1 w1 M1 h1 ι2 w2 M2 h2} (hm : ∀ b, M b → b < w.heap.size) (a : Grow ι w M h us ι1 w1 M1 h1) (b : Grow ι1 w1 M1 h1 us ι2 w2 M2 h2) : Grow ι w M h us ι2 w2 M2 h2 := by
  refine ⟨b.os.trans a.os, b.tape.trans a.tape, b.output.trans a.output, Nat.le_trans a.size b.size, ?_, ?_, ?_, ?_, ?_⟩
  · intro x hx hn
    rw [b.keep x (Nat.lt_of_lt_of_le hx a.size) (fun ho => hn (a.own2 x hx ho)), a.keep x hx hn]
  · intro x hx h2
    exact a.m1 x hx (b.m1 x (Nat.lt_of_lt_of_le hx a.size) h2)
  · intro x hx hn
    exact b.m2 x (a.m2 x hx hn) (fun ho => hn (a.own1 x (hm x hx) ho))
  · intro x hx ho
    exact a.own1 x hx (b.own1 x (Nat.lt_of_lt_of_le hx a.size) ho)
  · intro x hx ho
    exact a.own2 x hx (b.own2 x (Nat.lt_of_lt_of_le hx a.size) ho)

theorem StO.ownM {ι N w M i o b k} (h : StO ι N w M i o) (hl : live o = true) (hi : ι i = some (b, k)) : M b := by
  cases o with
  | dead => simp [live] at hl
  | pin _ _ => simp [live] at hl
  | cells xs => simp only [StO] at h; obtain ⟨b', k', cs, el, h1, h2, _⟩ := h; rw [hi] at h1; cases h1; exact h2
  | arr e esz els =>
    simp only [StO] at h
    rcases h.2 with h | ⟨b', k', cs, el', h1, h2, _⟩
    · rw [hi] at h; cases h.2
    · rw [hi] at h1; cases h1; exact h2
  | map es => simp only [StO] at h; obtain ⟨b', k', cs, el, h1, h2, _⟩ := h; rw [hi] at h1; cases h1; exact h2

theorem St.ownM {ι w M h} (H : St ι w M h) {b : Nat} (ho : own ι h b) : M b := by
  obtain ⟨i, o, k, h1, h2, h3⟩ := ho
  exact (H.objs i o h1).ownM h2 h3

theorem Grow.keepM {ι w M h us ι' w' M' h'} (H : St ι w M h) (g : Grow ι w M h us ι' w' M' h') : Keep w M w' M' := by
  intro b hb hn
  exact ⟨fun hm => hn (g.m1 b hb hm), g.keep b hb (fun ho => hn (H.ownM ho.own))⟩

/-- the identities that live on -/
def Agree (ι : Iota) (N : Nat) (ι' : Iota) (N' : Nat) : Prop := N ≤ N' ∧ ∀ i, i < N → ι' i = ι i

mutual
theorem RepS.keep {ι N w M ι' N' w' M'} (ha : Agree ι N ι' N') (h : Keep w M w' M') : ∀ (s : SV) (c : Value), RepS ι N w M s c → RepS ι' N' w' M' s c
  | .any, _, _ => by simp [RepS]
  | .v x, c, r => by simp only [RepS] at r ⊢; exact Rep.keep h x c r
  | .ref id off, c, r => by simp only [RepS] at r ⊢; rw [ha.2 id r.1]; exact ⟨Nat.lt_of_lt_of_le r.1 ha.1, r.2⟩
  | .eref id i off, c, r => by simp only [RepS] at r ⊢; rw [ha.2 id r.1]; exact ⟨Nat.lt_of_lt_of_le r.1 ha.1, r.2⟩
  | .ms id, c, r => by simp only [RepS] at r ⊢; rw [ha.2 id r.1]; exact ⟨Nat.lt_of_lt_of_le r.1 ha.1, r.2⟩
  | .mm id, c, r => by simp only [RepS] at r ⊢; rw [ha.2 id r.1]; exact ⟨Nat.lt_of_lt_of_le r.1 ha.1, r.2⟩
  | .tup l, c, r => by
    simp only [RepS] at r ⊢; obtain ⟨cs, h1, h2⟩ := r; exact ⟨cs, h1, RepSL.keep ha h l _ h2⟩
  | .agg l, c, r => by
    simp only [RepS] at r ⊢; obtain ⟨cs, h1, h2⟩ := r; exact ⟨cs, h1, RepSL.keep ha h l _ h2⟩
  | .clo fn first cap, c, r => by
    simp only [RepS] at r ⊢; obtain ⟨fs, cs, h1, h2, h3⟩ := r; exact ⟨fs, cs, h1, RepSL.keep ha h first _ h2, RepSL.keep ha h cap _ h3⟩
theorem RepSL.keep {ι N w M ι' N' w' M'} (ha : Agree ι N ι' N') (h : Keep w M w' M') : ∀ (l : List SV) (cs : List Value), RepSL ι N w M l cs → RepSL ι' N' w' M' l cs
  | [], cs, r => by simpa [RepSL] using r
  | x :: xs, cs, r => by
    simp only [RepSL] at r ⊢; obtain ⟨c, cs', h1, h2, h3⟩ := r
    exact ⟨c, cs', h1, RepS.keep ha h x c h2, RepSL.keep ha h xs cs' h3⟩
end

theorem RepSL.length {ι N w M} : ∀ {xs : List SV} {cs : List Value}, RepSL ι N w M xs cs → cs.length = xs.length
  | [], cs, r => by simp only [RepSL] at r; subst r; rfl
  | x :: xs, cs, r => by simp only [RepSL] at r; obtain ⟨c, cs', rfl, _, h⟩ := r; simp [RepSL.length h]

theorem RepSL.get {ι N w M} : ∀ {xs : List SV} {cs : List Value}, RepSL ι N w M xs cs → ∀ (i : Nat) (x : SV), xs[i]? = some x → ∃ c, cs[i]? = some c ∧ RepS ι N w M x c
  | [], cs, r, i, x, hx => by simp at hx
  | y :: xs, cs, r, i, x, hx => by
    simp only [RepSL] at r; obtain ⟨c, cs', rfl, h1, h2⟩ := r
    cases i with
    | zero => simp at hx; subst hx; exact ⟨c, rfl, h1⟩
    | succ i => simp at hx; obtain ⟨d, e1, e2⟩ := RepSL.get h2 i x hx; exact ⟨d, by simpa using e1, e2⟩

theorem RepSL.ofL {ι N w M} : ∀ {xs : List AV} {cs : List Value}, RepL w M xs cs → RepSL ι N w M (xs.map .v) cs
  | [], cs, r => by simp only [RepL] at r; subst r; simp [RepSL]
  | x :: xs, cs, r => by
    simp only [RepL] at r; obtain ⟨c, cs', rfl, h1, h2⟩ := r
    simp only [List.map_cons, RepSL]; exact ⟨c, cs', rfl, by simpa [RepS] using h1, RepSL.ofL h2⟩

/-- all of them reach no memory of one's own: their abstract values -/
def closedL : List SV → Option (List AV)
  | [] => some []
  | .v x :: l => match closedL l with | some xs => some (x :: xs) | none => none
  | _ :: _ => none

theorem closedL_map : ∀ {l : List SV} {xs : List AV}, closedL l = some xs → l = xs.map .v
  | [], xs, h => by simp [closedL] at h; subst h; rfl
  | s :: l, xs, h => by
    cases s <;> simp only [closedL] at h <;> try (cases h; done)
    rename_i x
    cases hl : closedL l with
    | none => rw [hl] at h; cases h
    | some ys => rw [hl] at h; cases h; rw [closedL_map hl]; rfl

theorem RepSL.toL {ι N w M} : ∀ {xs : List AV} {cs : List Value}, RepSL ι N w M (xs.map .v) cs → RepL w M xs cs
  | [], cs, r => by simp only [List.map_nil, RepSL] at r; subst r; simp [RepL]
  | x :: xs, cs, r => by
    simp only [List.map_cons, RepSL, RepS] at r; obtain ⟨c, cs', rfl, h1, h2⟩ := r
    simp only [RepL]; exact ⟨c, cs', rfl, h1, RepSL.toL h2⟩

theorem RepSL.append {ι N w M} : ∀ {xs ys : List SV} {cs ds : List Value}, RepSL ι N w M xs cs → RepSL ι N w M ys ds → RepSL ι N w M (xs ++ ys) (cs ++ ds)
  | [], ys, cs, ds, r, k => by simp only [RepSL] at r; subst r; simpa using k
  | x :: xs, ys, cs, ds, r, k => by
    simp only [RepSL] at r; obtain ⟨c, cs', rfl, h1, h2⟩ := r
    simp only [List.cons_append, RepSL]; exact ⟨c, cs' ++ ds, rfl, h1, RepSL.append h2 k⟩

theorem RepSL.drop {ι N w M} : ∀ (n : Nat) {xs : List SV} {cs : List Value}, RepSL ι N w M xs cs → RepSL ι N w M (xs.drop n) (cs.drop n)
  | 0, xs, cs, r => by simpa using r
  | n + 1, [], cs, r => by simp only [RepSL] at r; subst r; simp [RepSL]
  | n + 1, x :: xs, cs, r => by
    simp only [RepSL] at r; obtain ⟨c, cs', rfl, h1, h2⟩ := r
    simpa using RepSL.drop n h2

theorem RepSL.take {ι N w M} : ∀ (n : Nat) {xs : List SV} {cs : List Value}, RepSL ι N w M xs cs → RepSL ι N w M (xs.take n) (cs.take n)
  | 0, xs, cs, r => by simp [RepSL]
  | n + 1, [], cs, r => by simp only [RepSL] at r; subst r; simp [RepSL]
  | n + 1, x :: xs, cs, r => by
    simp only [RepSL] at r; obtain ⟨c, cs', rfl, h1, h2⟩ := r
    simp only [List.take_succ_cons, RepSL]; exact ⟨c, _, rfl, h1, RepSL.take n h2⟩

theorem RepD.keep {ι N w M ι' N' w' M'} (ha : Agree ι N ι' N') (h : Keep w M w' M') : ∀ (l : List (Nat × List SV × List SV)) (ds : List Deferred), RepD ι N w M l ds → RepD ι' N' w' M' l ds
  | [], ds, r => by simpa [RepD] using r
  | (f, as, cs) :: l, ds, r => by
    simp only [RepD] at r ⊢
    obtain ⟨cs', as', ds', h1, h2, h3, h4⟩ := r
    exact ⟨cs', as', ds', h1, RepSL.keep ha h as _ h2, RepSL.keep ha h cs _ h3, RepD.keep ha h l ds' h4⟩

theorem FR.keep {ι N w M ι' N' w' M' n α a} (ha : Agree ι N ι' N') (h : Keep w M w' M') (H : FR ι N w M n α a) : FR ι' N' w' M' n α a :=
  ⟨H.size, fun i s hs => let ⟨c, h1, h2⟩ := H.slot i s hs; ⟨c, h1, RepS.keep ha h s c h2⟩, RepD.keep ha h _ _ H.defs⟩

theorem look_cons (j : Nat) (v : SV) (r : List (Nat × SV)) (i : Nat) : look ((j, v) :: r) i = if i = j then some v else look r i := by
  simp only [look]
  by_cases h : i = j
  · subst h; simp
  · have : Nat.beq i j = false := by
      cases hb : Nat.beq i j with
      | false => rfl
      | true => exact absurd (Nat.eq_of_beq_eq_true hb) h
    simp [this, h]

/-- a slot is written -/
theorem FR.put {ι N w M n α a} (H : FR ι N w M n α a) {d : Nat} {s : SV} {c : Value} (hd : d < n) (hs : RepS ι N w M s c) :
    FR ι N w M n { α with s := (d, s) :: α.s } (a.put (some d) c) := by
  refine ⟨by simp [Act.put, H.size], ?_, H.defs⟩
  intro i s' h'
  rw [look_cons] at h'
  by_cases hi : i = d
  · subst hi
    simp at h'; subst h'
    exact ⟨c, by simp [Act.put, H.size, hd], hs⟩
  · simp [hi] at h'
    obtain ⟨c', h1, h2⟩ := H.slot i s' h'
    exact ⟨c', by simp [Act.put, Ne.symm hi, h1], h2⟩

end Go.AV0
