/- KindPartsUptoSaid: of any type what it holds, for each text, value, number and key of bulk at most 1048576. This text: Gw, FwA, FwB, FwC, FwD, FwE, FwF, FwG, FwH. -/
import Derived.Below
import Derived.OrdersHeld
import Derived.Defers
import Derived.WalkKit
import Derived.Laws.AppendOwn
import Derived.Laws.CopyRow
import Derived.MapKept
/- What the package-level variables hold. -/
namespace Go.AV0

/-- what is asked of the world in which a law's call begins: here nothing -/
def GW (_ : World) : Prop := True

end Go.AV0
/- Abstract values, what they stand for in a world, and how that is kept. -/
namespace Go.AV0

/-- values that reach no memory that is still written -/
inductive AV where
  | c (v : Value)
  | sl (els : List (List AV))
  | ptr (o : Option (List AV))
  | ifc (o : Option (TypeId × AV))
  | agg (xs : List AV)
  | tup (xs : List AV)
  | map (o : Option (List (ByteArray × AV)))
  | clo (fn : Fn) (first cap : List AV)
  deriving Inhabited

/-- a map's stamps are in order -/
def stamped (en : Array MapEntry) (clock : Nat) : Prop := (∀ e ∈ en.toList, e.born < clock) ∧ (en.toList.map (·.born)).Nodup

mutual
def Rep (w : World) (M : Nat → Prop) : AV → Value → Prop
  | .c v, c => c = v
  | .sl els, c => ∃ ao cap, c = .slice ao els.length cap ∧ els.length ≤ cap ∧ (els = [] ∨ ∃ b off n, ao = some ⟨b, off, none⟩ ∧ RepEls w M b n els off)
  | .ptr none, c => c = .pointer none
  | .ptr (some xs), c => ∃ b off, c = .pointer (some ⟨b, off, none⟩) ∧ b < w.heap.size ∧ ¬ M b ∧ RepAt w M b xs off
  | .ifc none, c => c = .nilIface
  | .ifc (some (t, v)), c => ∃ c', c = .iface t c' ∧ Rep w M v c'
  | .agg xs, c => ∃ cs, c = .agg cs ∧ RepL w M xs cs.toList
  | .tup xs, c => ∃ cs, c = .tuple cs ∧ RepL w M xs cs.toList
  | .map none, c => c = .map none
  | .map (some es), c => ∃ b en clock, c = .map (some b) ∧ ¬ M b ∧ w.heap[b]? = some (.map en clock) ∧ stamped en clock ∧ (en.toList.map (·.key)).Perm (es.map fun e => Value.string e.1) ∧ (es.map (·.1)).Nodup ∧ RepMap w M en es
  | .clo fn first cap, c => ∃ fs cs, c = .func fn fs cs ∧ RepL w M first fs.toList ∧ RepL w M cap cs.toList
def RepL (w : World) (M : Nat → Prop) : List AV → List Value → Prop
  | [], cs => cs = []
  | x :: xs, cs => ∃ c cs', cs = c :: cs' ∧ Rep w M x c ∧ RepL w M xs cs'
def RepAt (w : World) (M : Nat → Prop) (b : Nat) : List AV → Nat → Prop
  | [], _ => True
  | x :: xs, off => (¬ M b ∧ ∃ c, w.cell? ⟨b, off, none⟩ = some c ∧ Rep w M x c) ∧ RepAt w M b xs (off + 1)
def RepEls (w : World) (M : Nat → Prop) (b n : Nat) : List (List AV) → Nat → Prop
  | [], _ => True
  | e :: es, off => (e.length = n ∧ RepAt w M b e off) ∧ RepEls w M b n es (off + n)
def RepMap (w : World) (M : Nat → Prop) (en : Array MapEntry) : List (ByteArray × AV) → Prop
  | [] => True
  | e :: es => RepEnt w M en e ∧ RepMap w M en es
def RepEnt (w : World) (M : Nat → Prop) (en : Array MapEntry) : ByteArray × AV → Prop
  | (k, v) => ∃ x ∈ en.toList, x.key = .string k ∧ Rep w M v x.val
end

/-- what was there and stable is there and stable -/
def Keep (w : World) (M : Nat → Prop) (w' : World) (M' : Nat → Prop) : Prop :=
  ∀ b, b < w.heap.size → ¬ M b → ¬ M' b ∧ w'.heap[b]? = w.heap[b]?

theorem Keep.size {w M w' M'} (h : Keep w M w' M') {b : Nat} (hb : b < w.heap.size) (hm : ¬ M b) : b < w'.heap.size := by
  have h1 := (h b hb hm).2
  rcases Nat.lt_or_ge b w'.heap.size with h2 | h2
  · exact h2
  · rw [Array.getElem?_eq_none h2, Array.getElem?_eq_getElem hb] at h1; cases h1

/-- what stood there when the law's call began is there, and stays -/
def GOk (w : World) (M : Nat → Prop) : Prop := ∃ W0, GW W0 ∧ W0.heap.size ≤ w.heap.size ∧ ∀ b, b < W0.heap.size → ¬ M b ∧ w.heap[b]? = W0.heap[b]?

theorem GOk.keep {w M w' M'} (g : GOk w M) (h : Keep w M w' M') : GOk w' M' := by
  obtain ⟨W0, h1, h2, h3⟩ := g
  have key : ∀ b, b < W0.heap.size → ¬ M' b ∧ w'.heap[b]? = W0.heap[b]? := fun b hb => by
    obtain ⟨h4, h5⟩ := h b (by omega) (h3 b hb).1
    exact ⟨h4, h5.trans (h3 b hb).2⟩
  refine ⟨W0, h1, ?_, key⟩
  rcases Nat.eq_zero_or_pos W0.heap.size with h0 | h0
  · omega
  · have := (key (W0.heap.size - 1) (by omega)).2
    rcases Nat.lt_or_ge (W0.heap.size - 1) w'.heap.size with h6 | h6
    · omega
    · rw [Array.getElem?_eq_none h6, Array.getElem?_eq_getElem (by omega)] at this; cases this

theorem GOk.start {w : World} (h : GW w) : GOk w (fun _ => False) := ⟨w, h, Nat.le_refl _, fun _ _ => ⟨fun h => h, rfl⟩⟩

theorem lt_of_cell {w : World} {b off : Nat} {c : Value} (h : w.cell? ⟨b, off, none⟩ = some c) : b < w.heap.size := by
  unfold World.cell? at h
  rcases Nat.lt_or_ge b w.heap.size with h2 | h2
  · exact h2
  · simp only [Array.getElem?_eq_none h2] at h; cases h

theorem Keep.cell {w M w' M'} (h : Keep w M w' M') {b off : Nat} {c : Value} (hm : ¬ M b) (hc : w.cell? ⟨b, off, none⟩ = some c) :
    ¬ M' b ∧ w'.cell? ⟨b, off, none⟩ = some c := by
  have h1 := h b (lt_of_cell hc) hm
  refine ⟨h1.1, ?_⟩
  unfold World.cell? at hc ⊢
  simp only at hc ⊢
  rw [h1.2]; exact hc

theorem lt_of_some {w : World} {b : Nat} {o : Obj} (h : w.heap[b]? = some o) : b < w.heap.size := by
  rcases Nat.lt_or_ge b w.heap.size with h2 | h2
  · exact h2
  · rw [Array.getElem?_eq_none h2] at h; cases h

mutual
theorem Rep.keep {w M w' M'} (h : Keep w M w' M') : ∀ (v : AV) (c : Value), Rep w M v c → Rep w' M' v c
  | .c v, c, r => by simpa [Rep] using r
  | .sl els, c, r => by
    simp only [Rep] at r ⊢
    obtain ⟨ao, cap, h1, h2, h3⟩ := r
    refine ⟨ao, cap, h1, h2, ?_⟩
    rcases h3 with h3 | ⟨b, off, n, h4, h5⟩
    · exact .inl h3
    · exact .inr ⟨b, off, n, h4, RepEls.keep h b n els off h5⟩
  | .ptr none, c, r => by simpa [Rep] using r
  | .ptr (some xs), c, r => by
    simp only [Rep] at r ⊢
    obtain ⟨b, off, h1, h2, h3, h4⟩ := r
    exact ⟨b, off, h1, h.size h2 h3, (h b h2 h3).1, RepAt.keep h b xs off h4⟩
  | .ifc none, c, r => by simpa [Rep] using r
  | .ifc (some (t, v)), c, r => by
    simp only [Rep] at r ⊢
    obtain ⟨c', h1, h2⟩ := r
    exact ⟨c', h1, Rep.keep h v c' h2⟩
  | .agg xs, c, r => by
    simp only [Rep] at r ⊢
    obtain ⟨cs, h1, h2⟩ := r
    exact ⟨cs, h1, RepL.keep h xs _ h2⟩
  | .tup xs, c, r => by
    simp only [Rep] at r ⊢
    obtain ⟨cs, h1, h2⟩ := r
    exact ⟨cs, h1, RepL.keep h xs _ h2⟩
  | .map none, c, r => by simpa [Rep] using r
  | .map (some es), c, r => by
    simp only [Rep] at r ⊢
    obtain ⟨b, en, clock, h1, h2, h3, hs, h4, h5, h6⟩ := r
    exact ⟨b, en, clock, h1, (h b (lt_of_some h3) h2).1, by rw [(h b (lt_of_some h3) h2).2]; exact h3, hs, h4, h5, RepMap.keep h en es h6⟩
  | .clo fn first cap, c, r => by
    simp only [Rep] at r ⊢
    obtain ⟨fs, cs, h1, h2, h3⟩ := r
    exact ⟨fs, cs, h1, RepL.keep h first _ h2, RepL.keep h cap _ h3⟩
theorem RepL.keep {w M w' M'} (h : Keep w M w' M') : ∀ (xs : List AV) (cs : List Value), RepL w M xs cs → RepL w' M' xs cs
  | [], cs, r => by simpa [RepL] using r
  | x :: xs, cs, r => by
    simp only [RepL] at r ⊢
    obtain ⟨c, cs', h1, h2, h3⟩ := r
    exact ⟨c, cs', h1, Rep.keep h x c h2, RepL.keep h xs cs' h3⟩
theorem RepAt.keep {w M w' M'} (h : Keep w M w' M') (b : Nat) : ∀ (xs : List AV) (off : Nat), RepAt w M b xs off → RepAt w' M' b xs off
  | [], off, r => by simp [RepAt]
  | x :: xs, off, r => by
    simp only [RepAt] at r ⊢
    obtain ⟨⟨h1, c, h2, h3⟩, h4⟩ := r
    obtain ⟨g1, g2⟩ := h.cell h1 h2
    exact ⟨⟨g1, c, g2, Rep.keep h x c h3⟩, RepAt.keep h b xs (off + 1) h4⟩
theorem RepEls.keep {w M w' M'} (h : Keep w M w' M') (b n : Nat) : ∀ (els : List (List AV)) (off : Nat), RepEls w M b n els off → RepEls w' M' b n els off
  | [], off, r => by simp [RepEls]
  | e :: es, off, r => by
    simp only [RepEls] at r ⊢
    exact ⟨⟨r.1.1, RepAt.keep h b e off r.1.2⟩, RepEls.keep h b n es _ r.2⟩
theorem RepMap.keep {w M w' M'} (h : Keep w M w' M') (en : Array MapEntry) : ∀ (es : List (ByteArray × AV)), RepMap w M en es → RepMap w' M' en es
  | [], r => by simp [RepMap]
  | e :: es, r => by
    simp only [RepMap] at r ⊢
    exact ⟨RepEnt.keep h en e r.1, RepMap.keep h en es r.2⟩
theorem RepEnt.keep {w M w' M'} (h : Keep w M w' M') (en : Array MapEntry) : ∀ (e : ByteArray × AV), RepEnt w M en e → RepEnt w' M' en e
  | (k, v), r => by
    simp only [RepEnt] at r ⊢
    obtain ⟨x, h1, h2, h3⟩ := r
    exact ⟨x, h1, h2, Rep.keep h v _ h3⟩
end

/-! ### the abstract value of a constant -/
def ofVal : Value → AV
  | .pointer none => .ptr none
  | .nilIface => .ifc none
  | .map none => .map none
  | v => .c v

theorem rep_ofVal (w M) (v : Value) : Rep w M (ofVal v) v := by
  unfold ofVal
  split
  · simp [Rep]
  · simp [Rep]
  · simp [Rep]
  · simp [Rep]

theorem repL_ofVal (w M) : ∀ vs : List Value, RepL w M (vs.map ofVal) vs
  | [] => by simp [RepL]
  | v :: vs => by simp only [List.map_cons, RepL]; exact ⟨v, vs, rfl, rep_ofVal w M v, repL_ofVal w M vs⟩

theorem RepL.length {w M} : ∀ {xs : List AV} {cs : List Value}, RepL w M xs cs → cs.length = xs.length
  | [], cs, r => by simp only [RepL] at r; subst r; rfl
  | x :: xs, cs, r => by simp only [RepL] at r; obtain ⟨c, cs', rfl, _, h⟩ := r; simp [RepL.length h]

theorem RepL.get {w M} : ∀ {xs : List AV} {cs : List Value}, RepL w M xs cs → ∀ (i : Nat) (x : AV), xs[i]? = some x → ∃ c, cs[i]? = some c ∧ Rep w M x c
  | [], cs, r, i, x, hx => by simp at hx
  | y :: xs, cs, r, i, x, hx => by
    simp only [RepL] at r; obtain ⟨c, cs', rfl, h1, h2⟩ := r
    cases i with
    | zero => simp at hx; subst hx; exact ⟨c, rfl, h1⟩
    | succ i => simp at hx; obtain ⟨d, e1, e2⟩ := RepL.get h2 i x hx; exact ⟨d, by simpa using e1, e2⟩

theorem RepL.append {w M} : ∀ {xs ys : List AV} {cs ds : List Value}, RepL w M xs cs → RepL w M ys ds → RepL w M (xs ++ ys) (cs ++ ds)
  | [], ys, cs, ds, r, k => by simp only [RepL] at r; subst r; simpa using k
  | x :: xs, ys, cs, ds, r, k => by
    simp only [RepL] at r; obtain ⟨c, cs', rfl, h1, h2⟩ := r
    simp only [List.cons_append, RepL]; exact ⟨c, cs' ++ ds, rfl, h1, RepL.append h2 k⟩

theorem RepL.drop {w M} : ∀ (n : Nat) {xs : List AV} {cs : List Value}, RepL w M xs cs → RepL w M (xs.drop n) (cs.drop n)
  | 0, xs, cs, r => by simpa using r
  | n + 1, [], cs, r => by simp only [RepL] at r; subst r; simp [RepL]
  | n + 1, x :: xs, cs, r => by
    simp only [RepL] at r; obtain ⟨c, cs', rfl, h1, h2⟩ := r
    simpa using RepL.drop n h2

theorem RepL.take {w M} : ∀ (n : Nat) {xs : List AV} {cs : List Value}, RepL w M xs cs → RepL w M (xs.take n) (cs.take n)
  | 0, xs, cs, r => by simp [RepL]
  | n + 1, [], cs, r => by simp only [RepL] at r; subst r; simp [RepL]
  | n + 1, x :: xs, cs, r => by
    simp only [RepL] at r; obtain ⟨c, cs', rfl, h1, h2⟩ := r
    simp only [List.take_succ_cons, RepL]; exact ⟨c, _, rfl, h1, RepL.take n h2⟩

theorem RepAt.get {w M b} : ∀ {xs : List AV} {off : Nat}, RepAt w M b xs off → ∀ (i : Nat) (x : AV), xs[i]? = some x → ¬ M b ∧ ∃ c, w.cell? ⟨b, off + i, none⟩ = some c ∧ Rep w M x c
  | [], off, r, i, x, hx => by simp at hx
  | y :: xs, off, r, i, x, hx => by
    simp only [RepAt] at r
    cases i with
    | zero => simp at hx; subst hx; exact r.1
    | succ i => simp at hx; have := RepAt.get r.2 i x hx; rwa [show off + 1 + i = off + (i + 1) by omega] at this

theorem RepAt.drop {w M b} : ∀ (n : Nat) {xs : List AV} {off : Nat}, RepAt w M b xs off → RepAt w M b (xs.drop n) (off + n)
  | 0, xs, off, r => by simpa using r
  | n + 1, [], off, r => by simp [RepAt]
  | n + 1, x :: xs, off, r => by
    simp only [RepAt] at r
    have := RepAt.drop n r.2
    rwa [show off + 1 + n = off + (n + 1) by omega] at this

theorem RepEls.get {w M b n} : ∀ {els : List (List AV)} {off : Nat}, RepEls w M b n els off → ∀ (i : Nat) (e : List AV), els[i]? = some e → e.length = n ∧ RepAt w M b e (off + i * n)
  | [], off, r, i, x, hx => by simp at hx
  | y :: xs, off, r, i, x, hx => by
    simp only [RepEls] at r
    cases i with
    | zero => simp at hx; subst hx; simpa using r.1
    | succ i =>
      simp at hx; have := RepEls.get r.2 i x hx
      rwa [show off + n + i * n = off + (i + 1) * n by rw [Nat.add_mul]; omega] at this

theorem RepEls.drop {w M b n} : ∀ (k : Nat) {els : List (List AV)} {off : Nat}, RepEls w M b n els off → RepEls w M b n (els.drop k) (off + k * n)
  | 0, xs, off, r => by simpa using r
  | k + 1, [], off, r => by simp [RepEls]
  | k + 1, x :: xs, off, r => by
    simp only [RepEls] at r
    have := RepEls.drop k r.2
    rwa [show off + n + k * n = off + (k + 1) * n by rw [Nat.add_mul]; omega] at this

theorem RepEls.take {w M b n} : ∀ (k : Nat) {els : List (List AV)} {off : Nat}, RepEls w M b n els off → RepEls w M b n (els.take k) off
  | 0, xs, off, r => by simp [RepEls]
  | k + 1, [], off, r => by simp [RepEls]
  | k + 1, x :: xs, off, r => by
    simp only [RepEls] at r
    simp only [List.take_succ_cons, RepEls]
    exact ⟨r.1, RepEls.take k r.2⟩

/-! ### slot values, objects of one's own -/
inductive SV where
  | any
  | v (x : AV)
  | ref (id off : Nat)
  | eref (id i off : Nat)
  | ms (id : Nat)
  | mm (id : Nat)
  | tup (l : List SV)
  | agg (l : List SV)
  | clo (fn : Fn) (first cap : List SV)
  deriving Inhabited

inductive SO where
  | dead
  | cells (xs : List SV)
  | arr (e : TypeId) (esz : Nat) (els : List (List AV))
  | map (es : List (ByteArray × AV))
  /-- no object: where another one lies -/
  | pin (j : Nat) (x : Option (Nat × Nat × Nat × Nat))
  deriving Inhabited

abbrev Iota := Nat → Option (Nat × Nat × Nat × Nat)   -- block, capacity, an element's size, how many elements

mutual
def RepS (ι : Iota) (N : Nat) (w : World) (M : Nat → Prop) : SV → Value → Prop
  | .any, _ => True
  | .v x, c => Rep w M x c
  | .ref id off, c => id < N ∧ ∃ b k, ι id = some (b, k) ∧ c = .pointer (some ⟨b, off, none⟩)
  | .eref id i off, c => id < N ∧ ∃ b k z n, ι id = some (b, k, z, n) ∧ c = .pointer (some ⟨b, i * z + off, none⟩)
  | .ms id, c => id < N ∧ ((ι id = none ∧ c = .slice none 0 0) ∨ ∃ b k z n, ι id = some (b, k, z, n) ∧ c = .slice (some ⟨b, 0, none⟩) n k)
  | .mm id, c => id < N ∧ ∃ b k, ι id = some (b, k) ∧ c = .map (some b)
  | .tup l, c => ∃ cs, c = .tuple cs ∧ RepSL ι N w M l cs.toList
  | .agg l, c => ∃ cs, c = .agg cs ∧ RepSL ι N w M l cs.toList
  | .clo fn first cap, c => ∃ fs cs, c = .func fn fs cs ∧ RepSL ι N w M first fs.toList ∧ RepSL ι N w M cap cs.toList
def RepSL (ι : Iota) (N : Nat) (w : World) (M : Nat → Prop) : List SV → List Value → Prop
  | [], cs => cs = []
  | x :: xs, cs => ∃ c cs', cs = c :: cs' ∧ RepS ι N w M x c ∧ RepSL ι N w M xs cs'
end

def StO (ι : Iota) (N : Nat) (w : World) (M : Nat → Prop) (i : Nat) : SO → Prop
  | .dead => True
  | .pin j x => j < N ∧ ι j = x
  | .cells xs => ∃ b k cs el, ι i = some (b, k) ∧ M b ∧ w.heap[b]? = some (.cells cs el (0, 0)) ∧ RepSL ι N w M xs cs.toList
  | .arr e esz els => (∀ x ∈ els, x.length = esz) ∧ ((els = [] ∧ ι i = none) ∨
      ∃ b k cs el, ι i = some (b, k, esz, els.length) ∧ M b ∧ w.heap[b]? = some (.cells cs el (0, 0)) ∧ cs.size = k * esz ∧ els.length ≤ k ∧ (k ≤ maxLen ∧ (k = els.length ∨ el = e)) ∧ RepL w M els.flatten (cs.toList.take (els.length * esz)))
  | .map es => ∃ b k en clock, ι i = some (b, k) ∧ M b ∧ w.heap[b]? = some (.map en clock) ∧ stamped en clock ∧ (en.toList.map (·.key)).Perm (es.map fun e => Value.string e.1) ∧ (es.map (·.1)).Nodup ∧ RepMap w M en es

def live : SO → Bool
  | .dead => false
  | .pin _ _ => false
  | _ => true

def own (ι : Iota) (h : List SO) (b : Nat) : Prop := ∃ i o k, h[i]? = some o ∧ live o = true ∧ ι i = some (b, k)

structure St (ι : Iota) (w : World) (M : Nat → Prop) (h : List SO) : Prop where
  objs : ∀ i o, h[i]? = some o → StO ι h.length w M i o
  dist : ∀ i j oi oj b k k', h[i]? = some oi → h[j]? = some oj → live oi = true → live oj = true → ι i = some (b, k) → ι j = some (b, k') → i = j
  mlt : ∀ b, M b → b < w.heap.size
  gl : GOk w M

def look : List (Nat × SV) → Nat → Option SV
  | [], _ => none
  | (j, v) :: r, i => bif Nat.beq i j then some v else look r i

/-- a frame: its slots; what it has deferred: the function, the arguments, what is captured -/
structure AF where
  s : List (Nat × SV)
  d : List (Nat × List SV × List SV)

def RepD (ι : Iota) (N : Nat) (w : World) (M : Nat → Prop) : List (Nat × List SV × List SV) → List Deferred → Prop
  | [], ds => ds = []
  | (f, as, cs) :: l, ds => ∃ cs' as' ds', ds = { target := .fn (.func f) cs', args := as' } :: ds' ∧ RepSL ι N w M as as'.toList ∧ RepSL ι N w M cs cs'.toList ∧ RepD ι N w M l ds'

structure FR (ι : Iota) (N : Nat) (w : World) (M : Nat → Prop) (n : Nat) (α : AF) (a : Act) : Prop where
  size : a.tmps.size = n
  slot : ∀ i s, look α.s i = some s → ∃ c, a.tmps[i]? = some c ∧ RepS ι N w M s c
  defs : RepD ι N w M α.d a.defers

def inL : List Nat → Nat → Bool
  | [], _ => false
  | x :: l, i => Nat.beq x i || inL l i

/-- may this object be written? (none: any) -/
def inU : Option (List Nat) → Nat → Bool
  | none, _ => true
  | some l, i => inL l i

abbrev Us := Option (List Nat)

def ownT (ι : Iota) (h : List SO) (us : Us) (b : Nat) : Prop := ∃ i o k, inU us i = true ∧ h[i]? = some o ∧ live o = true ∧ ι i = some (b, k)

theorem ownT.own {ι h us b} (x : ownT ι h us b) : own ι h b := let ⟨i, o, k, _, h1, h2, h3⟩ := x; ⟨i, o, k, h1, h2, h3⟩

structure Grow (ι : Iota) (w : World) (M : Nat → Prop) (h : List SO) (us : Us) (ι' : Iota) (w' : World) (M' : Nat → Prop) (h' : List SO) : Prop where
  os : w'.os = w.os
  tape : w'.tape = w.tape
  output : w'.output = w.output
  size : w.heap.size ≤ w'.heap.size
  keep : ∀ b, b < w.heap.size → ¬ ownT ι h us b → w'.heap[b]? = w.heap[b]?
  m1 : ∀ b, b < w.heap.size → M' b → M b
  m2 : ∀ b, M b → ¬ own ι h b → M' b
  own1 : ∀ b, b < w.heap.size → own ι' h' b → own ι h b
  own2 : ∀ b, b < w.heap.size → ownT ι' h' us b → ownT ι h us b

theorem Grow.refl (ι w M h us) : Grow ι w M h us ι w M h := ⟨rfl, rfl, rfl, Nat.le_refl _, fun _ _ _ => rfl, fun _ _ x => x, fun _ x _ => x, fun _ _ x => x, fun _ _ x => x⟩

theorem Grow.trans {ι w M h us ι1 w1 M1 h1 ι2 w2 M2 h2} (hm : ∀ b, M b → b < w.heap.size) (a : Grow ι w M h us ι1 w1 M1 h1) (b : Grow ι1 w1 M1 h1 us ι2 w2 M2 h2) : Grow ι w M h us ι2 w2 M2 h2 := by
  refine ⟨b.os.trans a.os, b.tape.trans a.tape, b.output.trans a.output, Nat.le_trans a.size b.size, ?_, ?_, ?_, ?_, ?_⟩
  · intro x hx hn
    rw [b.keep x (Nat.lt_of_lt_of_le hx a.size) (fun ho => hn (a.own2 x hx ho)), a.keep x hx hn]
  · intro x hx h2
    exact a.m1 x hx (b.m1 x (Nat.lt_of_lt_of_le hx a.size) h2)
  · intro x hx hn
    exact b.m2 x (a.m2 x hx hn) (fun ho => hn (a.own1 x (hm x hx) ho))
  · intro x hx ho
    exact a.own1 x hx (b.own1 x (Nat.lt_of_lt_of_le hx a.size) ho)
  · intro x hx ho
    exact a.own2 x hx (b.own2 x (Nat.lt_of_lt_of_le hx a.size) ho)

theorem StO.ownM {ι N w M i o b k} (h : StO ι N w M i o) (hl : live o = true) (hi : ι i = some (b, k)) : M b := by
  cases o with
  | dead => simp [live] at hl
  | pin _ _ => simp [live] at hl
  | cells xs => simp only [StO] at h; obtain ⟨b', k', cs, el, h1, h2, _⟩ := h; rw [hi] at h1; cases h1; exact h2
  | arr e esz els =>
    simp only [StO] at h
    rcases h.2 with h | ⟨b', k', cs, el', h1, h2, _⟩
    · rw [hi] at h; cases h.2
    · rw [hi] at h1; cases h1; exact h2
  | map es => simp only [StO] at h; obtain ⟨b', k', cs, el, h1, h2, _⟩ := h; rw [hi] at h1; cases h1; exact h2

theorem St.ownM {ι w M h} (H : St ι w M h) {b : Nat} (ho : own ι h b) : M b := by
  obtain ⟨i, o, k, h1, h2, h3⟩ := ho
  exact (H.objs i o h1).ownM h2 h3

theorem Grow.keepM {ι w M h us ι' w' M' h'} (H : St ι w M h) (g : Grow ι w M h us ι' w' M' h') : Keep w M w' M' := by
  intro b hb hn
  exact ⟨fun hm => hn (g.m1 b hb hm), g.keep b hb (fun ho => hn (H.ownM ho.own))⟩

/-- the identities that live on -/
def Agree (ι : Iota) (N : Nat) (ι' : Iota) (N' : Nat) : Prop := N ≤ N' ∧ ∀ i, i < N → ι' i = ι i

mutual
theorem RepS.keep {ι N w M ι' N' w' M'} (ha : Agree ι N ι' N') (h : Keep w M w' M') : ∀ (s : SV) (c : Value), RepS ι N w M s c → RepS ι' N' w' M' s c
  | .any, _, _ => by simp [RepS]
  | .v x, c, r => by simp only [RepS] at r ⊢; exact Rep.keep h x c r
  | .ref id off, c, r => by simp only [RepS] at r ⊢; rw [ha.2 id r.1]; exact ⟨Nat.lt_of_lt_of_le r.1 ha.1, r.2⟩
  | .eref id i off, c, r => by simp only [RepS] at r ⊢; rw [ha.2 id r.1]; exact ⟨Nat.lt_of_lt_of_le r.1 ha.1, r.2⟩
  | .ms id, c, r => by simp only [RepS] at r ⊢; rw [ha.2 id r.1]; exact ⟨Nat.lt_of_lt_of_le r.1 ha.1, r.2⟩
  | .mm id, c, r => by simp only [RepS] at r ⊢; rw [ha.2 id r.1]; exact ⟨Nat.lt_of_lt_of_le r.1 ha.1, r.2⟩
  | .tup l, c, r => by
    simp only [RepS] at r ⊢; obtain ⟨cs, h1, h2⟩ := r; exact ⟨cs, h1, RepSL.keep ha h l _ h2⟩
  | .agg l, c, r => by
    simp only [RepS] at r ⊢; obtain ⟨cs, h1, h2⟩ := r; exact ⟨cs, h1, RepSL.keep ha h l _ h2⟩
  | .clo fn first cap, c, r => by
    simp only [RepS] at r ⊢; obtain ⟨fs, cs, h1, h2, h3⟩ := r; exact ⟨fs, cs, h1, RepSL.keep ha h first _ h2, RepSL.keep ha h cap _ h3⟩
theorem RepSL.keep {ι N w M ι' N' w' M'} (ha : Agree ι N ι' N') (h : Keep w M w' M') : ∀ (l : List SV) (cs : List Value), RepSL ι N w M l cs → RepSL ι' N' w' M' l cs
  | [], cs, r => by simpa [RepSL] using r
  | x :: xs, cs, r => by
    simp only [RepSL] at r ⊢; obtain ⟨c, cs', h1, h2, h3⟩ := r
    exact ⟨c, cs', h1, RepS.keep ha h x c h2, RepSL.keep ha h xs cs' h3⟩
end

theorem RepSL.length {ι N w M} : ∀ {xs : List SV} {cs : List Value}, RepSL ι N w M xs cs → cs.length = xs.length
  | [], cs, r => by simp only [RepSL] at r; subst r; rfl
  | x :: xs, cs, r => by simp only [RepSL] at r; obtain ⟨c, cs', rfl, _, h⟩ := r; simp [RepSL.length h]

theorem RepSL.get {ι N w M} : ∀ {xs : List SV} {cs : List Value}, RepSL ι N w M xs cs → ∀ (i : Nat) (x : SV), xs[i]? = some x → ∃ c, cs[i]? = some c ∧ RepS ι N w M x c
  | [], cs, r, i, x, hx => by simp at hx
  | y :: xs, cs, r, i, x, hx => by
    simp only [RepSL] at r; obtain ⟨c, cs', rfl, h1, h2⟩ := r
    cases i with
    | zero => simp at hx; subst hx; exact ⟨c, rfl, h1⟩
    | succ i => simp at hx; obtain ⟨d, e1, e2⟩ := RepSL.get h2 i x hx; exact ⟨d, by simpa using e1, e2⟩

theorem RepSL.ofL {ι N w M} : ∀ {xs : List AV} {cs : List Value}, RepL w M xs cs → RepSL ι N w M (xs.map .v) cs
  | [], cs, r => by simp only [RepL] at r; subst r; simp [RepSL]
  | x :: xs, cs, r => by
    simp only [RepL] at r; obtain ⟨c, cs', rfl, h1, h2⟩ := r
    simp only [List.map_cons, RepSL]; exact ⟨c, cs', rfl, by simpa [RepS] using h1, RepSL.ofL h2⟩

/-- all of them reach no memory of one's own: their abstract values -/
def closedL : List SV → Option (List AV)
  | [] => some []
  | .v x :: l => match closedL l with | some xs => some (x :: xs) | none => none
  | _ :: _ => none

theorem closedL_map : ∀ {l : List SV} {xs : List AV}, closedL l = some xs → l = xs.map .v
  | [], xs, h => by simp [closedL] at h; subst h; rfl
  | s :: l, xs, h => by
    cases s <;> simp only [closedL] at h <;> try (cases h; done)
    rename_i x
    cases hl : closedL l with
    | none => rw [hl] at h; cases h
    | some ys => rw [hl] at h; cases h; rw [closedL_map hl]; rfl

theorem RepSL.toL {ι N w M} : ∀ {xs : List AV} {cs : List Value}, RepSL ι N w M (xs.map .v) cs → RepL w M xs cs
  | [], cs, r => by simp only [List.map_nil, RepSL] at r; subst r; simp [RepL]
  | x :: xs, cs, r => by
    simp only [List.map_cons, RepSL, RepS] at r; obtain ⟨c, cs', rfl, h1, h2⟩ := r
    simp only [RepL]; exact ⟨c, cs', rfl, h1, RepSL.toL h2⟩

theorem RepSL.append {ι N w M} : ∀ {xs ys : List SV} {cs ds : List Value}, RepSL ι N w M xs cs → RepSL ι N w M ys ds → RepSL ι N w M (xs ++ ys) (cs ++ ds)
  | [], ys, cs, ds, r, k => by simp only [RepSL] at r; subst r; simpa using k
  | x :: xs, ys, cs, ds, r, k => by
    simp only [RepSL] at r; obtain ⟨c, cs', rfl, h1, h2⟩ := r
    simp only [List.cons_append, RepSL]; exact ⟨c, cs' ++ ds, rfl, h1, RepSL.append h2 k⟩

theorem RepSL.drop {ι N w M} : ∀ (n : Nat) {xs : List SV} {cs : List Value}, RepSL ι N w M xs cs → RepSL ι N w M (xs.drop n) (cs.drop n)
  | 0, xs, cs, r => by simpa using r
  | n + 1, [], cs, r => by simp only [RepSL] at r; subst r; simp [RepSL]
  | n + 1, x :: xs, cs, r => by
    simp only [RepSL] at r; obtain ⟨c, cs', rfl, h1, h2⟩ := r
    simpa using RepSL.drop n h2

theorem RepSL.take {ι N w M} : ∀ (n : Nat) {xs : List SV} {cs : List Value}, RepSL ι N w M xs cs → RepSL ι N w M (xs.take n) (cs.take n)
  | 0, xs, cs, r => by simp [RepSL]
  | n + 1, [], cs, r => by simp only [RepSL] at r; subst r; simp [RepSL]
  | n + 1, x :: xs, cs, r => by
    simp only [RepSL] at r; obtain ⟨c, cs', rfl, h1, h2⟩ := r
    simp only [List.take_succ_cons, RepSL]; exact ⟨c, _, rfl, h1, RepSL.take n h2⟩

theorem RepD.keep {ι N w M ι' N' w' M'} (ha : Agree ι N ι' N') (h : Keep w M w' M') : ∀ (l : List (Nat × List SV × List SV)) (ds : List Deferred), RepD ι N w M l ds → RepD ι' N' w' M' l ds
  | [], ds, r => by simpa [RepD] using r
  | (f, as, cs) :: l, ds, r => by
    simp only [RepD] at r ⊢
    obtain ⟨cs', as', ds', h1, h2, h3, h4⟩ := r
    exact ⟨cs', as', ds', h1, RepSL.keep ha h as _ h2, RepSL.keep ha h cs _ h3, RepD.keep ha h l ds' h4⟩

theorem FR.keep {ι N w M ι' N' w' M' n α a} (ha : Agree ι N ι' N') (h : Keep w M w' M') (H : FR ι N w M n α a) : FR ι' N' w' M' n α a :=
  ⟨H.size, fun i s hs => let ⟨c, h1, h2⟩ := H.slot i s hs; ⟨c, h1, RepS.keep ha h s c h2⟩, RepD.keep ha h _ _ H.defs⟩

theorem look_cons (j : Nat) (v : SV) (r : List (Nat × SV)) (i : Nat) : look ((j, v) :: r) i = if i = j then some v else look r i := by
  simp only [look]
  by_cases h : i = j
  · subst h; simp
  · have : Nat.beq i j = false := by
      cases hb : Nat.beq i j with
      | false => rfl
      | true => exact absurd (Nat.eq_of_beq_eq_true hb) h
    simp [this, h]

/-- a slot is written -/
theorem FR.put {ι N w M n α a} (H : FR ι N w M n α a) {d : Nat} {s : SV} {c : Value} (hd : d < n) (hs : RepS ι N w M s c) :
    FR ι N w M n { α with s := (d, s) :: α.s } (a.put (some d) c) := by
  refine ⟨by simp [Act.put, H.size], ?_, H.defs⟩
  intro i s' h'
  rw [look_cons] at h'
  by_cases hi : i = d
  · subst hi
    simp at h'; subst h'
    exact ⟨c, by simp [Act.put, H.size, hd], hs⟩
  · simp [hi] at h'
    obtain ⟨c', h1, h2⟩ := H.slot i s' h'
    exact ⟨c', by simp [Act.put, Ne.symm hi, h1], h2⟩

end Go.AV0
/- The symbolic executor: what the operations of a region do to abstract values. -/
namespace Go.AV0

/-! ### types, as a small table -/
inductive TK where
  | bl | int (k : IntKind) | fl (k : FloatKind) | cx | str | pt (e : TypeId) | sl (e : TypeId) | ar (n : Nat) (e : TypeId) | mp (k e : TypeId)
  | st (fs : List (Nat × TypeId)) | ifc | fn | oth

structure TI where
  k : TK
  size : Nat
  bytes : Nat
  zero : List Value

inductive TT where
  | nil
  | node (k : Nat) (v : TI) (l r : TT)

def TT.find : TT → Nat → Option TI
  | .nil, _ => none
  | .node k v l r, i => bif Nat.beq i k then some v else bif Nat.ble i k then l.find i else r.find i

def tkOk : TK → TypeDesc → Bool
  | .bl, .bool => true
  | .int k, .int k' => k == k'
  | .fl k, .float k' => k == k'
  | .cx, .complex _ => true
  | .str, .string => true
  | .pt e, .pointer e' => e == e'
  | .sl e, .slice e' => e == e'
  | .ar n e, .array n' e' => n == n' && e == e'
  | .mp k e, .map k' e' => k == k' && e == e'
  | .st fs, .struct a => (a.toList.map fun f => (f.offset, f.type)) == fs
  | .ifc, .interface _ => true
  | .fn, .func _ _ _ => true
  | _, _ => false

def zeq : Value → Value → Bool
  | .bool a, .bool b => a == b
  | .int k a, .int k' b => k == k' && a == b
  | .float k a, .float k' b => k == k' && a == b
  | .complex k a c, .complex k' b d => k == k' && a == b && c == d
  | .string a, .string b => a.data == b.data
  | .pointer none, .pointer none => true
  | .slice none 0 0, .slice none 0 0 => true
  | .map none, .map none => true
  | .nilFunc, .nilFunc => true
  | .nilIface, .nilIface => true
  | _, _ => false

def zeqs : List Value → List Value → Bool
  | [], [] => true
  | a :: x, b :: y => zeq a b && zeqs x y
  | _, _ => false

theorem zeq_eq {a b : Value} (h : zeq a b = true) : a = b := by
  unfold zeq at h
  split at h <;> simp_all
  rename_i a b; cases a; cases b; simp_all

theorem zeqs_eq : ∀ {a b : List Value}, zeqs a b = true → a = b
  | [], [], _ => rfl
  | a :: x, b :: y, h => by
    simp only [zeqs, Bool.and_eq_true] at h; rw [zeq_eq h.1, zeqs_eq h.2]
  | [], _ :: _, h => by simp [zeqs] at h
  | _ :: _, [], h => by simp [zeqs] at h

def isAggV : Value → Bool
  | .agg _ => true
  | _ => false

def isAggK : TK → Bool
  | .st _ => true
  | .ar _ _ => true
  | _ => false

def tiB (P : Program) (t : Nat) (i : TI) : Bool :=
  match P.info? t, P.underlying t with
  | some f, some d => f.size == i.size && f.bytes == i.bytes && tkOk i.k d && (match f.zero with | some z => zeqs z.cells.toList i.zero && (isAggV z == isAggK i.k) | none => false)
  | _, _ => false

def TT.all (P : Program) : TT → Bool
  | .nil => true
  | .node k v l r => tiB P k v && l.all P && r.all P

structure TOk (P : Program) (t : Nat) (i : TI) : Prop where
  ex : ∃ f d z, P.info? t = some f ∧ P.underlying t = some d ∧ f.size = i.size ∧ f.bytes = i.bytes ∧ tkOk i.k d = true ∧ f.zero = some z ∧ z.cells.toList = i.zero ∧ isAggV z = isAggK i.k

theorem tok_of {P t i} (h : tiB P t i = true) : TOk P t i := by
  unfold tiB at h
  split at h
  · rename_i f d h1 h2
    simp only [Bool.and_eq_true, beq_iff_eq] at h
    obtain ⟨⟨⟨a, b⟩, c⟩, e⟩ := h
    split at e
    · rename_i z hz
      simp only [Bool.and_eq_true, beq_iff_eq] at e
      exact ⟨f, d, z, h1, h2, a, b, c, hz, zeqs_eq e.1, e.2⟩
    · cases e
  · cases h

theorem TT.ok {P : Program} : ∀ {T : TT}, T.all P = true → ∀ t i, T.find t = some i → TOk P t i
  | .nil, _, t, i, h => by simp [TT.find] at h
  | .node k v l r, ha, t, i, h => by
    simp only [TT.all, Bool.and_eq_true] at ha
    simp only [TT.find] at h
    cases hb : Nat.beq t k with
    | true => rw [hb] at h; simp at h; subst h; rw [Nat.eq_of_beq_eq_true hb]; exact tok_of ha.1.1
    | false =>
      rw [hb] at h; simp only [cond_false] at h
      cases hc : Nat.ble t k with
      | true => rw [hc] at h; exact TT.ok ha.1.2 t i h
      | false => rw [hc] at h; exact TT.ok ha.2 t i h

/-! ### what a proof decides -/
@[irreducible] def BSplit (t : Bool) (A B : Prop) : Prop := (t = true → A) ∧ (t = false → B)
@[irreducible] def Side (c : Prop) (A : Prop) : Prop := c ∧ A
@[irreducible] def ElEv {α : Type} (l : List α) (i : Int) (k : α → Prop) : Prop := 0 ≤ i ∧ ∃ e, l[i.toNat]? = some e ∧ k e
@[irreducible] def OptEv {α : Type} (o : Option α) (s : α → Prop) (n : Prop) : Prop := (∀ v, o = some v → s v) ∧ (o = none → n)
@[irreducible] def AnyB (c : Bool → Prop) (k : Bool → Prop) : Prop := ∀ t, c t → k t

theorem bsplit {t : Bool} {A B : Prop} (h : t = true → A) (k : t = false → B) : BSplit t A B := by unfold BSplit; exact ⟨h, k⟩
theorem bsplit_t {t : Bool} {A B : Prop} (h : t = true) (k : A) : BSplit t A B := by subst h; unfold BSplit; exact ⟨fun _ => k, nofun⟩
theorem bsplit_f {t : Bool} {A B : Prop} (h : t = false) (k : B) : BSplit t A B := by subst h; unfold BSplit; exact ⟨nofun, fun _ => k⟩
theorem side {c A : Prop} (h : c) (k : A) : Side c A := by unfold Side; exact ⟨h, k⟩
theorem elev {α : Type} {l : List α} {i : Int} {k : α → Prop} (h0 : 0 ≤ i) (e : α) (h : l[i.toNat]? = some e) (hk : k e) : ElEv l i k := by unfold ElEv; exact ⟨h0, e, h, hk⟩
theorem optev_s {α : Type} {o : Option α} {s : α → Prop} {n : Prop} (v : α) (h : o = some v) (k : s v) : OptEv o s n := by subst h; unfold OptEv; exact ⟨fun w hw => (by cases hw; exact k), nofun⟩
theorem optev_n {α : Type} {o : Option α} {s : α → Prop} {n : Prop} (h : o = none) (k : n) : OptEv o s n := by subst h; unfold OptEv; exact ⟨nofun, fun _ => k⟩
theorem anyb {c k : Bool → Prop} (h : ∀ t, c t → k t) : AnyB c k := by unfold AnyB; exact h

theorem BSplit.elim {t : Bool} {A B : Prop} (h : BSplit t A B) : (t = true → A) ∧ (t = false → B) := by unfold BSplit at h; exact h
theorem Side.elim {c A : Prop} (h : Side c A) : c ∧ A := by unfold Side at h; exact h
theorem ElEv.elim {α : Type} {l : List α} {i : Int} {k : α → Prop} (h : ElEv l i k) : 0 ≤ i ∧ ∃ e, l[i.toNat]? = some e ∧ k e := by unfold ElEv at h; exact h
theorem OptEv.elim {α : Type} {o : Option α} {s : α → Prop} {n : Prop} (h : OptEv o s n) : (∀ v, o = some v → s v) ∧ (o = none → n) := by unfold OptEv at h; exact h
theorem AnyB.elim {c k : Bool → Prop} (h : AnyB c k) : ∀ t, c t → k t := by unfold AnyB at h; exact h

/-! ### a value is brought to its outermost form before it is handed on -/
def forceC (v : Value) (k : Value → Prop) : Prop :=
  match v with
  | .bool b => k (.bool b)
  | .int d n => k (.int d n)
  | .float d b => k (.float d b)
  | .complex d a b => k (.complex d a b)
  | .string s => k (.string s)
  | .pointer a => k (.pointer a)
  | .slice a l c => k (.slice a l c)
  | .map r => k (.map r)
  | .chan r => k (.chan r)
  | .func f a b => k (.func f a b)
  | .nilFunc => k .nilFunc
  | .iface t v => k (.iface t v)
  | .nilIface => k .nilIface
  | .agg l => k (.agg l)
  | .tuple l => k (.tuple l)

theorem forceC_eq (v k) : forceC v k = k v := by cases v <;> rfl

def forceV (x : AV) (k : AV → Prop) : Prop :=
  match x with
  | .c v => forceC v fun v => k (.c v)
  | .sl e => k (.sl e)
  | .ptr o => k (.ptr o)
  | .ifc o => k (.ifc o)
  | .agg l => k (.agg l)
  | .tup l => k (.tup l)
  | .map o => k (.map o)
  | .clo f a b => k (.clo f a b)

theorem forceV_eq (v k) : forceV v k = k v := by cases v <;> simp only [forceV, forceC_eq]

def forceS (s : SV) (k : SV → Prop) : Prop :=
  match s with
  | .any => k .any
  | .v x => forceV x fun x => k (.v x)
  | .ref a b => k (.ref a b)
  | .eref a b c => k (.eref a b c)
  | .ms a => k (.ms a)
  | .mm a => k (.mm a)
  | .tup l => k (.tup l)
  | .agg l => k (.agg l)
  | .clo f a b => k (.clo f a b)

theorem forceS_eq (s k) : forceS s k = k s := by cases s <;> simp only [forceS, forceV_eq]

def forceN (n : Nat) (k : Nat → Prop) : Prop :=
  match n with
  | 0 => k 0 | 1 => k 1 | 2 => k 2 | 3 => k 3 | 4 => k 4 | 5 => k 5 | 6 => k 6 | 7 => k 7 | 8 => k 8 | 9 => k 9 | 10 => k 10 | 11 => k 11 | 12 => k 12
  | n + 13 => k (n + 13)

theorem forceN_eq (n k) : forceN n k = k n := by unfold forceN; split <;> rfl

def onO {α : Type} (o : Option α) (k : α → Prop) : Prop :=
  match o with
  | some x => k x
  | none => False

def nth {α : Type} : List α → Nat → Option α
  | [], _ => none
  | x :: _, 0 => some x
  | _ :: l, n + 1 => nth l n

theorem nth_eq {α : Type} : ∀ (l : List α) (n : Nat), nth l n = l[n]?
  | [], n => by cases n <;> rfl
  | x :: l, 0 => rfl
  | x :: l, n + 1 => by simp only [nth, nth_eq l n, List.getElem?_cons_succ]

/-- an operand's slot value -/
def evs (α : AF) : Operand → Option SV
  | .tmp t => look α.s t
  | .const v => some (.v (ofVal v))
  | .func f => some (.v (.c (.func (.func f) #[] #[])))
  | .global _ => none

theorem evs_ok {ι N w M n α a} (H : FR ι N w M n α a) {x : Operand} {s : SV} (h : evs α x = some s) : RepS ι N w M s (a.eval x) := by
  cases x with
  | tmp t =>
    simp only [evs] at h
    obtain ⟨c, h1, h2⟩ := H.slot t s h
    simpa [Act.eval, h1] using h2
  | const v => simp only [evs] at h; cases h; simp only [RepS, Act.eval]; exact rep_ofVal w M v
  | func f => simp only [evs] at h; cases h; simp [RepS, Rep, Act.eval]
  | global g => simp [evs] at h

def evL (α : AF) : List Operand → Option (List SV)
  | [] => some []
  | x :: l => match evs α x, evL α l with
    | some s, some r => some (s :: r)
    | _, _ => none

theorem evL_ok {ι N w M n α a} (H : FR ι N w M n α a) : ∀ {l : List Operand} {r : List SV}, evL α l = some r → RepSL ι N w M r (l.map a.eval)
  | [], r, h => by simp only [evL] at h; cases h; simp [RepSL]
  | x :: l, r, h => by
    simp only [evL] at h
    split at h
    · rename_i s r' h1 h2
      cases h
      simp only [List.map_cons, RepSL]
      exact ⟨_, _, rfl, evs_ok H h1, evL_ok H h2⟩
    · cases h

/-! ### integers, strings, bools -/
def intB (op : BinOp) (k : IntKind) (a b : Int) (K : Value → Prop) : Prop :=
  match op with
  | .add => K (.int k (k.wrap (a + b)))
  | .sub => K (.int k (k.wrap (a - b)))
  | .mul => K (.int k (k.wrap (a * b)))
  | .quo => Side (b ≠ 0) (K (.int k (k.wrap (a.tdiv b))))
  | .rem => Side (b ≠ 0) (K (.int k (a.tmod b)))
  | .eql => K (.bool (decide (a = b)))
  | .neq => K (.bool (decide (a ≠ b)))
  | .lss => K (.bool (decide (a < b)))
  | .leq => K (.bool (decide (a ≤ b)))
  | .gtr => K (.bool (decide (b < a)))
  | .geq => K (.bool (decide (b ≤ a)))
  | .and => K (.int k (k.wrap ((BitVec.ofInt k.bits a &&& BitVec.ofInt k.bits b).toNat : Int)))
  | .or => K (.int k (k.wrap ((BitVec.ofInt k.bits a ||| BitVec.ofInt k.bits b).toNat : Int)))
  | .xor => K (.int k (k.wrap ((BitVec.ofInt k.bits a ^^^ BitVec.ofInt k.bits b).toNat : Int)))
  | .shl => Side (0 ≤ b) (K (.int k (k.wrap (a * 2 ^ (min b.toNat k.bits)))))
  | .shr => Side (0 ≤ b) (K (.int k (a.fdiv (2 ^ (min b.toNat k.bits)))))
  | .andNot => False

def slt (a b : ByteArray) : Bool := Op.bytesLess a.toList b.toList

def strB (op : BinOp) (a b : ByteArray) (K : Value → Prop) : Prop :=
  match op with
  | .add => Side (a.size + b.size ≤ 9223372036854775807) (K (.string (a ++ b)))
  | .eql => K (.bool (decide (a = b)))
  | .neq => K (.bool (decide (a ≠ b)))
  | .lss => K (.bool (slt a b))
  | .leq => K (.bool (slt a b || decide (a = b)))
  | .gtr => K (.bool (!(slt a b || decide (a = b))))
  | .geq => K (.bool (!slt a b))
  | _ => False

def isShift : BinOp → Bool
  | .shl => true
  | .shr => true
  | _ => false

def binC (op : BinOp) (x y : Value) (K : Value → Prop) : Prop :=
  match x, y with
  | .int k a, .int k' b => bif isShift op then intB op k a b K else if k = k' then intB op k a b K else False
  | .string a, .string b => strB op a b K
  | _, _ => False

theorem tl_beq (a b : ByteArray) : (a.toList == b.toList) = decide (a = b) := by
  by_cases h : a = b
  · subst h; simp
  · have : a.toList ≠ b.toList := by
      intro e
      apply h
      have e2 : a.data.toList = b.data.toList := by simpa [ByteArray.toList_eq] using e
      cases a; cases b; simp at e2; simp [e2]
    simp [h, this]

end Go.AV0
/- The operations that write nothing, and why what the executor says of them is so. -/
namespace Go.AV0

def mkAgg (l : List SV) : SV :=
  match closedL l with
  | some xs => .v (.agg xs)
  | none => .agg l

def cellsOf (s : SV) : List SV :=
  match s with
  | .v (.agg xs) => xs.map .v
  | .agg l => l
  | s => [s]

/-- a value of one cell -/
def one (s : SV) : Bool :=
  match s with
  | .any => false
  | .v (.agg _) => false
  | .v (.tup _) => false
  | .v (.c v) => v.oneCell'
  | .agg _ => false
  | .tup _ => false
  | _ => true

def loadL (T : TT) (t : Nat) (xs : List SV) (k : SV → Prop) : Prop :=
  onO (T.find t) fun i => bif isAggK i.k then (bif Nat.ble i.size xs.length then k (mkAgg (xs.take i.size)) else False) else onO (nth xs 0) fun s => forceS s k

def vload (T : TT) (t : Nat) (s : SV) (α : AF) (h : List SO) (K : SV → AF → List SO → Prop) : Prop :=
  match s with
  | .ref id off => onO (nth h id) fun o => match o with
    | .cells xs => loadL T t (xs.drop off) fun s => K s α h
    | _ => False
  | .eref id i off => onO (nth h id) fun o => match o with
    | .arr _ _ els => ElEv els (i : Int) fun e => loadL T t ((e.drop off).map .v) fun s => K s α h
    | _ => False
  | .v (.ptr (some ys)) => loadL T t (ys.map .v) fun s => K s α h
  | _ => False

theorem onO_some {α : Type} {o : Option α} {k : α → Prop} (h : onO o k) : ∃ x, o = some x ∧ k x := by
  cases o with
  | none => exact h.elim
  | some x => exact ⟨x, rfl, h⟩

theorem run_isAgg {P : Program} {t : Nat} {i : TI} (h : TOk P t i) (w : World) : (isAgg t).run P w = .ok (isAggK i.k) w := by
  obtain ⟨f, d, z, h1, h2, h3, h4, h5, h6, h7, h8⟩ := h.ex
  unfold isAgg
  simp only [Sem.run_bind, run_underlying h2, Result.andThen_ok]
  cases hk : i.k <;> rw [hk] at h5 <;> cases d <;> simp_all [tkOk, isAggK]

theorem run_sizeOf {P : Program} {t : Nat} {i : TI} (h : TOk P t i) (w : World) : (sizeOf t).run P w = .ok i.size w := by
  obtain ⟨f, d, z, h1, h2, h3, h4, h5, h6, h7, h8⟩ := h.ex
  simp [sizeOf, typeInfo, h1, h3]

theorem run_zero {P : Program} {t : Nat} {i : TI} (h : TOk P t i) : ∃ z, (∀ w, (zeroValue t).run P w = .ok z w) ∧ z.cells.toList = i.zero ∧ isAggV z = isAggK i.k := by
  obtain ⟨f, d, z, h1, h2, h3, h4, h5, h6, h7, h8⟩ := h.ex
  exact ⟨z, fun w => by simp [zeroValue, typeInfo, h1, h6], h7, h8⟩

theorem cells_get {ι N w M xs cs} (h : RepSL ι N w M xs cs) (b off : Nat) (hc : ∀ j v, cs[j]? = some v → w.cell? ⟨b, off + j, none⟩ = some v) : ∀ (i : Nat) (x : SV), xs[i]? = some x → ∃ c, w.cell? ⟨b, off + i, none⟩ = some c ∧ RepS ι N w M x c := by
  intro i x hx
  obtain ⟨c, h1, h2⟩ := h.get i x hx
  exact ⟨c, hc i c h1, h2⟩

theorem closedL_none_or {l : List SV} : (∃ xs, closedL l = some xs ∧ mkAgg l = .v (.agg xs)) ∨ mkAgg l = .agg l := by
  unfold mkAgg
  cases h : closedL l with
  | none => exact .inr rfl
  | some xs => exact .inl ⟨xs, rfl, rfl⟩

theorem mkAgg_rep {ι N w M l cs} (h : RepSL ι N w M l cs) : RepS ι N w M (mkAgg l) (.agg cs.toArray) := by
  rcases closedL_none_or (l := l) with ⟨xs, h1, h2⟩ | h2
  · rw [h2]; simp only [RepS, Rep]
    rw [closedL_map h1] at h
    exact ⟨cs.toArray, rfl, by simpa using h.toL⟩
  · rw [h2]; simp only [RepS]; exact ⟨cs.toArray, rfl, by simpa using h⟩

/-- a world that differs only where the blocks U may be written, and behind its end -/
def Same (U : Nat → Prop) (w w' : World) : Prop := ∀ b, b < w.heap.size → ¬ U b → w'.heap[b]? = w.heap[b]?

theorem Same.refl (U w) : Same U w w := fun _ _ _ => rfl

theorem Same.cell {U w w'} (h : Same U w w') {b off : Nat} {v : Value} (hU : ¬ U b) (hc : w.cell? ⟨b, off, none⟩ = some v) : w'.cell? ⟨b, off, none⟩ = some v := by
  have h1 := h b (lt_of_cell hc) hU
  unfold World.cell? at hc ⊢
  simp only at hc ⊢
  rw [h1]; exact hc

/-- cells in a row are read -/
theorem loadL_ok {P : Program} {T : TT} (hT : T.all P = true) {t : Nat} {U : Nat → Prop} {ι N w M xs cs} {k : SV → Prop} {b off : Nat} (hU : ¬ U b) (h : loadL T t xs k)
    (hx : RepSL ι N w M xs cs) (hc : ∀ j v, cs[j]? = some v → w.cell? ⟨b, off + j, none⟩ = some v) :
    ∃ c s, (∀ w', Same U w w' → (Instr.loadAt t (.pointer (some ⟨b, off, none⟩))).run P w' = .ok c w') ∧ k s ∧ RepS ι N w M s c := by
  obtain ⟨i, hi, h⟩ := onO_some h
  have ht := TT.ok hT t i hi
  cases ha : isAggK i.k with
  | true =>
    rw [ha] at h; simp only [cond_true] at h
    cases hb : Nat.ble i.size xs.length with
    | false => rw [hb] at h; exact h.elim
    | true =>
      rw [hb] at h; simp only [cond_true] at h
      have hle : i.size ≤ xs.length := Nat.le_of_ble_eq_true hb
      have hl := hx.length
      have hl2 : (cs.take i.size).length = i.size := by simp; omega
      refine ⟨.agg (cs.take i.size).toArray, _, ?_, h, mkAgg_rep (hx.take i.size)⟩
      intro w' hw'
      have hld := run_loadCells_list (P := P) w' ⟨b, off, none⟩ (cs.take i.size) (fun j v hj => by
        rw [Addr.add_lit]; apply hw'.cell hU; apply hc j v
        rw [List.getElem?_take] at hj
        split at hj
        · exact hj
        · cases hj)
      rw [hl2] at hld
      simp [Instr.loadAt, Instr.sureAddr, loadVar, run_isAgg ht, ha, run_sizeOf ht, hld]
  | false =>
    rw [ha] at h; simp only [cond_false] at h
    obtain ⟨s, hs, h⟩ := onO_some h
    rw [forceS_eq] at h
    rw [nth_eq] at hs
    obtain ⟨c, h1, h2⟩ := cells_get hx b off hc 0 s hs
    refine ⟨c, s, ?_, h, h2⟩
    simp only [Nat.add_zero] at h1
    intro w' hw'
    have h1' := hw'.cell hU h1
    simp [Instr.loadAt, Instr.sureAddr, loadVar, run_isAgg ht, ha, h1']

theorem cell_of_block {w : World} {b : Nat} {cs : Array Value} {e : TypeId} {fr : Nat × Nat} (h : w.heap[b]? = some (.cells cs e fr)) (j : Nat) : w.cell? ⟨b, j, none⟩ = cs[j]? := by
  simp [World.cell?, h]

theorem repAt_list {w M b} : ∀ {ys : List AV} {off : Nat}, RepAt w M b ys off → ∃ cs, RepL w M ys cs ∧ ∀ (j : Nat) (v : Value), cs[j]? = some v → w.cell? ⟨b, off + j, none⟩ = some v
  | [], off, _ => ⟨[], by simp [RepL], by simp⟩
  | y :: ys, off, r => by
    simp only [RepAt] at r
    obtain ⟨⟨_, c, h1, h2⟩, h3⟩ := r
    obtain ⟨cs, h4, h5⟩ := repAt_list h3
    refine ⟨c :: cs, ?_, ?_⟩
    · simp only [RepL]; exact ⟨c, cs, rfl, h2, h4⟩
    · intro j v hj
      cases j with
      | zero => simp at hj; subst hj; simpa using h1
      | succ j => simp at hj; have := h5 j v hj; rwa [show off + 1 + j = off + (j + 1) by omega] at this

theorem RepAt.lt {w M b} {x : AV} {xs : List AV} {off : Nat} (h : RepAt w M b (x :: xs) off) : b < w.heap.size ∧ ¬ M b := by
  simp only [RepAt] at h
  obtain ⟨⟨h0, c, h1, _⟩, _⟩ := h
  exact ⟨lt_of_cell h1, h0⟩

theorem flat_get {els : List (List AV)} {z : Nat} (hz : ∀ x ∈ els, x.length = z) : ∀ {i : Nat} {e : List AV}, els[i]? = some e → (els.flatten.drop (i * z)).take z = e := by
  induction els with
  | nil => intro i e h; simp at h
  | cons x els ih =>
    intro i e h
    cases i with
    | zero =>
      simp at h; subst h
      have := hz x (by simp)
      simp [← this]
    | succ i =>
      simp at h
      have hx := hz x (by simp)
      have := ih (fun y hy => hz y (by simp [hy])) h
      rw [List.flatten_cons, show (i + 1) * z = x.length + i * z by rw [Nat.add_mul, hx]; omega, ← List.drop_drop, List.drop_left]
      exact this

theorem flat_len {els : List (List AV)} {z : Nat} (hz : ∀ x ∈ els, x.length = z) : els.flatten.length = els.length * z := by
  induction els with
  | nil => simp
  | cons x els ih =>
    have hx := hz x (by simp)
    rw [List.flatten_cons, List.length_append, ih (fun y hy => hz y (by simp [hy])), hx, List.length_cons, Nat.add_mul]; omega

/-- what an element of an array of one's own reads as -/
theorem arr_get {w M} {els : List (List AV)} {z : Nat} {b : Nat} {cs : Array Value} {e : TypeId} (hz : ∀ x ∈ els, x.length = z) (hb : w.heap[b]? = some (.cells cs e (0, 0)))
    (hr : RepL w M els.flatten (cs.toList.take (els.length * z))) {i : Nat} {x : List AV} (hx : els[i]? = some x) :
    ∃ vs, RepL w M x vs ∧ ∀ (j : Nat) (v : Value), vs[j]? = some v → w.cell? ⟨b, i * z + j, none⟩ = some v := by
  have h1 := (hr.drop (i * z)).take z
  rw [flat_get hz hx] at h1
  refine ⟨_, h1, ?_⟩
  intro j v hj
  rw [cell_of_block hb]
  rw [List.getElem?_take] at hj
  split at hj
  · rw [List.getElem?_drop, List.getElem?_take] at hj
    split at hj
    · simpa using hj
    · cases hj
  · cases hj

/-- the object that a load may read is not among those that may be written -/
def safeId (us : Us) (s : SV) : Bool :=
  match us, s with
  | none, _ => true
  | some l, .ref id _ => !inL l id
  | some l, .eref id _ _ => !inL l id
  | some l, .ms id => !inL l id
  | some l, .mm id => !inL l id
  | some _, _ => true

/-- the blocks that may be written -/
def UB (ι : Iota) (h : List SO) (us : Us) (b : Nat) : Prop := us ≠ none ∧ ownT ι h us b

theorem UB.notM {ι w M h us} (H : St ι w M h) {b : Nat} (hm : ¬ M b) : ¬ UB ι h us b := fun x => hm (H.ownM x.2.own)

theorem UB.notId {ι w M h us} (H : St ι w M h) {id b : Nat} {o : SO} {k} (ho : h[id]? = some o) (hl : live o = true) (hi : ι id = some (b, k)) (hs : us = none ∨ ∃ l, us = some l ∧ inL l id = false) : ¬ UB ι h us b := by
  rintro ⟨h0, j, o', k', h1, h2, h3, h4⟩
  rcases hs with rfl | ⟨l, rfl, hl2⟩
  · exact h0 rfl
  · have := H.dist j id o' o b k' k h2 ho h3 hl h4 hi
    subst this
    simp only [inU] at h1
    rw [hl2] at h1; cases h1

theorem vload_ok {P : Program} {T : TT} (hT : T.all P = true) {us : Us} {t : Nat} {s : SV} {α h K ι w M c} (hsafe : safeId us s = true) (hv : vload T t s α h K) (H : St ι w M h) (hs : RepS ι h.length w M s c) :
    ∃ c' s', (∀ w', Same (UB ι h us) w w' → (Instr.loadAt t c).run P w' = .ok c' w') ∧ K s' α h ∧ RepS ι h.length w M s' c' := by
  cases s with
  | ref id off =>
    simp only [vload] at hv
    obtain ⟨o, ho, hv⟩ := onO_some hv
    rw [nth_eq] at ho
    have h0 := H.objs id o ho
    cases o <;> try exact hv.elim
    rename_i xs
    simp only [StO] at h0
    obtain ⟨b, k, cs, el, h1, h2, h3, h4⟩ := h0
    simp only [RepS] at hs
    obtain ⟨_, b', k', h5, h6⟩ := hs
    rw [h1] at h5; cases h5; subst h6
    have hU := UB.notId (us := us) H ho rfl h1 (by cases us with | none => exact .inl rfl | some l => exact .inr ⟨l, rfl, by simpa [safeId] using hsafe⟩)
    exact loadL_ok hT hU hv (h4.drop off) (fun j v hj => by
      rw [cell_of_block h3]; rw [List.getElem?_drop] at hj; simpa using hj)
  | eref id i off =>
    simp only [vload] at hv
    obtain ⟨o, ho, hv⟩ := onO_some hv
    rw [nth_eq] at ho
    have h0 := H.objs id o ho
    cases o <;> try exact hv.elim
    rename_i e z els
    simp only [StO] at h0
    obtain ⟨_, x, hx, hv⟩ := hv.elim
    simp only [Int.toNat_natCast] at hx
    simp only [RepS] at hs
    obtain ⟨_, b', k', z', n', h5, h6⟩ := hs
    rcases h0.2 with h0 | ⟨b, k, cs, el', h1, h2, h3, h7, h8, h9, h10⟩
    · rw [h0.1] at hx; simp at hx
    · rw [h1] at h5; cases h5; subst h6
      obtain ⟨vs, g1, g2⟩ := arr_get h0.1 h3 h10 hx
      have hU := UB.notId (us := us) H ho rfl h1 (by cases us with | none => exact .inl rfl | some l => exact .inr ⟨l, rfl, by simpa [safeId] using hsafe⟩)
      exact loadL_ok hT hU hv (RepSL.ofL (g1.drop off)) (fun j v hj => by
        rw [List.getElem?_drop] at hj
        have := g2 _ v hj
        rwa [show i * z + (off + j) = i * z + off + j by omega] at this)
  | v x =>
    cases x <;> try exact hv.elim
    rename_i o
    cases o <;> try exact hv.elim
    rename_i ys
    simp only [RepS, Rep] at hs
    obtain ⟨b, off, rfl, h1, h2, h3⟩ := hs
    obtain ⟨cs, g1, g2⟩ := repAt_list h3
    exact loadL_ok hT (UB.notM H h2) hv (RepSL.ofL g1) g2
  | _ => exact hv.elim

/-! ### addresses and parts -/
def fieldOf (T : TT) (t f : Nat) : Option (Nat × TI) :=
  match T.find t with
  | some i => match i.k with
    | .st fs => match nth fs f with
      | some (off, ft) => match T.find ft with
        | some j => some (off, j)
        | none => none
      | none => none
    | _ => none
  | none => none

theorem fieldOf_ok {P : Program} {T : TT} (hT : T.all P = true) {t f off : Nat} {j : TI} (h : fieldOf T t f = some (off, j)) :
    ∃ (fields : Array Field) (fd : Field), P.underlying t = some (.struct fields) ∧ fields[f]? = some fd ∧ fd.offset = off ∧ TOk P fd.type j := by
  unfold fieldOf at h
  split at h <;> try (cases h; done)
  rename_i i hi
  split at h <;> try (cases h; done)
  rename_i fs hk
  split at h <;> try (cases h; done)
  rename_i off' ft hn
  split at h <;> try (cases h; done)
  rename_i j' hj
  cases h
  have ht := TT.ok hT t i hi
  obtain ⟨g, d, z, h1, h2, h3, h4, h5, h6, h7, h8⟩ := ht.ex
  rw [hk] at h5
  cases d <;> simp only [tkOk, Bool.false_eq_true] at h5
  rename_i fields
  simp only [beq_iff_eq] at h5
  rw [nth_eq, ← h5, List.getElem?_map, Array.getElem?_toList] at hn
  cases hf : fields[f]? with
  | none => rw [hf] at hn; cases hn
  | some fd =>
    rw [hf] at hn; simp at hn
    exact ⟨fields, fd, h2, hf, hn.1, hn.2 ▸ TT.ok hT _ _ hj⟩

def vfieldAddr (T : TT) (t f : Nat) (s : SV) (K : SV → Prop) : Prop :=
  onO (fieldOf T t f) fun p => bif Nat.beq p.2.size 0 then False else
    match s with
    | .ref id off => K (.ref id (off + p.1))
    | .eref id i off => K (.eref id i (off + p.1))
    | .v (.ptr (some ys)) => K (.v (.ptr (some (ys.drop p.1))))
    | _ => False

theorem vfieldAddr_ok {P : Program} {T : TT} (hT : T.all P = true) {t f : Nat} {s : SV} {K : SV → Prop} {ι N w M c} (hv : vfieldAddr T t f s K) (hs : RepS ι N w M s c) :
    ∃ c' s', (∀ w', (Instr.fieldAt t c f).run P w' = .ok c' w') ∧ K s' ∧ RepS ι N w M s' c' := by
  obtain ⟨⟨off0, j⟩, hp, hv⟩ := onO_some hv
  obtain ⟨fields, fd, h1, h2, h3, h4⟩ := fieldOf_ok hT hp
  have hz : j.size ≠ 0 := by
    intro e; simp [e] at hv
  have hz' : Nat.beq j.size 0 = false := by
    cases hb : Nat.beq j.size 0 with
    | false => rfl
    | true => exact absurd (Nat.eq_of_beq_eq_true hb) hz
  simp only [hz', cond_false] at hv
  have run : ∀ b off w', (Instr.fieldAt t (.pointer (some ⟨b, off, none⟩)) f).run P w' = .ok (.pointer (some ⟨b, off + off0, none⟩)) w' := by
    intro b off w'
    simp [Instr.fieldAt, run_underlying h1, h2, Instr.sureAddr, fieldPlace, run_sizeOf h4, hz, h3, Addr.add_lit]
  cases s with
  | ref id off =>
    simp only [RepS] at hs; obtain ⟨g0, b, k, g1, rfl⟩ := hs
    exact ⟨_, _, run b off, hv, by simp only [RepS]; exact ⟨g0, b, k, g1, rfl⟩⟩
  | eref id i off =>
    simp only [RepS] at hs; obtain ⟨g0, b, k, z, n, g1, rfl⟩ := hs
    exact ⟨_, _, run b _, hv, by simp only [RepS]; exact ⟨g0, b, k, z, n, g1, by rw [Nat.add_assoc]⟩⟩
  | v x =>
    cases x with
    | ptr o => cases o with
      | none => exact hv.elim
      | some ys =>
        simp only [RepS, Rep] at hs; obtain ⟨b, off, rfl, g1, g2, g3⟩ := hs
        exact ⟨_, _, run b off, hv, by simp only [RepS, Rep]; exact ⟨b, off + off0, rfl, g1, g2, g3.drop off0⟩⟩
    | _ => exact hv.elim
  | _ => exact hv.elim

/-- a part of a struct's cells -/
def partL (i : TI) (xs : List SV) (off : Nat) (K : SV → Prop) : Prop :=
  bif isAggK i.k then (bif Nat.ble (off + i.size) xs.length then K (mkAgg ((xs.drop off).take i.size)) else False) else onO (nth xs off) fun s => forceS s K

theorem partL_ok {P : Program} {t : Nat} {i : TI} (ht : TOk P t i) {xs : List SV} {off : Nat} {K : SV → Prop} {ι N w M cs} (h : partL i xs off K) (hx : RepSL ι N w M xs cs) :
    ∃ c s, (∀ w', (part t cs.toArray off).run P w' = .ok c w') ∧ K s ∧ RepS ι N w M s c := by
  unfold partL at h
  cases ha : isAggK i.k with
  | true =>
    rw [ha] at h; simp only [cond_true] at h
    cases hb : Nat.ble (off + i.size) xs.length with
    | false => rw [hb] at h; exact h.elim
    | true =>
      rw [hb] at h; simp only [cond_true] at h
      refine ⟨.agg ((cs.drop off).take i.size).toArray, _, ?_, h, mkAgg_rep ((hx.drop off).take i.size)⟩
      intro w'
      simp only [part, Sem.run_bind, run_isAgg ht, ha, Result.andThen_ok, run_sizeOf ht, if_true, Sem.run_pure]
      congr 2
      apply Array.ext'
      simp
  | false =>
    rw [ha] at h; simp only [cond_false] at h
    obtain ⟨s, hs, h⟩ := onO_some h
    rw [forceS_eq] at h
    rw [nth_eq] at hs
    obtain ⟨c, h1, h2⟩ := hx.get off s hs
    refine ⟨c, s, ?_, h, h2⟩
    intro w'
    simp [part, run_isAgg ht, ha, h1]

def aggL (s : SV) : Option (List SV) :=
  match s with
  | .v (.agg xs) => some (xs.map .v)
  | .agg l => some l
  | _ => none

theorem aggL_ok {s : SV} {l : List SV} {ι N w M c} (h : aggL s = some l) (hs : RepS ι N w M s c) : ∃ cs : List Value, c = .agg cs.toArray ∧ RepSL ι N w M l cs := by
  unfold aggL at h
  split at h <;> cases h
  · simp only [RepS, Rep] at hs; obtain ⟨cs, rfl, h⟩ := hs; exact ⟨cs.toList, by simp, RepSL.ofL h⟩
  · simp only [RepS] at hs; obtain ⟨cs, rfl, h⟩ := hs; exact ⟨cs.toList, by simp, h⟩

def vfield (T : TT) (t f : Nat) (s : SV) (K : SV → Prop) : Prop :=
  onO (fieldOf T t f) fun p => onO (aggL s) fun l => partL p.2 l p.1 K

theorem vfield_ok {P : Program} {T : TT} (hT : T.all P = true) {t f : Nat} {s : SV} {K : SV → Prop} {ι N w M c} (hv : vfield T t f s K) (hs : RepS ι N w M s c) :
    ∃ c' s', (∀ w', (Instr.field t c f).run P w' = .ok c' w') ∧ K s' ∧ RepS ι N w M s' c' := by
  obtain ⟨⟨off0, j⟩, hp, hv⟩ := onO_some hv
  obtain ⟨l, hl, hv⟩ := onO_some hv
  obtain ⟨fields, fd, h1, h2, h3, h4⟩ := fieldOf_ok hT hp
  obtain ⟨cs, rfl, hr⟩ := aggL_ok hl hs
  obtain ⟨c', s', g1, g2, g3⟩ := partL_ok h4 hv hr
  refine ⟨c', s', ?_, g2, g3⟩
  subst h3
  intro w'
  simp [Instr.field, run_underlying h1, h2, asAgg, g1]

end Go.AV0
/- More operations that write nothing. -/
namespace Go.AV0

theorem tk_of {P : Program} {t : Nat} {i : TI} (h : TOk P t i) : ∃ d, P.underlying t = some d ∧ tkOk i.k d = true := by
  obtain ⟨f, d, z, h1, h2, h3, h4, h5, h6, h7, h8⟩ := h.ex
  exact ⟨d, h2, h5⟩

theorem und_sl {P : Program} {t e : Nat} {i : TI} (h : TOk P t i) (hk : i.k = .sl e) : P.underlying t = some (.slice e) := by
  obtain ⟨d, h1, h2⟩ := tk_of h
  rw [hk] at h2; cases d <;> simp [tkOk] at h2; subst h2; exact h1
theorem und_ar {P : Program} {t n e : Nat} {i : TI} (h : TOk P t i) (hk : i.k = .ar n e) : P.underlying t = some (.array n e) := by
  obtain ⟨d, h1, h2⟩ := tk_of h
  rw [hk] at h2; cases d <;> simp [tkOk] at h2; obtain ⟨rfl, rfl⟩ := h2; exact h1
theorem und_str {P : Program} {t : Nat} {i : TI} (h : TOk P t i) (hk : i.k = .str) : P.underlying t = some .string := by
  obtain ⟨d, h1, h2⟩ := tk_of h
  rw [hk] at h2; cases d <;> simp [tkOk] at h2; exact h1
theorem und_mp {P : Program} {t a b : Nat} {i : TI} (h : TOk P t i) (hk : i.k = .mp a b) : P.underlying t = some (.map a b) := by
  obtain ⟨d, h1, h2⟩ := tk_of h
  rw [hk] at h2; cases d <;> simp [tkOk] at h2; obtain ⟨rfl, rfl⟩ := h2; exact h1
theorem und_pt {P : Program} {t e : Nat} {i : TI} (h : TOk P t i) (hk : i.k = .pt e) : P.underlying t = some (.pointer e) := by
  obtain ⟨d, h1, h2⟩ := tk_of h
  rw [hk] at h2; cases d <;> simp [tkOk] at h2; subst h2; exact h1
theorem und_int {P : Program} {t : Nat} {k : IntKind} {i : TI} (h : TOk P t i) (hk : i.k = .int k) : P.underlying t = some (.int k) := by
  obtain ⟨d, h1, h2⟩ := tk_of h
  rw [hk] at h2; cases d <;> simp [tkOk] at h2; subst h2; exact h1
theorem und_bl {P : Program} {t : Nat} {i : TI} (h : TOk P t i) (hk : i.k = .bl) : P.underlying t = some .bool := by
  obtain ⟨d, h1, h2⟩ := tk_of h
  rw [hk] at h2; cases d <;> simp [tkOk] at h2; exact h1
theorem und_ifc {P : Program} {t : Nat} {i : TI} (h : TOk P t i) (hk : i.k = .ifc) : ∃ ms, P.underlying t = some (.interface ms) := by
  obtain ⟨d, h1, h2⟩ := tk_of h
  rw [hk] at h2; cases d <;> simp [tkOk] at h2; exact ⟨_, h1⟩
theorem und_st {P : Program} {t : Nat} {fs} {i : TI} (h : TOk P t i) (hk : i.k = .st fs) : ∃ a, P.underlying t = some (.struct a) ∧ (a.toList.map fun f => (f.offset, f.type)) = fs := by
  obtain ⟨d, h1, h2⟩ := tk_of h
  rw [hk] at h2; cases d <;> simp [tkOk] at h2; exact ⟨_, h1, h2⟩

/-- the element's type and size of a slice's type -/
def slOf (T : TT) (t : Nat) : Option (Nat × TI) :=
  match T.find t with
  | some i => match i.k with
    | .sl e => match T.find e with
      | some j => some (e, j)
      | none => none
    | _ => none
  | none => none

theorem slOf_ok {P : Program} {T : TT} (hT : T.all P = true) {t e : Nat} {j : TI} (h : slOf T t = some (e, j)) : P.underlying t = some (.slice e) ∧ TOk P e j := by
  unfold slOf at h
  split at h <;> try (cases h; done)
  rename_i i hi
  split at h <;> try (cases h; done)
  rename_i e' hk
  split at h <;> try (cases h; done)
  rename_i j' hj
  cases h
  exact ⟨und_sl (TT.ok hT t i hi) hk, TT.ok hT _ _ hj⟩

def arOf (T : TT) (t : Nat) : Option (Nat × Nat × TI) :=
  match T.find t with
  | some i => match i.k with
    | .ar n e => match T.find e with
      | some j => some (n, e, j)
      | none => none
    | _ => none
  | none => none

theorem arOf_ok {P : Program} {T : TT} (hT : T.all P = true) {t n e : Nat} {j : TI} (h : arOf T t = some (n, e, j)) : P.underlying t = some (.array n e) ∧ TOk P e j := by
  unfold arOf at h
  split at h <;> try (cases h; done)
  rename_i i hi
  split at h <;> try (cases h; done)
  rename_i n' e' hk
  split at h <;> try (cases h; done)
  rename_i j' hj
  cases h
  exact ⟨und_ar (TT.ok hT t i hi) hk, TT.ok hT _ _ hj⟩

def intOfS (s : SV) : Option (IntKind × Int) :=
  match s with
  | .v (.c (.int k n)) => some (k, n)
  | _ => none

theorem intOfS_ok {s : SV} {k n} {ι N w M c} (h : intOfS s = some (k, n)) (hs : RepS ι N w M s c) : c = .int k n := by
  unfold intOfS at h
  split at h <;> cases h
  simpa [RepS, Rep] using hs

/-! ### indexAddr -/
def vindexAddr (T : TT) (t : Nat) (s x : SV) (h : List SO) (K : SV → Prop) : Prop :=
  onO (intOfS x) fun p => match s with
    | .v (.sl els) => onO (slOf T t) fun q => ElEv els p.2 fun e => match e with
      | [] => False
      | y :: ys => bif Nat.beq (y :: ys).length q.2.size then K (.v (.ptr (some (y :: ys)))) else False
    | .ms id => onO (slOf T t) fun q => onO (nth h id) fun o => match o with
      | .arr _ z els => bif Nat.beq z q.2.size then ElEv els p.2 fun _ => K (.eref id p.2.toNat 0) else False
      | _ => False
    | .ref id off => onO (arOf T t) fun q => match p.2 with
      | .ofNat i => bif Nat.blt i q.1 then K (.ref id (off + i * q.2.2.size)) else False
      | _ => False
    | _ => False

theorem vindexAddr_ok {P : Program} {T : TT} (hT : T.all P = true) {t : Nat} {s x : SV} {h K ι w M c d} (hv : vindexAddr T t s x h K) (H : St ι w M h)
    (hs : RepS ι h.length w M s c) (hx : RepS ι h.length w M x d) :
    ∃ c' s', (∀ w', (Instr.indexAt t c d).run P w' = .ok c' w') ∧ K s' ∧ RepS ι h.length w M s' c' := by
  obtain ⟨⟨k, i⟩, hp, hv⟩ := onO_some hv
  have hd := intOfS_ok hp hx
  subst hd
  cases s with
  | v y => cases y with
    | sl els =>
      obtain ⟨⟨e, j⟩, hq, hv⟩ := onO_some hv
      obtain ⟨h1, h2⟩ := slOf_ok hT hq
      obtain ⟨h0, x, hx, hv⟩ := hv.elim
      cases x with
      | nil => exact hv.elim
      | cons y ys =>
        simp only at hv
        cases hb : Nat.beq (y :: ys).length j.size with
        | false => simp only [hb, cond_false] at hv
        | true =>
          simp only [hb, cond_true] at hv
          have hl := Nat.eq_of_beq_eq_true hb
          simp only [RepS, Rep] at hs
          obtain ⟨ao, cap, rfl, g1, g2⟩ := hs
          rcases g2 with rfl | ⟨b, off, n, rfl, g2⟩
          · simp at hx
          · obtain ⟨g3, g4⟩ := g2.get _ _ hx
            have hlt : i.toNat < els.length := by
              rcases Nat.lt_or_ge i.toNat els.length with h' | h'
              · exact h'
              · rw [List.getElem?_eq_none h'] at hx; cases hx
            have hi : i < (els.length : Int) := by omega
            obtain ⟨g5, g6⟩ := g4.lt
            refine ⟨.pointer (some ⟨b, off + i.toNat * j.size, none⟩), _, ?_, hv, ?_⟩
            · intro w'
              simp at h0
              simp [Instr.indexAt, asIntOf, run_underlying h1, h0, hi, run_sizeOf h2, Addr.add_lit]
            · simp only [RepS, Rep]
              refine ⟨b, off + i.toNat * j.size, rfl, g5, g6, ?_⟩
              rw [← hl, g3]; exact g4
    | _ => exact hv.elim
  | ms id =>
    obtain ⟨⟨e, j⟩, hq, hv⟩ := onO_some hv
    obtain ⟨h1, h2⟩ := slOf_ok hT hq
    obtain ⟨o, ho, hv⟩ := onO_some hv
    rw [nth_eq] at ho
    have g0 := H.objs id o ho
    cases o with
    | arr e' z els =>
      cases hb : Nat.beq z j.size with
      | false => simp only [hb, cond_false] at hv
      | true =>
        simp only [hb, cond_true] at hv
        have hl := Nat.eq_of_beq_eq_true hb
        obtain ⟨h0, x, hx, hv⟩ := hv.elim
        have hlt : i.toNat < els.length := by
          rcases Nat.lt_or_ge i.toNat els.length with h' | h'
          · exact h'
          · rw [List.getElem?_eq_none h'] at hx; cases hx
        have hi : i < (els.length : Int) := by omega
        simp only [StO] at g0
        simp only [RepS] at hs
        obtain ⟨hid, hs⟩ := hs
        rcases g0.2 with g1 | ⟨b, k', cs, el', g1, g2, g3, g4, g5, g6, g7⟩
        · rw [g1.1] at hx; simp at hx
        · rcases hs with ⟨hn, _⟩ | ⟨b', k'', z', n', hn, rfl⟩
          · rw [g1] at hn; cases hn
          · rw [g1] at hn; cases hn
            refine ⟨.pointer (some ⟨b, i.toNat * z, none⟩), _, ?_, hv, ?_⟩
            · intro w'
              simp [Instr.indexAt, asIntOf, run_underlying h1, h0, hi, run_sizeOf h2, Addr.add_lit, hl]
            · simp only [RepS]
              exact ⟨hid, b, k', z, _, g1, by simp⟩
    | _ => exact hv.elim
  | ref id off =>
    obtain ⟨⟨n, e, j⟩, hq, hv⟩ := onO_some hv
    obtain ⟨h1, h2⟩ := arOf_ok hT hq
    cases i with
    | negSucc _ => exact hv.elim
    | ofNat i =>
      simp only at hv
      cases hb : Nat.blt i n with
      | false => simp only [hb, cond_false] at hv
      | true =>
        simp only [hb, cond_true] at hv
        have hlt : i < n := by simpa [Nat.blt_eq] using hb
        simp only [RepS] at hs
        obtain ⟨hid, b, k', g1, rfl⟩ := hs
        refine ⟨.pointer (some ⟨b, off + i * j.size, none⟩), _, ?_, hv, ?_⟩
        · intro w'
          have : (0 : Int) ≤ (i : Int) := by omega
          simp [Instr.indexAt, asIntOf, run_underlying h1, Instr.sureAddr, hlt, run_sizeOf h2, Addr.add_lit]
        · simp only [RepS]
          exact ⟨hid, b, k', g1, rfl⟩
  | _ => exact hv.elim

/-! ### index of a string, of an array -/
def vindex (T : TT) (t : Nat) (s x : SV) (K : SV → Prop) : Prop :=
  onO (intOfS x) fun p => match s with
    | .v (.c (.string b)) => onO (T.find t) fun i => match i.k with
      | .str => ElEv b.data.toList p.2 fun u => K (.v (.c (.int .u8 (u.toNat : Int))))
      | _ => False
    | .v (.agg xs) => onO (arOf T t) fun q => bif Nat.beq q.2.2.size 1 then (bif isAggK q.2.2.k then False else
        Side (p.2 < (q.1 : Int)) (ElEv xs p.2 fun x => forceV x fun x => K (.v x))) else False
    | _ => False

theorem vindex_ok {P : Program} {T : TT} (hT : T.all P = true) {t : Nat} {s x : SV} {K ι N w M c d} (hv : vindex T t s x K)
    (hs : RepS ι N w M s c) (hx : RepS ι N w M x d) :
    ∃ c' s', (∀ w', (Instr.index t c d).run P w' = .ok c' w') ∧ K s' ∧ RepS ι N w M s' c' := by
  obtain ⟨⟨k, i⟩, hp, hv⟩ := onO_some hv
  have hd := intOfS_ok hp hx
  subst hd
  cases s with
  | v y => cases y with
    | c v => cases v with
      | string b =>
        obtain ⟨j, hj, hv⟩ := onO_some hv
        have ht := TT.ok hT t j hj
        cases hk : j.k with
        | str =>
          simp only [hk] at hv
          obtain ⟨h0, u, hu, hv⟩ := hv.elim
          simp only [RepS, Rep] at hs; subst hs
          refine ⟨.int .u8 (u.toNat : Int), _, ?_, hv, by simp [RepS, Rep]⟩
          have hlt : i.toNat < b.size := by
            rcases Nat.lt_or_ge i.toNat b.size with h' | h'
            · exact h'
            · rw [List.getElem?_eq_none (by simpa using h')] at hu; cases hu
          have hb : b[i.toNat]? = some u := by
            rw [getElem?_pos b i.toNat hlt]
            have : b.data.toList[i.toNat]? = some b[i.toNat] := by
              rw [Array.getElem?_toList]; exact Array.getElem?_eq_getElem hlt
            rw [this] at hu; exact hu
          have h0' : 0 ≤ i := h0
          intro w'
          simp [Instr.index, asIntOf, run_underlying (und_str ht hk), h0', hb]
        | _ => simp only [hk] at hv
      | _ => exact hv.elim
    | agg xs =>
      obtain ⟨⟨n, e, j⟩, hq, hv⟩ := onO_some hv
      obtain ⟨h1, h2⟩ := arOf_ok hT hq
      cases hb : Nat.beq j.size 1 with
      | false => simp only [hb, cond_false] at hv
      | true =>
        have hz := Nat.eq_of_beq_eq_true hb
        simp only [hb, cond_true] at hv
        cases ha : isAggK j.k with
        | true => simp only [ha, cond_true] at hv
        | false =>
          simp only [ha, cond_false] at hv
          obtain ⟨hn, hv⟩ := hv.elim
          obtain ⟨h0, x, hx, hv⟩ := hv.elim
          rw [forceV_eq] at hv
          simp only [RepS, Rep] at hs
          obtain ⟨cs, rfl, hr⟩ := hs
          obtain ⟨c', g1, g2⟩ := hr.get _ _ hx
          refine ⟨c', _, ?_, hv, by simpa [RepS] using g2⟩
          have h0' : 0 ≤ i := h0
          have hn' : i < (n : Int) := hn
          simp only [Array.getElem?_toList] at g1
          intro w'
          simp [Instr.index, asIntOf, run_underlying h1, h0', hn', run_sizeOf h2, hz, part, run_isAgg h2, ha, g1]
    | _ => exact hv.elim
  | _ => exact hv.elim

/-! ### slicing -/
def optInt (s : Option SV) (d : Int) : Option Int :=
  match s with
  | none => some d
  | some (.v (.c (.int _ n))) => some n
  | _ => none

def vslice (T : TT) (t : Nat) (s : SV) (lo hi : Option SV) (K : SV → Prop) : Prop :=
  match s with
  | .v (.c (.string b)) => onO (T.find t) fun i => match i.k with
    | .str => onO (optInt lo 0) fun l => onO (optInt hi b.size) fun h => Side (0 ≤ l ∧ l ≤ h ∧ h ≤ b.size) (K (.v (.c (.string (b.extract l.toNat h.toNat)))))
    | _ => False
  | .v (.sl els) => onO (slOf T t) fun q => onO (optInt lo 0) fun l => onO (optInt hi els.length) fun h =>
      Side (0 ≤ l ∧ l ≤ h ∧ h ≤ els.length ∧ ∀ e ∈ els, e.length = q.2.size) (K (.v (.sl ((els.take h.toNat).drop l.toNat))))
  | _ => False

theorem sliceBounds_run {P : Program} {w : World} (b : Bool) (len cap : Nat) (lo hi : Option Value) (l h : Int)
    (hl : (lo = none ∧ l = 0) ∨ ∃ k, lo = some (.int k l)) (hh : (hi = none ∧ h = len) ∨ ∃ k, hi = some (.int k h)) (h0 : 0 ≤ l) (h1 : l ≤ h) (h2 : h ≤ cap) :
    (Instr.sliceBounds b len cap lo hi none).run P w = .ok (l.toNat, h.toNat, cap) w := by
  have e : ((h.toNat : Nat) : Int) = h := by omega
  rcases hl with ⟨rfl, rfl⟩ | ⟨k, rfl⟩ <;> rcases hh with ⟨rfl, rfl⟩ | ⟨k', rfl⟩
  · simp [Instr.sliceBounds]
  · have h3 : 0 ≤ h := by omega
    simp [Instr.sliceBounds, Instr.sliceBound, asIntOf, h3, h2]
  · simp [Instr.sliceBounds, Instr.sliceBound, asIntOf, h0, h1]
  · have h3 : 0 ≤ h := by omega
    simp [Instr.sliceBounds, Instr.sliceBound, asIntOf, h0, h1, h3, h2, e]

def RepO (ι : Iota) (N : Nat) (w : World) (M : Nat → Prop) : Option SV → Option Value → Prop
  | none, none => True
  | some a, some b => RepS ι N w M a b
  | _, _ => False

theorem optInt_ok {ι N w M} {s : Option SV} {d n : Int} {v : Option Value} (h : optInt s d = some n) (hs : RepO ι N w M s v) :
    (v = none ∧ n = d) ∨ ∃ k, v = some (.int k n) := by
  unfold optInt at h
  split at h
  · cases h; cases v with
    | none => exact .inl ⟨rfl, rfl⟩
    | some b => exact hs.elim
  · rename_i k n'
    cases h
    cases v with
    | none => exact hs.elim
    | some b => simp only [RepO, RepS, Rep] at hs; subst hs; exact .inr ⟨k, rfl⟩
  · cases h

theorem vslice_ok {P : Program} {T : TT} (hT : T.all P = true) {t : Nat} {s : SV} {lo hi : Option SV} {K ι N w M c} {vl vh : Option Value} (hv : vslice T t s lo hi K)
    (hs : RepS ι N w M s c) (hl : RepO ι N w M lo vl) (hh : RepO ι N w M hi vh) :
    ∃ c' s', (∀ w', (Instr.sliceAt t c vl vh none).run P w' = .ok c' w') ∧ K s' ∧ RepS ι N w M s' c' := by
  cases s with
  | v y => cases y with
    | c v => cases v with
      | string b =>
        obtain ⟨j, hj, hv⟩ := onO_some hv
        have ht := TT.ok hT t j hj
        cases hk : j.k with
        | str =>
          simp only [hk] at hv
          obtain ⟨l, h1, hv⟩ := onO_some hv
          obtain ⟨h, h2, hv⟩ := onO_some hv
          obtain ⟨⟨g0, g1, g2⟩, hv⟩ := hv.elim
          simp only [RepS, Rep] at hs; subst hs
          refine ⟨.string (b.extract l.toNat h.toNat), _, ?_, hv, by simp [RepS, Rep]⟩
          intro w'
          have hr := sliceBounds_run (P := P) (w := w') false b.size b.size vl vh l h (optInt_ok h1 hl) (optInt_ok h2 hh) g0 g1 g2
          simp [Instr.sliceAt, run_underlying (und_str ht hk), Instr.slice, hr]
        | _ => simp only [hk] at hv
      | _ => exact hv.elim
    | sl els =>
      obtain ⟨⟨e, j⟩, hq, hv⟩ := onO_some hv
      obtain ⟨q1, q2⟩ := slOf_ok hT hq
      obtain ⟨l, h1, hv⟩ := onO_some hv
      obtain ⟨h, h2, hv⟩ := onO_some hv
      obtain ⟨⟨g0, g1, g2, g3⟩, hv⟩ := hv.elim
      simp only [RepS, Rep] at hs
      obtain ⟨ao, cap, rfl, k1, k2⟩ := hs
      have hlen : ((els.take h.toNat).drop l.toNat).length = h.toNat - l.toNat := by simp; omega
      refine ⟨.slice (if cap = l.toNat then ao else ao.map (·.add (l.toNat * j.size))) (h.toNat - l.toNat) (cap - l.toNat), _, ?_, hv, ?_⟩
      · intro w'
        have hr := sliceBounds_run (P := P) (w := w') true els.length cap vl vh l h (optInt_ok h1 hl) (optInt_ok h2 hh) g0 g1 (by omega)
        simp [Instr.sliceAt, run_underlying q1, Instr.slice, hr, run_sizeOf q2]
      · simp only [RepS, Rep]
        refine ⟨_, _, by rw [hlen], by omega, ?_⟩
        rcases k2 with rfl | ⟨b, off, n, rfl, k2⟩
        · exact .inl (by simp)
        · by_cases hc : cap = l.toNat
          · left
            apply List.eq_nil_of_length_eq_zero; rw [hlen]; omega
          · right
            have hn : els = [] ∨ n = j.size := by
              cases els with
              | nil => exact .inl rfl
              | cons x xs =>
                simp only [RepEls] at k2
                have := g3 x (by simp)
                simp only at this
                exact .inr (by omega)
            rcases hn with rfl | hn
            · exact ⟨b, _, n, by simp [hc, Addr.add_lit]; rfl, by simp [RepEls]⟩
            · refine ⟨b, off + l.toNat * j.size, n, by simp [hc, Addr.add_lit], ?_⟩
              rw [← hn]
              exact (k2.take h.toNat).drop l.toNat
    | _ => exact hv.elim
  | _ => exact hv.elim

/-! ### comparisons and arithmetic -/
theorem intB_ok {P : Program} {op : BinOp} {k k' : IntKind} {a b : Int} {t : Nat} {K : Value → Prop} (h : binC op (.int k a) (.int k' b) K) :
    ∃ r, (∀ w, (binOp op t (.int k a) (.int k' b)).run P w = .ok r w) ∧ K r := by
  unfold binC at h
  simp only at h
  cases hs : isShift op with
  | true =>
    rw [hs] at h; simp only [cond_true] at h
    cases op <;> simp only [isShift, Bool.false_eq_true] at hs <;> simp only [intB] at h
    · obtain ⟨h0, h⟩ := h.elim
      exact ⟨_, fun w => by simp [binOp, Op.shift, Int.not_lt.2 h0], h⟩
    · obtain ⟨h0, h⟩ := h.elim
      exact ⟨_, fun w => by simp [binOp, Op.shift, Int.not_lt.2 h0], h⟩
  | false =>
    rw [hs] at h; simp only [cond_false] at h
    split at h
    · rename_i hk; subst hk
      cases op <;> simp only [isShift, Bool.true_eq_false] at hs <;> simp only [intB] at h
      case quo =>
        obtain ⟨h0, h⟩ := h.elim
        exact ⟨_, fun w => by simp [binOp, Op.intDiv, h0], h⟩
      case rem =>
        obtain ⟨h0, h⟩ := h.elim
        exact ⟨_, fun w => by simp [binOp, Op.intDiv, h0], h⟩
      case eql => exact ⟨.bool (a == b), fun w => by simp [binOp, Op.intCmp], by rw [show (a == b) = decide (a = b) by by_cases h : a = b <;> simp [h]]; exact h⟩
      case neq => exact ⟨.bool (a != b), fun w => by simp [binOp, Op.intCmp], by rw [show (a != b) = decide (a ≠ b) by by_cases h : a = b <;> simp [h]]; exact h⟩
      all_goals exact ⟨_, fun w => by simp [binOp, Op.intArith, Op.intBits, Op.intCmp], h⟩
    · exact h.elim

theorem strB_ok {P : Program} {op : BinOp} {a b : ByteArray} {t : Nat} {K : Value → Prop} (h : binC op (.string a) (.string b) K) :
    ∃ r, (∀ w, (binOp op t (.string a) (.string b)).run P w = .ok r w) ∧ K r := by
  unfold binC at h
  simp only at h
  have h6 : IntKind.i64.max = 9223372036854775807 := by decide
  cases op <;> simp only [strB] at h <;> try exact h.elim
  case add =>
    obtain ⟨h0, h⟩ := h.elim
    refine ⟨_, fun w => ?_, h⟩
    have : ¬ (IntKind.i64.max < (a.size : Int) + (b.size : Int)) := by rw [h6]; omega
    simp only [binOp, Op.stringOp, Sem.run_ite, Int.natCast_add, gt_iff_lt]
    rw [if_neg this]; rfl
  case eql => exact ⟨.bool (a.toList == b.toList), fun w => rfl, by rw [tl_beq]; exact h⟩
  case neq => exact ⟨.bool (!(a.toList == b.toList)), fun w => rfl, by rw [tl_beq]; simpa using h⟩
  case leq => exact ⟨.bool (slt a b || (a.toList == b.toList)), fun w => rfl, by rw [tl_beq]; exact h⟩
  case gtr => exact ⟨.bool (!(slt a b || (a.toList == b.toList))), fun w => rfl, by rw [tl_beq]; exact h⟩
  all_goals exact ⟨_, fun w => rfl, h⟩

/-- equality of pointers, bools, interface values with nil -/
def eqS (T : TT) (t : Nat) (x y : SV) (K : Bool → Prop) : Prop :=
  onO (T.find t) fun i => match i.k, x, y with
    | .bl, .v (.c (.bool a)), .v (.c (.bool b)) => K (decide (a = b))
    | .pt _, .v (.ptr none), .v (.ptr none) => K true
    | .pt _, .v (.ptr (some _)), .v (.ptr none) => K false
    | .pt _, .v (.ptr none), .v (.ptr (some _)) => K false
    | .pt _, .ref _ _, .v (.ptr none) => K false
    | .sl _, .v (.sl els), .v (.c (.slice none 0 0)) => AnyB (fun t => els ≠ [] → t = false) K
    | .sl _, .v (.c (.slice none 0 0)), .v (.c (.slice none 0 0)) => K true
    | .ifc, .v (.ifc none), .v (.ifc none) => K true
    | .ifc, .v (.ifc (some _)), .v (.ifc none) => K false
    | _, _, _ => False

theorem equal_def (t : Nat) (x y : Value) : Op.equal t x y = Op.equalIn (9999 + 1) t x y := rfl

theorem eqS_ok {P : Program} {T : TT} (hT : T.all P = true) {t : Nat} {x y : SV} {K : Bool → Prop} {ι N w M c d} (h : eqS T t x y K) (hx : RepS ι N w M x c) (hy : RepS ι N w M y d) :
    ∃ b, (∀ w', (Op.equal t c d).run P w' = .ok b w') ∧ K b := by
  have h0 := onO_some h; clear h
  obtain ⟨i, hi, h⟩ := h0
  have ht := TT.ok hT t i hi
  split at h
  · rename_i a b hk
    simp only [RepS, Rep] at hx hy; subst hx; subst hy
    exact ⟨a == b, fun w' => by rw [equal_def]; unfold Op.equalIn; simp [run_underlying (und_bl ht hk)], by rw [show (a == b) = decide (a = b) by cases a <;> cases b <;> rfl]; exact h⟩
  · rename_i e hk
    simp only [RepS, Rep] at hx hy; subst hx; subst hy
    exact ⟨true, fun w' => by rw [equal_def]; unfold Op.equalIn; simp [run_underlying (und_pt ht hk)], h⟩
  · rename_i e ys hk
    simp only [RepS, Rep] at hx hy; obtain ⟨b, off, rfl, _⟩ := hx; subst hy
    exact ⟨false, fun w' => by rw [equal_def]; unfold Op.equalIn; simp [run_underlying (und_pt ht hk)], h⟩
  · rename_i e ys hk
    simp only [RepS, Rep] at hx hy; obtain ⟨b, off, rfl, _⟩ := hy; subst hx
    exact ⟨false, fun w' => by rw [equal_def]; unfold Op.equalIn; simp [run_underlying (und_pt ht hk)], h⟩
  · rename_i e id off hk
    simp only [RepS, Rep] at hx hy; obtain ⟨_, b, k, _, rfl⟩ := hx; subst hy
    exact ⟨false, fun w' => by rw [equal_def]; unfold Op.equalIn; simp [run_underlying (und_pt ht hk)], h⟩
  · rename_i e els hk
    simp only [RepS, Rep] at hx hy; obtain ⟨ao, cap, rfl, h1, h2⟩ := hx; subst hy
    refine ⟨ao.isNone, ?_, h.elim _ ?_⟩
    · intro w'; rw [equal_def]; unfold Op.equalIn; cases ao <;> simp [run_underlying (und_sl ht hk)]
    · intro hne
      rcases h2 with h2 | ⟨b, off, n, rfl, _⟩
      · exact absurd h2 hne
      · rfl
  · rename_i e hk
    simp only [RepS, Rep] at hx hy; subst hx; subst hy
    exact ⟨true, fun w' => by rw [equal_def]; unfold Op.equalIn; simp [run_underlying (und_sl ht hk)], h⟩
  · rename_i hk
    simp only [RepS, Rep] at hx hy; subst hx; subst hy
    obtain ⟨ms, hms⟩ := und_ifc ht hk
    exact ⟨true, fun w' => by rw [equal_def]; unfold Op.equalIn; simp [run_underlying hms], h⟩
  · rename_i z hk
    simp only [RepS] at hx hy; obtain ⟨t', v'⟩ := z; simp only [Rep] at hx hy; obtain ⟨c', rfl, _⟩ := hx; subst hy
    obtain ⟨ms, hms⟩ := und_ifc ht hk
    exact ⟨false, fun w' => by rw [equal_def]; unfold Op.equalIn; simp [run_underlying hms], h⟩
  · exact h.elim

end Go.AV0
/- Comparisons of any values; what else only reckons. -/
namespace Go.AV0

def isK : Operand → Bool
  | .const _ => true
  | _ => false

/-- two nil interface values: only where one is the literal nil -/
def nilPair (x y : SV) : Bool :=
  match x, y with
  | .v (.ifc none), .v (.ifc none) => true
  | _, _ => false

def vbin (T : TT) (op : BinOp) (t : Nat) (c : Bool) (x y : SV) (K : SV → Prop) : Prop :=
  match x, y with
  | .v (.c (.int k a)), .v (.c (.int k' b)) => binC op (.int k a) (.int k' b) fun r => K (.v (.c r))
  | .v (.c (.string a)), .v (.c (.string b)) => binC op (.string a) (.string b) fun r => K (.v (.c r))
  | x, y => bif nilPair x y && !c then False else match op with
    | .eql => eqS T t x y fun b => K (.v (.c (.bool b)))
    | .neq => eqS T t x y fun b => K (.v (.c (.bool (!b))))
    | _ => False

theorem eqGuard_run {P : Program} {w : World} {op : BinOp} {t : Nat} {x y : Operand} {c d : Value} (h : (∀ l m, ¬ (c = .agg l ∧ d = .agg m))) (h2 : (c = .nilIface ∧ d = .nilIface) → (isK x || isK y) = true) :
    (eqGuard op t x y c d).run P w = .ok () w := by
  cases op <;> first | rfl | skip
  all_goals
    unfold eqGuard
    dsimp only [Bool.not_true]
    split
    · rfl
    · split
      · have := h2 ⟨rfl, rfl⟩
        cases x <;> cases y <;> first | (simp only [isK, Bool.or_self, Bool.false_eq_true] at this; done) | rfl
      · exact absurd ⟨rfl, rfl⟩ (h _ _)
      · rfl

theorem eqS_noAgg {T : TT} {t : Nat} {x y : SV} {K : Bool → Prop} {ι N w M c d} (h : eqS T t x y K) (hx : RepS ι N w M x c) (hy : RepS ι N w M y d) :
    (∀ l m, ¬ (c = .agg l ∧ d = .agg m)) ∧ ((c = .nilIface ∧ d = .nilIface) → nilPair x y = true) := by
  have h0 := onO_some h; clear h
  obtain ⟨i, hi, h⟩ := h0
  split at h
  · simp only [RepS, Rep] at hx hy; subst hx; subst hy; exact ⟨by simp, by simp⟩
  · simp only [RepS, Rep] at hx hy; subst hx; subst hy; exact ⟨by simp, by simp⟩
  · simp only [RepS, Rep] at hx hy; obtain ⟨b, off, rfl, _⟩ := hx; subst hy; exact ⟨by simp, by simp⟩
  · simp only [RepS, Rep] at hx hy; obtain ⟨b, off, rfl, _⟩ := hy; subst hx; exact ⟨by simp, by simp⟩
  · simp only [RepS, Rep] at hx hy; obtain ⟨_, b, k, _, rfl⟩ := hx; subst hy; exact ⟨by simp, by simp⟩
  · simp only [RepS, Rep] at hx hy; obtain ⟨ao, cap, rfl, _⟩ := hx; subst hy; exact ⟨by simp, by simp⟩
  · simp only [RepS, Rep] at hx hy; subst hx; subst hy; exact ⟨by simp, by simp⟩
  · simp only [RepS, Rep] at hx hy; subst hx; subst hy; exact ⟨by simp, by simp [nilPair]⟩
  · rename_i z _
    obtain ⟨t', v'⟩ := z; simp only [RepS, Rep] at hx hy; obtain ⟨c', rfl, _⟩ := hx; subst hy; exact ⟨by simp, by simp⟩
  · exact h.elim

/-- 'binOp' at other values than numbers and strings is the comparison -/
theorem binOp_eq {P : Program} {w w' : World} {t : Nat} {T : TT} {x y : SV} {K : Bool → Prop} {ι N M c d} (h : eqS T t x y K) (hx : RepS ι N w M x c) (hy : RepS ι N w M y d) :
    ((binOp .eql t c d).run P w' = (do pure (.bool (← Op.equal t c d)) : Sem Value).run P w') ∧ ((binOp .neq t c d).run P w' = (do pure (.bool (!(← Op.equal t c d))) : Sem Value).run P w') := by
  have h0 := onO_some h; clear h
  obtain ⟨i, hi, h⟩ := h0
  split at h
  · simp only [RepS, Rep] at hx hy; subst hx; subst hy; exact ⟨rfl, rfl⟩
  · simp only [RepS, Rep] at hx hy; subst hx; subst hy; exact ⟨rfl, rfl⟩
  · simp only [RepS, Rep] at hx hy; obtain ⟨b, off, rfl, _⟩ := hx; subst hy; exact ⟨rfl, rfl⟩
  · simp only [RepS, Rep] at hx hy; obtain ⟨b, off, rfl, _⟩ := hy; subst hx; exact ⟨rfl, rfl⟩
  · simp only [RepS, Rep] at hx hy; obtain ⟨_, b, k, _, rfl⟩ := hx; subst hy; exact ⟨rfl, rfl⟩
  · simp only [RepS, Rep] at hx hy; obtain ⟨ao, cap, rfl, _⟩ := hx; subst hy; exact ⟨rfl, rfl⟩
  · simp only [RepS, Rep] at hx hy; subst hx; subst hy; exact ⟨rfl, rfl⟩
  · simp only [RepS, Rep] at hx hy; subst hx; subst hy; exact ⟨rfl, rfl⟩
  · rename_i z _
    obtain ⟨t', v'⟩ := z; simp only [RepS, Rep] at hx hy; obtain ⟨c', rfl, _⟩ := hx; subst hy; exact ⟨rfl, rfl⟩
  · exact h.elim

theorem vbin_ok {P : Program} {T : TT} (hT : T.all P = true) {op : BinOp} {t : Nat} {ox oy : Operand} {x y : SV} {K : SV → Prop} {ι N w M c d}
    (hv : vbin T op t (isK ox || isK oy) x y K) (hx : RepS ι N w M x c) (hy : RepS ι N w M y d) :
    ∃ c' s', (∀ w', ((do eqGuard op t ox oy c d; binOp op t c d : Sem Value)).run P w' = .ok c' w') ∧ K s' ∧ RepS ι N w M s' c' := by
  unfold vbin at hv
  split at hv
  · simp only [RepS, Rep] at hx hy; subst hx; subst hy
    obtain ⟨r, h1, h2⟩ := intB_ok (P := P) (t := t) hv
    exact ⟨r, _, by intro w'; rw [Sem.run_bind, eqGuard_run (by simp) (by simp), Result.andThen_ok, h1], h2, by simp [RepS, Rep]⟩
  · simp only [RepS, Rep] at hx hy; subst hx; subst hy
    obtain ⟨r, h1, h2⟩ := strB_ok (P := P) (t := t) hv
    exact ⟨r, _, by intro w'; rw [Sem.run_bind, eqGuard_run (by simp) (by simp), Result.andThen_ok, h1], h2, by simp [RepS, Rep]⟩
  · cases hb : (nilPair x y && !(isK ox || isK oy)) with
    | true => rw [hb] at hv; exact hv.elim
    | false =>
      rw [hb] at hv; simp only [cond_false] at hv
      have guard : ∀ (w' : World), (∀ l m, ¬ (c = .agg l ∧ d = .agg m)) ∧ ((c = .nilIface ∧ d = .nilIface) → nilPair x y = true) → (eqGuard op t ox oy c d).run P w' = .ok () w' := by
        intro w' g
        exact eqGuard_run g.1 (fun e => by have := g.2 e; rw [this] at hb; cases hx : isK ox <;> cases hy : isK oy <;> simp_all)
      split at hv
      · obtain ⟨b, h1, h2⟩ := eqS_ok hT hv hx hy
        refine ⟨.bool b, _, ?_, h2, by simp [RepS, Rep]⟩
        intro w'
        rw [Sem.run_bind, guard w' (eqS_noAgg hv hx hy), Result.andThen_ok, (binOp_eq hv hx hy).1, Sem.run_bind, h1]; rfl
      · obtain ⟨b, h1, h2⟩ := eqS_ok hT hv hx hy
        refine ⟨.bool (!b), _, ?_, h2, by simp [RepS, Rep]⟩
        intro w'
        rw [Sem.run_bind, guard w' (eqS_noAgg hv hx hy), Result.andThen_ok, (binOp_eq hv hx hy).2, Sem.run_bind, h1]; rfl
      · exact hv.elim

/-! ### the rest of what only reckons -/
def vun (op : UnOp) (x : SV) (K : SV → Prop) : Prop :=
  match op, x with
  | .not, .v (.c (.bool b)) => K (.v (.c (.bool (!b))))
  | .neg, .v (.c (.int k n)) => K (.v (.c (.int k (k.wrap (0 - n)))))
  | _, _ => False

theorem vun_ok {P : Program} {op : UnOp} {x : SV} {K : SV → Prop} {ι N w M c} (hv : vun op x K) (hx : RepS ι N w M x c) :
    ∃ c' s', (∀ w', (Op.unary op c).run P w' = .ok c' w') ∧ K s' ∧ RepS ι N w M s' c' := by
  unfold vun at hv
  split at hv
  · simp only [RepS, Rep] at hx; subst hx; exact ⟨_, _, fun _ => rfl, hv, by simp [RepS, Rep]⟩
  · simp only [RepS, Rep] at hx; subst hx; exact ⟨_, _, fun _ => rfl, hv, by simp [RepS, Rep]⟩
  · exact hv.elim

def vnil (x : SV) (K : SV → Prop) : Prop :=
  match x with
  | .ref a b => K (.ref a b)
  | .eref a b c => K (.eref a b c)
  | .v (.ptr (some ys)) => K (.v (.ptr (some ys)))
  | _ => False

theorem vnil_ok {x : SV} {K : SV → Prop} {ι N w M c} (hv : vnil x K) (hx : RepS ι N w M x c) : (∃ a, c = .pointer (some a)) ∧ K x := by
  unfold vnil at hv
  split at hv
  · simp only [RepS] at hx; obtain ⟨_, b, k, _, rfl⟩ := hx; exact ⟨⟨_, rfl⟩, hv⟩
  · simp only [RepS] at hx; obtain ⟨_, b, k, z, n, _, rfl⟩ := hx; exact ⟨⟨_, rfl⟩, hv⟩
  · simp only [RepS, Rep] at hx; obtain ⟨b, off, rfl, _⟩ := hx; exact ⟨⟨_, rfl⟩, hv⟩
  · exact hv.elim

def vextract (x : SV) (i : Nat) (K : SV → Prop) : Prop :=
  match x with
  | .v (.tup xs) => onO (nth xs i) fun y => forceV y fun y => K (.v y)
  | .tup l => onO (nth l i) fun s => forceS s K
  | _ => False

theorem vextract_ok {P : Program} {x : SV} {i : Nat} {K : SV → Prop} {ι N w M c} (hv : vextract x i K) (hx : RepS ι N w M x c) :
    ∃ c' s', (∀ w', (Instr.extract c i).run P w' = .ok c' w') ∧ K s' ∧ RepS ι N w M s' c' := by
  unfold vextract at hv
  split at hv
  · obtain ⟨y, hy, hv⟩ := onO_some hv
    rw [forceV_eq] at hv; rw [nth_eq] at hy
    simp only [RepS, Rep] at hx; obtain ⟨cs, rfl, h⟩ := hx
    obtain ⟨c', h1, h2⟩ := h.get i y hy
    rw [Array.getElem?_toList] at h1
    exact ⟨c', _, fun w' => by simp [Instr.extract, h1], hv, by simpa [RepS] using h2⟩
  · obtain ⟨y, hy, hv⟩ := onO_some hv
    rw [forceS_eq] at hv; rw [nth_eq] at hy
    simp only [RepS] at hx; obtain ⟨cs, rfl, h⟩ := hx
    obtain ⟨c', h1, h2⟩ := h.get i y hy
    rw [Array.getElem?_toList] at h1
    exact ⟨c', _, fun w' => by simp [Instr.extract, h1], hv, h2⟩
  · exact hv.elim

/-- into an interface value -/
def vmakeI (T : TT) (t : Nat) (x : SV) (K : SV → Prop) : Prop :=
  onO (T.find t) fun i => match i.k with
    | .ifc => False
    | .oth => False
    | _ => match x with
      | .v y => K (.v (.ifc (some (t, y))))
      | _ => False

theorem vmakeI_ok {P : Program} {T : TT} (hT : T.all P = true) {t : Nat} {x : SV} {K : SV → Prop} {ι N w M c} (hv : vmakeI T t x K) (hx : RepS ι N w M x c) :
    ∃ c' s', (∀ w', (Instr.makeInterface t c).run P w' = .ok c' w') ∧ K s' ∧ RepS ι N w M s' c' := by
  have h0 := onO_some hv; clear hv
  obtain ⟨i, hi, hv⟩ := h0
  obtain ⟨d, h1, h2⟩ := tk_of (TT.ok hT t i hi)
  have key : ∀ y, x = .v y → K (.v (.ifc (some (t, y)))) → (∀ ms, d ≠ .interface ms) → ∃ c' s', (∀ w', (Instr.makeInterface t c).run P w' = .ok c' w') ∧ K s' ∧ RepS ι N w M s' c' := by
    intro y e k hd
    subst e
    refine ⟨.iface t c, _, ?_, k, ?_⟩
    · intro w'
      cases d <;> first | (simp [Instr.makeInterface, run_underlying h1]; done) | exact absurd rfl (hd _)
    · simp only [RepS, Rep] at hx ⊢; exact ⟨c, rfl, hx⟩
  split at hv
  · exact hv.elim
  · exact hv.elim
  · rename_i hk1 hk2
    cases x with
    | v y =>
      refine key y rfl hv ?_
      intro ms e; subst e
      cases hk : i.k <;> rw [hk] at h2 <;> simp [tkOk] at h2
      exact hk1 hk
    | _ => exact hv.elim

/-- a type's zero, of one cell -/
def zeroOf (T : TT) (t : Nat) : Option AV :=
  match T.find t with
  | some i => match i.zero with
    | [v] => bif isAggK i.k then none else some (ofVal v)
    | _ => none
  | none => none

end Go.AV0
/- Assertions of types, maps that are read, lengths, conversions. -/
namespace Go.AV0

theorem zeroOf_ok {P : Program} {T : TT} (hT : T.all P = true) {t : Nat} {z : AV} (h : zeroOf T t = some z) (w : World) (M : Nat → Prop) :
    ∃ v, (∀ w', (zeroValue t).run P w' = .ok v w') ∧ Rep w M z v := by
  unfold zeroOf at h
  split at h <;> try (cases h; done)
  rename_i i hi
  split at h <;> try (cases h; done)
  rename_i v hv
  have ht := TT.ok hT t i hi
  obtain ⟨z', h1, h2, h3⟩ := run_zero ht
  cases ha : isAggK i.k with
  | true => rw [ha] at h; cases h
  | false =>
    rw [ha] at h; simp only [cond_false] at h; cases h
    rw [hv] at h2
    refine ⟨z', h1, ?_⟩
    have : z' = v := by
      rw [ha] at h3
      cases z' <;> simp_all [Value.cells, isAggV]
    rw [this]; exact rep_ofVal w M v

/-- an assertion of a type that is no interface -/
def zeroAV (T : TT) (t : Nat) : Option AV :=
  match T.find t with
  | some i => bif isAggK i.k then some (.agg (i.zero.map ofVal)) else zeroOf T t
  | none => none

theorem zeroAV_ok {P : Program} {T : TT} (hT : T.all P = true) {t : Nat} {z : AV} (h : zeroAV T t = some z) (w : World) (M : Nat → Prop) :
    ∃ v, (∀ w', (zeroValue t).run P w' = .ok v w') ∧ Rep w M z v := by
  unfold zeroAV at h
  split at h <;> try (cases h; done)
  rename_i i hi
  cases ha : isAggK i.k with
  | true =>
    rw [ha] at h; simp only [cond_true] at h; cases h
    obtain ⟨z', h1, h2, h3⟩ := run_zero (TT.ok hT t i hi)
    refine ⟨z', h1, ?_⟩
    rw [ha] at h3
    cases z' <;> simp only [isAggV, Bool.false_eq_true] at h3
    rename_i cs
    simp only [Value.cells] at h2
    simp only [Rep]; exact ⟨cs, rfl, by rw [h2]; exact repL_ofVal w M _⟩
  | false => rw [ha] at h; simp only [cond_false] at h; exact zeroOf_ok hT h w M

def vassert (T : TT) (x : SV) (a : Nat) (ok : Bool) (K : SV → Prop) : Prop :=
  onO (T.find a) fun i => match i.k with
    | .ifc => False
    | .oth => False
    | _ => match x with
      | .v (.ifc none) => bif ok then onO (zeroAV T a) fun z => K (.v (.tup [z, .c (.bool false)])) else False
      | .v (.ifc (some (t, v))) => bif Nat.beq t a then (bif ok then K (.v (.tup [v, .c (.bool true)])) else forceV v fun v => K (.v v))
          else bif ok then onO (zeroAV T a) fun z => K (.v (.tup [z, .c (.bool false)])) else False
      | _ => False

theorem vassert_ok {P : Program} {T : TT} (hT : T.all P = true) {x : SV} {xt a : Nat} {ok : Bool} {K : SV → Prop} {ι N w M c} (hv : vassert T x a ok K) (hx : RepS ι N w M x c) :
    ∃ c' s', (∀ w', (Instr.typeAssert c xt a ok).run P w' = .ok c' w') ∧ K s' ∧ RepS ι N w M s' c' := by
  have h0 := onO_some hv; clear hv
  obtain ⟨i, hi, hv⟩ := h0
  obtain ⟨d, h1, h2⟩ := tk_of (TT.ok hT a i hi)
  have hd : ∀ ms, d ≠ .interface ms := by
    intro ms e; subst e
    split at hv
    · exact hv
    · exact hv
    · rename_i hk1 hk2
      cases hk : i.k <;> rw [hk] at h2 <;> simp [tkOk] at h2
      exact hk1 hk
  split at hv
  · exact hv.elim
  · exact hv.elim
  · clear h2
    split at hv
    · cases ok with
      | false => exact hv.elim
      | true =>
        simp only [cond_true] at hv
        obtain ⟨z, hz, hv⟩ := onO_some hv
        obtain ⟨v, g1, g2⟩ := zeroAV_ok hT hz w M
        simp only [RepS, Rep] at hx; subst hx
        refine ⟨.tuple #[v, .bool false], _, ?_, hv, ?_⟩
        · intro w'
          cases d <;> first | (simp [Instr.typeAssert, run_underlying h1, g1]; done) | exact absurd rfl (hd _)
        · simp only [RepS, Rep]; exact ⟨_, rfl, by simp [RepL, Rep, g2]⟩
    · rename_i t v
      simp only [RepS, Rep] at hx; obtain ⟨c', rfl, hx⟩ := hx
      cases hb : Nat.beq t a with
      | true =>
        have e := Nat.eq_of_beq_eq_true hb; subst e
        simp only [hb, cond_true] at hv
        cases ok with
        | true =>
          refine ⟨.tuple #[c', .bool true], _, ?_, hv, ?_⟩
          · intro w'
            cases d <;> first | (simp [Instr.typeAssert, run_underlying h1]; done) | exact absurd rfl (hd _)
          · simp only [RepS, Rep]; exact ⟨_, rfl, by simp [RepL, Rep, hx]⟩
        | false =>
          simp only [cond_false] at hv
          rw [forceV_eq] at hv
          refine ⟨c', _, ?_, hv, by simpa [RepS] using hx⟩
          intro w'
          cases d <;> first | (simp [Instr.typeAssert, run_underlying h1]; done) | exact absurd rfl (hd _)
      | false =>
        have e : t ≠ a := by intro e; subst e; simp at hb
        simp only [hb, cond_false] at hv
        cases ok with
        | false => exact hv.elim
        | true =>
          simp only [cond_true] at hv
          obtain ⟨z, hz, hv⟩ := onO_some hv
          obtain ⟨v, g1, g2⟩ := zeroAV_ok hT hz w M
          refine ⟨.tuple #[v, .bool false], _, ?_, hv, ?_⟩
          · intro w'
            cases d <;> first | (simp [Instr.typeAssert, run_underlying h1, g1, e]; done) | exact absurd rfl (hd _)
          · simp only [RepS, Rep]; exact ⟨_, rfl, by simp [RepL, Rep, g2]⟩
    · exact hv.elim

/-! ### maps -/
def mget : List (ByteArray × AV) → ByteArray → Option AV
  | [], _ => none
  | (k', v) :: r, k => if k' = k then some v else mget r k

theorem mget_some : ∀ {es : List (ByteArray × AV)} {k : ByteArray} {v : AV}, mget es k = some v → (k, v) ∈ es
  | (k', v') :: r, k, v, h => by
    simp only [mget] at h
    split at h
    · rename_i e; subst e; cases h; simp
    · exact List.mem_cons_of_mem _ (mget_some h)

theorem mget_none : ∀ {es : List (ByteArray × AV)} {k : ByteArray}, mget es k = none → ∀ v, (k, v) ∉ es
  | [], _, _, _ => by simp
  | (k', v') :: r, k, h, v => by
    simp only [mget] at h
    split at h
    · cases h
    · rename_i e
      simp only [List.mem_cons, Prod.mk.injEq, not_or, not_and]
      exact ⟨fun e' => absurd e'.symm e, mget_none h v⟩

theorem RepMap.get {w M en} : ∀ {es : List (ByteArray × AV)}, RepMap w M en es → ∀ e ∈ es, RepEnt w M en e
  | e :: es, h, x, hx => by
    simp only [RepMap] at h
    rcases List.mem_cons.1 hx with rfl | hx
    · exact h.1
    · exact RepMap.get h.2 x hx

theorem keys_string {en : Array MapEntry} {es : List (ByteArray × AV)} (hp : (en.toList.map (·.key)).Perm (es.map fun e => Value.string e.1)) :
    ∀ x ∈ en.toList, ∃ k v, (k, v) ∈ es ∧ x.key = .string k := by
  intro x hx
  have : x.key ∈ en.toList.map (·.key) := List.mem_map_of_mem hx
  rw [hp.mem_iff] at this
  obtain ⟨e, he, h⟩ := List.mem_map.1 this
  exact ⟨e.1, e.2, he, h.symm⟩

theorem nodup_map {α β : Type} {f : α → β} (hf : ∀ a b, f a = f b → a = b) : ∀ {l : List α}, l.Nodup → (l.map f).Nodup
  | [], _ => by simp
  | a :: l, h => by
    simp only [List.nodup_cons] at h
    simp only [List.map_cons, List.nodup_cons, List.mem_map, not_exists, not_and]
    exact ⟨fun x hx e => h.1 (hf _ _ e ▸ hx), nodup_map hf h.2⟩

theorem keys_nodup {en : Array MapEntry} {es : List (ByteArray × AV)} (hp : (en.toList.map (·.key)).Perm (es.map fun e => Value.string e.1)) (hn : (es.map (·.1)).Nodup) :
    (en.toList.map (·.key)).Nodup := by
  rw [hp.nodup_iff]
  have : es.map (fun e => Value.string e.1) = (es.map (·.1)).map Value.string := by simp
  rw [this]
  exact nodup_map (fun a b h => by cases h; rfl) hn

theorem nodup_inj {α β : Type} {f : α → β} : ∀ {l : List α}, (l.map f).Nodup → ∀ {x y : α}, x ∈ l → y ∈ l → f x = f y → x = y
  | a :: l, h, x, y, hx, hy, e => by
    simp only [List.map_cons, List.nodup_cons, List.mem_map, not_exists, not_and] at h
    rcases List.mem_cons.1 hx with hx1 | hx1 <;> rcases List.mem_cons.1 hy with hy1 | hy1
    · rw [hx1, hy1]
    · exact absurd (by rw [← e, hx1]) (h.1 y hy1)
    · exact absurd (by rw [e, hy1]) (h.1 x hx1)
    · exact nodup_inj h.2 hx1 hy1 e

/-- a key is looked for -/
theorem find_ok {P : Program} {w : World} {M : Nat → Prop} {kt : Nat} {en : Array MapEntry} {es : List (ByteArray × AV)} (hk : P.underlying kt = some .string)
    (hp : (en.toList.map (·.key)).Perm (es.map fun e => Value.string e.1)) (hn : (es.map (·.1)).Nodup) (hr : RepMap w M en es) (k : ByteArray) :
    match mget es k with
    | some v => ∃ j e, (∀ w', (Instr.findKey kt (.string k) en.toList).run P w' = .ok (some (j, e.val)) w') ∧ en.toList[j]? = some e ∧ e.key = .string k ∧ Rep w M v e.val
    | none => ∀ w', (Instr.findKey kt (.string k) en.toList).run P w' = .ok none w' := by
  have hall : ∀ x ∈ en.toList, MapKept.IsKey .string x.key := by
    intro x hx
    obtain ⟨k', v', _, h⟩ := keys_string hp x hx
    rw [h]; trivial
  rcases MapKept.findNow_spec (d := .string) (k := .string k) trivial en.toList 0 hall with ⟨h1, h2⟩ | ⟨j, e, h1, h2, h3⟩
  · cases hm : mget es k with
    | none => exact fun w' => MapKept.run_findKey hk h1
    | some v =>
      have := RepMap.get hr _ (mget_some hm)
      simp only [RepEnt] at this
      obtain ⟨x, hx, hx2, _⟩ := this
      exact absurd hx2 (h2 x hx)
  · cases hm : mget es k with
    | none =>
      obtain ⟨k', v', hmem, h⟩ := keys_string hp e (List.mem_of_getElem? h2)
      rw [h3] at h; cases h
      exact absurd hmem (mget_none hm v')
    | some v =>
      have := RepMap.get hr _ (mget_some hm)
      simp only [RepEnt] at this
      obtain ⟨x, hx, hx2, hx3⟩ := this
      have hxe : x = e := nodup_inj (keys_nodup hp hn) hx (List.mem_of_getElem? h2) (by rw [hx2, h3])
      subst hxe
      exact ⟨0 + j, x, fun w' => MapKept.run_findKey hk h1, by simpa using h2, h3, hx3⟩

def mpOf (T : TT) (t : Nat) : Option (Nat × Nat) :=
  match T.find t with
  | some i => match i.k with
    | .mp k e => match T.find k with
      | some j => match j.k with
        | .str => some (k, e)
        | _ => none
      | none => none
    | _ => none
  | none => none

theorem mpOf_ok {P : Program} {T : TT} (hT : T.all P = true) {t k e : Nat} (h : mpOf T t = some (k, e)) : P.underlying t = some (.map k e) ∧ P.underlying k = some .string := by
  unfold mpOf at h
  split at h <;> try (cases h; done)
  rename_i i hi
  split at h <;> try (cases h; done)
  rename_i k' e' hk
  split at h <;> try (cases h; done)
  rename_i j hj
  split at h <;> try (cases h; done)
  rename_i hs
  cases h
  exact ⟨und_mp (TT.ok hT t i hi) hk, und_str (TT.ok hT _ _ hj) hs⟩

/-- a value is zero as a whole: of a type of one cell, or a struct -/
def strOf (s : SV) : Option ByteArray :=
  match s with
  | .v (.c (.string b)) => some b
  | _ => none

theorem strOf_ok {s : SV} {b} {ι N w M c} (h : strOf s = some b) (hs : RepS ι N w M s c) : c = .string b := by
  unfold strOf at h
  split at h <;> cases h
  simpa [RepS, Rep] using hs

def mapOf (h : List SO) (s : SV) : Option (Option (List (ByteArray × AV))) :=
  match s with
  | .v (.map o) => some o
  | .v (.c (.map none)) => some none
  | .mm id => match nth h id with
    | some (.map es) => some (some es)
    | _ => none
  | _ => none

def vlookup (T : TT) (t : Nat) (s x : SV) (ok : Bool) (h : List SO) (K : SV → Prop) : Prop :=
  onO (mpOf T t) fun p => onO (mapOf h s) fun m => onO (strOf x) fun k =>
    OptEv (match m with | some es => mget es k | none => none)
      (fun v => bif ok then K (.v (.tup [v, .c (.bool true)])) else forceV v fun v => K (.v v))
      (onO (zeroAV T p.2) fun z => bif ok then K (.v (.tup [z, .c (.bool false)])) else K (.v z))

theorem mapOf_ok {us : Us} {ι w M h s m c} (hsafe : safeId us s = true) (H : St ι w M h) (hm : mapOf h s = some m) (hs : RepS ι h.length w M s c) :
    (m = none ∧ c = .map none) ∨ ∃ es b en clock, m = some es ∧ c = .map (some b) ∧ ¬ UB ι h us b ∧ w.heap[b]? = some (.map en clock) ∧ (en.toList.map (·.key)).Perm (es.map fun e => Value.string e.1) ∧ (es.map (·.1)).Nodup ∧ RepMap w M en es := by
  unfold mapOf at hm
  split at hm
  · cases hm
    cases m with
    | none => simp only [RepS, Rep] at hs; exact .inl ⟨rfl, hs⟩
    | some es =>
      simp only [RepS, Rep] at hs
      obtain ⟨b, en, clock, h1, h2, h3, h4, h5, h6, h7⟩ := hs
      exact .inr ⟨es, b, en, clock, rfl, h1, UB.notM H h2, h3, h5, h6, h7⟩
  · cases hm; simp only [RepS, Rep] at hs; exact .inl ⟨rfl, hs⟩
  · rename_i id
    split at hm <;> cases hm
    rename_i es he
    rw [nth_eq] at he
    have h0 := H.objs id _ he
    simp only [StO] at h0
    obtain ⟨b, k, en, clock, h1, h2, h3, h4, h5, h6, h7⟩ := h0
    simp only [RepS] at hs
    obtain ⟨_, b', k', h8, rfl⟩ := hs
    rw [h1] at h8; cases h8
    have hU := UB.notId (us := us) H he rfl h1 (by cases us with | none => exact .inl rfl | some l => exact .inr ⟨l, rfl, by simpa [safeId] using hsafe⟩)
    exact .inr ⟨es, b, en, clock, rfl, rfl, hU, h3, h5, h6, h7⟩
  · cases hm

theorem run_checkString {P : Program} {w : World} {kt : Nat} (e : Bool) (k : ByteArray) (hk : P.underlying kt = some .string) : (Instr.checkKey e 10000 kt (.string k)).run P w = .ok () w := by
  show (Instr.checkKey e (9999 + 1) kt (.string k)).run P w = .ok () w
  unfold Instr.checkKey
  simp [run_underlying hk]

theorem vlookup_ok {P : Program} {T : TT} (hT : T.all P = true) {us : Us} {t : Nat} {s x : SV} {ok : Bool} {h K ι w M c d} (hsafe : safeId us s = true) (hv : vlookup T t s x ok h K) (H : St ι w M h)
    (hs : RepS ι h.length w M s c) (hx : RepS ι h.length w M x d) :
    ∃ c' s', (∀ w', Same (UB ι h us) w w' → (Instr.lookup t c d ok).run P w' = .ok c' w') ∧ K s' ∧ RepS ι h.length w M s' c' := by
  obtain ⟨⟨kt, et⟩, hp, hv⟩ := onO_some hv
  obtain ⟨m, hm, hv⟩ := onO_some hv
  obtain ⟨k, hk, hv⟩ := onO_some hv
  obtain ⟨h1, h2⟩ := mpOf_ok hT hp
  have hd := strOf_ok hk hx; subst hd
  obtain ⟨hsome, hnone⟩ := hv.elim
  have miss : (match m with | some es => mget es k | none => none) = none → ∀ (es : List MapEntry), (∀ w', (Instr.findKey kt (.string k) es).run P w' = .ok none w') →
      ∃ v z, (∀ w', (zeroValue et).run P w' = .ok v w') ∧ Rep w M z v ∧ (if ok = true then K (.v (.tup [z, .c (.bool false)])) else K (.v z)) := by
    intro hz es _
    obtain ⟨z, g1, g2⟩ := onO_some (hnone hz)
    obtain ⟨v, g3, g4⟩ := zeroAV_ok hT g1 w M
    exact ⟨v, z, g3, g4, by cases ok <;> simpa using g2⟩
  rcases mapOf_ok (us := us) hsafe H hm hs with ⟨rfl, rfl⟩ | ⟨es, b, en, clock, rfl, rfl, hU, h3, h4, h5, h6⟩
  · have hf : ∀ w', (Instr.findKey kt (.string k) ([] : List MapEntry)).run P w' = .ok none w' := fun w' => MapKept.run_findKey h2 rfl
    obtain ⟨v, z, g1, g2, g3⟩ := miss rfl [] hf
    cases ok with
    | true =>
      refine ⟨.tuple #[v, .bool false], _, ?_, by simpa using g3, ?_⟩
      · intro w' hw'
        simp [Instr.lookup, run_underlying h1, run_checkString _ _ h2, hf, g1]
      · simp only [RepS, Rep]; exact ⟨_, rfl, by simp [RepL, Rep, g2]⟩
    | false =>
      refine ⟨v, _, ?_, by simpa using g3, by simpa [RepS] using g2⟩
      intro w' hw'
      simp [Instr.lookup, run_underlying h1, run_checkString _ _ h2, hf, g1]
  · have hf := find_ok (P := P) (M := M) h2 h4 h5 h6 k
    have hg : ∀ w', Same (UB ι h us) w w' → (getObj b).run P w' = .ok (.map en clock) w' := by
      intro w' hw'
      have := hw' b (lt_of_some h3) hU
      rw [h3] at this; simp [getObj, Sem.run, this]
    cases hmk : mget es k with
    | some v =>
      rw [hmk] at hf
      obtain ⟨j, e, g1, g2, g3, g4⟩ := hf
      have hv := hsome v hmk
      cases ok with
      | true =>
        refine ⟨.tuple #[e.val, .bool true], _, ?_, by simpa using hv, ?_⟩
        · intro w' hw'
          simp [Instr.lookup, run_underlying h1, hg w' hw', run_checkString _ _ h2, g1]
        · simp only [RepS, Rep]; exact ⟨_, rfl, by simp [RepL, Rep, g4]⟩
      | false =>
        simp only [cond_false, forceV_eq] at hv
        refine ⟨e.val, _, ?_, hv, by simpa [RepS] using g4⟩
        intro w' hw'
        simp [Instr.lookup, run_underlying h1, hg w' hw', run_checkString _ _ h2, g1]
    | none =>
      rw [hmk] at hf
      obtain ⟨v, z, g1, g2, g3⟩ := miss hmk en.toList hf
      cases ok with
      | true =>
        refine ⟨.tuple #[v, .bool false], _, ?_, by simpa using g3, ?_⟩
        · intro w' hw'
          simp [Instr.lookup, run_underlying h1, hg w' hw', run_checkString _ _ h2, hf, g1]
        · simp only [RepS, Rep]; exact ⟨_, rfl, by simp [RepL, Rep, g2]⟩
      | false =>
        refine ⟨v, _, ?_, by simpa using g3, by simpa [RepS] using g2⟩
        intro w' hw'
        simp [Instr.lookup, run_underlying h1, hg w' hw', run_checkString _ _ h2, hf, g1]

end Go.AV0
/- What becomes of the state: a new object, an object that is written, one that is moved, one that is frozen. -/
namespace Go.AV0

def upd (ι : Iota) (i : Nat) (x : Option (Nat × Nat × Nat × Nat)) : Iota := fun j => if j = i then x else ι j

theorem upd_same (ι i x) : upd ι i x i = x := by simp [upd]
theorem upd_ne (ι : Iota) {i j : Nat} (x) (h : j ≠ i) : upd ι i x j = ι j := by simp [upd, h]

theorem get_lt {α : Type} {l : List α} {i : Nat} {x : α} (h : l[i]? = some x) : i < l.length := by
  rcases Nat.lt_or_ge i l.length with h' | h'
  · exact h'
  · rw [List.getElem?_eq_none h'] at h; cases h

theorem StO.keep {ι N w M ι' N' w' M' i o} (ha : Agree ι N ι' N') (hk : Keep w M w' M') (hi : ι' i = ι i)
    (hb : ∀ b k, live o = true → ι i = some (b, k) → w'.heap[b]? = w.heap[b]? ∧ M' b) (h : StO ι N w M i o) : StO ι' N' w' M' i o := by
  cases o with
  | dead => simp [StO]
  | pin j x => simp only [StO] at h ⊢; rw [ha.2 j h.1]; exact ⟨Nat.lt_of_lt_of_le h.1 ha.1, h.2⟩
  | cells xs =>
    simp only [StO] at h ⊢; rw [hi]
    obtain ⟨b, k, cs, el, h1, h2, h3, h4⟩ := h
    obtain ⟨g1, g2⟩ := hb b k rfl h1
    exact ⟨b, k, cs, el, h1, g2, by rw [g1]; exact h3, RepSL.keep ha hk _ _ h4⟩
  | arr e z els =>
    simp only [StO] at h ⊢; rw [hi]
    refine ⟨h.1, ?_⟩
    rcases h.2 with h | ⟨b, k, cs, el', h1, h2, h3, h4, h5, h6, h7⟩
    · exact .inl h
    · obtain ⟨g1, g2⟩ := hb b _ rfl h1
      exact .inr ⟨b, k, cs, el', h1, g2, by rw [g1]; exact h3, h4, h5, h6, RepL.keep hk _ _ h7⟩
  | map es =>
    simp only [StO] at h ⊢; rw [hi]
    obtain ⟨b, k, en, clock, h1, h2, h3, h4, h5, h6, h7⟩ := h
    obtain ⟨g1, g2⟩ := hb b k rfl h1
    exact ⟨b, k, en, clock, h1, g2, by rw [g1]; exact h3, h4, h5, h6, RepMap.keep hk _ _ h7⟩

/-- a new block, and an object of one's own in it -/
theorem St.alloc {ι w M h} (us : Us) (H : St ι w M h) (so : SO) (o : Obj) (k : Nat × Nat × Nat) (w' : World) (hw : w'.heap = w.heap.push o) (ho : w'.os = w.os) (ht : w'.tape = w.tape) (hp : w'.output = w.output)
    (hs : StO (upd ι h.length (some (w.heap.size, k))) (h.length + 1) w' (fun b => M b ∨ b = w.heap.size) h.length so) :
    St (upd ι h.length (some (w.heap.size, k))) w' (fun b => M b ∨ b = w.heap.size) (h ++ [so]) ∧
    Agree ι h.length (upd ι h.length (some (w.heap.size, k))) (h.length + 1) ∧ Keep w M w' (fun b => M b ∨ b = w.heap.size) ∧
    Grow ι w M h us (upd ι h.length (some (w.heap.size, k))) w' (fun b => M b ∨ b = w.heap.size) (h ++ [so]) := by
  have hold : ∀ j, j < w.heap.size → w'.heap[j]? = w.heap[j]? := by
    intro j hj; rw [hw, Array.getElem?_push, if_neg (by omega)]
  have hsz : w'.heap.size = w.heap.size + 1 := by rw [hw]; simp
  have hag : Agree ι h.length (upd ι h.length (some (w.heap.size, k))) (h.length + 1) := ⟨by omega, fun i hi => upd_ne ι _ (by omega)⟩
  have hkp : Keep w M w' (fun b => M b ∨ b = w.heap.size) := fun b hb hm => ⟨by rintro (h | h); exact hm h; omega, hold b hb⟩
  have hget : ∀ i x, (h ++ [so])[i]? = some x → (i < h.length ∧ h[i]? = some x) ∨ (i = h.length ∧ x = so) := by
    intro i x hx
    rcases Nat.lt_or_ge i h.length with hi | hi
    · rw [List.getElem?_append_left hi] at hx; exact .inl ⟨hi, hx⟩
    · have : i = h.length := by
        have := get_lt hx; simp at this; omega
      subst this; simp at hx; exact .inr ⟨rfl, hx.symm⟩
  have hblk : ∀ i x b k', h[i]? = some x → live x = true → ι i = some (b, k') → b < w.heap.size := fun i x b k' h1 h2 h3 => H.mlt b (H.ownM ⟨i, x, k', h1, h2, h3⟩)
  refine ⟨⟨?_, ?_, ?_, H.gl.keep hkp⟩, hag, hkp, ⟨ho, ht, hp, by omega, fun b hb _ => hold b hb, ?_, ?_, ?_, ?_⟩⟩
  · intro i x hx
    rcases hget i x hx with ⟨hi, hx⟩ | ⟨rfl, rfl⟩
    · simp only [List.length_append, List.length_singleton]
      refine StO.keep hag hkp (upd_ne ι _ (by omega)) ?_ (H.objs i x hx)
      intro b k' hl hι
      exact ⟨hold b (hblk i x b k' hx hl hι), .inl ((H.objs i x hx).ownM hl hι)⟩
    · simpa using hs
  · intro i j oi oj b k1 k2 hi hj li lj ei ej
    rcases hget i oi hi with ⟨hi1, hi2⟩ | ⟨rfl, rfl⟩ <;> rcases hget j oj hj with ⟨hj1, hj2⟩ | ⟨rfl, rfl⟩
    · rw [upd_ne ι _ (by omega)] at ei ej
      exact H.dist i j oi oj b k1 k2 hi2 hj2 li lj ei ej
    · rw [upd_ne ι _ (by omega)] at ei; rw [upd_same] at ej; cases ej
      exact absurd (hblk i oi _ k1 hi2 li ei) (by omega)
    · rw [upd_same] at ei; rw [upd_ne ι _ (by omega)] at ej; cases ei
      exact absurd (hblk j oj _ k2 hj2 lj ej) (by omega)
    · rfl
  · rintro b (hb | hb)
    · have := H.mlt b hb; omega
    · omega
  · rintro b hb (h1 | h1)
    · exact h1
    · omega
  · intro b hb _; exact .inl hb
  · rintro b hb ⟨i, x, k', h1, h2, h3⟩
    rcases hget i x h1 with ⟨hi, hx⟩ | ⟨rfl, rfl⟩
    · rw [upd_ne ι _ (by omega)] at h3; exact ⟨i, x, k', hx, h2, h3⟩
    · rw [upd_same] at h3; cases h3; omega
  · rintro b hb ⟨i, x, k', h0, h1, h2, h3⟩
    rcases hget i x h1 with ⟨hi, hx⟩ | ⟨rfl, rfl⟩
    · rw [upd_ne ι _ (by omega)] at h3; exact ⟨i, x, k', h0, hx, h2, h3⟩
    · rw [upd_same] at h3; cases h3; omega

theorem set_get {h : List SO} {id : Nat} {so : SO} {i : Nat} {x : SO} (hx : (h.set id so)[i]? = some x) : (i = id ∧ x = so ∧ id < h.length) ∨ (i ≠ id ∧ h[i]? = some x) := by
  rw [List.getElem?_set] at hx
  split at hx
  · rename_i e; subst e
    split at hx
    · cases hx; exact .inl ⟨rfl, rfl, by assumption⟩
    · cases hx
  · rename_i e; exact .inr ⟨fun h => e h.symm, hx⟩

/-- an object of one's own is written -/
theorem St.modify {ι w M h} (us : Us) (H : St ι w M h) {id : Nat} (hu : inU us id = true) {o : SO} {b : Nat} {k : Nat × Nat × Nat} (ho : h[id]? = some o) (hl : live o = true) (hi : ι id = some (b, k)) (so : SO) (w' : World)
    (hw : ∀ j, j ≠ b → w'.heap[j]? = w.heap[j]?) (hz : w'.heap.size = w.heap.size) (hos : w'.os = w.os) (ht : w'.tape = w.tape) (hp : w'.output = w.output)
    (hs : StO ι h.length w' M id so) :
    St ι w' M (h.set id so) ∧ Keep w M w' M ∧ Grow ι w M h us ι w' M (h.set id so) := by
  have hM : M b := (H.objs id o ho).ownM hl hi
  have hkp : Keep w M w' M := fun b' _ hm => ⟨hm, hw b' (fun e => hm (e ▸ hM))⟩
  refine ⟨⟨?_, ?_, ?_, H.gl.keep hkp⟩, hkp, ⟨hos, ht, hp, by omega, ?_, fun _ _ x => x, fun _ x _ => x, ?_, ?_⟩⟩
  · intro i x hx
    simp only [List.length_set]
    rcases set_get hx with ⟨rfl, rfl, _⟩ | ⟨hne, hx⟩
    · exact hs
    · refine StO.keep ⟨Nat.le_refl _, fun _ _ => rfl⟩ hkp rfl ?_ (H.objs i x hx)
      intro b' k' l' e'
      refine ⟨hw b' ?_, (H.objs i x hx).ownM l' e'⟩
      intro e; subst e
      exact hne (H.dist i id x o b' k' k hx ho l' hl e' hi)
  · intro i j oi oj b' k1 k2 h1 h2 l1 l2 e1 e2
    have conv : ∀ i oi k1, (h.set id so)[i]? = some oi → live oi = true → ι i = some (b', k1) → ∃ oi', h[i]? = some oi' ∧ live oi' = true := by
      intro i oi k1 h1 l1 e1
      rcases set_get h1 with ⟨rfl, rfl, _⟩ | ⟨_, h1⟩
      · exact ⟨o, ho, hl⟩
      · exact ⟨oi, h1, l1⟩
    obtain ⟨oi', g1, g2⟩ := conv i oi k1 h1 l1 e1
    obtain ⟨oj', g3, g4⟩ := conv j oj k2 h2 l2 e2
    exact H.dist i j oi' oj' b' k1 k2 g1 g3 g2 g4 e1 e2
  · intro b' hb'; rw [hz]; exact H.mlt b' hb'
  · intro b' hb' hn
    exact hw b' (fun e => hn ⟨id, o, k, hu, ho, hl, e ▸ hi⟩)
  · rintro b' hb' ⟨i, x, k', h1, h2, h3⟩
    rcases set_get h1 with ⟨rfl, rfl, _⟩ | ⟨_, h1⟩
    · exact ⟨i, o, k', ho, hl, h3⟩
    · exact ⟨i, x, k', h1, h2, h3⟩
  · rintro b' hb' ⟨i, x, k', h0, h1, h2, h3⟩
    rcases set_get h1 with ⟨rfl, rfl, _⟩ | ⟨_, h1⟩
    · exact ⟨i, o, k', h0, ho, hl, h3⟩
    · exact ⟨i, x, k', h0, h1, h2, h3⟩

/-! ### what speaks of an object that has moved is forgotten -/
mutual
def kill (id : Nat) : SV → SV
  | .any => .any
  | .v x => .v x
  | .ref a b => bif Nat.beq a id then .any else .ref a b
  | .eref a b c => bif Nat.beq a id then .any else .eref a b c
  | .ms a => bif Nat.beq a id then .any else .ms a
  | .mm a => bif Nat.beq a id then .any else .mm a
  | .tup l => .tup (killL id l)
  | .agg l => .agg (killL id l)
  | .clo f a b => .clo f (killL id a) (killL id b)
def killL (id : Nat) : List SV → List SV
  | [] => []
  | x :: l => kill id x :: killL id l
end

def killO (id : Nat) : SO → SO
  | .cells xs => .cells (killL id xs)
  | .pin j x => bif Nat.beq j id then .dead else .pin j x
  | o => o

def killF (id : Nat) : List (Nat × SV) → List (Nat × SV)
  | [] => []
  | (j, s) :: l => (j, kill id s) :: killF id l

def killD (id : Nat) : List (Nat × List SV × List SV) → List (Nat × List SV × List SV)
  | [] => []
  | (f, a, b) :: l => (f, killL id a, killL id b) :: killD id l

/-- the identities but one live on -/
def Agree1 (id : Nat) (ι : Iota) (N : Nat) (ι' : Iota) (N' : Nat) : Prop := N ≤ N' ∧ ∀ i, i < N → i ≠ id → ι' i = ι i

theorem nbeq {a b : Nat} : (Nat.beq a b = true ∧ a = b) ∨ (Nat.beq a b = false ∧ a ≠ b) := by
  cases h : Nat.beq a b with
  | true => exact .inl ⟨rfl, Nat.eq_of_beq_eq_true h⟩
  | false => exact .inr ⟨rfl, fun e => by subst e; simp at h⟩

mutual
theorem RepS.kill {id ι N w M ι' N' w' M'} (ha : Agree1 id ι N ι' N') (h : Keep w M w' M') : ∀ (s : SV) (c : Value), RepS ι N w M s c → RepS ι' N' w' M' (kill id s) c
  | .any, _, _ => by simp [AV0.kill, RepS]
  | .v x, c, r => by simp only [AV0.kill, RepS] at r ⊢; exact Rep.keep h x c r
  | .ref a off, c, r => by
    simp only [AV0.kill]
    rcases nbeq (a := a) (b := id) with ⟨e, _⟩ | ⟨e, hne⟩
    · simp [e, RepS]
    · simp only [e, cond_false, RepS] at r ⊢; rw [ha.2 a r.1 hne]; exact ⟨Nat.lt_of_lt_of_le r.1 ha.1, r.2⟩
  | .eref a i off, c, r => by
    simp only [AV0.kill]
    rcases nbeq (a := a) (b := id) with ⟨e, _⟩ | ⟨e, hne⟩
    · simp [e, RepS]
    · simp only [e, cond_false, RepS] at r ⊢; rw [ha.2 a r.1 hne]; exact ⟨Nat.lt_of_lt_of_le r.1 ha.1, r.2⟩
  | .ms a, c, r => by
    simp only [AV0.kill]
    rcases nbeq (a := a) (b := id) with ⟨e, _⟩ | ⟨e, hne⟩
    · simp [e, RepS]
    · simp only [e, cond_false, RepS] at r ⊢; rw [ha.2 a r.1 hne]; exact ⟨Nat.lt_of_lt_of_le r.1 ha.1, r.2⟩
  | .mm a, c, r => by
    simp only [AV0.kill]
    rcases nbeq (a := a) (b := id) with ⟨e, _⟩ | ⟨e, hne⟩
    · simp [e, RepS]
    · simp only [e, cond_false, RepS] at r ⊢; rw [ha.2 a r.1 hne]; exact ⟨Nat.lt_of_lt_of_le r.1 ha.1, r.2⟩
  | .tup l, c, r => by
    simp only [AV0.kill, RepS] at r ⊢; obtain ⟨cs, h1, h2⟩ := r; exact ⟨cs, h1, RepSL.kill ha h l _ h2⟩
  | .agg l, c, r => by
    simp only [AV0.kill, RepS] at r ⊢; obtain ⟨cs, h1, h2⟩ := r; exact ⟨cs, h1, RepSL.kill ha h l _ h2⟩
  | .clo fn first cap, c, r => by
    simp only [AV0.kill, RepS] at r ⊢; obtain ⟨fs, cs, h1, h2, h3⟩ := r; exact ⟨fs, cs, h1, RepSL.kill ha h first _ h2, RepSL.kill ha h cap _ h3⟩
theorem RepSL.kill {id ι N w M ι' N' w' M'} (ha : Agree1 id ι N ι' N') (h : Keep w M w' M') : ∀ (l : List SV) (cs : List Value), RepSL ι N w M l cs → RepSL ι' N' w' M' (killL id l) cs
  | [], cs, r => by simpa [killL, RepSL] using r
  | x :: xs, cs, r => by
    simp only [killL, RepSL] at r ⊢; obtain ⟨c, cs', h1, h2, h3⟩ := r
    exact ⟨c, cs', h1, RepS.kill ha h x c h2, RepSL.kill ha h xs cs' h3⟩
end

theorem look_killF (id : Nat) : ∀ (l : List (Nat × SV)) (i : Nat), look (killF id l) i = (look l i).map (kill id)
  | [], i => rfl
  | (j, s) :: l, i => by
    simp only [killF, look]
    cases Nat.beq i j <;> simp [look_killF id l i]

theorem RepD.kill {id ι N w M ι' N' w' M'} (ha : Agree1 id ι N ι' N') (h : Keep w M w' M') : ∀ (l : List (Nat × List SV × List SV)) (ds : List Deferred), RepD ι N w M l ds → RepD ι' N' w' M' (killD id l) ds
  | [], ds, r => by simpa [killD, RepD] using r
  | (f, as, cs) :: l, ds, r => by
    simp only [killD, RepD] at r ⊢
    obtain ⟨cs', as', ds', h1, h2, h3, h4⟩ := r
    exact ⟨cs', as', ds', h1, RepSL.kill ha h as _ h2, RepSL.kill ha h cs _ h3, RepD.kill ha h l ds' h4⟩

def killA (id : Nat) (α : AF) : AF := ⟨killF id α.s, killD id α.d⟩

theorem FR.kill {id ι N w M ι' N' w' M' n α a} (ha : Agree1 id ι N ι' N') (h : Keep w M w' M') (H : FR ι N w M n α a) : FR ι' N' w' M' n (killA id α) a := by
  refine ⟨H.size, ?_, RepD.kill ha h _ _ H.defs⟩
  intro i s hs
  simp only [killA, look_killF] at hs
  cases hl : look α.s i with
  | none => rw [hl] at hs; cases hs
  | some s' =>
    rw [hl] at hs; simp at hs; subst hs
    obtain ⟨c, h1, h2⟩ := H.slot i s' hl
    exact ⟨c, h1, RepS.kill ha h s' c h2⟩

def killH (id : Nat) : List SO → List SO
  | [] => []
  | o :: l => killO id o :: killH id l

theorem killH_get (id : Nat) : ∀ (l : List SO) (i : Nat), (killH id l)[i]? = (l[i]?).map (killO id)
  | [], i => by simp [killH]
  | o :: l, 0 => by simp [killH]
  | o :: l, i + 1 => by simp [killH, killH_get id l i]

theorem killH_length (id : Nat) : ∀ (l : List SO), (killH id l).length = l.length
  | [] => rfl
  | o :: l => by simp [killH, killH_length id l]

theorem live_killO (id : Nat) (o : SO) : live (killO id o) = live o := by
  cases o <;> first | rfl | (simp only [killO]; rename_i j _; cases Nat.beq j id <;> rfl)

theorem StO.kill {id ι N w M ι' N' w' M' i o} (ha : Agree1 id ι N ι' N') (hk : Keep w M w' M') (hi : ι' i = ι i)
    (hb : ∀ b k, live o = true → ι i = some (b, k) → w'.heap[b]? = w.heap[b]? ∧ M' b) (h : StO ι N w M i o) : StO ι' N' w' M' i (killO id o) := by
  cases o with
  | dead => simp [killO, StO]
  | pin j x =>
    simp only [killO]
    rcases nbeq (a := j) (b := id) with ⟨e, _⟩ | ⟨e, hne⟩
    · simp [e, StO]
    · simp only [e, cond_false, StO] at h ⊢; rw [ha.2 j h.1 hne]; exact ⟨Nat.lt_of_lt_of_le h.1 ha.1, h.2⟩
  | cells xs =>
    simp only [killO, StO] at h ⊢; rw [hi]
    obtain ⟨b, k, cs, el, h1, h2, h3, h4⟩ := h
    obtain ⟨g1, g2⟩ := hb b k rfl h1
    exact ⟨b, k, cs, el, h1, g2, by rw [g1]; exact h3, RepSL.kill ha hk _ _ h4⟩
  | arr e z els =>
    simp only [killO, StO] at h ⊢; rw [hi]
    refine ⟨h.1, ?_⟩
    rcases h.2 with h | ⟨b, k, cs, el', h1, h2, h3, h4, h5, h6, h7⟩
    · exact .inl h
    · obtain ⟨g1, g2⟩ := hb b _ rfl h1
      exact .inr ⟨b, k, cs, el', h1, g2, by rw [g1]; exact h3, h4, h5, h6, RepL.keep hk _ _ h7⟩
  | map es =>
    simp only [killO, StO] at h ⊢; rw [hi]
    obtain ⟨b, k, en, clock, h1, h2, h3, h4, h5, h6, h7⟩ := h
    obtain ⟨g1, g2⟩ := hb b k rfl h1
    exact ⟨b, k, en, clock, h1, g2, by rw [g1]; exact h3, h4, h5, h6, RepMap.keep hk _ _ h7⟩

/-- an object of one's own moves to a block (its own, or a new one), what spoke of it is forgotten -/
theorem St.move {ι w M h} (us : Us) (H : St ι w M h) {id : Nat} (hu : inU us id = true) {o : SO} (ho : h[id]? = some o) (so : SO) (x : Option (Nat × Nat × Nat × Nat)) (w' : World) (M' : Nat → Prop)
    (hM : ∀ b, M' b → M b ∨ (w.heap.size ≤ b ∧ b < w'.heap.size)) (hM2 : ∀ b, M b → M' b) (hz : w.heap.size ≤ w'.heap.size)
    (hw : ∀ j, j < w.heap.size → (live o = true → ∀ b k, ι id = some (b, k) → j ≠ b) → w'.heap[j]? = w.heap[j]?)
    (hx : ∀ b k, x = some (b, k) → (w.heap.size ≤ b) ∨ (live o = true ∧ ∃ k', ι id = some (b, k')))
    (hos : w'.os = w.os) (ht : w'.tape = w.tape) (hp : w'.output = w.output) (hs : StO (upd ι id x) h.length w' M' id so) :
    St (upd ι id x) w' M' ((killH id h).set id so) ∧ Agree1 id ι h.length (upd ι id x) h.length ∧ Keep w M w' M' ∧ Grow ι w M h us (upd ι id x) w' M' ((killH id h).set id so) := by
  have hag : Agree1 id ι h.length (upd ι id x) h.length := ⟨Nat.le_refl _, fun i _ hne => upd_ne ι _ hne⟩
  have hown : ∀ b k, live o = true → ι id = some (b, k) → M b := fun b k l e => (H.objs id o ho).ownM l e
  have hkp : Keep w M w' M' := by
    intro b hb hm
    refine ⟨fun h' => ?_, hw b hb (fun l b' k e e' => hm (e' ▸ hown b' k l e))⟩
    rcases hM b h' with h' | h'
    · exact hm h'
    · omega
  have hlen : ((killH id h).set id so).length = h.length := by simp [killH_length]
  have hget : ∀ i y, ((killH id h).set id so)[i]? = some y → (i = id ∧ y = so) ∨ (i ≠ id ∧ ∃ y', h[i]? = some y' ∧ y = killO id y') := by
    intro i y hy
    rcases set_get hy with ⟨h1, h2, _⟩ | ⟨h1, h2⟩
    · exact .inl ⟨h1, h2⟩
    · rw [killH_get] at h2
      cases hh : h[i]? with
      | none => rw [hh] at h2; cases h2
      | some y' => rw [hh] at h2; simp at h2; exact .inr ⟨h1, y', rfl, h2.symm⟩
  have hblk : ∀ i y b k', h[i]? = some y → live y = true → ι i = some (b, k') → b < w.heap.size := fun i y b k' h1 h2 h3 => H.mlt b (H.ownM ⟨i, y, k', h1, h2, h3⟩)
  have other : ∀ i y b k', i ≠ id → h[i]? = some y → live y = true → ι i = some (b, k') → ∀ k'', x ≠ some (b, k'') := by
    intro i y b k' hne h1 h2 h3 k'' e
    rcases hx b k'' e with h4 | ⟨h4, k3, h5⟩
    · have := hblk i y b k' h1 h2 h3; omega
    · exact hne (H.dist i id y o b k' k3 h1 ho h2 h4 h3 h5)
  refine ⟨⟨?_, ?_, ?_, H.gl.keep hkp⟩, hag, hkp, ⟨hos, ht, hp, hz, ?_, ?_, fun b hb _ => hM2 b hb, ?_, ?_⟩⟩
  · intro i y hy
    rw [hlen]
    rcases hget i y hy with ⟨rfl, rfl⟩ | ⟨hne, y', hy', rfl⟩
    · exact hs
    · refine StO.kill hag hkp (upd_ne ι _ hne) ?_ (H.objs i y' hy')
      intro b k l e
      refine ⟨hw b (hblk i y' b k hy' l e) ?_, hM2 b ((H.objs i y' hy').ownM l e)⟩
      intro l2 b2 k2 e2 eb; subst eb
      exact hne (H.dist i id y' o b k k2 hy' ho l l2 e e2)
  · intro i j oi oj b k1 k2 h1 h2 l1 l2 e1 e2
    rcases hget i oi h1 with ⟨rfl, rfl⟩ | ⟨hne, y', hy', rfl⟩ <;> rcases hget j oj h2 with ⟨rfl, rfl⟩ | ⟨hne2, y2, hy2, rfl⟩
    · rfl
    · rw [upd_same] at e1; rw [upd_ne ι _ hne2] at e2; rw [live_killO] at l2
      exact absurd e1 (other j y2 b k2 hne2 hy2 l2 e2 k1)
    · rw [upd_same] at e2; rw [upd_ne ι _ hne] at e1; rw [live_killO] at l1
      exact absurd e2 (other i y' b k1 hne hy' l1 e1 k2)
    · rw [upd_ne ι _ hne] at e1; rw [upd_ne ι _ hne2] at e2; rw [live_killO] at l1 l2
      exact H.dist i j y' y2 b k1 k2 hy' hy2 l1 l2 e1 e2
  · intro b hb
    rcases hM b hb with h' | h'
    · have := H.mlt b h'; omega
    · exact h'.2
  · intro b hb hn
    exact hw b hb (fun l b' k e eb => hn ⟨id, o, k, hu, ho, l, eb ▸ e⟩)
  · intro b hb h'
    rcases hM b h' with h' | h'
    · exact h'
    · omega
  · rintro b hb ⟨i, y, k, h1, h2, h3⟩
    rcases hget i y h1 with ⟨rfl, rfl⟩ | ⟨hne, y', hy', rfl⟩
    · rw [upd_same] at h3
      rcases hx b k h3 with h4 | ⟨h4, k', h5⟩
      · omega
      · exact ⟨i, o, k', ho, h4, h5⟩
    · rw [upd_ne ι _ hne] at h3; rw [live_killO] at h2
      exact ⟨i, y', k, hy', h2, h3⟩
  · rintro b hb ⟨i, y, k, h0, h1, h2, h3⟩
    rcases hget i y h1 with ⟨rfl, rfl⟩ | ⟨hne, y', hy', rfl⟩
    · rw [upd_same] at h3
      rcases hx b k h3 with h4 | ⟨h4, k', h5⟩
      · omega
      · exact ⟨i, o, k', h0, ho, h4, h5⟩
    · rw [upd_ne ι _ hne] at h3; rw [live_killO] at h2
      exact ⟨i, y', k, h0, hy', h2, h3⟩

end Go.AV0
/- Operations that make or write objects of one's own. -/
namespace Go.AV0

/-- what an operation came to -/
def Out (ι : Iota) (w : World) (M : Nat → Prop) (h : List SO) (us : Us) (n : Nat) (a : Act) (K : SV → AF → List SO → Prop) (r : Result Value) : Prop :=
  ∃ c s α' h' ι' w' M', r = .ok c w' ∧ K s α' h' ∧ St ι' w' M' h' ∧ FR ι' h'.length w' M' n α' a ∧ RepS ι' h'.length w' M' s c ∧ Grow ι w M h us ι' w' M' h'

theorem Out.same {ι w M h us n a α} {K : SV → AF → List SO → Prop} {r : Result Value} (H : St ι w M h) (F : FR ι h.length w M n α a) {c : Value} {s : SV} (hr : r = .ok c w) (hk : K s α h) (hs : RepS ι h.length w M s c) :
    Out ι w M h us n a K r := ⟨c, s, α, h, ι, w, M, hr, hk, H, F, hs, Grow.refl ι w M h us⟩

theorem rep_one {ι N w M s c} (h : RepS ι N w M s c) (ho : one s = true) : c.oneCell' = true := by
  cases s with
  | v x => cases x with
    | c v => simp only [RepS, Rep] at h; subst h; simpa [one] using ho
    | sl els => simp only [RepS, Rep] at h; obtain ⟨_, _, rfl, _⟩ := h; rfl
    | ptr o => cases o with
      | none => simp only [RepS, Rep] at h; subst h; rfl
      | some ys => simp only [RepS, Rep] at h; obtain ⟨_, _, rfl, _⟩ := h; rfl
    | ifc o => cases o with
      | none => simp only [RepS, Rep] at h; subst h; rfl
      | some ys => obtain ⟨t, v⟩ := ys; simp only [RepS, Rep] at h; obtain ⟨_, rfl, _⟩ := h; rfl
    | agg l => simp [one] at ho
    | tup l => simp [one] at ho
    | map o => cases o with
      | none => simp only [RepS, Rep] at h; subst h; rfl
      | some ys => simp only [RepS, Rep] at h; obtain ⟨_, _, _, rfl, _⟩ := h; rfl
    | clo f a b => simp only [RepS, Rep] at h; obtain ⟨_, _, rfl, _⟩ := h; rfl
  | ref a b => simp only [RepS] at h; obtain ⟨_, _, _, _, rfl⟩ := h; rfl
  | eref a b d => simp only [RepS] at h; obtain ⟨_, _, _, _, _, _, rfl⟩ := h; rfl
  | ms a => simp only [RepS] at h; rcases h.2 with ⟨_, rfl⟩ | ⟨_, _, _, _, _, rfl⟩ <;> rfl
  | mm a => simp only [RepS] at h; obtain ⟨_, _, _, _, rfl⟩ := h; rfl
  | clo f a b => simp only [RepS] at h; obtain ⟨_, _, rfl, _⟩ := h; rfl
  | any => simp [one] at ho
  | tup l => simp [one] at ho
  | agg l => simp [one] at ho

theorem one_cells {c : Value} (h : c.oneCell' = true) : c.cells = #[c] := by
  cases c <;> first | rfl | (simp [Value.oneCell'] at h)

def allOne : List SV → Bool
  | [] => true
  | x :: l => one x && allOne l

theorem repSL_one {ι N w M} : ∀ {l : List SV} {cs : List Value}, RepSL ι N w M l cs → allOne l = true → ∀ v ∈ cs, v.oneCell' = true
  | [], cs, r, _, v, hv => by simp only [RepSL] at r; subst r; simp at hv
  | x :: l, cs, r, h, v, hv => by
    simp only [allOne, Bool.and_eq_true] at h
    simp only [RepSL] at r; obtain ⟨c, cs', rfl, h1, h2⟩ := r
    rcases List.mem_cons.1 hv with rfl | hv
    · exact rep_one h1 h.1
    · exact repSL_one h2 h.2 v hv

/-- a value's cells -/
def cellsO (s : SV) : Option (List SV) :=
  match s with
  | .v (.agg xs) => some (xs.map .v)
  | .agg l => some l
  | s => bif one s then some [s] else none

theorem cellsO_ok {ι N w M s c l} (h : cellsO s = some l) (hs : RepS ι N w M s c) : RepSL ι N w M l c.cells.toList := by
  unfold cellsO at h
  split at h
  · cases h; simp only [RepS, Rep] at hs; obtain ⟨cs, rfl, h⟩ := hs; exact RepSL.ofL h
  · cases h; simp only [RepS] at hs; obtain ⟨cs, rfl, h⟩ := hs; exact h
  · cases ho : one s with
    | false => rw [ho] at h; cases h
    | true =>
      rw [ho] at h; cases h
      rw [one_cells (rep_one hs ho)]
      simp only [RepSL]; exact ⟨c, [], rfl, hs, rfl⟩

/-! ### new objects -/
def valloc (T : TT) (t : Nat) (α : AF) (h : List SO) (K : SV → AF → List SO → Prop) : Prop :=
  onO (T.find t) fun i => forceN h.length fun id => K (.ref id 0) α (h ++ [.cells (i.zero.map fun v => .v (ofVal v))])

def vbox (s : SV) (α : AF) (h : List SO) (K : SV → AF → List SO → Prop) : Prop :=
  onO (cellsO s) fun l => forceN h.length fun id => K (.ref id 0) α (h ++ [.cells l])

theorem push_ok {ι w M h us n a α} {K : SV → AF → List SO → Prop} (H : St ι w M h) (F : FR ι h.length w M n α a) {l : List SV} {cs : Array Value} (e : TypeId) (hr : RepSL ι h.length w M l cs.toList)
    (hk : K (.ref h.length 0) α (h ++ [.cells l])) : Out ι w M h us n a K (.ok (.pointer (some ⟨w.heap.size, 0, none⟩)) { w with heap := w.heap.push (.cells cs e) }) := by
  have hag : Agree ι h.length (upd ι h.length (some (w.heap.size, (0, 0, 0)))) (h.length + 1) := ⟨by omega, fun i hi => upd_ne ι _ (by omega)⟩
  have hkp : Keep w M { w with heap := w.heap.push (.cells cs e) } (fun b => M b ∨ b = w.heap.size) := fun b hb hm =>
    ⟨by rintro (h | h); exact hm h; omega, by show (w.heap.push _)[b]? = _; rw [Array.getElem?_push, if_neg (by omega)]⟩
  obtain ⟨g1, g2, g3, g4⟩ := H.alloc us (.cells l) (.cells cs e) (0, 0, 0) { w with heap := w.heap.push (.cells cs e) } rfl rfl rfl rfl (by
    simp only [StO]
    refine ⟨w.heap.size, (0, 0, 0), cs, e, upd_same _ _ _, .inr rfl, ?_, RepSL.keep hag hkp _ _ hr⟩
    show (w.heap.push _)[w.heap.size]? = _; simp)
  refine ⟨_, _, α, _, _, _, _, rfl, hk, g1, ?_, ?_, g4⟩
  · simpa using F.keep g2 g3
  · simp only [RepS, List.length_append, List.length_singleton]
    exact ⟨by omega, w.heap.size, (0, 0, 0), upd_same _ _ _, rfl⟩

theorem valloc_ok {P : Program} {T : TT} (hT : T.all P = true) {t : Nat} {ι w M h us n a α} {K : SV → AF → List SO → Prop} (hv : valloc T t α h K) (H : St ι w M h) (F : FR ι h.length w M n α a) :
    Out ι w M h us n a K ((Instr.alloc t true (.tuple #[])).run P w) := by
  obtain ⟨i, hi, hv⟩ := onO_some hv
  rw [forceN_eq] at hv
  obtain ⟨z, h1, h2, h3⟩ := run_zero (TT.ok hT t i hi)
  have := push_ok (us := us) H F (cs := z.cells) (l := i.zero.map fun v => .v (ofVal v)) t (by
    rw [h2]
    have := RepSL.ofL (ι := ι) (N := h.length) (repL_ofVal w M i.zero)
    simpa [Function.comp_def] using this) hv
  simpa [Instr.alloc, h1, newVar, newRow] using this

theorem vbox_ok {P : Program} {t : Nat} {s : SV} {c : Value} {ι w M h us n a α} {K : SV → AF → List SO → Prop} (hv : vbox s α h K) (H : St ι w M h) (F : FR ι h.length w M n α a) (hs : RepS ι h.length w M s c) :
    Out ι w M h us n a K ((Instr.box t c).run P w) := by
  obtain ⟨l, hl, hv⟩ := onO_some hv
  rw [forceN_eq] at hv
  have := push_ok (us := us) H F (cs := c.cells) (l := l) t (cellsO_ok hl hs) hv
  simpa [Instr.box, newVar, newRow] using this

def vmakeMap (h : List SO) (α : AF) (K : SV → AF → List SO → Prop) : Prop := forceN h.length fun id => K (.mm id) α (h ++ [.map []])

theorem vmakeMap_ok {P : Program} {t : Nat} {ι w M h us n a α} {K : SV → AF → List SO → Prop} (hv : vmakeMap h α K) (H : St ι w M h) (F : FR ι h.length w M n α a) :
    Out ι w M h us n a K ((Instr.makeMap t none).run P w) := by
  unfold vmakeMap at hv
  rw [forceN_eq] at hv
  obtain ⟨g1, g2, g3, g4⟩ := H.alloc us (.map []) (.map #[] 0) (0, 0, 0) { w with heap := w.heap.push (.map #[] 0) } rfl rfl rfl rfl (by
    simp only [StO]
    refine ⟨w.heap.size, (0, 0, 0), #[], 0, upd_same _ _ _, .inr rfl, ?_, by simp [stamped], by simp, by simp, by simp [RepMap]⟩
    show (w.heap.push _)[w.heap.size]? = _; simp)
  have : Out ι w M h us n a K (.ok (.map (some w.heap.size)) { w with heap := w.heap.push (.map #[] 0) }) := by
    refine ⟨_, _, α, _, _, _, _, rfl, hv, g1, by simpa using F.keep g2 g3, ?_, g4⟩
    simp only [RepS, List.length_append, List.length_singleton]
    exact ⟨by omega, w.heap.size, (0, 0, 0), upd_same _ _ _, rfl⟩
  simpa [Instr.makeMap] using this

/-- a new array, full -/
theorem pushArr_ok {ι w M h us n a α} {K : SV → AF → List SO → Prop} (H : St ι w M h) (F : FR ι h.length w M n α a) {els : List (List AV)} {z : Nat} {cs : Array Value} (e : TypeId) (hz : ∀ x ∈ els, x.length = z)
    (hlen : els.length ≤ maxLen) (hr : RepL w M els.flatten cs.toList)
    (hk : K (.ms h.length) α (h ++ [.arr e z els])) : Out ι w M h us n a K (.ok (.slice (some ⟨w.heap.size, 0, none⟩) els.length els.length) { w with heap := w.heap.push (.cells cs e) }) := by
  have hkp : Keep w M { w with heap := w.heap.push (.cells cs e) } (fun b => M b ∨ b = w.heap.size) := fun b hb hm =>
    ⟨by rintro (h | h); exact hm h; omega, by show (w.heap.push _)[b]? = _; rw [Array.getElem?_push, if_neg (by omega)]⟩
  have hcl := hr.length
  rw [flat_len hz] at hcl
  obtain ⟨g1, g2, g3, g4⟩ := H.alloc us (.arr e z els) (.cells cs e) (els.length, z, els.length) { w with heap := w.heap.push (.cells cs e) } rfl rfl rfl rfl (by
    simp only [StO]
    refine ⟨hz, .inr ⟨w.heap.size, els.length, cs, e, upd_same _ _ _, .inr rfl, ?_, by simpa using hcl, Nat.le_refl _, ⟨hlen, .inr rfl⟩, ?_⟩⟩
    · show (w.heap.push _)[w.heap.size]? = _; simp
    · rw [List.take_of_length_le (by omega)]; exact RepL.keep hkp _ _ hr)
  refine ⟨_, _, α, _, _, _, _, rfl, hk, g1, by simpa using F.keep g2 g3, ?_, g4⟩
  simp only [RepS, List.length_append, List.length_singleton]
  exact ⟨by omega, .inr ⟨w.heap.size, els.length, z, els.length, upd_same _ _ _, rfl⟩⟩

/-! ### filling -/
def setAt : List SV → Nat → List SV → Option (List SV)
  | xs, 0, [] => some xs
  | _ :: xs, 0, v :: vs => match setAt xs 0 vs with
    | some r => some (v :: r)
    | none => none
  | x :: xs, n + 1, vs => match setAt xs n vs with
    | some r => some (x :: r)
    | none => none
  | [], _, _ => none

theorem setAt_ok {ι N w M} : ∀ {xs : List SV} {off : Nat} {vs r : List SV} {cs ds : List Value}, setAt xs off vs = some r → RepSL ι N w M xs cs → RepSL ι N w M vs ds →
    off + vs.length ≤ xs.length ∧ RepSL ι N w M r (cs.take off ++ ds ++ cs.drop (off + ds.length))
  | xs, 0, [], r, cs, ds, h, hx, hv => by
    cases xs <;> simp only [setAt] at h <;> cases h <;> simp only [RepSL] at hv <;> subst hv <;> exact ⟨by simp, by simpa using hx⟩
  | x :: xs, 0, v :: vs, r, cs, ds, h, hx, hv => by
    simp only [setAt] at h
    split at h <;> cases h
    rename_i r' hr
    simp only [RepSL] at hx hv
    obtain ⟨c, cs', rfl, h1, h2⟩ := hx
    obtain ⟨d, ds', rfl, h3, h4⟩ := hv
    obtain ⟨g1, g2⟩ := setAt_ok hr h2 h4
    refine ⟨by simp only [List.length_cons]; omega, ?_⟩
    simp only [RepSL]
    exact ⟨d, ds' ++ cs'.drop ds'.length, by simp, h3, by simpa using g2⟩
  | x :: xs, n + 1, vs, r, cs, ds, h, hx, hv => by
    simp only [setAt] at h
    split at h <;> cases h
    rename_i r' hr
    simp only [RepSL] at hx
    obtain ⟨c, cs', rfl, h1, h2⟩ := hx
    obtain ⟨g1, g2⟩ := setAt_ok hr h2 hv
    refine ⟨by simp only [List.length_cons]; omega, ?_⟩
    simp only [RepSL]
    refine ⟨c, _, ?_, h1, g2⟩
    rw [show n + 1 + ds.length = (n + ds.length) + 1 by omega]
    simp
  | [], n + 1, vs, r, cs, ds, h, hx, hv => by simp [setAt] at h
  | [], 0, v :: vs, r, cs, ds, h, hx, hv => by simp [setAt] at h

def afill (place : Nat → Option (Nat × Nat)) (cells : List SV) : List (Nat × SV) → Option (List SV)
  | [] => some cells
  | (i, s) :: rest =>
    match place i, cellsO s with
    | some (off, size), some l => bif Nat.beq l.length size then (match setAt cells off l with
      | some c => afill place c rest
      | none => none) else none
    | _, _ => none

theorem foldl_set (vs : List Value) : ∀ (k : Nat) (off : Nat) (cs : Array Value), off + k + vs.length ≤ cs.size →
    ((vs.zipIdx k).foldl (fun cs (p : Value × Nat) => cs.setIfInBounds (off + p.2) p.1) cs).toList = cs.toList.take (off + k) ++ vs ++ cs.toList.drop (off + k + vs.length) := by
  induction vs with
  | nil => intro k off cs h; simp
  | cons v vs ih =>
    intro k off cs h
    simp only [List.zipIdx_cons, List.foldl_cons]
    rw [ih (k + 1) off (cs.setIfInBounds (off + k) v) (by simp at h ⊢; omega)]
    simp only [List.length_cons] at h
    have := list_seg_step cs.toList (off + k) v vs (by simp; omega)
    simpa [Array.toList_setIfInBounds, Nat.add_assoc] using this

theorem foldl_arr (vs : Array Value) (off : Nat) (cs : Array Value) (h : off + vs.size ≤ cs.size) :
    (vs.zipIdx.foldl (fun cs (p : Value × Nat) => cs.setIfInBounds (off + p.2) p.1) cs).toList = cs.toList.take off ++ vs.toList ++ cs.toList.drop (off + vs.size) := by
  have := foldl_set vs.toList 0 off cs (by simpa using h)
  rw [← Array.foldl_toList]
  simpa using this

def RepP (ι : Iota) (N : Nat) (w : World) (M : Nat → Prop) : List (Nat × SV) → List (Nat × Value) → Prop
  | [], ps => ps = []
  | (i, s) :: l, ps => ∃ c ps', ps = (i, c) :: ps' ∧ RepS ι N w M s c ∧ RepP ι N w M l ps'

theorem afill_ok {ι N w M place place'} (hp : ∀ i p, place i = some p → place' i = some p) : ∀ {parts : List (Nat × SV)} {parts' : List (Nat × Value)} {cells r : List SV} {cs : Array Value},
    afill place cells parts = some r → RepSL ι N w M cells cs.toList → RepP ι N w M parts parts' → ∃ cs', Instr.fill place' cs parts' = some cs' ∧ RepSL ι N w M r cs'.toList ∧ cs'.size = cs.size
  | [], parts', cells, r, cs, h, hc, hr => by
    simp only [afill] at h; cases h
    simp only [RepP] at hr; subst hr
    exact ⟨cs, rfl, hc, rfl⟩
  | (i, s) :: rest, parts', cells, r, cs, h, hc, hr => by
    simp only [RepP] at hr; obtain ⟨c, ps', rfl, h1, h2⟩ := hr
    simp only [afill] at h
    split at h <;> try (cases h; done)
    rename_i off size l hpl hco
    rcases nbeq (a := l.length) (b := size) with ⟨e, hl⟩ | ⟨e, _⟩
    · rw [e] at h; simp only [cond_true] at h
      split at h <;> try (cases h; done)
      rename_i c2 hc2
      have hcl := cellsO_ok hco h1
      obtain ⟨g1, g2⟩ := setAt_ok hc2 hc hcl
      have hln := hcl.length
      have hcn := hc.length
      simp only [Array.length_toList] at hln hcn
      have hfit : off + c.cells.size ≤ cs.size := by omega
      have hfold := foldl_arr c.cells off cs hfit
      simp only [Array.length_toList] at g2
      rw [← hfold] at g2
      obtain ⟨cs', k1, k2, k3⟩ := afill_ok hp h g2 h2
      refine ⟨cs', ?_, k2, ?_⟩
      · simp only [Instr.fill, hp i _ hpl]
        have : ¬ ((decide (c.cells.size ≠ size) || decide (off + c.cells.size > cs.size)) = true) := by simp; omega
        rw [if_neg this]
        exact k1
      · rw [k3, ← Array.length_toList, hfold]; simp; omega
    · rw [e] at h; cases h

end Go.AV0
