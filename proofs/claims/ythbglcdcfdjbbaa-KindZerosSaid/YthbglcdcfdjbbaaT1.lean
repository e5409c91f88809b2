/- kind: what a type tells. -/
import Derived.Test.YthbglcdcfdjbbaaK5
import Derived.Test.YthbglcdcfdjbbaaMV
namespace Go.AV0
open Go.Proofs

def KT.form : KT → Nat
  | .mk f _ _ _ => f
def KT.l : KT → List KT
  | .mk _ l _ _ => l
def KT.names : KT → List ByteArray
  | .mk _ _ ns _ => ns
def KT.loose : KT → List Bool
  | .mk _ _ _ lo => lo

theorem KT.sz {x : KT} {l : List KT} (h : x ∈ l) (f ns lo) : SizeOf.sizeOf x < SizeOf.sizeOf (KT.mk f l ns lo) := by
  have := List.sizeOf_lt_of_mem h
  simp; omega

theorem KT.ind {P : KT → Prop} (h : ∀ f l ns lo, (∀ x ∈ l, P x) → P (.mk f l ns lo)) : ∀ t, P t := by
  intro t
  have key : ∀ n, ∀ t : KT, SizeOf.sizeOf t ≤ n → P t := by
    intro n
    induction n with
    | zero => intro t ht; cases t; simp at ht
    | succ n ih =>
      intro t ht
      cases t with
      | mk f l ns lo => exact h f l ns lo fun x hx => ih x (by have := KT.sz hx f ns lo; omega)
  exact key _ t (Nat.le_refl _)

theorem kpL_get : ∀ (l : List KT) (i : Nat) (x : KT), l[i]? = some x → (kpL l)[i]? = some [.ptr (kpO x)]
  | [], i, x, h => by simp at h
  | t :: l, 0, x, h => by simp at h; subst h; simp [kpL]
  | t :: l, i + 1, x, h => by simp only [List.getElem?_cons_succ] at h; simpa [kpL] using kpL_get l i x h

/-- a name's place -/
def idxB : List ByteArray → ByteArray → Nat → Option Nat
  | [], _, _ => none
  | x :: l, s, i => if s = x then some i else idxB l s (i + 1)

theorem idxB_none {s : ByteArray} : ∀ {l : List ByteArray} {i : Nat}, (∀ x ∈ l, s ≠ x) → idxB l s i = none
  | [], _, _ => rfl
  | x :: l, i, h => by simp only [idxB]; rw [if_neg (h x (by simp))]; exact idxB_none fun y hy => h y (by simp [hy])

theorem idxB_some {s : ByteArray} : ∀ {l : List ByteArray} {k i : Nat}, l[k]? = some s → (∀ j x, j < k → l[j]? = some x → s ≠ x) → idxB l s i = some (i + k)
  | [], k, i, h, _ => by simp at h
  | x :: l, 0, i, h, _ => by simp at h; subst h; simp [idxB]
  | x :: l, k + 1, i, h, hall => by
    simp only [idxB]
    rw [if_neg (hall 0 x (by omega) rfl), idxB_some (k := k) (i := i + 1) (by simpa using h) (fun j y hj hy => hall (j + 1) y (by omega) (by simpa using hy))]
    congr 1; omega

def intO : Option Nat → Int
  | some i => (i : Int)
  | none => -1

theorem index_t (l : List ByteArray) (s : ByteArray) (hl : l.length ≤ 1000000) : APure Try.prog 50 [.sl (nmA l), .c (.string s)] (fun r => r = .c (.int .i64 (intO (idxB l s 0)))) := by
  refine apure_of hTS Try.func50 (by kernel_rfl) rfl rfl rfl ?_
  refine loop_on hTS (X := Nat) (fun i => i ≤ l.length ∧ ∀ j x, j < i → l[j]? = some x → s ≠ x)
    (fun i => ⟨[(0, .v (.sl (nmA l))), (1, .v (.c (.string s))), (4, .v (.c (.int .i64 0))), (7, .v (.c (.int .i64 ((nmA l).length : Int)))), (8, .v (.c (.int .i64 (i : Int))))], []⟩)
    (fun _ => []) (fun i => l.length - i) 0 ⟨Nat.zero_le _, fun j x h => absurd h (Nat.not_lt_zero _)⟩ ⟨rfl, rfl, (by (repeat' (first | exact trivial | refine ⟨⟨?_, rfl⟩, ?_⟩ | fail)); all_goals (first | (show some (SV.v (AV.c (Value.int .i64 (IntKind.i64.wrap _)))) = _; rw [inc (by omega)]; try rfl) | rfl)), ⟨[], rfl⟩, rfl⟩ ?_
  rintro i ⟨hi, hall⟩
  refine bsplit_d (fun h1 _ => ?_) (fun h1 _ => ?_)
  · rw [nmA_len] at h1
    obtain ⟨x, hx⟩ : ∃ x, l[i]? = some x := ⟨_, List.getElem?_eq_getElem (by omega)⟩
    refine elev (Int.natCast_nonneg _) [AV.c (.string x)] (nmA_get _ _ _ hx) ?_
    refine bsplit_d (fun h2 _ => ?_) (fun h2 _ => ?_)
    · have h2 : s = x := h2
      subst h2
      show AV.c _ = _
      rw [idxB_some (i := 0) hx hall, Nat.zero_add]; rfl
    · have h2 : ¬ s = x := h2
      refine ⟨i + 1, ⟨by omega, ?_⟩, (by dsimp only; omega), ⟨rfl, rfl, (by (repeat' (first | exact trivial | refine ⟨⟨?_, rfl⟩, ?_⟩ | fail)); all_goals (first | (show some (SV.v (AV.c (Value.int .i64 (IntKind.i64.wrap _)))) = _; rw [inc (by omega)]; try rfl) | rfl)), ⟨[], rfl⟩, rfl⟩⟩
      intro j y hj hy
      rcases Nat.lt_or_ge j i with h9 | h9
      · exact hall j y h9 hy
      · have : j = i := by omega
        subst this
        rw [hx] at hy; cases hy; exact h2
  · rw [nmA_len] at h1
    have hil : i = l.length := by omega
    show AV.c _ = _
    rw [idxB_none fun x hx => by
      obtain ⟨j, hj⟩ := List.mem_iff_getElem?.1 hx
      exact hall j x (by have := get_lt hj; omega) hj]
    rfl

/-- the type of a name -/
def kfield (t : KT) (s : ByteArray) : Option KT := (idxB t.names s 0).bind fun i => t.l[i]?

def ptrO : Option KT → AV
  | some t => .ptr (kpO t)
  | none => .ptr none

theorem field_t (t : KT) (s : ByteArray) (h1 : t.names.length ≤ t.l.length) (h2 : t.names.length ≤ 1000000) : APure Try.prog 17 [kp t, .c (.string s)] (fun r => r = .tup [ptrO (kfield t s), .c (.bool (kfield t s).isSome)]) := by
  obtain ⟨f, l, ns, lo⟩ := t
  simp only [KT.names, KT.l] at h1 h2
  refine apure_of hTS Try.func17 (by kernel_rfl) rfl rfl rfl ?_
  repeat' (first | refine bsplit_t (by first | with_reducible assumption | with_reducible rfl | with_reducible exact Bool.not_true | with_reducible exact Bool.not_false) ?_ | refine bsplit_f (by first | with_reducible assumption | with_reducible rfl | with_reducible exact Bool.not_true | with_reducible exact Bool.not_false) ?_ | fail)
  refine call_pure (index_t ns s h2) rfl ?_
  rintro _ rfl
  cases hi : idxB ns s 0 with
  | none =>
    refine bsplit_t (by decide) ?_
    show AV.tup _ = _
    simp only [kfield, KT.names, hi]; rfl
  | some i =>
    have hlt : i < ns.length := by
      have key : ∀ (l : List ByteArray) (k i : Nat), idxB l s k = some i → i < k + l.length := by
        intro l
        induction l with
        | nil => intro k i h; cases h
        | cons x l ih =>
          intro k i h
          simp only [idxB] at h
          split at h
          · cases h; simp
          · have := ih _ _ h; simp; omega
      have := key ns 0 i hi
      omega
    obtain ⟨x, hx⟩ : ∃ x, l[i]? = some x := ⟨_, List.getElem?_eq_getElem (by omega)⟩
    refine bsplit_f (decide_eq_false (by show ¬ ((i : Nat) : Int) < 0; omega)) ?_
    refine elev (Int.natCast_nonneg _) [AV.ptr (kpO x)] (kpL_get _ _ _ hx) ?_
    show AV.tup _ = _
    simp only [kfield, KT.names, KT.l, hi, Option.bind_some, hx]; rfl

theorem field_n (s : ByteArray) : APure Try.prog 17 [.ptr none, .c (.string s)] (fun r => r = .tup [.ptr none, .c (.bool false)]) := by
  refine apure_of hTS Try.func17 (by kernel_rfl) rfl rfl rfl ?_
  repeat' (first | refine bsplit_t (by first | with_reducible assumption | with_reducible rfl | with_reducible exact Bool.not_true | with_reducible exact Bool.not_false) ?_ | refine bsplit_f (by first | with_reducible assumption | with_reducible rfl | with_reducible exact Bool.not_true | with_reducible exact Bool.not_false) ?_ | fail)
  show AV.tup _ = _
  rfl

theorem names_t (t : KT) (h2 : t.names.length ≤ 1000000) : APure Try.prog 21 [kp t] (fun r => r = .sl (nmA t.names)) := by
  obtain ⟨f, l, ns, lo⟩ := t
  refine apure_of hTS Try.func21 (by kernel_rfl) rfl rfl rfl ?_
  repeat' (first | refine bsplit_t (by first | with_reducible assumption | with_reducible rfl | with_reducible exact Bool.not_true | with_reducible exact Bool.not_false) ?_ | refine bsplit_f (by first | with_reducible assumption | with_reducible rfl | with_reducible exact Bool.not_true | with_reducible exact Bool.not_false) ?_ | fail)
  refine call_pure (cloneS_v ns h2) rfl ?_
  rintro _ rfl
  show AV.sl _ = _
  rfl

theorem names_n : APure Try.prog 21 [.ptr none] (fun r => r = .sl []) := by
  refine apure_of hTS Try.func21 (by kernel_rfl) rfl rfl rfl ?_
  repeat' (first | refine bsplit_t (by first | with_reducible assumption | with_reducible rfl | with_reducible exact Bool.not_true | with_reducible exact Bool.not_false) ?_ | refine bsplit_f (by first | with_reducible assumption | with_reducible rfl | with_reducible exact Bool.not_true | with_reducible exact Bool.not_false) ?_ | fail)
  show nrm (AV.c _) = _
  rfl

def holdsK (f : Nat) : Int := if f < 5 then 0 else if f = 6 ∨ f = 8 then 7 else 6

theorem holds_t (t : KT) : APure Try.prog 44 [kp t] (fun r => r = .c (.int .i64 (holdsK t.form))) := by
  obtain ⟨f, l, ns, lo⟩ := t
  refine apure_of hTS Try.func44 (by kernel_rfl) rfl rfl rfl ?_
  repeat' (first | refine bsplit_t (by first | with_reducible assumption | with_reducible rfl | with_reducible exact Bool.not_true | with_reducible exact Bool.not_false) ?_ | refine bsplit_f (by first | with_reducible assumption | with_reducible rfl | with_reducible exact Bool.not_true | with_reducible exact Bool.not_false) ?_ | fail)
  refine bsplit_d (fun h1 _ => ?_) (fun h1 _ => ?_)
  · show AV.c _ = _
    have : f < 5 := by omega
    show _ = AV.c (.int .i64 (holdsK f))
    rw [show holdsK f = 0 from if_pos this]
  · have h5 : ¬ f < 5 := by omega
    refine bsplit_d (fun h2 _ => ?_) (fun h2 _ => ?_)
    · repeat' (first | refine bsplit_t (by first | with_reducible assumption | with_reducible rfl | with_reducible exact Bool.not_true | with_reducible exact Bool.not_false) ?_ | refine bsplit_f (by first | with_reducible assumption | with_reducible rfl | with_reducible exact Bool.not_true | with_reducible exact Bool.not_false) ?_ | fail)
      show AV.c _ = _
      have : f = 6 := by omega
      show _ = AV.c (.int .i64 (holdsK f))
      rw [this]; rfl
    · repeat' (first | refine bsplit_t (by first | with_reducible assumption | with_reducible rfl | with_reducible exact Bool.not_true | with_reducible exact Bool.not_false) ?_ | refine bsplit_f (by first | with_reducible assumption | with_reducible rfl | with_reducible exact Bool.not_true | with_reducible exact Bool.not_false) ?_ | fail)
      refine bsplit_d (fun h3 _ => ?_) (fun h3 _ => ?_)
      · show AV.c _ = _
        have : f = 8 := by omega
        show _ = AV.c (.int .i64 (holdsK f))
        rw [this]; rfl
      · show AV.c _ = _
        have h6 : ¬ (f = 6 ∨ f = 8) := by omega
        show _ = AV.c (.int .i64 (holdsK f))
        rw [show holdsK f = 6 from (if_neg h5).trans (if_neg h6)]

theorem holds_n : APure Try.prog 44 [.ptr none] (fun r => r = .c (.int .i64 0)) := by
  refine apure_of hTS Try.func44 (by kernel_rfl) rfl rfl rfl ?_
  repeat' (first | refine bsplit_t (by first | with_reducible assumption | with_reducible rfl | with_reducible exact Bool.not_true | with_reducible exact Bool.not_false) ?_ | refine bsplit_f (by first | with_reducible assumption | with_reducible rfl | with_reducible exact Bool.not_true | with_reducible exact Bool.not_false) ?_ | fail)
  show AV.c _ = _
  rfl

end Go.AV0
