/- kind: depth, what is missing, plain types. -/
import Derived.Test.YthbglcdcfdjbbaaT1
namespace Go.AV0
open Go.Proofs

mutual
def kDeep : KT → Nat
  | .mk _ l _ _ => kDeepL l + 1
def kDeepL : List KT → Nat
  | [] => 0
  | t :: l => max (kDeep t) (kDeepL l)
end

theorem kDeepL_app : ∀ (l : List KT) (x : KT), kDeepL (l ++ [x]) = max (kDeepL l) (kDeep x)
  | [], x => by simp [kDeepL]
  | t :: l, x => by simp only [List.cons_append, kDeepL, kDeepL_app l x]; omega

theorem kDeepL_mem : ∀ {l : List KT} {x : KT}, x ∈ l → kDeep x ≤ kDeepL l
  | t :: l, x, h => by
    simp only [kDeepL]
    rcases List.mem_cons.1 h with rfl | h
    · omega
    · have := kDeepL_mem h; omega

/-- rising names -/
def rises : List ByteArray → Prop
  | [] => True
  | x :: l => (∀ y ∈ l, x.data.toList < y.data.toList) ∧ rises l

theorem rises_nodup : ∀ {l : List ByteArray}, rises l → l.Nodup
  | [], _ => List.nodup_nil
  | x :: l, h => by
    refine List.nodup_cons.2 ⟨fun hx => ?_, rises_nodup h.2⟩
    exact List.lt_irrefl _ (h.1 x hx)

mutual
/-- what the reader makes -/
def wfK : KT → Prop
  | .mk f l ns lo => f ≤ 8 ∧ l.length ≤ 16 ∧ (f < 5 → l = []) ∧ (f = 5 ∨ f = 6 → l.length = 1) ∧ (f = 8 → ns.length = l.length) ∧ (f ≠ 8 → ns = []) ∧ lo.length = ns.length ∧ (∀ s ∈ ns, s.size ≤ 20) ∧ rises ns ∧ wfL l
def wfL : List KT → Prop
  | [] => True
  | t :: l => wfK t ∧ wfL l
end

theorem wfL_mem : ∀ {l : List KT} {x : KT}, wfL l → x ∈ l → wfK x
  | t :: l, x, h, hx => by
    simp only [wfL] at h
    rcases List.mem_cons.1 hx with rfl | hx
    · exact h.1
    · exact wfL_mem h.2 hx

theorem wfL_app : ∀ {l : List KT} {x : KT}, wfL l → wfK x → wfL (l ++ [x])
  | [], x, _, hx => by simp [wfL, hx]
  | t :: l, x, h, hx => by
    simp only [wfL] at h
    simp only [List.cons_append, wfL]; exact ⟨h.1, wfL_app h.2 hx⟩

theorem deep_t : ∀ (t : KT), wfK t → kDeep t ≤ 1000000 → APure Try.prog 22 [kp t] (fun r => r = .c (.int .i64 (kDeep t : Int))) := by
  intro t
  induction t using KT.ind with
  | _ f l ns lo ih =>
  intro hwf hd
  have hd : kDeepL l + 1 ≤ 1000000 := hd
  simp only [wfK] at hwf
  obtain ⟨_, hl16, _, _, _, _, _, _, _, hwl⟩ := hwf
  refine apure_of hTS Try.func22 (by kernel_rfl) rfl rfl rfl ?_
  repeat' (first | refine bsplit_t (by first | with_reducible assumption | with_reducible rfl | with_reducible exact Bool.not_true | with_reducible exact Bool.not_false) ?_ | refine bsplit_f (by first | with_reducible assumption | with_reducible rfl | with_reducible exact Bool.not_true | with_reducible exact Bool.not_false) ?_ | fail)
  refine loop_on hTS (X := Nat) (fun i => i ≤ l.length)
    (fun i => ⟨[(3, .v (.c (.int .i64 (kDeepL (l.take i) : Int)))), (11, .v (.sl (kpL l))), (12, .v (.c (.int .i64 ((kpL l).length : Int)))), (13, .v (.c (.int .i64 (i : Int))))], []⟩)
    (fun _ => []) (fun i => l.length - i) 0 (Nat.zero_le _) ⟨rfl, rfl, (by (repeat' (first | exact trivial | refine ⟨⟨?_, rfl⟩, ?_⟩ | fail)); all_goals (first | (show some (SV.v (AV.c (Value.int .i64 (IntKind.i64.wrap _)))) = _; rw [inc (by omega)]; try rfl) | rfl)), ⟨_, rfl⟩, rfl⟩ ?_
  intro i hi
  refine bsplit_d (fun h1 _ => ?_) (fun h1 _ => ?_)
  · rw [kpL_len] at h1
    obtain ⟨x, hx⟩ : ∃ x, l[i]? = some x := ⟨_, List.getElem?_eq_getElem (by omega)⟩
    have hmem := List.mem_of_getElem? hx
    have hx1 := kDeepL_mem hmem
    refine elev (Int.natCast_nonneg _) [AV.ptr (kpO x)] (kpL_get _ _ _ hx) ?_
    refine call_pure (ih x hmem (wfL_mem hwl hmem) (by omega)) rfl ?_
    rintro _ rfl
    have hmax : max (kDeepL (l.take i) : Int) (kDeep x : Int) = (kDeepL (l.take (i + 1)) : Int) := by rw [take_succ hx, kDeepL_app]; omega
    refine ⟨i + 1, by omega, (by dsimp only; omega), ⟨rfl, rfl, ⟨⟨congrArg (fun x => some (SV.v (AV.c (.int .i64 x)))) hmax, rfl⟩, ⟨rfl, rfl⟩, ⟨rfl, rfl⟩, ⟨congrArg (fun x => some (SV.v (AV.c (.int .i64 x)))) (inc (k := i) (by omega)), rfl⟩, trivial⟩, ⟨[], rfl⟩, rfl⟩⟩
  · rw [kpL_len] at h1
    have hil : i = l.length := by omega
    subst hil
    show AV.c (.int .i64 (IntKind.i64.wrap ((kDeepL (l.take l.length) : Int) + 1))) = _
    rw [List.take_length, inc (by omega)]; rfl

theorem deep_n : APure Try.prog 22 [.ptr none] (fun r => r = .c (.int .i64 0)) := by
  refine apure_of hTS Try.func22 (by kernel_rfl) rfl rfl rfl ?_
  repeat' (first | refine bsplit_t (by first | with_reducible assumption | with_reducible rfl | with_reducible exact Bool.not_true | with_reducible exact Bool.not_false) ?_ | refine bsplit_f (by first | with_reducible assumption | with_reducible rfl | with_reducible exact Bool.not_true | with_reducible exact Bool.not_false) ?_ | fail)
  show AV.c _ = _
  rfl

/-- the names that a map hasn't, and must have -/
def missK (v : VT) : List ByteArray → List Bool → List ByteArray
  | s :: ns, q :: lo => if (vAt v s).isSome = true ∨ q = true then missK v ns lo else s :: missK v ns lo
  | _, _ => []

theorem missK_snoc (v : VT) (s : ByteArray) (q : Bool) : ∀ (ns : List ByteArray) (lo : List Bool), ns.length = lo.length → missK v (ns ++ [s]) (lo ++ [q]) = missK v ns lo ++ (if (vAt v s).isSome = true ∨ q = true then [] else [s])
  | [], [], _ => by simp [missK]
  | n :: ns, o :: lo, h => by
    simp only [List.cons_append, missK]
    rw [missK_snoc v s q ns lo (by simpa using h)]
    split <;> simp
  | [], _ :: _, h => by simp at h
  | _ :: _, [], h => by simp at h

set_option maxRecDepth 20000 in
theorem missing_t (t : KT) (v : VT) (h1 : t.names.length = t.loose.length) (h2 : t.names.length ≤ 1000000) : APure Try.prog 70 [kp t, vtA v] (fun r => r = .sl (nmA (missK v t.names t.loose))) := by
  obtain ⟨f, l, ns, lo⟩ := t
  simp only [KT.names, KT.loose] at h1 h2 ⊢
  refine apure_of hTS Try.func70 (by kernel_rfl) rfl rfl rfl ?_
  repeat' (first | refine bsplit_t (by first | with_reducible assumption | with_reducible rfl | with_reducible exact Bool.not_true | with_reducible exact Bool.not_false) ?_ | refine bsplit_f (by first | with_reducible assumption | with_reducible rfl | with_reducible exact Bool.not_true | with_reducible exact Bool.not_false) ?_ | fail)
  refine loop_own_t 5 9 1 rfl ?_
  refine loop_on hTS (X := Nat) (fun i => i ≤ ns.length)
    (fun i => ⟨[(0, .v (kp (.mk f l ns lo))), (3, .ref 0 0), (5, .ms 1), (15, .v (.sl (nmA ns))), (16, .v (.c (.int .i64 ((nmA ns).length : Int)))), (17, .v (.c (.int .i64 (i : Int))))], []⟩)
    (fun i => [.cells [.v (.ifc (vtO v))], .arr 9 1 (nmA (missK v (ns.take i) (lo.take i)))]) (fun i => ns.length - i) 0 (Nat.zero_le _) ⟨rfl, rfl, (by (repeat' (first | exact trivial | refine ⟨⟨?_, rfl⟩, ?_⟩ | fail)); all_goals (first | (show some (SV.v (AV.c (Value.int .i64 (IntKind.i64.wrap _)))) = _; rw [inc (by omega)]; try rfl) | rfl)), ⟨_, rfl⟩, rfl⟩ ?_
  intro i hi
  have hml : (missK v (ns.take i) (lo.take i)).length ≤ 1000000 := by
    have key : ∀ (ns : List ByteArray) (lo : List Bool), (missK v ns lo).length ≤ ns.length := by
      intro ns
      induction ns with
      | nil => intro lo; simp [missK]
      | cons s ns ih =>
        intro lo
        cases lo with
        | nil => simp [missK]
        | cons q lo => simp only [missK]; have := ih lo; split <;> simp <;> omega
    have := key (ns.take i) (lo.take i)
    simp at this; omega
  refine bsplit_d (fun h3 _ => ?_) (fun h3 _ => ?_)
  · rw [nmA_len] at h3
    obtain ⟨s, hs⟩ : ∃ x, ns[i]? = some x := ⟨_, List.getElem?_eq_getElem (by omega)⟩
    obtain ⟨q, hq⟩ : ∃ x, lo[i]? = some x := ⟨_, List.getElem?_eq_getElem (by omega)⟩
    have hsn := missK_snoc v s q (ns.take i) (lo.take i) (by simp; omega)
    rw [← take_succ hs, ← take_succ hq] at hsn
    refine elev (Int.natCast_nonneg _) [AV.c (.string s)] (nmA_get _ _ _ hs) ?_
    refine call_pure (at_v v s) rfl ?_
    rintro _ rfl
    cases ha : (vAt v s).isSome with
    | true =>
      repeat' (first | refine bsplit_t (by first | with_reducible assumption | with_reducible rfl | with_reducible exact Bool.not_true | with_reducible exact Bool.not_false) ?_ | refine bsplit_f (by first | with_reducible assumption | with_reducible rfl | with_reducible exact Bool.not_true | with_reducible exact Bool.not_false) ?_ | fail)
      refine ⟨i + 1, by omega, (by dsimp only; omega), ⟨rfl, rfl, ⟨⟨rfl, rfl⟩, ⟨rfl, rfl⟩, ⟨rfl, rfl⟩, ⟨rfl, rfl⟩, ⟨rfl, rfl⟩, ⟨congrArg (fun x => some (SV.v (AV.c (.int .i64 x)))) (inc (k := i) (by omega)), rfl⟩, trivial⟩, ⟨_, by
        show (_ : List SO) = [.cells [.v (.ifc (vtO v))], .arr 9 1 (nmA (missK v (ns.take (i + 1)) (lo.take (i + 1))))] ++ _
        rw [(hsn.trans (by rw [if_pos (.inl ha)]; simp) : _ = missK v (ns.take i) (lo.take i))]; rfl⟩, rfl⟩⟩
    | false =>
      repeat' (first | refine bsplit_t (by first | with_reducible assumption | with_reducible rfl | with_reducible exact Bool.not_true | with_reducible exact Bool.not_false) ?_ | refine bsplit_f (by first | with_reducible assumption | with_reducible rfl | with_reducible exact Bool.not_true | with_reducible exact Bool.not_false) ?_ | fail)
      refine elev (Int.natCast_nonneg _) [AV.c (.bool q)] (boA_get _ _ _ hq) ?_
      repeat' (first | refine bsplit_t (by first | with_reducible assumption | with_reducible rfl | with_reducible exact Bool.not_true | with_reducible exact Bool.not_false) ?_ | refine bsplit_f (by first | with_reducible assumption | with_reducible rfl | with_reducible exact Bool.not_true | with_reducible exact Bool.not_false) ?_ | fail)
      cases q with
      | true =>
        repeat' (first | refine bsplit_t (by first | with_reducible assumption | with_reducible rfl | with_reducible exact Bool.not_true | with_reducible exact Bool.not_false) ?_ | refine bsplit_f (by first | with_reducible assumption | with_reducible rfl | with_reducible exact Bool.not_true | with_reducible exact Bool.not_false) ?_ | fail)
        refine ⟨i + 1, by omega, (by dsimp only; omega), ⟨rfl, rfl, ⟨⟨rfl, rfl⟩, ⟨rfl, rfl⟩, ⟨rfl, rfl⟩, ⟨rfl, rfl⟩, ⟨rfl, rfl⟩, ⟨congrArg (fun x => some (SV.v (AV.c (.int .i64 x)))) (inc (k := i) (by omega)), rfl⟩, trivial⟩, ⟨_, by
          show (_ : List SO) = [.cells [.v (.ifc (vtO v))], .arr 9 1 (nmA (missK v (ns.take (i + 1)) (lo.take (i + 1))))] ++ _
          rw [(hsn.trans (by simp) : _ = missK v (ns.take i) (lo.take i))]; rfl⟩, rfl⟩⟩
      | false =>
        repeat' (first | refine bsplit_t (by first | with_reducible assumption | with_reducible rfl | with_reducible exact Bool.not_true | with_reducible exact Bool.not_false) ?_ | refine bsplit_f (by first | with_reducible assumption | with_reducible rfl | with_reducible exact Bool.not_true | with_reducible exact Bool.not_false) ?_ | fail)
        refine side ⟨nmA_one [s], ?_⟩ ?_
        · rw [nmA_len]; show ((missK v (ns.take i) (lo.take i)).length + 1) * 17 ≤ 70368744177664; omega
        refine ⟨i + 1, by omega, (by dsimp only; omega), ⟨rfl, rfl, ⟨⟨rfl, rfl⟩, ⟨rfl, rfl⟩, ⟨rfl, rfl⟩, ⟨rfl, rfl⟩, ⟨rfl, rfl⟩, ⟨congrArg (fun x => some (SV.v (AV.c (.int .i64 x)))) (inc (k := i) (by omega)), rfl⟩, trivial⟩, ⟨_, by
          show (_ : List SO) = [.cells [.v (.ifc (vtO v))], .arr 9 1 (nmA (missK v (ns.take (i + 1)) (lo.take (i + 1))))] ++ _
          rw [hsn, if_neg (by simp [ha]), nmA_app]; rfl⟩, rfl⟩⟩
  · rw [nmA_len] at h3
    have hil : i = ns.length := by omega
    subst hil
    show AV.sl (nmA (missK v (ns.take ns.length) (lo.take ns.length))) = _
    rw [List.take_length, h1, List.take_length]

end Go.AV0
