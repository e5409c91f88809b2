/- kind: where a value is wrong. -/
import Derived.Test.YthbglcdcfdjbbaaT3
namespace Go.AV0
open Go.Proofs

theorem plain_t (t : KT) (v : VT) : APure Try.prog 43 [kp t, vtA v] (fun r => r = .c (.bool (plainB t.form v))) := by
  obtain ⟨f, l, ns, lo⟩ := t
  show APure _ _ _ (fun r => r = .c (.bool (plainB f v)))
  refine apure_of hTS Try.func43 (by kernel_rfl) rfl rfl rfl ?_
  refine call_pure (kind_v v) rfl ?_
  rintro _ rfl
  refine bsplit_d (fun h1 _ => ?_) (fun h1 _ => ?_)
  · have h1 : f = 1 := by omega
    subst h1
    show AV.c _ = _
    rfl
  refine bsplit_d (fun h2 _ => ?_) (fun h2 _ => ?_)
  · have h2 : f = 2 := by omega
    subst h2
    show AV.c _ = _
    rfl
  refine bsplit_d (fun h3 _ => ?_) (fun h3 _ => ?_)
  · have h3 : f = 3 := by omega
    subst h3
    refine bsplit_d (fun h4 e4 => ?_) (fun h4 e4 => ?_)
    · repeat' (first | refine bsplit_t (by first | with_reducible assumption | with_reducible rfl | with_reducible exact Bool.not_true | with_reducible exact Bool.not_false) ?_ | refine bsplit_f (by first | with_reducible assumption | with_reducible rfl | with_reducible exact Bool.not_true | with_reducible exact Bool.not_false) ?_ | fail)
      show AV.c _ = AV.c (.bool (decide (kindV v = 4) || isNearV v))
      rw [e4]; rfl
    · repeat' (first | refine bsplit_t (by first | with_reducible assumption | with_reducible rfl | with_reducible exact Bool.not_true | with_reducible exact Bool.not_false) ?_ | refine bsplit_f (by first | with_reducible assumption | with_reducible rfl | with_reducible exact Bool.not_true | with_reducible exact Bool.not_false) ?_ | fail)
      refine call_pure (near_k v) rfl ?_
      rintro _ rfl
      repeat' (first | refine bsplit_t (by first | with_reducible assumption | with_reducible rfl | with_reducible exact Bool.not_true | with_reducible exact Bool.not_false) ?_ | refine bsplit_f (by first | with_reducible assumption | with_reducible rfl | with_reducible exact Bool.not_true | with_reducible exact Bool.not_false) ?_ | fail)
      show AV.c _ = AV.c (.bool (decide (kindV v = 4) || isNearV v))
      rw [e4]; rfl
  have hpl : plainB f v = if f = 4 then decide (kindV v = 5) else true := by
    unfold plainB
    rw [if_neg (by omega), if_neg (by omega), if_neg (by omega)]
  rw [hpl]
  refine bsplit_d (fun h4 _ => ?_) (fun h4 _ => ?_)
  · have h4 : f = 4 := by omega
    rw [if_pos h4]
    show AV.c _ = _
    rfl
  · rw [if_neg (by omega)]
    show AV.c _ = _
    rfl

def wrA : Option (List StepV) → AV
  | none => .tup [.sl [], .c (.bool false)]
  | some p => .tup [.sl (stsA p), .c (.bool true)]

/-- what is known of the types in a list -/
def WrongC (t : KT) : Prop := ∀ v, okV v → APure Try.prog 14 [kp t, vtA v] (fun r => r = wrA (wrongK t v))

set_option maxRecDepth 20000 in
theorem inner_t (l : List KT) (vs : List VT) (ss : List StepV) (hih : ∀ x ∈ l, WrongC x) (hok : ∀ v ∈ vs, okV v) (hlen : vs.length = ss.length) (hne : vs ≠ [] → l ≠ []) (hl : l.length ≤ 1000000) (hvl : vs.length ≤ 1000000) (hpl : ∀ x ∈ l, ∀ v p, wrongK x v = some p → p.length ≤ 1000000) :
    APure Try.prog 46 [.sl (kpL l), .sl (vtL vs), .sl (stsA ss)] (fun r => r = wrA (innerF (wrongF l) 0 vs ss)) := by
  refine apure_of hTS Try.func46 (by kernel_rfl) rfl rfl rfl ?_
  refine loop_on hTS (X := Nat) (fun i => i ≤ vs.length ∧ innerF (wrongF l) 0 vs ss = innerF (wrongF l) i (vs.drop i) (ss.drop i))
    (fun i => ⟨[(0, .v (.sl (kpL l))), (2, .v (.sl (stsA ss))), (6, .v (.c (.slice none 0 0))), (7, .v (.c (.bool false))), (12, .v (.sl (vtL vs))), (13, .v (.c (.int .i64 ((vtL vs).length : Int)))), (14, .v (.c (.int .i64 (i : Int))))], []⟩)
    (fun i => []) (fun i => vs.length - i) 0 ⟨Nat.zero_le _, rfl⟩ ⟨rfl, rfl, (by (repeat' (first | exact trivial | refine ⟨⟨?_, rfl⟩, ?_⟩ | fail)); all_goals (first | (show some (SV.v (AV.c (Value.int .i64 (IntKind.i64.wrap _)))) = _; rw [inc (by omega)]; try rfl) | rfl)), ⟨_, rfl⟩, rfl⟩ ?_
  rintro i ⟨hi, hres⟩
  rw [hres]
  refine bsplit_d (fun h1 _ => ?_) (fun h1 _ => ?_)
  · rw [vtL_len] at h1
    have hlt : i < vs.length := by omega
    obtain ⟨v, hv⟩ : ∃ v, vs[i]? = some v := ⟨_, List.getElem?_eq_getElem hlt⟩
    obtain ⟨s, hs⟩ : ∃ s, ss[i]? = some s := ⟨_, List.getElem?_eq_getElem (by omega)⟩
    have hne' : l ≠ [] := hne (by intro e; rw [e] at hlt; simp at hlt)
    have hl0 : 0 < l.length := List.length_pos_iff.2 hne'
    obtain ⟨x, hx⟩ : ∃ x, l[min i (l.length - 1)]? = some x := ⟨_, List.getElem?_eq_getElem (by omega)⟩
    have hmem := List.mem_of_getElem? hx
    have hd1 : vs.drop i = v :: vs.drop (i + 1) := by
      rw [List.drop_eq_getElem_cons hlt]; congr
      rw [List.getElem?_eq_getElem hlt] at hv; exact Option.some.inj hv
    have hd2 : ss.drop i = s :: ss.drop (i + 1) := by
      have hlt2 : i < ss.length := by omega
      rw [List.drop_eq_getElem_cons hlt2]; congr
      rw [List.getElem?_eq_getElem hlt2] at hs; exact Option.some.inj hs
    have hstep : innerF (wrongF l) i (vs.drop i) (ss.drop i) = match wrongK x v with
        | some p => some (s :: p)
        | none => innerF (wrongF l) (i + 1) (vs.drop (i + 1)) (ss.drop (i + 1)) := by
      rw [hd1, hd2]
      simp only [innerF, wrongF_len, wrongF_get hx]; rfl
    have hmin : min (i : Int) (IntKind.i64.wrap (((kpL l).length : Int) - 1)) = ((min i (l.length - 1) : Nat) : Int) := by
      rw [kpL_len, wr (by omega) (by omega)]; omega
    refine elev (Int.natCast_nonneg _) [AV.ifc (vtO v)] (vtL_get _ _ _ hv) ?_
    refine draw_ev hTS (by kernel_rfl) (.pur 0 (.pur 1 (.pur 2 (.part [] [] (.take 3 (.pur 4 (.pur 5 (.pur 6 (.take 7 (.one 8 (.one 9 (.pur 10 (.pur 11 (.pur 12 (.pur 13 (.pur 14 .done)))))))))))))))) (by kernel_rfl) ?_
    refine elev (by rw [hmin]; exact Int.natCast_nonneg _) [AV.ptr (kpO x)] (by rw [hmin]; exact kpL_get _ _ _ hx) ?_
    refine call_pure (hih x hmem v (hok v (List.mem_of_getElem? hv))) rfl ?_
    rintro _ rfl
    rw [hstep]
    cases hw : wrongK x v with
    | some p =>
      simp only
      have hp := hpl x hmem v p hw
      repeat' (first | refine bsplit_t (by first | with_reducible assumption | with_reducible rfl | with_reducible exact Bool.not_true | with_reducible exact Bool.not_false) ?_ | refine bsplit_f (by first | with_reducible assumption | with_reducible rfl | with_reducible exact Bool.not_true | with_reducible exact Bool.not_false) ?_ | fail)
      refine elev (Int.natCast_nonneg _) [AV.c (.string s.1), .c (.int .i64 s.2)] (stsA_get _ _ _ hs) ?_
      refine side ⟨stsA_one p, ?_⟩ ?_
      · rw [stsA_len]; show (1 + p.length) * 25 ≤ 70368744177664; omega
      show AV.tup _ = _
      rfl
    | none =>
      simp only
      repeat' (first | refine bsplit_t (by first | with_reducible assumption | with_reducible rfl | with_reducible exact Bool.not_true | with_reducible exact Bool.not_false) ?_ | refine bsplit_f (by first | with_reducible assumption | with_reducible rfl | with_reducible exact Bool.not_true | with_reducible exact Bool.not_false) ?_ | fail)
      exact ⟨i + 1, ⟨by omega, rfl⟩, (by dsimp only; omega), ⟨rfl, rfl, (by (repeat' (first | exact trivial | refine ⟨⟨?_, rfl⟩, ?_⟩ | fail)); all_goals (first | (show some (SV.v (AV.c (Value.int .i64 (IntKind.i64.wrap _)))) = _; rw [inc (by omega)]; try rfl) | rfl)), ⟨_, rfl⟩, rfl⟩⟩
  · rw [vtL_len] at h1
    have hil : i = vs.length := by omega
    subst hil
    show AV.tup _ = _
    rw [List.drop_length]
    rfl

theorem idxB_lt : ∀ (l : List ByteArray) (s : ByteArray) (k i : Nat), idxB l s k = some i → k ≤ i ∧ i < k + l.length
  | [], s, k, i, h => by cases h
  | x :: l, s, k, i, h => by
    simp only [idxB] at h
    split at h
    · cases h; simp
    · have := idxB_lt l s _ _ h; simp; omega

set_option maxRecDepth 20000 in
theorem object_t (f : Nat) (l : List KT) (ns : List ByteArray) (lo : List Bool) (v : VT) (es : List (ByteArray × VT)) (hv : v = .map es) (hok : okV v) (hih : ∀ x ∈ l, WrongC x) (hoi : ∀ x ∈ vitems v, okV x) (hn1 : ns.length = l.length) (hn2 : ns.length = lo.length) (hl : l.length ≤ 1000000) (hpl : ∀ x ∈ l, ∀ v p, wrongK x v = some p → p.length ≤ 1000000) :
    APure Try.prog 45 [kp (.mk f l ns lo), vtA v] (fun r => r = wrA (match objF (wrongF l) ns (vkeys v) (vitems v) with
      | some p => some p
      | none => match missK v ns lo with
        | s :: _ => some [keyS s]
        | [] => none)) := by
  have hil : (vitems v).length = (vkeys v).length := by subst hv; simp [vitems, vkeys]
  have hkl : (vkeys v).length ≤ 1000000 := by
    subst hv
    simp only [okV] at hok
    show (skeys es).length ≤ _
    rw [(skeys_perm es).length_eq]; simpa using hok.1
  refine apure_of hTS Try.func45 (by kernel_rfl) rfl rfl rfl ?_
  refine call_pure (items_v v hok) rfl ?_
  rintro _ rfl
  refine call_pure (keys_v v hok) rfl ?_
  rintro _ rfl
  refine loop_on hTS (X := Nat) (fun i => i ≤ (vkeys v).length ∧ objF (wrongF l) ns (vkeys v) (vitems v) = objF (wrongF l) ns ((vkeys v).drop i) ((vitems v).drop i))
    (fun i => ⟨[(0, .v (kp (.mk f l ns lo))), (3, .ref 0 0), (4, .v (.c (.slice none 0 0))), (5, .v (.c (.bool false))), (6, .v (.sl (vtL (vitems v)))), (18, .v (.sl (nmA (vkeys v)))), (19, .v (.c (.int .i64 ((nmA (vkeys v)).length : Int)))), (20, .v (.c (.int .i64 (i : Int))))], []⟩)
    (fun i => [.cells [.v (.ifc (vtO v))]]) (fun i => (vkeys v).length - i) 0 ⟨Nat.zero_le _, rfl⟩ ⟨rfl, rfl, (by (repeat' (first | exact trivial | refine ⟨⟨?_, rfl⟩, ?_⟩ | fail)); all_goals (first | (show some (SV.v (AV.c (Value.int .i64 (IntKind.i64.wrap _)))) = _; rw [inc (by omega)]; try rfl) | rfl)), ⟨_, rfl⟩, rfl⟩ ?_
  rintro i ⟨hi, hres⟩
  rw [hres]
  refine bsplit_d (fun h1 _ => ?_) (fun h1 _ => ?_)
  · rw [nmA_len] at h1
    have hlt : i < (vkeys v).length := by omega
    have hlt2 : i < (vitems v).length := by omega
    obtain ⟨k, hk⟩ : ∃ k, (vkeys v)[i]? = some k := ⟨_, List.getElem?_eq_getElem hlt⟩
    obtain ⟨y, hy⟩ : ∃ y, (vitems v)[i]? = some y := ⟨_, List.getElem?_eq_getElem hlt2⟩
    have hd1 : (vkeys v).drop i = k :: (vkeys v).drop (i + 1) := by
      rw [List.drop_eq_getElem_cons hlt]; congr
      rw [List.getElem?_eq_getElem hlt] at hk; exact Option.some.inj hk
    have hd2 : (vitems v).drop i = y :: (vitems v).drop (i + 1) := by
      rw [List.drop_eq_getElem_cons hlt2]; congr
      rw [List.getElem?_eq_getElem hlt2] at hy; exact Option.some.inj hy
    rw [hd1, hd2]
    refine elev (Int.natCast_nonneg _) [AV.c (.string k)] (nmA_get _ _ _ hk) ?_
    refine call_pure (field_t (.mk f l ns lo) k (Nat.le_of_eq hn1) (by show ns.length ≤ _; omega)) rfl ?_
    rintro _ rfl
    cases hidx : idxB ns k 0 with
    | none =>
      have hkf : kfield (.mk f l ns lo) k = none := by simp [kfield, KT.names, hidx]
      rw [hkf]
      refine bsplit_t rfl ?_
      refine call_pure (key_k k) rfl ?_
      rintro _ rfl
      show AV.tup _ = _
      simp only [objF, hidx, Option.bind_none]; rfl
    | some j =>
      have hj := (idxB_lt ns k 0 j hidx).2
      obtain ⟨x, hx⟩ : ∃ x, l[j]? = some x := ⟨_, List.getElem?_eq_getElem (by omega)⟩
      have hmem := List.mem_of_getElem? hx
      have hkf : kfield (.mk f l ns lo) k = some x := by simp [kfield, KT.names, KT.l, hidx, hx]
      rw [hkf]
      have hstep : objF (wrongF l) ns (k :: (vkeys v).drop (i + 1)) (y :: (vitems v).drop (i + 1)) = match wrongK x y with
          | some p => some (keyS k :: p)
          | none => objF (wrongF l) ns ((vkeys v).drop (i + 1)) ((vitems v).drop (i + 1)) := by
        simp only [objF, hidx, Option.bind_some, wrongF_get hx]; rfl
      rw [hstep]
      refine bsplit_f rfl ?_
      refine elev (Int.natCast_nonneg _) [AV.ifc (vtO y)] (vtL_get _ _ _ hy) ?_
      refine call_pure (hih x hmem y (hoi y (List.mem_of_getElem? hy))) rfl ?_
      rintro _ rfl
      cases hw : wrongK x y with
      | some p =>
        have hp := hpl x hmem y p hw
        repeat' (first | refine bsplit_t (by first | with_reducible assumption | with_reducible rfl | with_reducible exact Bool.not_true | with_reducible exact Bool.not_false) ?_ | refine bsplit_f (by first | with_reducible assumption | with_reducible rfl | with_reducible exact Bool.not_true | with_reducible exact Bool.not_false) ?_ | fail)
        refine call_pure (key_k k) rfl ?_
        rintro _ rfl
        refine side ⟨stsA_one p, ?_⟩ ?_
        · rw [stsA_len]; show (1 + p.length) * 25 ≤ 70368744177664; omega
        show AV.tup _ = _
        rfl
      | none =>
        repeat' (first | refine bsplit_t (by first | with_reducible assumption | with_reducible rfl | with_reducible exact Bool.not_true | with_reducible exact Bool.not_false) ?_ | refine bsplit_f (by first | with_reducible assumption | with_reducible rfl | with_reducible exact Bool.not_true | with_reducible exact Bool.not_false) ?_ | fail)
        refine ⟨i + 1, ⟨by omega, ?_⟩, (by dsimp only; omega), ⟨rfl, rfl, (by (repeat' (first | exact trivial | refine ⟨⟨?_, rfl⟩, ?_⟩ | fail)); all_goals (first | (show some (SV.v (AV.c (Value.int .i64 (IntKind.i64.wrap _)))) = _; rw [inc (by omega)]; try rfl) | rfl)), ⟨_, rfl⟩, rfl⟩⟩
        rfl
  · rw [nmA_len] at h1
    have hil2 : i = (vkeys v).length := by omega
    rw [hil2, List.drop_length, show (vitems v).drop (vkeys v).length = [] by rw [← hil, List.drop_length]]
    have ho : objF (wrongF l) ns [] [] = none := rfl
    rw [ho]
    simp only
    refine call_pure (missing_t (.mk f l ns lo) v hn2 (by show ns.length ≤ _; omega)) rfl ?_
    rintro _ rfl
    cases hms : missK v ns lo with
    | cons s rest =>
      have hms' : missK v (KT.mk f l ns lo).names (KT.mk f l ns lo).loose = s :: rest := hms
      rw [hms']
      refine loop_on hTS (X := Nat) (fun i => i = 0)
        (fun i => ⟨[(4, .v (.c (.slice none 0 0))), (5, .v (.c (.bool false))), (54, .v (.sl (nmA (s :: rest)))), (55, .v (.c (.int .i64 ((nmA (s :: rest)).length : Int)))), (56, .v (.c (.int .i64 (i : Int))))], []⟩)
        (fun i => []) (fun i => 0) 0 rfl ⟨rfl, rfl, (by (repeat' (first | exact trivial | refine ⟨⟨?_, rfl⟩, ?_⟩ | fail)); all_goals (first | (show some (SV.v (AV.c (Value.int .i64 (IntKind.i64.wrap _)))) = _; rw [inc (by omega)]; try rfl) | rfl)), ⟨_, rfl⟩, rfl⟩ ?_
      rintro i rfl
      refine bsplit_t (decide_eq_true (by rw [nmA_len]; simp)) ?_
      refine elev (Int.natCast_nonneg _) [AV.c (.string s)] rfl ?_
      refine call_pure (key_k s) rfl ?_
      rintro _ rfl
      show AV.tup _ = _
      rfl
    | nil =>
      have hms' : missK v (KT.mk f l ns lo).names (KT.mk f l ns lo).loose = [] := hms
      rw [hms']
      refine loop_on hTS (X := Nat) (fun i => i = 0)
        (fun i => ⟨[(4, .v (.c (.slice none 0 0))), (5, .v (.c (.bool false))), (54, .v (.sl [])), (55, .v (.c (.int .i64 0))), (56, .v (.c (.int .i64 (i : Int))))], []⟩)
        (fun i => []) (fun i => 0) 0 rfl ⟨rfl, rfl, (by (repeat' (first | exact trivial | refine ⟨⟨?_, rfl⟩, ?_⟩ | fail)); all_goals (first | (show some (SV.v (AV.c (Value.int .i64 (IntKind.i64.wrap _)))) = _; rw [inc (by omega)]; try rfl) | rfl)), ⟨_, rfl⟩, rfl⟩ ?_
      rintro i rfl
      refine bsplit_f (by decide) ?_
      show AV.tup _ = _
      rfl

end Go.AV0
