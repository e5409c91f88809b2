/- kind: Wrong, Takes. -/
import Derived.Test.YthbglcdcfdjbbaaT4
namespace Go.AV0
open Go.Proofs

theorem innerF_len {fs : List (VT → Option (List StepV))} {B : Nat} (h : ∀ f ∈ fs, ∀ v p, f v = some p → p.length ≤ B) : ∀ (vs : List VT) (i : Nat) (ss : List StepV) (p : List StepV), innerF fs i vs ss = some p → p.length ≤ B + 1
  | [], i, ss, p, hp => by simp [innerF] at hp
  | v :: vs, i, [], p, hp => by simp [innerF] at hp
  | v :: vs, i, s :: ss, p, hp => by
    simp only [innerF] at hp
    split at hp
    · rename_i f hf
      split at hp
      · rename_i q hq
        cases hp
        have := h f (List.mem_of_getElem? hf) v q hq
        simp; omega
      · exact innerF_len h vs (i + 1) ss p hp
    · cases hp; simp

theorem objF_len {fs : List (VT → Option (List StepV))} {ns : List ByteArray} {B : Nat} (h : ∀ f ∈ fs, ∀ v p, f v = some p → p.length ≤ B) : ∀ (ks : List ByteArray) (vs : List VT) (p : List StepV), objF fs ns ks vs = some p → p.length ≤ B + 1
  | [], vs, p, hp => by simp [objF] at hp
  | k :: ks, [], p, hp => by simp [objF] at hp
  | k :: ks, v :: vs, p, hp => by
    simp only [objF] at hp
    split at hp
    · cases hp; simp
    · rename_i f hf
      split at hp
      · rename_i q hq
        cases hp
        have hmem : f ∈ fs := by
          cases hi : idxB ns k 0 with
          | none => rw [hi] at hf; cases hf
          | some j => rw [hi] at hf; exact List.mem_of_getElem? hf
        have := h f hmem v q hq
        simp; omega
      · exact objF_len h ks vs p hp

theorem wrongF_mem : ∀ {l : List KT} {f : VT → Option (List StepV)}, f ∈ wrongF l → ∃ x ∈ l, f = wrongK x
  | t :: l, f, h => by
    simp only [wrongF, List.mem_cons] at h
    rcases h with rfl | h
    · exact ⟨t, by simp, rfl⟩
    · obtain ⟨x, h1, h2⟩ := wrongF_mem h; exact ⟨x, by simp [h1], h2⟩

theorem wrongK_len : ∀ (t : KT) (v : VT) (p : List StepV), wrongK t v = some p → p.length ≤ kDeep t := by
  intro t
  induction t using KT.ind with
  | _ f l ns lo ih =>
  intro v p h
  have hB : ∀ g ∈ wrongF l, ∀ v p, g v = some p → p.length ≤ kDeepL l := by
    intro g hg v p hp
    obtain ⟨x, h1, rfl⟩ := wrongF_mem hg
    exact Nat.le_trans (ih x h1 v p hp) (kDeepL_mem h1)
  show p.length ≤ kDeepL l + 1
  simp only [wrongK] at h
  split at h
  · cases h
  split at h
  · split at h
    · cases h
    · cases h; simp
  split at h
  · cases h; simp
  split at h
  · split at h
    · rename_i q hq
      cases h
      exact objF_len hB _ _ _ hq
    · split at h
      · cases h; simp
      · cases h
  split at h
  · exact innerF_len hB _ _ _ _ h
  split at h
  · cases h; simp
  · exact innerF_len hB _ _ _ _ h

theorem okL_mem : ∀ {l : List VT} {x : VT}, okL l → x ∈ l → okV x
  | t :: l, x, h, hx => by
    simp only [okL] at h
    rcases List.mem_cons.1 hx with rfl | hx
    · exact h.1
    · exact okL_mem h.2 hx
theorem okM_get : ∀ {l : List (ByteArray × VT)} {k : ByteArray} {x : VT}, okM l → vget l k = some x → okV x
  | (k', v) :: l, k, x, h, hx => by
    simp only [okM] at h
    simp only [vget] at hx
    split at hx
    · cases hx; exact h.2.1
    · exact okM_get h.2.2 hx

theorem okV_items {v : VT} (h : okV v) : ∀ x ∈ vitems v, okV x := by
  intro x hx
  cases v
  case list l => simp only [okV] at h; exact okL_mem h.2 hx
  case map es =>
    simp only [okV] at h
    obtain ⟨k, hk, rfl⟩ := List.mem_map.1 hx
    obtain ⟨y, hy⟩ := skeys_mem hk
    rw [hy]; exact okM_get h.2.2 hy
  all_goals cases hx

theorem okV_len {v : VT} (h : okV v) : (vitems v).length ≤ 1000000 ∧ (vkeys v).length ≤ 1000000 := by
  cases v
  case list l => simp only [okV] at h; exact ⟨h.1, by simp [vkeys]⟩
  case map es =>
    simp only [okV] at h
    have : (skeys es).length ≤ 1000000 := by rw [(skeys_perm es).length_eq]; simpa using h.1
    exact ⟨by simp only [vitems, List.length_map]; exact this, this⟩
  all_goals exact ⟨by simp [vitems], by simp [vkeys]⟩

theorem kind_map {v : VT} (h : kindV v = 7) : ∃ es, v = .map es := by
  cases v <;> simp [kindV] at h
  exact ⟨_, rfl⟩

set_option maxRecDepth 20000 in
set_option maxHeartbeats 4000000 in
theorem wrong_t : ∀ (t : KT), wfK t → kDeep t ≤ 1000000 → WrongC t := by
  intro t
  induction t using KT.ind with
  | _ f l ns lo ih =>
  intro hwf hd v hv
  have hd : kDeepL l + 1 ≤ 1000000 := hd
  simp only [wfK] at hwf
  obtain ⟨hf8, hl16, _, hf56, hfn, _, hlo, _, _, hwl⟩ := hwf
  have hih : ∀ x ∈ l, WrongC x := fun x hx => ih x hx (wfL_mem hwl hx) (by have := kDeepL_mem hx; omega)
  have hpl : ∀ x ∈ l, ∀ v p, wrongK x v = some p → p.length ≤ 1000000 := fun x hx v p hp => by have := wrongK_len x v p hp; have := kDeepL_mem hx; omega
  obtain ⟨hil, hkl⟩ := okV_len hv
  refine apure_of hTS Try.func14 (by kernel_rfl) rfl rfl rfl ?_
  repeat' (first | refine bsplit_t (by first | with_reducible assumption | with_reducible rfl | with_reducible exact Bool.not_true | with_reducible exact Bool.not_false) ?_ | refine bsplit_f (by first | with_reducible assumption | with_reducible rfl | with_reducible exact Bool.not_true | with_reducible exact Bool.not_false) ?_ | fail)
  refine call_pure (kind_v v) rfl ?_
  rintro _ rfl
  refine bsplit_d (fun h1 _ => ?_) (fun h1 _ => ?_)
  · repeat' (first | refine bsplit_t (by first | with_reducible assumption | with_reducible rfl | with_reducible exact Bool.not_true | with_reducible exact Bool.not_false) ?_ | refine bsplit_f (by first | with_reducible assumption | with_reducible rfl | with_reducible exact Bool.not_true | with_reducible exact Bool.not_false) ?_ | fail)
    show AV.tup _ = _
    simp only [wrongK]; rw [if_pos (.inl h1)]; rfl
  repeat' (first | refine bsplit_t (by first | with_reducible assumption | with_reducible rfl | with_reducible exact Bool.not_true | with_reducible exact Bool.not_false) ?_ | refine bsplit_f (by first | with_reducible assumption | with_reducible rfl | with_reducible exact Bool.not_true | with_reducible exact Bool.not_false) ?_ | fail)
  refine bsplit_d (fun h2 _ => ?_) (fun h2 _ => ?_)
  · show AV.tup _ = _
    simp only [wrongK]; rw [if_pos (.inr h2)]; rfl
  have h12 : ¬ (kindV v = 0 ∨ kindV v = 1) := fun h => h.elim h1 h2
  refine bsplit_d (fun h3 _ => ?_) (fun h3 _ => ?_)
  · have h3 : f < 5 := by omega
    refine call_pure (plain_t (.mk f l ns lo) v) rfl ?_
    rintro _ rfl
    show AV.tup [_, .c (.bool (!plainB f v))] = _
    simp only [wrongK]; rw [if_neg h12, if_pos h3]
    cases plainB f v <;> rfl
  have h3 : ¬ f < 5 := by omega
  refine call_pure (holds_t (.mk f l ns lo)) rfl ?_
  rintro _ rfl
  refine bsplit_d (fun h4 _ => ?_) (fun h4 _ => ?_)
  · have h4 : kindV v ≠ holdsK f := h4
    show AV.tup _ = _
    simp only [wrongK]; rw [if_neg h12, if_neg h3, if_pos h4]; rfl
  have h4 : kindV v = holdsK f := Decidable.not_not.1 h4
  have hW : wrongK (.mk f l ns lo) v = if f = 8 then match objF (wrongF l) ns (vkeys v) (vitems v) with
      | some p => some p
      | none => match missK v ns lo with
        | s :: _ => some [keyS s]
        | [] => none
    else if f = 6 then innerF (wrongF l) 0 (vitems v) ((vkeys v).map keyS)
    else if f = 7 ∧ (vitems v).length ≠ l.length then some []
    else innerF (wrongF l) 0 (vitems v) ((List.range (vitems v).length).map placeS) := by
    simp only [wrongK]; rw [if_neg h12, if_neg h3, if_neg (fun h => h h4)]; rfl
  rw [hW]
  refine call_pure (items_v v hv) rfl ?_
  rintro _ rfl
  refine bsplit_d (fun h5 _ => ?_) (fun h5 _ => ?_)
  · have h5 : f = 8 := by omega
    rw [if_pos h5]
    obtain ⟨es, hes⟩ := kind_map (h4.trans (by rw [h5]; rfl))
    refine call_pure (object_t f l ns lo v es hes hv hih (okV_items hv) (hfn h5) hlo.symm (by omega) hpl) rfl ?_
    intro r hr
    have hr : r = wrA (match objF (wrongF l) ns (vkeys v) (vitems v) with
      | some p => some p
      | none => match missK v ns lo with
        | s :: _ => some [keyS s]
        | [] => none) := hr
    generalize (match objF (wrongF l) ns (vkeys v) (vitems v) with
      | some p => some p
      | none => match missK v ns lo with
        | s :: _ => some [keyS s]
        | [] => none) = X at hr ⊢
    subst hr
    cases X
    · show AV.tup _ = _
      rfl
    · show AV.tup _ = _
      rfl
  have h5 : ¬ f = 8 := by omega
  rw [if_neg h5]
  refine bsplit_d (fun h6 _ => ?_) (fun h6 _ => ?_)
  · have h6 : f = 6 := by omega
    rw [if_pos h6]
    have hl1 := hf56 (.inr h6)
    obtain ⟨es, hes⟩ := kind_map (h4.trans (by rw [h6]; rfl))
    have hvk : (vitems v).length = ((vkeys v).map keyS).length := by rw [hes]; simp [vitems, vkeys]
    refine draw_ev hTS (by kernel_rfl) (.pur 0 (.pur 1 (.pur 2 (.pur 4 (.part [] [] (.take 3 (.one 5 (.one 6 (.one 7 (.one 8 (.pur 9 (.pur 10 (.pur 11 (.pur 12 .done)))))))))))))) (by kernel_rfl) ?_
    refine call_pure (keys_v v hv) rfl ?_
    rintro _ rfl
    refine call_pure (keysT_k (vkeys v) hkl) rfl ?_
    rintro _ rfl
    refine call_pure (inner_t l (vitems v) _ hih (okV_items hv) hvk (fun _ h => by rw [h] at hl1; cases hl1) (by omega) hil hpl) rfl ?_
    rintro _ rfl
    generalize innerF (wrongF l) 0 (vitems v) ((vkeys v).map keyS) = X
    cases X
    · show AV.tup _ = _
      rfl
    · show AV.tup _ = _
      rfl
  have h6 : ¬ f = 6 := by omega
  rw [if_neg h6]
  have hpv : (vitems v).length = ((List.range (vitems v).length).map placeS).length := by simp
  refine bsplit_d (fun h7 _ => ?_) (fun h7 _ => ?_)
  case' refine_1 =>
    have h7 : f = 7 := by omega
    refine bsplit_d (fun h8 _ => ?_) (fun h8 _ => ?_)
    · rw [vtL_len, kpL_len] at h8
      have h8 : (vitems v).length ≠ l.length := by omega
      rw [if_pos ⟨h7, h8⟩]
      show AV.tup _ = _
      rfl
    rw [vtL_len, kpL_len] at h8
    have h8 : (vitems v).length = l.length := by omega
    rw [if_neg (fun h => h.2 h8)]
    have hne : vitems v ≠ [] → l ≠ [] := fun h e => h (List.eq_nil_of_length_eq_zero (by rw [h8, e]; rfl))
  case' refine_2 =>
    have h7 : ¬ f = 7 := by omega
    rw [if_neg (fun h => h7 h.1)]
    have h5' : f = 5 := by omega
    have hl1 := hf56 (.inl h5')
    have hne : vitems v ≠ [] → l ≠ [] := fun _ h => by rw [h] at hl1; cases hl1
  all_goals
    refine draw_ev hTS (by kernel_rfl) (.pur 0 (.pur 1 (.pur 2 (.pur 4 (.pur 5 (.part [] [] (.take 3 (.one 6 (.one 7 (.one 8 (.pur 9 (.pur 10 (.pur 11 (.pur 12 .done)))))))))))))) (by kernel_rfl) ?_
    refine call_pure (places_k (vitems v).length hil) (by show some [AV.c (.int .i64 ((vtL (vitems v)).length : Int))] = _; rw [vtL_len]) ?_
    rintro _ rfl
    refine call_pure (inner_t l (vitems v) _ hih (okV_items hv) hpv hne (by omega) hil hpl) rfl ?_
    rintro _ rfl
    generalize innerF (wrongF l) 0 (vitems v) ((List.range (vitems v).length).map placeS) = X
    cases X
    · show AV.tup _ = _
      rfl
    · show AV.tup _ = _
      rfl

theorem wrong_n (v : VT) : APure Try.prog 14 [.ptr none, vtA v] (fun r => r = .tup [.sl [], .c (.bool true)]) := by
  refine apure_of hTS Try.func14 (by kernel_rfl) rfl rfl rfl ?_
  repeat' (first | refine bsplit_t (by first | with_reducible assumption | with_reducible rfl | with_reducible exact Bool.not_true | with_reducible exact Bool.not_false) ?_ | refine bsplit_f (by first | with_reducible assumption | with_reducible rfl | with_reducible exact Bool.not_true | with_reducible exact Bool.not_false) ?_ | fail)
  show AV.tup _ = _
  rfl

theorem takes_t (t : KT) (v : VT) (h1 : wfK t) (h2 : kDeep t ≤ 1000000) (hv : okV v) : APure Try.prog 12 [kp t, vtA v] (fun r => r = .c (.bool (wrongK t v).isNone)) := by
  refine apure_of hTS Try.func12 (by kernel_rfl) rfl rfl rfl ?_
  refine call_pure (wrong_t t h1 h2 v hv) rfl ?_
  rintro _ rfl
  cases wrongK t v
  · show AV.c _ = _
    rfl
  · show AV.c _ = _
    rfl

theorem takes_n (v : VT) : APure Try.prog 12 [.ptr none, vtA v] (fun r => r = .c (.bool false)) := by
  refine apure_of hTS Try.func12 (by kernel_rfl) rfl rfl rfl ?_
  refine call_pure (wrong_n v) rfl ?_
  rintro _ rfl
  show AV.c _ = _
  rfl

end Go.AV0
