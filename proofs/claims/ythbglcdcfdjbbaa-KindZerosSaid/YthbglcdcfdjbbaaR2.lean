/- the document's types: tuples, objects. -/
import Derived.Test.YthbglcdcfdjbbaaR1
namespace Go.AV0
open Go.Proofs

mutual
def ktR : KT → List AV
  | .mk f l ns lo => [.c (.int .i64 (f : Int)), .sl (ktRL l), .sl (nmA ns), .sl (boA lo)]
def ktRL : List KT → List (List AV)
  | [] => []
  | t :: l => ktR t :: ktRL l
end

theorem ktRL_app : ∀ (l : List KT) (x : KT), ktRL (l ++ [x]) = ktRL l ++ [ktR x]
  | [], x => by simp [ktRL]
  | t :: l, x => by simp [ktRL, ktRL_app l x]

theorem ktRL_len : ∀ (l : List KT), (ktRL l).length = l.length
  | [] => rfl
  | t :: l => by simp [ktRL, ktRL_len l]

def TQ (s : ByteArray) (res : Option (KT × Nat)) (v : AV) : Prop :=
  (∃ t m, res = some (t, m) ∧ m ≤ s.size ∧ v = .tup [.agg (ktR t), .agg [.c (.int .i64 (m : Int)), .c (.int .i64 0)]]) ∨
  (res = none ∧ ∃ i L N B x e, e ≠ 0 ∧ v = .tup [.agg [.c (.int .i64 i), .sl L, .sl N, .sl B], .agg [.c (.int .i64 x), .c (.int .i64 e)]])

def TypeC (f : Nat) : Prop := ∀ (s : ByteArray) (n deep : Nat), s.size ≤ 4096 → n ≤ s.size → deep + f = 8 → APure Try.prog 25 [.c (.string s), .c (.int .i64 (n : Int)), .c (.int .i64 (deep : Int))] (TQ s (pType s f n))

def zT : SO := .cells [.v (.c (.int .i64 0)), .v (.c (.slice none 0 0)), .v (.c (.slice none 0 0)), .v (.c (.slice none 0 0))]
def zE : SO := .cells [.v (.c (.int .i64 0)), .v (.c (.int .i64 0))]

set_option maxRecDepth 20000 in
set_option maxHeartbeats 4000000 in
theorem manyT_r {f : Nat} (hr : TypeC f) (s : ByteArray) (n deep : Nat) (hs : s.size ≤ 4096) (hn : n < s.size) (hd : deep + 1 + f = 8) : APure Try.prog 56 [.c (.string s), .c (.int .i64 (n : Int)), .c (.int .i64 (deep : Int)), .c (.bool false)]
    (TQ s (if stands s (n + 1) 93 = true then some (.mk 7 [] [] [], n + 2) else pTup (pType s f) s 16 [] (n + 1))) := by
  have hw1 : IntKind.i64.wrap ((n : Int) + 1) = ((n + 1 : Nat) : Int) := inc (by omega)
  have hwd : IntKind.i64.wrap ((deep : Int) + 1) = ((deep + 1 : Nat) : Int) := inc (by omega)
  refine apure_of hTS Try.func56 (by kernel_rfl) rfl rfl rfl ?_
  repeat' (first | refine bsplit_t (by first | with_reducible assumption | with_reducible rfl | with_reducible exact Bool.not_true | with_reducible exact Bool.not_false) ?_ | refine bsplit_f (by first | with_reducible assumption | with_reducible rfl | with_reducible exact Bool.not_true | with_reducible exact Bool.not_false) ?_ | fail)
  refine call_pure (at_r s (n + 1)) (congrArg (fun x => some [AV.c (.string s), .c (.int .i64 x)]) hw1) ?_
  rintro _ rfl
  refine bsplit (fun h1 => ?_) (fun h1 => ?_)
  · have h1 : decide (atI s (n + 1) = 93) = true := h1
    have h1 := (atI_stands (by omega)).1 (of_decide_eq_true h1)
    have := stands_lt h1
    refine .inl ⟨.mk 7 [] [] [], n + 2, by rw [if_pos h1], by omega, ?_⟩
    show AV.tup [_, .agg [.c (.int .i64 (IntKind.i64.wrap (IntKind.i64.wrap ((n : Int) + 1) + 1))), _]] = _
    rw [hw1, inc (by omega)]; rfl
  · have h1 : decide (atI s (n + 1) = 93) = false := h1
    have h1 := mt (atI_stands (by omega)).2 (of_decide_eq_false h1)
    rw [if_neg h1]
    refine loop_own 2 1 27 4 rfl rfl rfl ?_
    refine loop_on hTS (X := List KT × Nat × Nat) (fun x => x.1.length + x.2.2 = 16 ∧ x.2.1 ≤ s.size ∧ pTup (pType s f) s 16 [] (n + 1) = pTup (pType s f) s x.2.2 x.1 x.2.1)
      (fun x => ⟨[(0, .v (.c (.string s))), (1, .v (.c (.int .i64 (x.2.1 : Int)))), (2, .v (.c (.int .i64 (deep : Int)))), (3, .v (.c (.bool false))), (8, .ref 0 0), (9, .ref 1 0), (10, .ref 2 0), (11, .v (.c (.int .i32 93)))], []⟩)
      (fun x => [zT, zE, .cells [.v (.c (.int .i64 7)), .ms 3, .v (.c (.slice none 0 0)), .v (.c (.slice none 0 0))], .arr 27 4 (ktRL x.1)]) (fun x => x.2.2) ([], n + 1, 16) ⟨rfl, by simp only; omega, rfl⟩ ⟨rfl, rfl, (by (repeat' (first | exact trivial | refine ⟨⟨?_, rfl⟩, ?_⟩ | fail)); all_goals (first | (show some (SV.v (AV.c (Value.int .i64 (IntKind.i64.wrap _)))) = _; rw [inc (by omega)]; try rfl) | rfl)), ⟨[], rfl⟩, rfl⟩ ?_
    rintro ⟨acc, m, k⟩ ⟨hl, hm, hres⟩
    simp only at hl hm hres
    rw [hres]
    refine bsplit_d (fun h2 _ => ?_) (fun h2 _ => ?_)
    · have h2 : ((ktRL acc).length : Int) = 16 := h2
      have hk0 : k = 0 := by rw [ktRL_len] at h2; omega
      subst hk0
      show TQ _ _ _
      exact .inr ⟨rfl, _, _, _, _, _, _, by decide, rfl⟩
    · have h2 : ¬ ((ktRL acc).length : Int) = 16 := h2
      obtain ⟨k, rfl⟩ : ∃ k', k = k' + 1 := ⟨k - 1, by rw [ktRL_len] at h2; omega⟩
      have b1 : ((ktRL acc).length + 1) * 57 ≤ 70368744177664 := by rw [ktRL_len]; omega
      repeat' (first | refine bsplit_t (by first | with_reducible assumption | with_reducible rfl | with_reducible exact Bool.not_true | with_reducible exact Bool.not_false) ?_ | refine bsplit_f (by first | with_reducible assumption | with_reducible rfl | with_reducible exact Bool.not_true | with_reducible exact Bool.not_false) ?_ | fail)
      refine call_pure (hr s m (deep + 1) hs hm hd) (congrArg (fun x => some [AV.c (.string s), .c (.int .i64 (m : Int)), .c (.int .i64 x)]) hwd) ?_
      rintro _ (⟨⟨tf, tl, tn, tlo⟩, m2, h4, h5, rfl⟩ | ⟨h4, i, L, N, B, x, e, h5, rfl⟩)
      · refine bsplit_f (by decide) ?_
        refine side ⟨?_, ?_⟩ ?_
        · intro y hy
          simp at hy; subst hy; exact ⟨rfl, rfl⟩
        · show ((ktRL acc).length + 1) * 81 ≤ _
          rw [ktRL_len]; omega
        refine call_pure (at_r s m2) rfl ?_
        rintro _ rfl
        refine bsplit (fun h6 => ?_) (fun h6 => ?_)
        · have h6 : decide (atI s m2 = 93) = true := h6
          have h6 := (atI_stands (by omega)).1 (of_decide_eq_true h6)
          have := stands_lt h6
          refine .inl ⟨.mk 7 (acc ++ [.mk tf tl tn tlo]) [] [], m2 + 1, by simp only [pTup, h4, if_pos h6], by omega, ?_⟩
          show AV.tup [.agg [_, .sl (ktRL acc ++ [ktR (.mk tf tl tn tlo)]), _, _], .agg [.c (.int .i64 (IntKind.i64.wrap ((m2 : Int) + 1))), _]] = AV.tup [.agg [_, .sl (ktRL (acc ++ [.mk tf tl tn tlo])), _, _], .agg [.c (.int .i64 ((m2 + 1 : Nat) : Int)), _]]
          rw [ktRL_app, inc (by omega)]; rfl
        · have h6 : decide (atI s m2 = 93) = false := h6
          have h6 := mt (atI_stands (by omega)).2 (of_decide_eq_false h6)
          refine call_pure (at_r s m2) rfl ?_
          rintro _ rfl
          refine bsplit_d (fun h7 _ => ?_) (fun h7 _ => ?_)
          · have h7 : ¬ stands s m2 44 = true := fun h => h7 ((atI_stands (by omega)).2 h)
            refine .inr ⟨by simp [pTup, h4, h6, h7], _, _, _, _, _, _, by decide, rfl⟩
          · have h7 := (atI_stands (by omega)).1 (Decidable.not_not.1 h7)
            have := stands_lt h7
            refine ⟨(acc ++ [.mk tf tl tn tlo], m2 + 1, k), ⟨by simp at hl ⊢; omega, by simp only; omega, ?_⟩, (by dsimp only; omega), ⟨rfl, rfl, ⟨⟨rfl, rfl⟩, ⟨?_, rfl⟩, ⟨rfl, rfl⟩, ⟨rfl, rfl⟩, ⟨rfl, rfl⟩, ⟨rfl, rfl⟩, ⟨rfl, rfl⟩, ⟨rfl, rfl⟩, trivial⟩, ⟨_, by show (_ : List SO) = [zT, zE, .cells [.v (.c (.int .i64 7)), .ms 3, .v (.c (.slice none 0 0)), .v (.c (.slice none 0 0))], .arr 27 4 (ktRL (acc ++ [.mk tf tl tn tlo]))] ++ _; rw [ktRL_app]; rfl⟩, rfl⟩⟩
            · simp [pTup, h4, h6, h7]
            · show some (SV.v (AV.c (.int .i64 (IntKind.i64.wrap ((m2 : Int) + 1))))) = _
              rw [inc (by omega)]
      · refine bsplit_t (decide_eq_true h5) ?_
        refine draw_ev hTS (by kernel_rfl) (.part [0, 1] [3] (.take 0 (.take 1 (.one 2 (.fin 3 .done))))) (by kernel_rfl) ?_
        exact .inr ⟨by simp [pTup, h4], _, _, _, _, _, _, h5, rfl⟩

end Go.AV0
