/- the document's types: a text's type. -/
import Derived.Test.YthbglcdcfdjbbaaR4
namespace Go.AV0
open Go.Proofs

theorem parse_r (s : ByteArray) : APure Try.prog 6 [.c (.string s)] (fun v =>
    (∃ t m, pParse s = some t ∧ v = .tup [.agg (ktR t), .agg [.c (.int .i64 m), .c (.int .i64 0)]]) ∨
    (pParse s = none ∧ ∃ i L N B x e, e ≠ 0 ∧ v = .tup [.agg [.c (.int .i64 i), .sl L, .sl N, .sl B], .agg [.c (.int .i64 x), .c (.int .i64 e)]])) := by
  refine apure_of hTS Try.func6 (by kernel_rfl) rfl rfl rfl ?_
  refine bsplit_d (fun h1 _ => ?_) (fun h1 _ => ?_)
  · have h1' : 4096 < s.size := by omega
    exact .inr ⟨by simp only [pParse]; rw [if_pos h1'], _, _, _, _, _, _, by decide, rfl⟩
  · have h1' : s.size ≤ 4096 := by omega
    have hP : pParse s = match pType s 8 0 with
      | none => none
      | some (t, m) => if m < s.size then none else some t := by
        simp only [pParse]; rw [if_neg (by omega)]; rfl
    refine call_pure (type_r 8 s 0 0 h1' (Nat.zero_le _) rfl) rfl ?_
    rintro _ (⟨⟨tf, tl, tn, tlo⟩, m, h8, h9, rfl⟩ | ⟨h8, i, L, N, B, x, e, h9, rfl⟩)
    · refine bsplit_t rfl ?_
      refine bsplit_t rfl ?_
      refine bsplit_t rfl ?_
      refine bsplit_t rfl ?_
      refine bsplit_t rfl ?_
      refine bsplit_t rfl ?_
      refine bsplit_d (fun h2 _ => ?_) (fun h2 _ => ?_)
      · have h2' : m < s.size := by omega
        refine draw_ev hTS (by kernel_rfl) (.pur 0 (.pur 1 (.part [0, 1] [5] (.take 2 (.pur 3 (.one 4 (.fin 5 .done))))))) (by kernel_rfl) ?_
        exact .inr ⟨by rw [hP, h8]; simp only; rw [if_pos h2'], _, _, _, _, _, _, by decide, rfl⟩
      · have h2' : ¬ m < s.size := by omega
        refine draw_ev hTS (by kernel_rfl) (.part [0, 1] [3] (.take 0 (.take 1 (.one 2 (.fin 3 .done))))) (by kernel_rfl) ?_
        exact .inl ⟨.mk tf tl tn tlo, _, by rw [hP, h8]; simp only; rw [if_neg h2'], rfl⟩
    · have h10 := decide_eq_false h9
      repeat' (first | refine bsplit_t (by first | with_reducible assumption | with_reducible rfl | with_reducible exact Bool.not_true | with_reducible exact Bool.not_false) ?_ | refine bsplit_f (by first | with_reducible assumption | with_reducible rfl | with_reducible exact Bool.not_true | with_reducible exact Bool.not_false) ?_ | fail)
      refine draw_ev hTS (by kernel_rfl) (.part [0, 1] [3] (.take 0 (.take 1 (.one 2 (.fin 3 .done))))) (by kernel_rfl) ?_
      exact .inr ⟨by rw [hP, h8], _, _, _, _, _, _, h9, rfl⟩

end Go.AV0
