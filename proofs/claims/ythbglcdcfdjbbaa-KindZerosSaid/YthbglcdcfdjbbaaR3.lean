/- the document's types: objects. -/
import Derived.Test.YthbglcdcfdjbbaaR2
namespace Go.AV0
open Go.Proofs

theorem atI_dec {s : ByteArray} {i : Nat} {c : Int} (h : 0 ≤ c) : decide (atI s i = c) = stands s i c := by
  rw [Bool.eq_iff_iff, decide_eq_true_iff]; exact atI_stands h

abbrev LO := List KT × List ByteArray × List Bool × Nat × Nat

set_option maxRecDepth 20000 in
set_option maxHeartbeats 4000000 in
theorem manyO_r {f : Nat} (hr : TypeC f) (s : ByteArray) (n deep : Nat) (hs : s.size ≤ 4096) (hn : n < s.size) (hd : deep + 1 + f = 8) : APure Try.prog 56 [.c (.string s), .c (.int .i64 (n : Int)), .c (.int .i64 (deep : Int)), .c (.bool true)]
    (TQ s (if stands s (n + 1) 125 = true then some (.mk 8 [] [] [], n + 2) else pObj (pType s f) s 16 [] [] [] (n + 1))) := by
  have hw1 : IntKind.i64.wrap ((n : Int) + 1) = ((n + 1 : Nat) : Int) := inc (by omega)
  have hwd : IntKind.i64.wrap ((deep : Int) + 1) = ((deep + 1 : Nat) : Int) := inc (by omega)
  refine apure_of hTS Try.func56 (by kernel_rfl) rfl rfl rfl ?_
  repeat' (first | refine bsplit_t (by first | with_reducible assumption | with_reducible rfl | with_reducible exact Bool.not_true | with_reducible exact Bool.not_false) ?_ | refine bsplit_f (by first | with_reducible assumption | with_reducible rfl | with_reducible exact Bool.not_true | with_reducible exact Bool.not_false) ?_ | fail)
  refine call_pure (at_r s (n + 1)) (congrArg (fun x => some [AV.c (.string s), .c (.int .i64 x)]) hw1) ?_
  rintro _ rfl
  refine bsplit (fun h1 => ?_) (fun h1 => ?_)
  · have h1 : decide (atI s (n + 1) = 125) = true := h1
    have h1 := (atI_stands (by omega)).1 (of_decide_eq_true h1)
    have := stands_lt h1
    refine .inl ⟨.mk 8 [] [] [], n + 2, by rw [if_pos h1], by omega, ?_⟩
    show AV.tup [_, .agg [.c (.int .i64 (IntKind.i64.wrap (IntKind.i64.wrap ((n : Int) + 1) + 1))), _]] = _
    rw [hw1, inc (by omega)]; rfl
  · have h1 : decide (atI s (n + 1) = 125) = false := h1
    have h1 := mt (atI_stands (by omega)).2 (of_decide_eq_false h1)
    rw [if_neg h1]
    refine loop_own 2 1 27 4 rfl rfl rfl ?_
    refine loop_own 2 2 9 1 rfl rfl rfl ?_
    refine loop_own 2 3 4 1 rfl rfl rfl ?_
    refine loop_on hTS (X := LO) (fun (l, ns, lo, m, k) => l.length + k = 16 ∧ ns.length = l.length ∧ lo.length = l.length ∧ m ≤ s.size ∧ pObj (pType s f) s 16 [] [] [] (n + 1) = pObj (pType s f) s k l ns lo m)
      (fun (_, _, _, m, _) => ⟨[(0, .v (.c (.string s))), (1, .v (.c (.int .i64 (m : Int)))), (2, .v (.c (.int .i64 (deep : Int)))), (3, .v (.c (.bool true))), (8, .ref 0 0), (9, .ref 1 0), (10, .ref 2 0), (11, .v (.c (.int .i32 125)))], []⟩)
      (fun (l, ns, lo, _, _) => [zT, zE, .cells [.v (.c (.int .i64 8)), .ms 3, .ms 4, .ms 5], .arr 27 4 (ktRL l), .arr 9 1 (nmA ns), .arr 4 1 (boA lo)]) (fun (_, _, _, _, k) => k) ([], [], [], n + 1, 16) ⟨rfl, rfl, rfl, by omega, rfl⟩ ⟨rfl, rfl, (by (repeat' (first | exact trivial | refine ⟨⟨?_, rfl⟩, ?_⟩ | fail)); all_goals (first | (show some (SV.v (AV.c (Value.int .i64 (IntKind.i64.wrap _)))) = _; rw [inc (by omega)]; try rfl) | rfl)), ⟨[], rfl⟩, rfl⟩ ?_
    rintro ⟨l, ns, lo, m, k⟩ ⟨hl, hl1, hl2, hm, hres⟩
    rw [hres]
    refine bsplit_d (fun h2 _ => ?_) (fun h2 _ => ?_)
    · have h2 : ((ktRL l).length : Int) = 16 := h2
      have hk0 : k = 0 := by rw [ktRL_len] at h2; omega
      subst hk0
      show TQ _ _ _
      exact .inr ⟨rfl, _, _, _, _, _, _, by decide, rfl⟩
    · have h2 : ¬ ((ktRL l).length : Int) = 16 := h2
      obtain ⟨k, rfl⟩ : ∃ k', k = k' + 1 := ⟨k - 1, by rw [ktRL_len] at h2; omega⟩
      have b1 : ((nmA ns).length + 1) * 17 ≤ 70368744177664 := by rw [nmA_len]; omega
      have b2 : ((boA lo).length + 1) * 2 ≤ 70368744177664 := by rw [boA_len]; omega
      have b3 : ((ktRL l).length + 1) * 81 ≤ 70368744177664 := by rw [ktRL_len]; omega
      repeat' (first | refine bsplit_t (by first | with_reducible assumption | with_reducible rfl | with_reducible exact Bool.not_true | with_reducible exact Bool.not_false) ?_ | refine bsplit_f (by first | with_reducible assumption | with_reducible rfl | with_reducible exact Bool.not_true | with_reducible exact Bool.not_false) ?_ | fail)
      refine call_pure (name_r s m hs hm) rfl ?_
      rintro _ (⟨hnm, a, e, he, rfl⟩ | ⟨hn1, hn2, hn3, rfl⟩)
      · refine bsplit_t (decide_eq_true he) ?_
        refine draw_ev hTS (by kernel_rfl) (.part [0, 1] [3] (.take 0 (.take 1 (.one 2 (.fin 3 .done))))) (by kernel_rfl) ?_
        exact .inr ⟨by simp only [pObj, pFld]; rw [if_pos hnm], _, _, _, _, _, _, he, rfl⟩
      refine bsplit_f (by decide) ?_
      refine side ⟨Int.natCast_nonneg _, Int.ofNat_le.2 (Nat.le_add_right _ _), Int.ofNat_le.2 hn3⟩ ?_
      have hbase : pFld (pType s f) s ns m = if badOrder ns (s.extract m (m + nameLen s m)) = true then none
          else if stands s (if stands s (m + nameLen s m) 63 = true then m + nameLen s m + 1 else m + nameLen s m) 58 = true then
            match pType s f ((if stands s (m + nameLen s m) 63 = true then m + nameLen s m + 1 else m + nameLen s m) + 1) with
            | none => none
            | some (x, m2) => some (x, s.extract m (m + nameLen s m), stands s (m + nameLen s m) 63, m2)
          else none := by
        simp only [pFld]; rw [if_neg (by omega)]; rfl
      have hbad : badOrder ns (s.extract m (m + nameLen s m)) = true → pObj (pType s f) s (k + 1) l ns lo m = none := by
        intro h
        simp only [pObj, hbase]; rw [if_pos h]
      refine bsplit_d (fun h3 _ => ?_) (fun h3 _ => ?_)
      case' refine_1 =>
        have h3 : (0 : Int) < ((nmA ns).length : Int) := h3
        have hne : 0 < ns.length := by rw [nmA_len] at h3; omega
        have hw0 : IntKind.i64.wrap (((nmA ns).length : Int) - 1) = (ns.length : Int) - 1 := by rw [nmA_len, wr] <;> omega
        obtain ⟨y0, hy0⟩ : ∃ y, ns[ns.length - 1]? = some y := ⟨_, List.getElem?_eq_getElem (by omega)⟩
        have hlast : ns.getLast? = some y0 := by rw [List.getLast?_eq_getElem?]; exact hy0
        have hget : (nmA ns)[((ns.length : Int) - 1).toNat]? = some [.c (.string y0)] := by
          rw [show ((ns.length : Int) - 1).toNat = ns.length - 1 by omega]
          simp [nmA, hy0]
        repeat' (first | refine bsplit_t (by first | with_reducible assumption | with_reducible rfl | with_reducible exact Bool.not_true | with_reducible exact Bool.not_false) ?_ | refine bsplit_f (by first | with_reducible assumption | with_reducible rfl | with_reducible exact Bool.not_true | with_reducible exact Bool.not_false) ?_ | fail)
        refine elev (l := nmA ns) (i := IntKind.i64.wrap (((nmA ns).length : Int) - 1)) (by rw [hw0]; omega) [AV.c (.string y0)] (by rw [hw0]; exact hget) ?_
        repeat' (first | refine bsplit_t (by first | with_reducible assumption | with_reducible rfl | with_reducible exact Bool.not_true | with_reducible exact Bool.not_false) ?_ | refine bsplit_f (by first | with_reducible assumption | with_reducible rfl | with_reducible exact Bool.not_true | with_reducible exact Bool.not_false) ?_ | fail)
        refine elev (Int.natCast_nonneg _) [AV.c (.string y0)] (by rw [hw0]; simpa using hget) ?_
        repeat' (first | refine bsplit_t (by first | with_reducible assumption | with_reducible rfl | with_reducible exact Bool.not_true | with_reducible exact Bool.not_false) ?_ | refine bsplit_f (by first | with_reducible assumption | with_reducible rfl | with_reducible exact Bool.not_true | with_reducible exact Bool.not_false) ?_ | fail)
        refine bsplit_d (fun h4 _ => ?_) (fun h4 _ => ?_)
        · have h4 : s.extract m (m + nameLen s m) = y0 := h4
          have hb := hbad (by simp only [badOrder, hlast]; rw [decide_eq_true h4]; simp)
          exact .inr ⟨hb, _, _, _, _, _, _, by decide, rfl⟩
        repeat' (first | refine bsplit_t (by first | with_reducible assumption | with_reducible rfl | with_reducible exact Bool.not_true | with_reducible exact Bool.not_false) ?_ | refine bsplit_f (by first | with_reducible assumption | with_reducible rfl | with_reducible exact Bool.not_true | with_reducible exact Bool.not_false) ?_ | fail)
        refine elev (l := nmA ns) (i := IntKind.i64.wrap (((nmA ns).length : Int) - 1)) (by rw [hw0]; omega) [AV.c (.string y0)] (by rw [hw0]; exact hget) ?_
        repeat' (first | refine bsplit_t (by first | with_reducible assumption | with_reducible rfl | with_reducible exact Bool.not_true | with_reducible exact Bool.not_false) ?_ | refine bsplit_f (by first | with_reducible assumption | with_reducible rfl | with_reducible exact Bool.not_true | with_reducible exact Bool.not_false) ?_ | fail)
        refine elev (Int.natCast_nonneg _) [AV.c (.string y0)] (by rw [hw0]; simpa using hget) ?_
        repeat' (first | refine bsplit_t (by first | with_reducible assumption | with_reducible rfl | with_reducible exact Bool.not_true | with_reducible exact Bool.not_false) ?_ | refine bsplit_f (by first | with_reducible assumption | with_reducible rfl | with_reducible exact Bool.not_true | with_reducible exact Bool.not_false) ?_ | fail)
        refine bsplit (fun h5 => ?_) (fun h5 => ?_)
        · have h5 : slt (s.extract m (m + nameLen s m)) y0 = true := h5
          have hb := hbad (by simp only [badOrder, hlast]; rw [h5]; rfl)
          exact .inr ⟨hb, _, _, _, _, _, _, by decide, rfl⟩
        have h4 : ¬ s.extract m (m + nameLen s m) = y0 := h4
        have h5 : slt (s.extract m (m + nameLen s m)) y0 = false := h5
        have hbo : badOrder ns (s.extract m (m + nameLen s m)) = false := by
          simp only [badOrder, hlast]; rw [decide_eq_false h4, h5]; rfl
      case' refine_2 =>
        have h3 : ¬ (0 : Int) < ((nmA ns).length : Int) := h3
        have hne : ns = [] := List.eq_nil_of_length_eq_zero (by rw [nmA_len] at h3; omega)
        have hbo : badOrder ns (s.extract m (m + nameLen s m)) = false := by rw [hne]; rfl
        repeat' (first | refine bsplit_t (by first | with_reducible assumption | with_reducible rfl | with_reducible exact Bool.not_true | with_reducible exact Bool.not_false) ?_ | refine bsplit_f (by first | with_reducible assumption | with_reducible rfl | with_reducible exact Bool.not_true | with_reducible exact Bool.not_false) ?_ | fail)
      all_goals
        have hbase2 := hbase
        rw [hbo] at hbase2
        obtain ⟨nm, hnm2⟩ : ∃ nm, nm = s.extract m (m + nameLen s m) := ⟨_, rfl⟩
        rw [← hnm2] at hbase2
        refine call_pure (at_r s (m + nameLen s m)) rfl ?_
        rintro _ rfl
        refine bsplit (fun h6 => ?_) (fun h6 => ?_)
        case' refine_1 =>
          have h6 : decide (atI s (m + nameLen s m) = 63) = true := h6
          have h6b := atI_dec (s := s) (i := m + nameLen s m) (c := 63) (by omega)
          have h6c : stands s (m + nameLen s m) 63 = true := h6b ▸ h6
          have := stands_lt h6c
          have hs1 : IntKind.i64.wrap (((m + nameLen s m : Nat) : Int) + 1) = ((m + nameLen s m + 1 : Nat) : Int) := inc (by omega)
          rw [h6c] at hbase2
          obtain ⟨M, hM⟩ : ∃ M, M = m + nameLen s m + 1 := ⟨_, rfl⟩
          have hMs : M ≤ s.size := by omega
          rw [← hM] at hs1
          simp only [Bool.false_eq_true, if_true, if_false, ← hM] at hbase2
        case' refine_2 =>
          have h6 : decide (atI s (m + nameLen s m) = 63) = false := h6
          have h6b := atI_dec (s := s) (i := m + nameLen s m) (c := 63) (by omega)
          have h6c : stands s (m + nameLen s m) 63 = false := h6b ▸ h6
          rw [h6c] at hbase2
          obtain ⟨M, hM⟩ : ∃ M, M = m + nameLen s m := ⟨_, rfl⟩
          have hMs : M ≤ s.size := by omega
          have hs1 : ((m + nameLen s m : Nat) : Int) = (M : Int) := by rw [hM]
          simp only [Bool.false_eq_true, if_false, ← hM] at hbase2
        all_goals
          refine call_pure (at_r s M) (congrArg (fun x => some [AV.c (.string s), .c (.int .i64 x)]) hs1) ?_
          rintro _ rfl
          refine bsplit_d (fun h7 _ => ?_) (fun h7 _ => ?_)
          · have h7 : ¬ stands s M 58 = true := fun h => h7 ((atI_stands (by omega)).2 h)
            rw [if_neg h7] at hbase2
            exact .inr ⟨by simp only [pObj, hbase2], _, _, _, _, _, _, by decide, rfl⟩
          have h7 := (atI_stands (by omega)).1 (Decidable.not_not.1 h7)
          have hlt := stands_lt h7
          rw [if_pos h7] at hbase2
          have hs2 : IntKind.i64.wrap (_ + 1) = ((M + 1 : Nat) : Int) := (congrArg (fun x => IntKind.i64.wrap (x + 1)) hs1).trans (inc (by omega))
          refine side ⟨?_, b1⟩ ?_
          · intro y hy
            simp at hy; subst hy; exact ⟨rfl, rfl⟩
          refine side ⟨?_, b2⟩ ?_
          · intro y hy
            simp at hy; subst hy; exact ⟨rfl, rfl⟩
          refine call_pure (hr s (M + 1) (deep + 1) hs (by omega) hd) (congr (congrArg (fun x y => some [AV.c (.string s), .c (.int .i64 x), .c (.int .i64 y)]) hs2) hwd) ?_
          rintro _ (⟨⟨tf, tl, tn, tlo⟩, m2, h8, h9, rfl⟩ | ⟨h8, i, L, N, B, x, e, h9, rfl⟩)
          · have hF : pFld (pType s f) s ns m = some (.mk tf tl tn tlo, s.extract m (m + nameLen s m), decide (atI s (m + nameLen s m) = 63), m2) := by
              rw [hbase2, h8, h6, hnm2]
            refine bsplit_f (by decide) ?_
            refine side ⟨?_, b3⟩ ?_
            · intro y hy
              simp at hy; subst hy; exact ⟨rfl, rfl⟩
            refine call_pure (at_r s m2) rfl ?_
            rintro _ rfl
            refine bsplit (fun h10 => ?_) (fun h10 => ?_)
            · have h10 : decide (atI s m2 = 125) = true := h10
              have h10 := (atI_stands (by omega)).1 (of_decide_eq_true h10)
              have := stands_lt h10
              refine .inl ⟨.mk 8 (l ++ [.mk tf tl tn tlo]) (ns ++ [s.extract m (m + nameLen s m)]) (lo ++ [decide (atI s (m + nameLen s m) = 63)]), m2 + 1, by simp only [pObj, hF, if_pos h10], by omega, ?_⟩
              show AV.tup [.agg [_, .sl (ktRL l ++ [ktR (.mk tf tl tn tlo)]), .sl (nmA ns ++ [[AV.c (.string (s.extract m (m + nameLen s m)))]]), .sl (boA lo ++ [[AV.c (.bool (decide (atI s (m + nameLen s m) = 63)))]])], .agg [.c (.int .i64 (IntKind.i64.wrap ((m2 : Int) + 1))), _]] = AV.tup [.agg [_, .sl (ktRL (l ++ [.mk tf tl tn tlo])), .sl (nmA (ns ++ [s.extract m (m + nameLen s m)])), .sl (boA (lo ++ [decide (atI s (m + nameLen s m) = 63)]))], .agg [.c (.int .i64 ((m2 + 1 : Nat) : Int)), _]]
              rw [ktRL_app, nmA_app, boA_app, inc (by omega)]; rfl
            · have h10 : decide (atI s m2 = 125) = false := h10
              have h10 := mt (atI_stands (by omega)).2 (of_decide_eq_false h10)
              refine call_pure (at_r s m2) rfl ?_
              rintro _ rfl
              refine bsplit_d (fun h11 _ => ?_) (fun h11 _ => ?_)
              · have h11 : ¬ stands s m2 44 = true := fun h => h11 ((atI_stands (by omega)).2 h)
                exact .inr ⟨by simp only [pObj, hF, if_neg h10, if_neg h11], _, _, _, _, _, _, by decide, rfl⟩
              · have h11 := (atI_stands (by omega)).1 (Decidable.not_not.1 h11)
                have := stands_lt h11
                refine ⟨(l ++ [.mk tf tl tn tlo], ns ++ [s.extract m (m + nameLen s m)], lo ++ [decide (atI s (m + nameLen s m) = 63)], m2 + 1, k), ⟨by simp at hl ⊢; omega, by simp [hl1], by simp [hl2], by omega, ?_⟩, (by dsimp only; omega), ⟨rfl, rfl, ⟨⟨rfl, rfl⟩, ⟨?_, rfl⟩, ⟨rfl, rfl⟩, ⟨rfl, rfl⟩, ⟨rfl, rfl⟩, ⟨rfl, rfl⟩, ⟨rfl, rfl⟩, ⟨rfl, rfl⟩, trivial⟩, ⟨_, by show (_ : List SO) = [zT, zE, .cells [.v (.c (.int .i64 8)), .ms 3, .ms 4, .ms 5], .arr 27 4 (ktRL (l ++ [.mk tf tl tn tlo])), .arr 9 1 (nmA (ns ++ [s.extract m (m + nameLen s m)])), .arr 4 1 (boA (lo ++ [decide (atI s (m + nameLen s m) = 63)]))] ++ _; rw [ktRL_app, nmA_app, boA_app]; rfl⟩, rfl⟩⟩
                · simp only [pObj, hF, if_neg h10, if_pos h11]
                · show some (SV.v (AV.c (.int .i64 (IntKind.i64.wrap ((m2 : Int) + 1))))) = _
                  rw [inc (by omega)]
          · have hF : pFld (pType s f) s ns m = none := by rw [hbase2, h8]
            refine bsplit_t (decide_eq_true h9) ?_
            refine draw_ev hTS (by kernel_rfl) (.part [0, 1] [3] (.take 0 (.take 1 (.one 2 (.fin 3 .done))))) (by kernel_rfl) ?_
            exact .inr ⟨by simp only [pObj, hF], _, _, _, _, _, _, h9, rfl⟩

end Go.AV0
