/- the document's types: any type. -/
import Derived.Test.YthbglcdcfdjbbaaR3
namespace Go.AV0
open Go.Proofs

theorem ba_ext {a b : ByteArray} (h : a.data.toList = b.data.toList) : a = b := by
  cases a; cases b
  congr
  exact Array.toList_inj.1 h

theorem prefB_iff {s w : ByteArray} {n : Nat} (hn : n ≤ s.size) : prefB s n w = true ↔ ∀ i u, w.data.toList[i]? = some u → s.data.toList[n + i]? = some u := by
  have hs : s.data.toList.length = s.size := by simp
  have hw : w.data.toList.length = w.size := by simp
  have e1 : ((s.extract n s.size).extract 0 w.size).data.toList = (s.data.toList.drop n).take w.size := by
    rw [ByteArray.data_extract, ByteArray.data_extract, Array.toList_extract, Array.toList_extract, List.extract_eq_take_drop, List.extract_eq_take_drop]
    rw [List.drop_zero, Nat.sub_zero, List.take_of_length_le (l := s.data.toList.drop n)]
    rw [List.length_drop]; omega
  have e2 : (s.extract n s.size).size = s.size - n := by rw [ByteArray.size_extract]; omega
  simp only [prefB, Bool.and_eq_true, decide_eq_true_iff, e2]
  constructor
  · rintro ⟨h1, h2⟩ i u hu
    have hi := get_lt hu
    have : w.data.toList = (s.data.toList.drop n).take w.size := by rw [← e1, h2]
    rw [this, List.getElem?_take, if_pos (by omega), List.getElem?_drop] at hu
    exact hu
  · intro h
    have h1 : w.size ≤ s.size - n := by
      rcases Nat.eq_zero_or_pos w.size with h0 | h0
      · omega
      · have := get_lt (h (w.size - 1) _ (List.getElem?_eq_getElem (by omega)))
        omega
    refine ⟨h1, ba_ext ?_⟩
    rw [e1]
    apply List.ext_getElem?
    intro i
    rw [List.getElem?_take, List.getElem?_drop]
    split
    · rw [List.getElem?_eq_getElem (l := w.data.toList) (i := i) (by omega)]
      exact h i _ (List.getElem?_eq_getElem (by omega))
    · exact (List.getElem?_eq_none (by omega)).symm

theorem atI_byte {s : ByteArray} {i : Nat} {u : UInt8} : atI s i = (u.toNat : Int) ↔ s.data.toList[i]? = some u := by
  unfold atI
  cases s.data.toList[i]? with
  | none => simp
  | some v =>
    simp only [Option.some.injEq]
    constructor
    · intro h; exact UInt8.toNat_inj.1 (by omega)
    · intro h; rw [h]

theorem wds_get {k : Nat} (h : k < 7) : ∃ w, wds[k]? = some w ∧ 1 ≤ w.size ∧ w.size ≤ 5 := by
  match k, h with
  | 0, _ => exact ⟨_, rfl, by decide, by decide⟩
  | 1, _ => exact ⟨_, rfl, by decide, by decide⟩
  | 2, _ => exact ⟨_, rfl, by decide, by decide⟩
  | 3, _ => exact ⟨_, rfl, by decide, by decide⟩
  | 4, _ => exact ⟨_, rfl, by decide, by decide⟩
  | 5, _ => exact ⟨_, rfl, by decide, by decide⟩
  | 6, _ => exact ⟨_, rfl, by decide, by decide⟩

set_option maxRecDepth 20000 in
set_option maxHeartbeats 4000000 in
theorem type_r : ∀ f, TypeC f := by
  intro f
  induction f with
  | zero =>
    intro s n deep hs hn hd
    have hd : deep = 8 := by omega
    subst hd
    refine apure_of hTS Try.func25 (by kernel_rfl) rfl rfl rfl ?_
    refine bsplit_t (by decide) ?_
    exact .inr ⟨rfl, _, _, _, _, _, _, by decide, rfl⟩
  | succ f ih =>
    intro s n deep hs hn hd
    refine apure_of hTS Try.func25 (by kernel_rfl) rfl rfl rfl ?_
    have hwd : IntKind.i64.wrap ((deep : Int) + 1) = ((deep + 1 : Nat) : Int) := inc (by omega)
    refine bsplit_d (fun h1 _ => ?_) (fun h1 _ => ?_)
    · omega
    refine call_pure (at_r s n) rfl ?_
    rintro _ rfl
    refine bsplit_d (fun h2 _ => ?_) (fun h2 _ => ?_)
    · have h2' := (atI_stands (by omega)).1 h2
      have hlt := stands_lt h2'
      repeat' (first | refine bsplit_t (by first | with_reducible assumption | with_reducible rfl | with_reducible exact Bool.not_true | with_reducible exact Bool.not_false) ?_ | refine bsplit_f (by first | with_reducible assumption | with_reducible rfl | with_reducible exact Bool.not_true | with_reducible exact Bool.not_false) ?_ | fail)
      refine call_pure (at_r s n) rfl ?_
      rintro _ rfl
      refine call_pure (manyT_r ih s n deep hs hlt (by omega)) (by show some [_, _, _, AV.c (.bool (decide (atI s n = 123)))] = _; rw [h2]; rfl) ?_
      have hp : pType s (f + 1) n = (if stands s (n + 1) 93 = true then some (.mk 7 [] [] [], n + 2) else pTup (pType s f) s 16 [] (n + 1)) := by
        simp only [pType]; rw [if_pos h2']
      rw [hp]
      rintro _ (⟨⟨tf, tl, tn, tlo⟩, m, h3, h4, rfl⟩ | ⟨h3, i, L, N, B, x, e, h4, rfl⟩)
      · exact .inl ⟨.mk tf tl tn tlo, m, h3, h4, rfl⟩
      · exact .inr ⟨h3, _, _, _, _, _, _, h4, rfl⟩
    have h2' := mt (atI_stands (by omega)).2 h2
    repeat' (first | refine bsplit_t (by first | with_reducible assumption | with_reducible rfl | with_reducible exact Bool.not_true | with_reducible exact Bool.not_false) ?_ | refine bsplit_f (by first | with_reducible assumption | with_reducible rfl | with_reducible exact Bool.not_true | with_reducible exact Bool.not_false) ?_ | fail)
    refine call_pure (at_r s n) rfl ?_
    rintro _ rfl
    repeat' (first | refine bsplit_t (by first | with_reducible assumption | with_reducible rfl | with_reducible exact Bool.not_true | with_reducible exact Bool.not_false) ?_ | refine bsplit_f (by first | with_reducible assumption | with_reducible rfl | with_reducible exact Bool.not_true | with_reducible exact Bool.not_false) ?_ | fail)
    refine bsplit_d (fun h3 e3 => ?_) (fun h3 _ => ?_)
    · have h3' := (atI_stands (by omega)).1 h3
      have hlt := stands_lt h3'
      refine call_pure (at_r s n) rfl ?_
      rintro _ rfl
      refine call_pure (manyO_r ih s n deep hs hlt (by omega)) (by show some [_, _, _, AV.c (.bool (decide (atI s n = 123)))] = _; rw [e3]; rfl) ?_
      have hp : pType s (f + 1) n = (if stands s (n + 1) 125 = true then some (.mk 8 [] [] [], n + 2) else pObj (pType s f) s 16 [] [] [] (n + 1)) := by
        simp only [pType]; rw [if_neg h2', if_pos h3']
      rw [hp]
      rintro _ (⟨⟨tf, tl, tn, tlo⟩, m, h3, h4, rfl⟩ | ⟨h3, i, L, N, B, x, e, h4, rfl⟩)
      · exact .inl ⟨.mk tf tl tn tlo, m, h3, h4, rfl⟩
      · exact .inr ⟨h3, _, _, _, _, _, _, h4, rfl⟩
    have h3' := mt (atI_stands (by omega)).2 h3
    have hp : pType s (f + 1) n = (match hitW s n wds 0 with
        | none => none
        | some (i, l) => if i < 5 then some (.mk i [] [] [], n + l) else if stands s (n + l) 40 = true then match pType s f (n + l + 1) with
            | none => none
            | some (x, m) => if stands s m 41 = true then some (.mk i [x] [] [], m + 1) else none
          else none) := by
      simp only [pType]; rw [if_neg h2', if_neg h3']; rfl
    rw [hp]
    refine loop_on hTS (X := Nat × Nat) (fun (k, far) => k ≤ 7 ∧ far ≤ 5 ∧ ∀ j v, j < k → wds[j]? = some v → prefB s n v = false)
      (fun (k, far) => ⟨[(0, .v (.c (.string s))), (1, .v (.c (.int .i64 (n : Int)))), (2, .v (.c (.int .i64 (deep : Int)))), (6, .ref 0 0), (7, .ref 1 0), (8, .ms 2), (9, .v (.c (.int .i64 (far : Int)))), (10, .v (.c (.int .i64 (k : Int))))], []⟩)
      (fun _ => [zT, zE, .arr 9 1 (nmA wds)]) (fun (k, _) => 7 - k) (0, 0) ⟨by decide, by decide, fun j v h => absurd h (Nat.not_lt_zero _)⟩ ⟨rfl, rfl, (by (repeat' (first | exact trivial | refine ⟨⟨?_, rfl⟩, ?_⟩ | fail)); all_goals (first | (show some (SV.v (AV.c (Value.int .i64 (IntKind.i64.wrap _)))) = _; rw [inc (by omega)]; try rfl) | rfl)), ⟨[], rfl⟩, rfl⟩ ?_
    rintro ⟨k, far⟩ ⟨hk, hfar, hall⟩
    refine bsplit_d (fun h4 _ => ?_) (fun h4 _ => ?_)
    · have h4' : k < 7 := by have h4 : (k : Int) < 7 := h4; omega
      obtain ⟨w, hw, hw1, hw5⟩ := wds_get h4'
      have hwn : (nmA wds)[((k : Nat) : Int).toNat]? = some [AV.c (.string w)] := by show (wds.map fun s => [AV.c (.string s)])[k]? = _; rw [List.getElem?_map, hw]; rfl
      have hwl : w.data.toList.length = w.size := by simp
      repeat' (first | refine bsplit_t (by first | with_reducible assumption | with_reducible rfl | with_reducible exact Bool.not_true | with_reducible exact Bool.not_false) ?_ | refine bsplit_f (by first | with_reducible assumption | with_reducible rfl | with_reducible exact Bool.not_true | with_reducible exact Bool.not_false) ?_ | fail)
      refine loop_on hTS (X := Nat) (fun j => j ≤ w.size ∧ ∀ i u, i < j → w.data.toList[i]? = some u → s.data.toList[n + i]? = some u)
        (fun j => ⟨[(0, .v (.c (.string s))), (1, .v (.c (.int .i64 (n : Int)))), (2, .v (.c (.int .i64 (deep : Int)))), (6, .ref 0 0), (7, .ref 1 0), (8, .ms 2), (9, .v (.c (.int .i64 (far : Int)))), (10, .v (.c (.int .i64 (k : Int)))), (11, .v (.c (.int .i64 (j : Int))))], []⟩)
        (fun _ => [zT, zE, .arr 9 1 (nmA wds)]) (fun j => w.size - j) 0 ⟨Nat.zero_le _, fun i u h => absurd h (Nat.not_lt_zero _)⟩ ⟨rfl, rfl, (by (repeat' (first | exact trivial | refine ⟨⟨?_, rfl⟩, ?_⟩ | fail)); all_goals (first | (show some (SV.v (AV.c (Value.int .i64 (IntKind.i64.wrap _)))) = _; rw [inc (by omega)]; try rfl) | rfl)), ⟨[], rfl⟩, rfl⟩ ?_
      rintro j ⟨hj, hpre⟩
      have hwnj : IntKind.i64.wrap ((n : Int) + (j : Int)) = ((n + j : Nat) : Int) := by rw [wr (by omega) (by omega)]; omega
      refine draw_ev hTS (by kernel_rfl) (.pur 0 (.pur 1 (.pur 2 (.pur 3 (.one 4 (.one 5 (.pur 6 (.pur 7 (.pur 8 (.pur 9 (.pur 10 (.pur 11 (.pur 13 (.pur 14 (.pur 15 (.pur 17 (.part [] [] (.take 16 (.pur 18 (.pur 19 (.one 12 (.pur 20 (.pur 21 .done))))))))))))))))))))))) (by kernel_rfl) ?_
      repeat' (first | refine bsplit_t (by first | with_reducible assumption | with_reducible rfl | with_reducible exact Bool.not_true | with_reducible exact Bool.not_false) ?_ | refine bsplit_f (by first | with_reducible assumption | with_reducible rfl | with_reducible exact Bool.not_true | with_reducible exact Bool.not_false) ?_ | refine elev (Int.natCast_nonneg _) [AV.c (.string w)] hwn ?_ | fail)
      have hmax : max (far : Int) (j : Int) = ((max far j : Nat) : Int) := by omega
      refine bsplit_d (fun h5 e5 => ?_) (fun h5 e5 => ?_)
      case' refine_1 =>
        have h5' : j < w.size := by omega
        obtain ⟨u, hu⟩ : ∃ u, w.data.toList[j]? = some u := ⟨_, List.getElem?_eq_getElem (by omega)⟩
        repeat' (first | refine bsplit_t (by first | with_reducible assumption | with_reducible rfl | with_reducible exact Bool.not_true | with_reducible exact Bool.not_false) ?_ | refine bsplit_f (by first | with_reducible assumption | with_reducible rfl | with_reducible exact Bool.not_true | with_reducible exact Bool.not_false) ?_ | refine elev (Int.natCast_nonneg _) [AV.c (.string w)] hwn ?_ | refine elev (Int.natCast_nonneg _) u hu ?_ | fail)
        refine call_pure (at_r s (n + j)) (congrArg (fun x => some [AV.c (.string s), .c (.int .i64 x)]) hwnj) ?_
        rintro _ rfl
        repeat' (first | refine bsplit_t (by first | with_reducible assumption | with_reducible rfl | with_reducible exact Bool.not_true | with_reducible exact Bool.not_false) ?_ | refine bsplit_f (by first | with_reducible assumption | with_reducible rfl | with_reducible exact Bool.not_true | with_reducible exact Bool.not_false) ?_ | fail)
        refine bsplit (fun h6 => ?_) (fun h6 => ?_)
        · have h6 : decide (atI s (n + j) = IntKind.i64.wrap (u.toNat : Int)) = true := h6
          have := u.toNat_lt
          rw [wr (by omega) (by omega)] at h6
          have h6 := atI_byte.1 (of_decide_eq_true h6)
          refine ⟨j + 1, ⟨by omega, ?_⟩, (by dsimp only; omega), ⟨rfl, rfl, (by (repeat' (first | exact trivial | refine ⟨⟨?_, rfl⟩, ?_⟩ | fail)); all_goals (first | (show some (SV.v (AV.c (Value.int .i64 (IntKind.i64.wrap _)))) = _; rw [inc (by omega)]; try rfl) | rfl)), ⟨[], rfl⟩, rfl⟩⟩
          intro i v hi hv
          rcases Nat.lt_or_ge i j with h9 | h9
          · exact hpre i v h9 hv
          · have : i = j := by omega
            subst this
            rw [hu] at hv; cases hv; exact h6
        have h6 : decide (atI s (n + j) = IntKind.i64.wrap (u.toNat : Int)) = false := h6
        have hp9 : prefB s n w = false := by
          have := u.toNat_lt
          rw [wr (by omega) (by omega)] at h6
          have h6 := mt atI_byte.2 (of_decide_eq_false h6)
          rw [← Bool.not_eq_true, prefB_iff hn]
          intro h
          exact h6 (h j u hu)
        repeat' (first | refine bsplit_t (by first | with_reducible assumption | with_reducible rfl | with_reducible exact Bool.not_true | with_reducible exact Bool.not_false) ?_ | refine bsplit_f (by first | with_reducible assumption | with_reducible rfl | with_reducible exact Bool.not_true | with_reducible exact Bool.not_false) ?_ | refine elev (Int.natCast_nonneg _) [AV.c (.string w)] hwn ?_ | fail)
        refine ⟨(k + 1, max far j), ⟨by omega, by omega, ?_⟩, (by dsimp only; omega), ⟨rfl, rfl, ⟨⟨rfl, rfl⟩, ⟨rfl, rfl⟩, ⟨rfl, rfl⟩, ⟨rfl, rfl⟩, ⟨rfl, rfl⟩, ⟨rfl, rfl⟩, ⟨congrArg (fun x => some (SV.v (AV.c (.int .i64 x)))) hmax, rfl⟩, ⟨congrArg (fun x => some (SV.v (AV.c (.int .i64 x)))) (inc (k := k) (by omega)), rfl⟩, trivial⟩, ⟨[], rfl⟩, rfl⟩⟩
        intro i v hi hv
        rcases Nat.lt_or_ge i k with h9 | h9
        · exact hall i v h9 hv
        · have : i = k := by omega
          subst this
          rw [hw] at hv; cases hv; exact hp9
      have hjw : j = w.size := by omega
      subst hjw
      have hp9 : prefB s n w = true := (prefB_iff hn).2 fun i u hu => hpre i u (by have := get_lt hu; omega) hu
      have hsz := prefB_size hp9
      have hh := hitW_some (i := 0) hw hp9 hall
      rw [Nat.zero_add] at hh
      rw [hh]
      simp only
      repeat' (first | refine bsplit_t (by first | with_reducible assumption | with_reducible rfl | with_reducible exact Bool.not_true | with_reducible exact Bool.not_false) ?_ | refine bsplit_f (by first | with_reducible assumption | with_reducible rfl | with_reducible exact Bool.not_true | with_reducible exact Bool.not_false) ?_ | refine elev (Int.natCast_nonneg _) [AV.c (.string w)] hwn ?_ | fail)
      refine bsplit_d (fun h6 _ => ?_) (fun h6 _ => ?_)
      · have h6' : k < 5 := by omega
        refine .inl ⟨.mk k [] [] [], n + w.size, by rw [if_pos h6'], by omega, ?_⟩
        show AV.tup [_, .agg [.c (.int .i64 (IntKind.i64.wrap ((n : Int) + (w.size : Int)))), _]] = _
        rw [hwnj]; rfl
      have h6' : ¬ k < 5 := by omega
      rw [if_neg h6']
      refine call_pure (at_r s (n + w.size)) (congrArg (fun x => some [AV.c (.string s), .c (.int .i64 x)]) hwnj) ?_
      rintro _ rfl
      refine bsplit_d (fun h7 _ => ?_) (fun h7 _ => ?_)
      · have h7 : ¬ stands s (n + w.size) 40 = true := fun h => h7 ((atI_stands (by omega)).2 h)
        rw [if_neg h7]
        exact .inr ⟨rfl, _, _, _, _, _, _, by decide, rfl⟩
      have h7 := (atI_stands (by omega)).1 (Decidable.not_not.1 h7)
      have hlt := stands_lt h7
      rw [if_pos h7]
      have hs2 : IntKind.i64.wrap (IntKind.i64.wrap ((n : Int) + (w.size : Int)) + 1) = ((n + w.size + 1 : Nat) : Int) := by rw [hwnj, inc (by omega)]
      refine call_pure (ih s (n + w.size + 1) (deep + 1) hs (by omega) (by omega)) (congr (congrArg (fun x y => some [AV.c (.string s), .c (.int .i64 x), .c (.int .i64 y)]) hs2) hwd) ?_
      rintro _ (⟨⟨tf, tl, tn, tlo⟩, m, h8, h9, rfl⟩ | ⟨h8, i, L, N, B, x, e, h9, rfl⟩)
      · rw [h8]
        simp only
        refine bsplit_f (by decide) ?_
        refine call_pure (at_r s m) rfl ?_
        rintro _ rfl
        refine bsplit_d (fun h10 _ => ?_) (fun h10 _ => ?_)
        · have h10 : ¬ stands s m 41 = true := fun h => h10 ((atI_stands (by omega)).2 h)
          rw [if_neg h10]
          refine draw_ev hTS (by kernel_rfl) (.pur 0 (.pur 1 (.part [0, 1] [5] (.take 2 (.pur 3 (.one 4 (.fin 5 .done))))))) (by kernel_rfl) ?_
          exact .inr ⟨rfl, _, _, _, _, _, _, by decide, rfl⟩
        · have h10 := (atI_stands (by omega)).1 (Decidable.not_not.1 h10)
          have := stands_lt h10
          rw [if_pos h10]
          refine draw_ev hTS (by kernel_rfl) (.pur 0 (.pur 4 (.part [0, 1] [9] (.take 1 (.take 5 (.pur 6 (.pur 7 (.one 2 (.pur 3 (.one 8 (.fin 9 .done))))))))))) (by kernel_rfl) ?_
          refine .inl ⟨.mk k [.mk tf tl tn tlo] [] [], m + 1, rfl, by omega, ?_⟩
          show AV.tup [_, .agg [.c (.int .i64 (IntKind.i64.wrap ((m : Int) + 1))), _]] = _
          rw [inc (by omega)]; rfl
      · rw [h8]
        refine bsplit_t (decide_eq_true h9) ?_
        refine draw_ev hTS (by kernel_rfl) (.pur 0 (.part [0, 1] [3] (.take 1 (.one 2 (.fin 3 .done))))) (by kernel_rfl) ?_
        exact .inr ⟨rfl, _, _, _, _, _, _, h9, rfl⟩
    · have hk7 : k = 7 := by
        have h4 : ¬ (k : Int) < 7 := h4
        omega
      subst hk7
      have hh : hitW s n wds 0 = none := hitW_none fun v hv => by
        obtain ⟨i, hi⟩ := List.mem_iff_getElem?.1 hv
        exact hall i v (by have := get_lt hi; exact this) hi
      rw [hh]
      exact .inr ⟨rfl, _, _, _, _, _, _, by decide, rfl⟩

end Go.AV0
