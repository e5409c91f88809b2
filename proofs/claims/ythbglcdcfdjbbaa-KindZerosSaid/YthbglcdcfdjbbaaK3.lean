/- kind: a reader's names. -/
import Derived.Test.YthbglcdcfdjbbaaK2
namespace Go.AV0
open Go.Proofs

/-- the bytes from i on that a name has -/
def NameEnd (s : ByteArray) (i k : Nat) : Prop := (∀ j, j < k → ∃ u, s.data.toList[i + j]? = some u ∧ nameCh j u = true) ∧ (∀ u, s.data.toList[i + k]? = some u → nameCh k u = false)

def nameGo (s : ByteArray) (i : Nat) : Nat → Nat → Nat
  | 0, k => k
  | f + 1, k => match s.data.toList[i + k]? with
    | some u => bif nameCh k u then nameGo s i f (k + 1) else k
    | none => k

def nameLen (s : ByteArray) (i : Nat) : Nat := nameGo s i (s.size - i) 0

theorem nameGo_end (s : ByteArray) (i : Nat) : ∀ (f k : Nat), s.size ≤ i + k + f → (∀ j, j < k → ∃ u, s.data.toList[i + j]? = some u ∧ nameCh j u = true) → NameEnd s i (nameGo s i f k)
  | 0, k, hf, hk => by
    show NameEnd s i k
    refine ⟨hk, fun u hu => ?_⟩
    have := get_lt hu
    simp at this
    omega
  | f + 1, k, hf, hk => by
    unfold nameGo
    split
    · rename_i u hu
      cases hc : nameCh k u with
      | true =>
        simp only [cond_true]
        refine nameGo_end s i f (k + 1) (by omega) ?_
        intro j hj
        rcases Nat.lt_or_ge j k with h | h
        · exact hk j h
        · have : j = k := by omega
          subst this
          exact ⟨u, hu, hc⟩
      | false =>
        simp only [cond_false]
        exact ⟨hk, fun v hv => by rw [hu] at hv; cases hv; exact hc⟩
    · rename_i hu
      exact ⟨hk, fun v hv => by rw [hu] at hv; cases hv⟩

theorem nameLen_end (s : ByteArray) (i : Nat) : NameEnd s i (nameLen s i) := nameGo_end s i _ 0 (by omega) (fun j h => absurd h (Nat.not_lt_zero _))

theorem NameEnd.unique {s i k k'} (h : NameEnd s i k) (h' : NameEnd s i k') : k = k' := by
  rcases Nat.lt_trichotomy k k' with hl | he | hl
  · obtain ⟨u, h1, h2⟩ := h'.1 k hl
    rw [h.2 u h1] at h2; cases h2
  · exact he
  · obtain ⟨u, h1, h2⟩ := h.1 k' hl
    rw [h'.2 u h1] at h2; cases h2

theorem extract_one {s : ByteArray} {i : Nat} {u : UInt8} (h : s.data.toList[i]? = some u) : (s.extract i (i + 1)).data.toList = [u] := by
  have hl := get_lt h
  simp at hl
  rw [ByteArray.data_extract, Array.toList_extract, List.extract_eq_take_drop]
  have : i + 1 - i = 1 := by omega
  rw [this]
  rw [List.getElem?_eq_getElem (by simpa using hl)] at h
  rw [List.take_one, List.head?_drop, List.getElem?_eq_getElem (by simpa using hl)]
  cases h; rfl

theorem name_c (s : ByteArray) (n deep : Nat) (hs : s.size ≤ 4096) (hn : n ≤ s.size) : AImp Try.prog 84 [.ref 0 0] [rd s n 0 deep] []
    (fun r h => ((nameLen s n = 0 ∨ 20 < nameLen s n) ∧ ∃ x n' e', e' ≠ 0 ∧ r = .v (.c (.string x)) ∧ h = [rd s n' e' deep]) ∨
      (0 < nameLen s n ∧ nameLen s n ≤ 20 ∧ n + nameLen s n ≤ s.size ∧ r = .v (.c (.string (s.extract n (n + nameLen s n)))) ∧ h = [rd s (n + nameLen s n) 0 deep])) := by
  have hsz : s.data.toList.length = s.size := by simp
  refine aimp_of hTS Try.func84 (by kernel_rfl) rfl rfl rfl (fun p => ?_)
  refine loop_inv hTS (X := { k : Nat // n + k ≤ s.size ∧ ∀ j, j < k → ∃ u, s.data.toList[n + j]? = some u ∧ nameCh j u = true }) (fun x => ⟨[(0, .ref 0 0), (3, .v (.c (.int .i64 (n : Int))))], []⟩) (fun x => [rd s (n + x.1) 0 deep, .pin 0 (p 0)]) (fun x => s.size - x.1) ⟨0, by omega, fun i h => absurd h (Nat.not_lt_zero _)⟩
    ⟨rfl, rfl, ⟨⟨rfl, rfl⟩, ⟨rfl, rfl⟩, trivial⟩, ⟨[], rfl⟩, rfl⟩ ?_
  rintro ⟨k, hk, hall⟩
  refine draw_ev hTS (by kernel_rfl) (.pur 0 (.pur 1 (.pur 2 (.pur 3 (.pur 5 (.pur 6 (.pur 7 (.pur 8 (.part [] [] (.take 4 (.one 9 (.one 10 (.pur 11 (.pur 12 (.pur 13 (.pur 14 (.pur 15 (.pur 16 (.pur 18 (.pur 19 (.pur 20 (.one 17 (.pur 21 (.one 22 (.pur 23 (.pur 24 (.pur 25 (.pur 26 (.pur 27 (.pur 28 (.pur 30 (.pur 31 (.pur 32 (.pur 33 (.take 29 (.one 34 (.pur 35 (.one 36 (.pur 37 .done))))))))))))))))))))))))))))))))))))))) (by kernel_rfl) ?_
  have hend : ∀ {k' : Nat}, NameEnd s n k' → nameLen s n = k' := fun h => (nameLen_end s n).unique h
  refine bsplit (fun h1 => ?_) (fun h1 => ?_)
  case' refine_1 =>
    have h1' : n + k < s.size := by simp at h1; omega
    repeat' (first | refine bsplit_t (by first | with_reducible assumption | with_reducible rfl | with_reducible exact Bool.not_true | with_reducible exact Bool.not_false) ?_ | refine bsplit_f (by first | with_reducible assumption | with_reducible rfl | with_reducible exact Bool.not_true | with_reducible exact Bool.not_false) ?_ | fail)
    refine side ⟨by omega, by rw [inc (by omega)]; omega, by rw [inc (by omega)]; omega⟩ ?_
    repeat' (first | refine bsplit_t (by first | with_reducible assumption | with_reducible rfl | with_reducible exact Bool.not_true | with_reducible exact Bool.not_false) ?_ | refine bsplit_f (by first | with_reducible assumption | with_reducible rfl | with_reducible exact Bool.not_true | with_reducible exact Bool.not_false) ?_ | fail)
    refine call_pure (named_c _ (by simp; omega)) rfl ?_
    rintro _ ⟨b, rfl, hb⟩
    rw [show ((n : Int)).toNat = n by omega, show (IntKind.i64.wrap ((n : Int) + 1)).toNat = n + 1 by rw [inc (by omega)]; omega] at hb
    have hlt : n < s.data.toList.length := by omega
    obtain ⟨u0, hu0⟩ : ∃ u, s.data.toList[n]? = some u := ⟨_, List.getElem?_eq_getElem hlt⟩
    have hb' : b = true ↔ letB u0 = true := by
      have e1 : (s.extract n (n + 1)).data.toList = [u0] := extract_one hu0
      have e2 : (s.extract n (n + 1)).size = 1 := by rw [ByteArray.size_extract]; omega
      rw [hb, e1, e2]
      constructor
      · intro h
        have := h.1 0 _ rfl
        simpa [nameCh] using this
      · intro h
        refine ⟨fun i u hu => ?_, by omega, by omega⟩
        cases i with
        | zero => cases hu; simp [nameCh, h]
        | succ i => simp at hu
    clear hb
    obtain ⟨u1, hu1⟩ : ∃ u, s.data.toList[n + k]? = some u := ⟨_, List.getElem?_eq_getElem (by omega)⟩
    cases b
    case' false =>
      have hE : NameEnd s n k := by
        have hl : ¬ letB u0 = true := fun h => by have := hb'.2 h; cases this
        refine ⟨hall, fun u hu => ?_⟩
        cases k with
        | zero =>
          rw [Nat.add_zero, hu0] at hu; cases hu
          simp [nameCh]; simpa using hl
        | succ k =>
          obtain ⟨u, h2, h3⟩ := hall 0 (by omega)
          rw [Nat.add_zero, hu0] at h2; cases h2
          simp [nameCh] at h3
          exact absurd h3 hl
      have hE := hend hE
      repeat' (first | refine bsplit_t (by first | with_reducible assumption | with_reducible rfl | with_reducible exact Bool.not_true | with_reducible exact Bool.not_false) ?_ | refine bsplit_f (by first | with_reducible assumption | with_reducible rfl | with_reducible exact Bool.not_true | with_reducible exact Bool.not_false) ?_ | fail)
    case' true =>
      have hl := hb'.1 rfl
      repeat' (first | refine bsplit_t (by first | with_reducible assumption | with_reducible rfl | with_reducible exact Bool.not_true | with_reducible exact Bool.not_false) ?_ | refine bsplit_f (by first | with_reducible assumption | with_reducible rfl | with_reducible exact Bool.not_true | with_reducible exact Bool.not_false) ?_ | fail)
      refine elev (by omega) u1 (by rw [show ((n + k : Nat) : Int).toNat = n + k by omega]; exact hu1) ?_
      repeat' (first | refine bsplit_t (by first | with_reducible assumption | with_reducible rfl | with_reducible exact Bool.not_true | with_reducible exact Bool.not_false) ?_ | refine bsplit_f (by first | with_reducible assumption | with_reducible rfl | with_reducible exact Bool.not_true | with_reducible exact Bool.not_false) ?_ | fail)
      refine call_pure (lettered_c u1) rfl ?_
      rintro _ rfl
      refine bsplit_t rfl ?_
      refine bsplit (fun h2 => ?_) (fun h2 => ?_)
      · refine ⟨⟨k + 1, by omega, ?_⟩, by show s.size - (k + 1) < s.size - k; omega, ⟨rfl, rfl, ⟨⟨rfl, rfl⟩, ⟨rfl, rfl⟩, trivial⟩, ⟨[], ?_⟩, rfl⟩⟩
        · intro j hj
          rcases Nat.lt_or_ge j k with h9 | h9
          · exact hall j h9
          · have : j = k := by omega
            subst this
            refine ⟨u1, hu1, ?_⟩
            cases j with
            | zero => rw [Nat.add_zero, hu0] at hu1; cases hu1; simp [nameCh, hl]
            | succ j => simpa [nameCh] using h2
        · show [SO.cells [_, .v (.c (.int .i64 (IntKind.i64.wrap (((n + k : Nat) : Int) + 1)))), _, _], _] = [SO.cells [_, .v (.c (.int .i64 ((n + (k + 1) : Nat) : Int))), _, _], _]
          rw [inc (by omega)]; rfl
      have hE := hend (k' := k) ⟨hall, fun u hu => by
        rw [hu1] at hu; cases hu
        simp at h2
        simp [nameCh, h2]⟩
  case' refine_2 =>
    have hE := hend (k' := k) ⟨hall, fun u hu => by
      have := get_lt hu
      simp at h1
      omega⟩
    repeat' (first | refine bsplit_t (by first | with_reducible assumption | with_reducible rfl | with_reducible exact Bool.not_true | with_reducible exact Bool.not_false) ?_ | refine bsplit_f (by first | with_reducible assumption | with_reducible rfl | with_reducible exact Bool.not_true | with_reducible exact Bool.not_false) ?_ | fail)
  all_goals
    clear hend
    refine bsplit (fun h2 => ?_) (fun h2 => ?_)
    · have hk0 : k = 0 := by simp at h2; omega
      refine draw_ev hTS (by kernel_rfl) (.pur 0 (.pur 1 (.pur 2 (.pur 3 (.pur 4 (.pur 5 (.pur 6 (.one 7 (.one 8 .done))))))))) (by kernel_rfl) ?_
      refine call_obj (fail_c s (n + k) 0 deep (n + k) 4) [0] rfl rfl rfl ?_
      rintro _ _ ⟨rfl, ⟨_, rfl⟩ | ⟨h9, rfl⟩⟩
      · refine draw_ev hTS (by kernel_rfl) (.pur 0 (.pur 1 (.pur 2 (.pur 3 (.pur 5 (.pur 6 (.pur 7 (.pur 8 (.pur 9 (.part [] [] (.take 4 (.one 10 (.pur 11 (.pur 12 .done)))))))))))))) (by kernel_rfl) ?_
        refine side ⟨by omega, by show ((n : Nat) : Int) ≤ ((n + k : Nat) : Int); omega, by show ((n + k : Nat) : Int) ≤ _; omega⟩ ?_
        exact ⟨⟨rfl, trivial⟩, 1, rfl, .inl ⟨.inl (by omega), _, _, _, by decide, rfl, rfl⟩⟩
      · exact absurd rfl h9
    · have hk0 : k ≠ 0 := by simp at h2; omega
      refine bsplit (fun h3 => ?_) (fun h3 => ?_)
      · refine call_obj (fail_c s (n + k) 0 deep n 7) [0] rfl rfl rfl ?_
        rintro _ _ ⟨rfl, ⟨_, rfl⟩ | ⟨h9, rfl⟩⟩
        · refine draw_ev hTS (by kernel_rfl) (.pur 0 (.pur 1 (.pur 2 (.pur 3 (.pur 5 (.pur 6 (.pur 7 (.pur 8 (.pur 9 (.part [] [] (.take 4 (.one 10 (.pur 11 (.pur 12 .done)))))))))))))) (by kernel_rfl) ?_
          refine side ⟨by omega, by omega, by omega⟩ ?_
          refine ⟨⟨rfl, trivial⟩, 1, rfl, .inl ⟨.inr ?_, _, _, _, by decide, rfl, rfl⟩⟩
          rw [hE]
          have h3 : decide (20 < IntKind.i64.wrap (((n + k : Nat) : Int) - (n : Int))) = true := h3
          rw [wr (by omega) (by omega)] at h3
          simp at h3; omega
        · exact absurd rfl h9
      · refine draw_ev hTS (by kernel_rfl) (.pur 0 (.pur 1 (.pur 2 (.pur 3 (.pur 5 (.pur 6 (.pur 7 (.pur 8 (.pur 9 (.part [] [] (.take 4 (.one 10 (.pur 11 (.pur 12 .done)))))))))))))) (by kernel_rfl) ?_
        refine side ⟨by omega, by show ((n : Nat) : Int) ≤ ((n + k : Nat) : Int); omega, by show ((n + k : Nat) : Int) ≤ _; omega⟩ ?_
        refine ⟨⟨rfl, trivial⟩, 1, rfl, .inr ⟨by omega, ?_, by omega, ?_, ?_⟩⟩
        · rw [hE]
          have h3 : decide (20 < IntKind.i64.wrap (((n + k : Nat) : Int) - (n : Int))) = false := h3
          rw [wr (by omega) (by omega)] at h3
          simp at h3; omega
        · show SV.v (nrm (AV.c (.string (s.extract ((n : Nat) : Int).toNat ((n + k : Nat) : Int).toNat)))) = _
          rw [hE]; rfl
        · rw [hE]; rfl

end Go.AV0
