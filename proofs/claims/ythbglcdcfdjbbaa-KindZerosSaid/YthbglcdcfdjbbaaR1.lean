/- the document's types: a byte, a name. -/
import Derived.Test.YthbglcdcfdjbbaaK5
namespace Go.AV0
open Go.Proofs

/-- the byte that stands there; -1 where there is none -/
def atI (s : ByteArray) (i : Nat) : Int :=
  match s.data.toList[i]? with
  | some u => (u.toNat : Int)
  | none => -1

theorem atI_stands {s : ByteArray} {i : Nat} {c : Int} (h : 0 ≤ c) : atI s i = c ↔ stands s i c = true := by
  unfold atI stands
  cases s.data.toList[i]? with
  | none => simp; omega
  | some u => simp

theorem at_r (s : ByteArray) (i : Nat) : APure Try.prog 55 [.c (.string s), .c (.int .i64 (i : Int))] (fun v => v = .c (.int .i64 (atI s i))) := by
  have hsz : s.data.toList.length = s.size := by simp
  refine apure_of hTS Try.func55 (by kernel_rfl) rfl rfl rfl ?_
  refine bsplit_d (fun h1 _ => ?_) (fun h1 _ => ?_)
  · have : s.data.toList[i]? = none := List.getElem?_eq_none (by omega)
    show AV.c _ = _
    simp [atI, this]
  · obtain ⟨u, hu⟩ : ∃ u, s.data.toList[i]? = some u := ⟨_, List.getElem?_eq_getElem (by omega)⟩
    refine elev (by omega) u (by rw [show ((i : Nat) : Int).toNat = i by omega]; exact hu) ?_
    have := u.toNat_lt
    show AV.c (.int .i64 (IntKind.i64.wrap _)) = _
    rw [wr (by omega) (by omega)]
    simp [atI, hu]

theorem nameCh_iff {k : Nat} {u : UInt8} : nameCh k u = true ↔ ((97 ≤ u.toNat ∧ u.toNat ≤ 122) ∨ (0 < k ∧ 48 ≤ u.toNat ∧ u.toNat ≤ 57)) := by
  simp [nameCh, letB, digB]

theorem name_r (s : ByteArray) (n : Nat) (hs : s.size ≤ 4096) (hn : n ≤ s.size) : APure Try.prog 75 [.c (.string s), .c (.int .i64 (n : Int))] (fun v =>
    ((nameLen s n = 0 ∨ 20 < nameLen s n) ∧ ∃ a e, e ≠ 0 ∧ v = .agg [.c (.int .i64 a), .c (.int .i64 e)]) ∨
      (0 < nameLen s n ∧ nameLen s n ≤ 20 ∧ n + nameLen s n ≤ s.size ∧ v = .agg [.c (.int .i64 ((n + nameLen s n : Nat) : Int)), .c (.int .i64 0)])) := by
  have hsz : s.data.toList.length = s.size := by simp
  refine apure_of hTS Try.func75 (by kernel_rfl) rfl rfl rfl ?_
  refine loop_on hTS (fun k => n + k ≤ s.size ∧ ∀ j, j < k → ∃ u, s.data.toList[n + j]? = some u ∧ nameCh j u = true) (fun k => ⟨[(0, .v (.c (.string s))), (1, .v (.c (.int .i64 (n : Int)))), (4, .ref 0 0), (5, .v (.c (.int .i64 ((n + k : Nat) : Int))))], []⟩) (fun _ => [.cells [.v (.c (.int .i64 0)), .v (.c (.int .i64 0))]]) (fun k => s.size - k) 0 ⟨by omega, fun i h => absurd h (Nat.not_lt_zero _)⟩
    ⟨rfl, rfl, (by (repeat' (first | exact trivial | refine ⟨⟨?_, rfl⟩, ?_⟩ | fail)); all_goals (first | (show some (SV.v (AV.c (Value.int .i64 (IntKind.i64.wrap _)))) = _; rw [inc (by omega)]; try rfl) | rfl)), ⟨[], rfl⟩, rfl⟩ ?_
  rintro k ⟨hk, hall⟩
  have hw : IntKind.i64.wrap (((n + k : Nat) : Int) - (n : Int)) = (k : Int) := by rw [wr (by omega) (by omega)]; omega
  have hend : ∀ {k' : Nat}, NameEnd s n k' → nameLen s n = k' := fun h => (nameLen_end s n).unique h
  refine bsplit_d (fun h1 _ => ?_) (fun h1 _ => ?_)
  case' refine_1 =>
    obtain ⟨u, hu⟩ : ∃ u, s.data.toList[n + k]? = some u := ⟨_, List.getElem?_eq_getElem (by omega)⟩
    have hu' : s.data.toList[((n + k : Nat) : Int).toNat]? = some u := hu
    by_cases hc : nameCh k u = true
    case' pos =>
      have hc' := nameCh_iff.1 hc
      clear hend
      repeat' (first | refine bsplit_t (by first | with_reducible assumption | with_reducible rfl) ?_ | refine bsplit_f (by first | with_reducible assumption | with_reducible rfl) ?_ | refine bsplit_t (decide_eq_true (by omega)) ?_ | refine bsplit_f (decide_eq_false (by omega)) ?_ | refine elev (Int.natCast_nonneg _) u hu' ?_ | refine bsplit_d (fun _ _ => ?_) (fun _ _ => ?_) | fail)
      all_goals
        refine ⟨k + 1, ⟨by omega, ?_⟩, (by dsimp only; omega), ⟨rfl, rfl, (by (repeat' (first | exact trivial | refine ⟨⟨?_, rfl⟩, ?_⟩ | fail)); all_goals (first | (show some (SV.v (AV.c (Value.int .i64 (IntKind.i64.wrap _)))) = _; rw [inc (by omega)]; try rfl) | rfl)), ⟨[], rfl⟩, rfl⟩⟩
        intro j hj
        rcases Nat.lt_or_ge j k with h9 | h9
        · exact hall j h9
        · have : j = k := by omega
          subst this
          exact ⟨u, hu, hc⟩
    case' neg =>
      have hE := hend (k' := k) ⟨hall, fun u' h => by rw [hu] at h; cases h; simpa using hc⟩
      have hc' := mt nameCh_iff.2 hc
      repeat' (first | refine bsplit_t (by first | with_reducible assumption | with_reducible rfl) ?_ | refine bsplit_f (by first | with_reducible assumption | with_reducible rfl) ?_ | refine bsplit_t (decide_eq_true (by omega)) ?_ | refine bsplit_f (decide_eq_false (by omega)) ?_ | refine elev (Int.natCast_nonneg _) u hu' ?_ | refine bsplit_d (fun _ _ => ?_) (fun _ _ => ?_) | fail)
  case' refine_2 =>
    have hE := hend (k' := k) ⟨hall, fun u hu => by
      have := get_lt hu
      omega⟩
    repeat' (first | refine bsplit_t (by first | with_reducible assumption | with_reducible rfl) ?_ | refine bsplit_f (by first | with_reducible assumption | with_reducible rfl) ?_ | refine bsplit_d (fun _ _ => ?_) (fun _ _ => ?_) | fail)
  all_goals
    first
    | exact .inl ⟨.inl (by omega), _, _, by decide, rfl⟩
    | exact .inl ⟨.inr (by omega), _, _, by decide, rfl⟩
    | exact .inr ⟨by omega, by omega, by omega, by rw [hE]; rfl⟩

end Go.AV0
