/- kind: a reader's words. -/
import Derived.Test.YthbglcdcfdjbbaaK3
namespace Go.AV0
open Go.Proofs

def prefB (s : ByteArray) (n : Nat) (w : ByteArray) : Bool := decide (w.size ≤ (s.extract n s.size).size) && decide ((s.extract n s.size).extract 0 w.size = w)

/-- the first word that stands there -/
def hitW (s : ByteArray) (n : Nat) : List ByteArray → Nat → Option (Nat × Nat)
  | [], _ => none
  | w :: l, i => if prefB s n w = true then some (i, w.size) else hitW s n l (i + 1)

theorem hitW_none {s n} : ∀ {l : List ByteArray} {i : Nat}, (∀ w ∈ l, prefB s n w = false) → hitW s n l i = none
  | [], i, _ => rfl
  | w :: l, i, h => by simp only [hitW]; rw [h w (by simp)]; exact hitW_none fun v hv => h v (by simp [hv])

theorem hitW_some {s n} : ∀ {l : List ByteArray} {k i : Nat} {w : ByteArray}, l[k]? = some w → prefB s n w = true → (∀ j v, j < k → l[j]? = some v → prefB s n v = false) → hitW s n l i = some (i + k, w.size)
  | [], k, i, w, h, _, _ => by simp at h
  | v :: l, 0, i, w, h, hp, _ => by simp at h; subst h; simp [hitW, hp]
  | v :: l, k + 1, i, w, h, hp, hall => by
    simp only [hitW]
    rw [hall 0 v (by omega) rfl]
    simp only [Bool.false_eq_true, if_false]
    rw [hitW_some (k := k) (i := i + 1) (by simpa using h) hp (fun j v hj hv => hall (j + 1) v (by omega) (by simpa using hv))]
    congr 2; omega

theorem prefB_size {s n w} (h : prefB s n w = true) : w.size ≤ s.size - n := by
  simp [prefB] at h; omega

def wsA (ws : List ByteArray) : AV := .sl (ws.map fun w => [.c (.string w)])

theorem word_c (s : ByteArray) (n deep : Nat) (ws : List ByteArray) (hs : s.size ≤ 4096) (hn : n ≤ s.size) (hws : ws.length ≤ 100) (hwl : ∀ w ∈ ws, w.size ≤ 100) : AImp Try.prog 61 [.ref 0 0, .v (wsA ws)] [rd s n 0 deep] []
    (fun r h => (hitW s n ws 0 = none ∧ ∃ n' e', e' ≠ 0 ∧ r = .v (.c (.int .i64 0)) ∧ h = [rd s n' e' deep]) ∨
      (∃ i l, hitW s n ws 0 = some (i, l) ∧ i < ws.length ∧ n + l ≤ s.size ∧ r = .v (.c (.int .i64 (i : Int))) ∧ h = [rd s (n + l) 0 deep])) := by
  have hsz : s.data.toList.length = s.size := by simp
  refine aimp_of hTS Try.func61 (by kernel_rfl) rfl rfl rfl (fun p => ?_)
  refine loop_inv hTS (X := { x : Nat × Nat // x.1 ≤ ws.length ∧ x.2 ≤ 100 ∧ ∀ j v, j < x.1 → ws[j]? = some v → prefB s n v = false })
    (fun x => ⟨[(0, .ref 0 0), (5, .v (.c (.int .i64 (x.1.2 : Int)))), (9, .v (wsA ws)), (10, .v (.c (.int .i64 ((ws.map fun w => [AV.c (.string w)]).length : Int)))), (11, .v (.c (.int .i64 (x.1.1 : Int))))], []⟩) (fun x => [rd s n 0 deep, .pin 0 (p 0)]) (fun x => ws.length - x.1.1) ⟨(0, 0), Nat.zero_le _, Nat.zero_le _, fun i v h => absurd h (Nat.not_lt_zero _)⟩
    ⟨rfl, rfl, ⟨⟨rfl, rfl⟩, ⟨rfl, rfl⟩, ⟨rfl, rfl⟩, ⟨rfl, rfl⟩, ⟨rfl, rfl⟩, trivial⟩, ⟨[], rfl⟩, rfl⟩ ?_
  rintro ⟨⟨k, far⟩, hk, hfar, hall⟩
  simp only at hk hfar hall
  refine bsplit (fun h1 => ?_) (fun h1 => ?_)
  · have h1' : k < ws.length := by simp at h1; omega
    obtain ⟨w, hw⟩ : ∃ w, ws[k]? = some w := ⟨_, List.getElem?_eq_getElem h1'⟩
    have hwz := hwl w (List.mem_of_getElem? hw)
    refine elev (Int.natCast_nonneg _) [AV.c (.string w)] (by show (ws.map fun w => [AV.c (.string w)])[((k : Nat) : Int).toNat]? = _; simp [hw]) ?_
    refine draw_ev hTS (by kernel_rfl) (.pur 0 (.pur 1 (.pur 2 (.pur 3 (.pur 5 (.pur 6 (.pur 7 (.pur 8 (.pur 11 (.part [] [] (.take 4 (.one 9 (.pur 10 (.one 12 .done)))))))))))))) (by kernel_rfl) ?_
    refine side ⟨by omega, by omega, by omega⟩ ?_
    refine call_pure (stringsHasPrefix_c _ w) rfl ?_
    rintro _ rfl
    refine bsplit (fun h2 => ?_) (fun h2 => ?_)
    · have hp : prefB s n w = true := h2
      have hz := prefB_size hp
      have hh := hitW_some (i := 0) hw hp hall
      refine ⟨⟨rfl, trivial⟩, 1, rfl, .inr ⟨k, w.size, by rw [hh]; simp, h1', by omega, rfl, ?_⟩⟩
      show [SO.cells [_, .v (.c (.int .i64 (IntKind.i64.wrap ((n : Int) + (w.size : Int))))), _, _]] = [SO.cells [_, .v (.c (.int .i64 ((n + w.size : Nat) : Int))), _, _]]
      rw [wr (by omega) (by omega)]; rfl
    · have hp : prefB s n w = false := h2
      refine loop_inv hTS (X := { j : Nat // j ≤ w.size }) (fun j => ⟨[(0, .ref 0 0), (5, .v (.c (.int .i64 (far : Int)))), (7, .v (.c (.string w))), (8, .v (.c (.int .i64 (j.1 : Int)))), (9, .v (wsA ws)), (10, .v (.c (.int .i64 ((ws.map fun w => [AV.c (.string w)]).length : Int)))), (11, .v (.c (.int .i64 (k : Int))))], []⟩) (fun x => [rd s n 0 deep, .pin 0 (p 0)]) (fun j => w.size - j.1) ⟨0, Nat.zero_le _⟩
        ⟨rfl, rfl, ⟨⟨rfl, rfl⟩, ⟨rfl, rfl⟩, ⟨rfl, rfl⟩, ⟨rfl, rfl⟩, ⟨rfl, rfl⟩, ⟨rfl, rfl⟩, ⟨rfl, rfl⟩, trivial⟩, ⟨[], rfl⟩, rfl⟩ ?_
      rintro ⟨j, hj⟩
      refine draw_ev hTS (by kernel_rfl) (.pur 0 (.pur 1 (.one 2 (.pur 3 (.pur 4 (.pur 5 (.pur 6 (.pur 7 (.pur 8 (.pur 10 (.pur 12 (.pur 13 (.pur 14 (.pur 15 (.part [] [] (.take 9 (.pur 11 (.one 16 (.one 17 (.pur 18 (.pur 19 (.pur 20 (.pur 21 (.pur 22 (.pur 23 (.pur 24 (.pur 26 (.pur 27 (.pur 28 (.pur 29 (.pur 31 (.pur 34 (.pur 35 (.pur 36 (.take 25 (.one 30 (.pur 32 (.pur 33 (.pur 37 (.pur 38 .done)))))))))))))))))))))))))))))))))))))))) (by kernel_rfl) ?_
      refine bsplit (fun h3 => ?_) (fun h3 => ?_)
      case' refine_1 =>
        have h3' : j < w.size := by simp at h3; omega
        repeat' (first | refine bsplit_t (by first | with_reducible assumption | with_reducible rfl | with_reducible exact Bool.not_true | with_reducible exact Bool.not_false) ?_ | refine bsplit_f (by first | with_reducible assumption | with_reducible rfl | with_reducible exact Bool.not_true | with_reducible exact Bool.not_false) ?_ | fail)
        refine bsplit (fun h4 => ?_) (fun h4 => ?_)
        case' refine_1 =>
          have h4 : decide (IntKind.i64.wrap ((n : Int) + (j : Int)) < (s.size : Int)) = true := h4
          have hwr : IntKind.i64.wrap ((n : Int) + (j : Int)) = ((n + j : Nat) : Int) := by rw [wr] <;> omega
          rw [hwr] at h4
          have h4' : n + j < s.size := by simp at h4; omega
          repeat' (first | refine bsplit_t (by first | with_reducible assumption | with_reducible rfl | with_reducible exact Bool.not_true | with_reducible exact Bool.not_false) ?_ | refine bsplit_f (by first | with_reducible assumption | with_reducible rfl | with_reducible exact Bool.not_true | with_reducible exact Bool.not_false) ?_ | fail)
          refine elev (Int.natCast_nonneg _) (w.data.toList[j]'(by simp; omega)) (by show w.data.toList[((j : Nat) : Int).toNat]? = _; rw [show ((j : Nat) : Int).toNat = j by omega]; exact List.getElem?_eq_getElem _) ?_
          repeat' (first | refine bsplit_t (by first | with_reducible assumption | with_reducible rfl | with_reducible exact Bool.not_true | with_reducible exact Bool.not_false) ?_ | refine bsplit_f (by first | with_reducible assumption | with_reducible rfl | with_reducible exact Bool.not_true | with_reducible exact Bool.not_false) ?_ | fail)
          refine elev (by show (0 : Int) ≤ IntKind.i64.wrap ((n : Int) + (j : Int)); rw [hwr]; omega) (s.data.toList[n + j]'(by omega)) (by show s.data.toList[(IntKind.i64.wrap ((n : Int) + (j : Int))).toNat]? = _; rw [hwr, show ((n + j : Nat) : Int).toNat = n + j by omega]; exact List.getElem?_eq_getElem _) ?_
          repeat' (first | refine bsplit_t (by first | with_reducible assumption | with_reducible rfl | with_reducible exact Bool.not_true | with_reducible exact Bool.not_false) ?_ | refine bsplit_f (by first | with_reducible assumption | with_reducible rfl | with_reducible exact Bool.not_true | with_reducible exact Bool.not_false) ?_ | fail)
          refine bsplit (fun h5 => ?_) (fun h5 => ?_)
          · refine ⟨⟨j + 1, by omega⟩, by show w.size - (j + 1) < w.size - j; omega, ⟨rfl, rfl, ⟨⟨rfl, rfl⟩, ⟨rfl, rfl⟩, ⟨rfl, rfl⟩, ⟨?_, rfl⟩, ⟨rfl, rfl⟩, ⟨rfl, rfl⟩, ⟨rfl, rfl⟩, trivial⟩, ⟨[], rfl⟩, rfl⟩⟩
            show some (SV.v (AV.c (.int .i64 (IntKind.i64.wrap ((j : Int) + 1))))) = _
            rw [inc (by omega)]
      all_goals repeat' (first | refine bsplit_t (by first | with_reducible assumption | with_reducible rfl | with_reducible exact Bool.not_true | with_reducible exact Bool.not_false) ?_ | refine bsplit_f (by first | with_reducible assumption | with_reducible rfl | with_reducible exact Bool.not_true | with_reducible exact Bool.not_false) ?_ | fail)
      all_goals
        refine ⟨⟨(k + 1, max far j), h1', by show max far j ≤ 100; omega, ?_⟩, by show ws.length - (k + 1) < ws.length - k; omega, ⟨rfl, rfl, ⟨⟨rfl, rfl⟩, ⟨?_, rfl⟩, ⟨rfl, rfl⟩, ⟨rfl, rfl⟩, ⟨?_, rfl⟩, trivial⟩, ⟨[], rfl⟩, rfl⟩⟩
        · intro i v hi hv
          rcases Nat.lt_or_ge i k with h9 | h9
          · exact hall i v h9 hv
          · have : i = k := by simp at hi; omega
            subst this
            rw [hw] at hv; cases hv; exact hp
        · show some (SV.v (AV.c (.int .i64 (max (far : Int) (j : Int))))) = some (SV.v (AV.c (.int .i64 ((max far j : Nat) : Int))))
          congr 4; omega
        · show some (SV.v (AV.c (.int .i64 (IntKind.i64.wrap ((k : Int) + 1))))) = _
          rw [inc (by omega)]
  · repeat' (first | refine bsplit_t (by first | with_reducible assumption | with_reducible rfl | with_reducible exact Bool.not_true | with_reducible exact Bool.not_false) ?_ | refine bsplit_f (by first | with_reducible assumption | with_reducible rfl | with_reducible exact Bool.not_true | with_reducible exact Bool.not_false) ?_ | fail)
    have hk' : k = ws.length := by simp at h1; omega
    refine draw_ev hTS (by kernel_rfl) (.pur 0 (.pur 1 (.pur 2 (.pur 3 (.pur 4 (.pur 5 (.pur 6 (.pur 8 (.one 7 (.pur 9 (.one 10 .done))))))))))) (by kernel_rfl) ?_
    have hwr : IntKind.i64.wrap ((n : Int) + (far : Int)) = ((n + far : Nat) : Int) := by rw [wr] <;> omega
    refine call_obj (fail_c s n 0 deep (n + far) 4) [0] (by show [SV.ref 0 0, SV.v (AV.c (.int .i64 ((n + far : Nat) : Int))), _] = [SV.ref 0 0, SV.v (AV.c (.int .i64 (IntKind.i64.wrap ((n : Int) + (far : Int))))), .v (.c (.int .i64 4))]; rw [hwr]; rfl) rfl rfl ?_
    rintro _ _ ⟨rfl, ⟨_, rfl⟩ | ⟨h9, rfl⟩⟩
    · refine ⟨⟨rfl, trivial⟩, 1, rfl, .inl ⟨hitW_none ?_, _, _, by decide, rfl, rfl⟩⟩
      intro v hv
      obtain ⟨i, hi⟩ := List.mem_iff_getElem?.1 hv
      exact hall i v (by have := get_lt hi; omega) hi
    · exact absurd rfl h9

end Go.AV0
