/- kind: a reader's place. -/
import Derived.Test.YthbglcdcfdjbbaaB1
namespace Go.AV0
open Go.Proofs

/-- a reader: where it stands, what is wrong, how deep it is -/
def rd (s : ByteArray) (at' : Nat) (e : Int) (deep : Nat) : SO := .cells [.v (.c (.string s)), .v (.c (.int .i64 (at' : Int))), .v (.c (.int .i64 e)), .v (.c (.int .i64 (deep : Int)))]

theorem bad_c (s : ByteArray) (at' : Nat) (e : Int) (deep : Nat) : AImp Try.prog 27 [.ref 0 0] [rd s at' e deep] [] (fun r h => (e = 0 ∧ r = .v (.c (.bool false)) ∨ e ≠ 0 ∧ r = .v (.c (.bool true))) ∧ h = [rd s at' e deep]) := by
  refine aimp_of hTS Try.func27 (by kernel_rfl) rfl rfl rfl (fun p => ?_)
  refine ⟨⟨rfl, trivial⟩, 1, rfl, ?_, rfl⟩
  show e = 0 ∧ SV.v (AV.c _) = _ ∨ e ≠ 0 ∧ SV.v (AV.c _) = _
  by_cases h : e = 0 <;> simp [h]

theorem fail_c (s : ByteArray) (at' : Nat) (e : Int) (deep a2 : Nat) (e2 : Int) : AImp Try.prog 28 [.ref 0 0, .v (.c (.int .i64 (a2 : Int))), .v (.c (.int .i64 e2))] [rd s at' e deep] []
    (fun r h => r = .v (.tup []) ∧ ((e = 0 ∧ h = [rd s a2 e2 deep]) ∨ (e ≠ 0 ∧ h = [rd s at' e deep]))) := by
  refine aimp_of hTS Try.func28 (by kernel_rfl) rfl rfl rfl (fun p => ?_)
  refine bsplit (fun h1 => ?_) (fun h1 => ?_)
  · exact ⟨⟨rfl, trivial⟩, 1, rfl, rfl, .inl ⟨by simpa using h1, rfl⟩⟩
  · exact ⟨⟨rfl, trivial⟩, 1, rfl, rfl, .inr ⟨by simpa using h1, rfl⟩⟩

/-- this byte stands there -/
def stands (s : ByteArray) (n : Nat) (c : Int) : Bool :=
  match s.data.toList[n]? with
  | some u => decide ((u.toNat : Int) = c)
  | none => false

theorem stands_lt {s n c} (h : stands s n c = true) : n < s.size := by
  unfold stands at h
  split at h
  · rename_i u hu
    have := get_lt hu
    simpa using this
  · cases h

theorem is_c (s : ByteArray) (at' : Nat) (e : Int) (deep : Nat) (c : Int) (h0 : s.size ≤ 4096) : AImp Try.prog 58 [.ref 0 0, .v (.c (.int .u8 c))] [rd s at' e deep] []
    (fun r h => (e = 0 ∧ stands s at' c = true ∧ r = .v (.c (.bool true)) ∧ h = [rd s (at' + 1) e deep]) ∨ ((e = 0 → stands s at' c = false) ∧ r = .v (.c (.bool false)) ∧ h = [rd s at' e deep])) := by
  have hsz : s.data.toList.length = s.size := by simp
  refine aimp_of hTS Try.func58 (by kernel_rfl) rfl rfl rfl (fun p => ?_)
  refine draw_ev hTS (by kernel_rfl) (.pur 0 (.one 1 (.pur 2 (.pur 3 (.pur 4 (.pur 5 (.pur 7 (.pur 8 (.pur 9 (.part [] [] (.take 6 (.one 10 (.one 11 (.pur 12 (.pur 13 (.pur 14 (.pur 15 (.pur 16 (.pur 17 (.pur 19 (.pur 20 (.pur 21 (.pur 24 (.take 18 (.one 22 (.pur 23 (.pur 25 (.pur 26 .done)))))))))))))))))))))))))))) (by kernel_rfl) ?_
  refine call_obj (bad_c s at' e deep) [0] rfl rfl rfl ?_
  rintro _ _ ⟨⟨h1, rfl⟩ | ⟨h1, rfl⟩, rfl⟩
  · repeat' (first | refine bsplit_t (by first | with_reducible assumption | with_reducible rfl | with_reducible exact Bool.not_true | with_reducible exact Bool.not_false) ?_ | refine bsplit_f (by first | with_reducible assumption | with_reducible rfl | with_reducible exact Bool.not_true | with_reducible exact Bool.not_false) ?_ | fail)
    refine bsplit (fun h3 => ?_) (fun h3 => ?_)
    · repeat' (first | refine bsplit_t (by first | with_reducible assumption | with_reducible rfl | with_reducible exact Bool.not_true | with_reducible exact Bool.not_false) ?_ | refine bsplit_f (by first | with_reducible assumption | with_reducible rfl | with_reducible exact Bool.not_true | with_reducible exact Bool.not_false) ?_ | fail)
      have : s.data.toList[at']? = none := List.getElem?_eq_none (by simp at h3 hsz ⊢; omega)
      exact ⟨⟨rfl, trivial⟩, 1, rfl, .inr ⟨fun _ => by simp [stands, this], rfl, rfl⟩⟩
    · repeat' (first | refine bsplit_t (by first | with_reducible assumption | with_reducible rfl | with_reducible exact Bool.not_true | with_reducible exact Bool.not_false) ?_ | refine bsplit_f (by first | with_reducible assumption | with_reducible rfl | with_reducible exact Bool.not_true | with_reducible exact Bool.not_false) ?_ | fail)
      have hlt : at' < s.data.toList.length := by simp at h3 hsz ⊢; omega
      refine elev (Int.natCast_nonneg _) s.data.toList[at'] (by simp) ?_
      repeat' (first | refine bsplit_t (by first | with_reducible assumption | with_reducible rfl | with_reducible exact Bool.not_true | with_reducible exact Bool.not_false) ?_ | refine bsplit_f (by first | with_reducible assumption | with_reducible rfl | with_reducible exact Bool.not_true | with_reducible exact Bool.not_false) ?_ | fail)
      refine bsplit (fun h4 => ?_) (fun h4 => ?_)
      · refine ⟨⟨rfl, trivial⟩, 1, rfl, .inr ⟨fun _ => ?_, rfl, rfl⟩⟩
        simp at h4
        simp [stands, List.getElem?_eq_getElem hlt]
        exact h4
      · refine ⟨⟨rfl, trivial⟩, 1, rfl, .inl ⟨h1, ?_, rfl, ?_⟩⟩
        · simp at h4
          simp [stands, List.getElem?_eq_getElem hlt, h4]
        · show [SO.cells _] = [SO.cells _]
          have : IntKind.i64.wrap ((at' : Int) + 1) = ((at' + 1 : Nat) : Int) := by rw [wr] <;> omega
          simp only [this]
  · repeat' (first | refine bsplit_t (by first | with_reducible assumption | with_reducible rfl | with_reducible exact Bool.not_true | with_reducible exact Bool.not_false) ?_ | refine bsplit_f (by first | with_reducible assumption | with_reducible rfl | with_reducible exact Bool.not_true | with_reducible exact Bool.not_false) ?_ | fail)
    exact ⟨⟨rfl, trivial⟩, 1, rfl, .inr ⟨fun h => absurd h h1, rfl, rfl⟩⟩

theorem must_c (s : ByteArray) (at' : Nat) (e : Int) (deep : Nat) (c : Int) (h0 : s.size ≤ 4096) : AImp Try.prog 76 [.ref 0 0, .v (.c (.int .u8 c))] [rd s at' e deep] []
    (fun r h => r = .v (.tup []) ∧ ((e = 0 ∧ stands s at' c = true ∧ h = [rd s (at' + 1) 0 deep]) ∨ (e = 0 ∧ stands s at' c = false ∧ h = [rd s at' 4 deep]) ∨ (e ≠ 0 ∧ h = [rd s at' e deep]))) := by
  refine aimp_of hTS Try.func76 (by kernel_rfl) rfl rfl rfl (fun p => ?_)
  refine call_obj (bad_c s at' e deep) [0] rfl rfl rfl ?_
  rintro _ _ ⟨⟨h1, rfl⟩ | ⟨h1, rfl⟩, rfl⟩
  · repeat' (first | refine bsplit_t (by first | with_reducible assumption | with_reducible rfl | with_reducible exact Bool.not_true | with_reducible exact Bool.not_false) ?_ | refine bsplit_f (by first | with_reducible assumption | with_reducible rfl | with_reducible exact Bool.not_true | with_reducible exact Bool.not_false) ?_ | fail)
    refine call_obj (is_c s at' e deep c h0) [0] rfl rfl rfl ?_
    rintro _ _ (⟨_, h2, rfl, rfl⟩ | ⟨h2, rfl, rfl⟩)
    · repeat' (first | refine bsplit_t (by first | with_reducible assumption | with_reducible rfl | with_reducible exact Bool.not_true | with_reducible exact Bool.not_false) ?_ | refine bsplit_f (by first | with_reducible assumption | with_reducible rfl | with_reducible exact Bool.not_true | with_reducible exact Bool.not_false) ?_ | fail)
      refine ⟨⟨rfl, trivial⟩, 1, rfl, rfl, .inl ⟨h1, h2, ?_⟩⟩
      subst h1; rfl
    · repeat' (first | refine bsplit_t (by first | with_reducible assumption | with_reducible rfl | with_reducible exact Bool.not_true | with_reducible exact Bool.not_false) ?_ | refine bsplit_f (by first | with_reducible assumption | with_reducible rfl | with_reducible exact Bool.not_true | with_reducible exact Bool.not_false) ?_ | fail)
      refine call_obj (fail_c s at' e deep at' 4) [0] rfl rfl rfl ?_
      rintro _ _ ⟨rfl, ⟨_, rfl⟩ | ⟨h3, rfl⟩⟩
      · exact ⟨⟨rfl, trivial⟩, 1, rfl, rfl, .inr (.inl ⟨h1, h2 h1, rfl⟩)⟩
      · exact absurd h1 h3
  · repeat' (first | refine bsplit_t (by first | with_reducible assumption | with_reducible rfl | with_reducible exact Bool.not_true | with_reducible exact Bool.not_false) ?_ | refine bsplit_f (by first | with_reducible assumption | with_reducible rfl | with_reducible exact Bool.not_true | with_reducible exact Bool.not_false) ?_ | fail)
    exact ⟨⟨rfl, trivial⟩, 1, rfl, rfl, .inr (.inr ⟨h1, rfl⟩)⟩

end Go.AV0
