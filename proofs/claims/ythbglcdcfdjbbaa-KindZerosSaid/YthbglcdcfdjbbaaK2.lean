/- kind: names, words. -/
import Derived.Test.YthbglcdcfdjbbaaK1
namespace Go.AV0
open Go.Proofs

def letB (u : UInt8) : Bool := decide (97 ≤ u.toNat) && decide (u.toNat ≤ 122)
def digB (u : UInt8) : Bool := decide (48 ≤ u.toNat) && decide (u.toNat ≤ 57)

theorem lettered_c (u : UInt8) : APure Try.prog 92 [.c (.int .u8 (u.toNat : Int))] (fun v => v = .c (.bool (letB u || digB u))) := by
  refine apure_of hTS Try.func92 (by kernel_rfl) rfl rfl rfl ?_
  repeat' (first | refine bsplit_t (by first | rfl | assumption) ?_ | refine bsplit_f (by first | rfl | assumption) ?_ | refine bsplit (fun _ => ?_) (fun _ => ?_))
  all_goals
    show AV.c (.bool _) = _
    congr 2
    rw [Bool.eq_iff_iff]
    simp [letB, digB] at *
    omega

/-- a name's byte -/
def nameCh (i : Nat) (u : UInt8) : Bool := letB u || (decide (0 < i) && digB u)

theorem named_c (s : ByteArray) (hs : s.size ≤ 4096) : APure Try.prog 91 [.c (.string s)] (fun v => ∃ b, v = .c (.bool b) ∧ (b = true ↔ (∀ i u, s.data.toList[i]? = some u → nameCh i u = true) ∧ s.size ≠ 0 ∧ s.size ≤ 20)) := by
  have hsz : s.data.toList.length = s.size := by simp
  refine apure_of hTS Try.func91 (by kernel_rfl) rfl rfl rfl ?_
  refine loop_inv hTS (X := { k : Nat // k ≤ s.size ∧ ∀ i u, i < k → s.data.toList[i]? = some u → nameCh i u = true }) (fun x => ⟨[(0, .v (.c (.string s))), (6, .v (.c (.int .i64 (s.size : Int)))), (7, .v (.c (.int .i64 (x.1 : Int))))], []⟩) (fun _ => []) (fun x => s.size - x.1) ⟨0, Nat.zero_le _, fun i u h => absurd h (Nat.not_lt_zero _)⟩
    ⟨rfl, rfl, ⟨⟨rfl, rfl⟩, ⟨rfl, rfl⟩, ⟨rfl, rfl⟩, trivial⟩, ⟨[], rfl⟩, rfl⟩ ?_
  rintro ⟨k, hk, hall⟩
  refine bsplit (fun h1 => ?_) (fun h1 => ?_)
  · have h1' : k < s.data.toList.length := by simp at h1 hsz ⊢; omega
    refine elev (Int.natCast_nonneg _) s.data.toList[k] (by simp) ?_
    refine bsplit (fun h2 => ?_) (fun h2 => ?_) <;> repeat' (first | refine bsplit_t (by first | rfl | assumption) ?_ | refine bsplit_f (by first | rfl | assumption) ?_ | refine bsplit (fun _ => ?_) (fun _ => ?_))
    all_goals first
      | (refine ⟨false, rfl, ?_⟩
         refine ⟨fun h => (by cases h), fun h => ?_⟩
         have h9 := h.1 k s.data.toList[k] (by simp)
         simp [nameCh, letB, digB] at h9
         simp at *
         omega)
      | (refine ⟨⟨k + 1, by simp at h1; omega, ?_⟩, by show s.size - (k + 1) < s.size - k; simp at h1; omega, ⟨rfl, rfl, ⟨⟨rfl, rfl⟩, ⟨rfl, rfl⟩, ⟨?_, rfl⟩, trivial⟩, ⟨[], rfl⟩, rfl⟩⟩
         · intro i u hi hu
           rcases Nat.lt_or_ge i k with h9 | h9
           · exact hall i u h9 hu
           · have : i = k := by omega
             subst this
             rw [List.getElem?_eq_getElem h1'] at hu
             cases hu
             simp [nameCh, letB, digB]
             simp at *
             omega
         · show some (SV.v (AV.c (.int .i64 (IntKind.i64.wrap ((k : Int) + 1))))) = _
           rw [inc (by omega)])
  · repeat' (first | refine bsplit_t (by first | with_reducible assumption | with_reducible rfl | with_reducible exact Bool.not_true | with_reducible exact Bool.not_false) ?_ | refine bsplit_f (by first | with_reducible assumption | with_reducible rfl | with_reducible exact Bool.not_true | with_reducible exact Bool.not_false) ?_ | fail)
    have hk2 : s.size = k := by simp at h1; omega
    repeat' (first | refine bsplit_t (by first | rfl | assumption) ?_ | refine bsplit_f (by first | rfl | assumption) ?_ | refine bsplit (fun _ => ?_) (fun _ => ?_))
    · rename_i h2
      refine ⟨_, rfl, ?_⟩
      have h3 : s.size ≠ 0 := by
        intro h
        simp at h2
        apply h2
        cases s; rename_i d
        have : d.size = 0 := h
        simp at this
        rw [this]
      have hall2 : ∀ i u, s.data.toList[i]? = some u → nameCh i u = true := fun i u hu => hall i u (by have := get_lt hu; omega) hu
      constructor
      · intro h; exact ⟨hall2, h3, by simp at h; omega⟩
      · intro h; simp; omega
    · rename_i h2
      refine ⟨_, rfl, ?_⟩
      simp at h2
      constructor
      · intro h; cases h
      · intro h; exact absurd (by rw [h2]; rfl) h.2.1

theorem hasPrefix_c (s p : ByteArray) : APure Try.prog 85 [.c (.string s), .c (.string p)] (fun v => v = .c (.bool (decide (p.size ≤ s.size) && decide (s.extract 0 p.size = p)))) := by
  refine apure_of hTS Try.func85 (by kernel_rfl) rfl rfl rfl ?_
  refine bsplit (fun h1 => ?_) (fun h1 => ?_)
  · repeat' (first | refine bsplit_t (by first | with_reducible assumption | with_reducible rfl | with_reducible exact Bool.not_true | with_reducible exact Bool.not_false) ?_ | refine bsplit_f (by first | with_reducible assumption | with_reducible rfl | with_reducible exact Bool.not_true | with_reducible exact Bool.not_false) ?_ | fail)
    refine side ⟨by omega, by omega, by simp at h1; omega⟩ ?_
    repeat' (first | refine bsplit_t (by first | with_reducible assumption | with_reducible rfl | with_reducible exact Bool.not_true | with_reducible exact Bool.not_false) ?_ | refine bsplit_f (by first | with_reducible assumption | with_reducible rfl | with_reducible exact Bool.not_true | with_reducible exact Bool.not_false) ?_ | fail)
    show AV.c (.bool _) = _
    simp at h1
    simp [h1]
  · repeat' (first | refine bsplit_t (by first | with_reducible assumption | with_reducible rfl | with_reducible exact Bool.not_true | with_reducible exact Bool.not_false) ?_ | refine bsplit_f (by first | with_reducible assumption | with_reducible rfl | with_reducible exact Bool.not_true | with_reducible exact Bool.not_false) ?_ | fail)
    show AV.c (.bool _) = _
    simp at h1
    simp; omega

theorem stringsHasPrefix_c (s p : ByteArray) : APure Try.prog 78 [.c (.string s), .c (.string p)] (fun v => v = .c (.bool (decide (p.size ≤ s.size) && decide (s.extract 0 p.size = p)))) := by
  refine apure_of hTS Try.func78 (by kernel_rfl) rfl rfl rfl ?_
  refine call_pure (hasPrefix_c s p) rfl ?_
  rintro _ rfl
  rfl

def wAny : ByteArray := ⟨#[97, 110, 121]⟩
def wBool : ByteArray := ⟨#[98, 111, 111, 108]⟩
def wInt : ByteArray := ⟨#[105, 110, 116]⟩
def wPoint : ByteArray := ⟨#[112, 111, 105, 110, 116]⟩
def wText : ByteArray := ⟨#[116, 101, 120, 116]⟩
def wList : ByteArray := ⟨#[108, 105, 115, 116]⟩
def wMap : ByteArray := ⟨#[109, 97, 112]⟩

theorem words_c : APure Try.prog 53 [] (fun v => v = .agg [.c (.string wAny), .c (.string wBool), .c (.string wInt), .c (.string wPoint), .c (.string wText)]) := by
  refine apure_of hTS Try.func53 (by kernel_rfl) rfl rfl rfl ?_
  show AV.agg _ = _
  rfl

end Go.AV0
