/- values made: points, lists, maps. -/
import Derived.Test.YthbglcdcfdjbbaaV1
namespace Go.AV0
open Go.Proofs

theorem vtM_app : ∀ (l : List (ByteArray × VT)) (k : ByteArray) (x : VT), vtM (l ++ [(k, x)]) = vtM l ++ [(k, .agg [.ifc (vtO x)])]
  | [], k, x => by simp [vtM]
  | (k', t) :: l, k, x => by simp [vtM, vtM_app l k x]

theorem near_v (n : Int) : APure Try.prog 66 [.c (.int .i64 n)] (fun r => r = .c (.bool (decide (-9007199254740992 ≤ n) && decide (n ≤ 9007199254740992)))) := by
  refine apure_of hTS Try.func66 (by kernel_rfl) rfl rfl rfl ?_
  refine bsplit_d (fun h1 e1 => ?_) (fun h1 e1 => ?_)
  · repeat' (first | refine bsplit_t (by first | with_reducible assumption | with_reducible rfl | with_reducible exact Bool.not_true | with_reducible exact Bool.not_false) ?_ | refine bsplit_f (by first | with_reducible assumption | with_reducible rfl | with_reducible exact Bool.not_true | with_reducible exact Bool.not_false) ?_ | fail)
    show AV.c _ = _
    rw [e1]; rfl
  · repeat' (first | refine bsplit_t (by first | with_reducible assumption | with_reducible rfl | with_reducible exact Bool.not_true | with_reducible exact Bool.not_false) ?_ | refine bsplit_f (by first | with_reducible assumption | with_reducible rfl | with_reducible exact Bool.not_true | with_reducible exact Bool.not_false) ?_ | fail)
    show AV.c _ = _
    rw [e1]; rfl

def isNear (n : Int) : Bool := decide (-9007199254740992 ≤ n) && decide (n ≤ 9007199254740992)

theorem point_v (re im : Int) : APure Try.prog 37 [.c (.int .i64 re), .c (.int .i64 im)] (fun r =>
    ((isNear re && isNear im) = true ∧ r = .tup [vtA (.pt (FloatKind.f64.nearest re) (FloatKind.f64.nearest im)), .c (.int .i64 0)]) ∨ ((isNear re && isNear im) = false ∧ r = .tup [vtA .null, .c (.int .i64 2)])) := by
  refine apure_of hTS Try.func37 (by kernel_rfl) rfl rfl rfl ?_
  refine call_pure (near_v re) rfl ?_
  rintro _ rfl
  cases h1 : isNear re with
  | false =>
    have e1 : (decide (-9007199254740992 ≤ re) && decide (re ≤ 9007199254740992)) = false := h1
    have e2 : (!(decide (-9007199254740992 ≤ re) && decide (re ≤ 9007199254740992))) = true := by rw [e1]; rfl
    repeat' (first | refine bsplit_t (by first | with_reducible assumption | with_reducible rfl | with_reducible exact Bool.not_true | with_reducible exact Bool.not_false) ?_ | refine bsplit_f (by first | with_reducible assumption | with_reducible rfl | with_reducible exact Bool.not_true | with_reducible exact Bool.not_false) ?_ | fail)
    exact .inr ⟨rfl, rfl⟩
  | true =>
    have e1 : (decide (-9007199254740992 ≤ re) && decide (re ≤ 9007199254740992)) = true := h1
    have e2 : (!(decide (-9007199254740992 ≤ re) && decide (re ≤ 9007199254740992))) = false := by rw [e1]; rfl
    repeat' (first | refine bsplit_t (by first | with_reducible assumption | with_reducible rfl | with_reducible exact Bool.not_true | with_reducible exact Bool.not_false) ?_ | refine bsplit_f (by first | with_reducible assumption | with_reducible rfl | with_reducible exact Bool.not_true | with_reducible exact Bool.not_false) ?_ | fail)
    refine call_pure (near_v im) rfl ?_
    rintro _ rfl
    cases h2 : isNear im with
    | false =>
      have e3 : (decide (-9007199254740992 ≤ im) && decide (im ≤ 9007199254740992)) = false := h2
      have e4 : (!(decide (-9007199254740992 ≤ im) && decide (im ≤ 9007199254740992))) = true := by rw [e3]; rfl
      repeat' (first | refine bsplit_t (by first | with_reducible assumption | with_reducible rfl | with_reducible exact Bool.not_true | with_reducible exact Bool.not_false) ?_ | refine bsplit_f (by first | with_reducible assumption | with_reducible rfl | with_reducible exact Bool.not_true | with_reducible exact Bool.not_false) ?_ | fail)
      exact .inr ⟨rfl, rfl⟩
    | true =>
      have e3 : (decide (-9007199254740992 ≤ im) && decide (im ≤ 9007199254740992)) = true := h2
      have e4 : (!(decide (-9007199254740992 ≤ im) && decide (im ≤ 9007199254740992))) = false := by rw [e3]; rfl
      repeat' (first | refine bsplit_t (by first | with_reducible assumption | with_reducible rfl | with_reducible exact Bool.not_true | with_reducible exact Bool.not_false) ?_ | refine bsplit_f (by first | with_reducible assumption | with_reducible rfl | with_reducible exact Bool.not_true | with_reducible exact Bool.not_false) ?_ | fail)
      exact .inl ⟨rfl, rfl⟩

theorem cloneL_v (l : List VT) (hl : l.length ≤ 1000000) : APure Try.prog 67 [.sl (vtL l)] (fun r => r = .sl (vtL l)) := by
  refine apure_of hTS Try.func67 (by kernel_rfl) rfl rfl rfl ?_
  refine anyb (fun t ht => ?_)
  refine bsplit (fun h => ?_) (fun h => ?_)
  · have : vtL l = [] := Decidable.byContradiction fun hne => by have := ht hne; rw [h] at this; cases this
    rw [this]
    show nrm (AV.c _) = _
    rfl
  · refine side ⟨vtL_one l, by rw [vtL_len]; show (0 + l.length) * 17 ≤ 70368744177664; omega⟩ ?_
    show AV.sl _ = _
    rfl

theorem clonel_v (l : List VT) (hl : l.length ≤ 1000000) : APure Try.prog 63 [.sl (vtL l)] (fun r => r = .sl (vtL l)) := by
  refine apure_of hTS Try.func63 (by kernel_rfl) rfl rfl rfl ?_
  refine anyb (fun t ht => ?_)
  refine bsplit (fun h => ?_) (fun h => ?_)
  · have : vtL l = [] := Decidable.byContradiction fun hne => by have := ht hne; rw [h] at this; cases this
    rw [this]
    show nrm (AV.c _) = _
    rfl
  · refine side ⟨vtL_one l, by rw [vtL_len]; show (0 + l.length) * 17 ≤ 70368744177664; omega⟩ ?_
    show AV.sl _ = _
    rfl

theorem cloneS_v (l : List ByteArray) (hl : l.length ≤ 1000000) : APure Try.prog 54 [.sl (nmA l)] (fun r => r = .sl (nmA l)) := by
  refine apure_of hTS Try.func54 (by kernel_rfl) rfl rfl rfl ?_
  refine anyb (fun t ht => ?_)
  refine bsplit (fun h => ?_) (fun h => ?_)
  · have : nmA l = [] := Decidable.byContradiction fun hne => by have := ht hne; rw [h] at this; cases this
    rw [this]
    show nrm (AV.c _) = _
    rfl
  · refine side ⟨nmA_one l, by rw [nmA_len]; show (0 + l.length) * 17 ≤ 70368744177664; omega⟩ ?_
    show AV.sl _ = _
    rfl

theorem list_v (l : List VT) (hl : l.length ≤ 1000000) : APure Try.prog 39 [.sl (vtL l)] (fun r => r = vtA (.list l)) := by
  refine apure_of hTS Try.func39 (by kernel_rfl) rfl rfl rfl ?_
  refine call_pure (cloneL_v l hl) rfl ?_
  rintro _ rfl
  show AV.agg _ = _
  rfl

end Go.AV0
