/- L1, L2: texts of this proof, one behind the other. -/
import Derived.Test.YthbglcdcfdjbbaaMP
import Derived.Test.YthbglcdcfdjbbaaMK
import Derived.Test.YthbglcdcfdjbbaaR5
/- the law KindZeros: awake. -/
namespace Go.AV0
open Go.Proofs

def exS : ByteArray := ⟨#[123, 97, 58, 105, 110, 116, 44, 98, 63, 58, 108, 105, 115, 116, 40, 116, 101, 120, 116, 41, 125]⟩
def exT : KT := .mk 8 [.mk 2 [] [] [], .mk 5 [.mk 4 [] [] []] [] []] [⟨#[97]⟩, ⟨#[98]⟩] [false, true]

theorem exParse : pParse exS = some exT := by kernel_rfl

def exV : VT := .map [(⟨#[97]⟩, .int 1)]

theorem exTakes : wrongK exT exV = none := by
  have hr : rises (([(⟨#[97]⟩, .int 1)] : List (ByteArray × VT)).map (·.1)) := ⟨by simp, trivial⟩
  have h1 : vkeys exV = [⟨#[97]⟩] := (skeys_rises hr)
  have h2 : vitems exV = [.int 1] := vitems_rises hr
  have h3 : objF (wrongF exT.l) exT.names [⟨#[97]⟩] [.int 1] = none := rfl
  have h4 : missK exV exT.names exT.loose = [] := rfl
  have h5 : wrongK exT exV = match objF (wrongF exT.l) exT.names (vkeys exV) (vitems exV) with
      | some p => some p
      | none => match missK exV exT.names exT.loose with
        | s :: _ => some [keyS s]
        | [] => none := by
    unfold exT
    simp only [wrongK]
    rw [if_neg (by decide), if_neg (by decide), if_neg (by decide), if_pos trivial]
    rfl
  rw [h5, h1, h2, h3, h4]

theorem exNot : wrongK exT (.int 1) = some [] := rfl

theorem awake_l : APure Try.prog 5 [] (fun r => r = .c (.bool true)) := by
  obtain ⟨hw, hd, hp⟩ := pParse_ok exParse
  refine apure_of hTS Try.func5 (by kernel_rfl) rfl rfl rfl ?_
  refine call_pure (parse_c exS) rfl ?_
  rintro _ (⟨h, _⟩ | ⟨_, ⟨t, h, rfl⟩ | ⟨h, _⟩⟩)
  · exact absurd h (by decide)
  rotate_left
  · rw [exParse] at h; cases h
  rw [exParse] at h; cases h
  have hv : okV exV := ⟨by decide, by simp, by decide, trivial, trivial⟩
  have hz : ([⟨#[97]⟩] : List ByteArray).zip [VT.int 1] = [(⟨#[97]⟩, .int 1)] := rfl
  refine call_pure (int_v 1) rfl ?_
  rintro _ rfl
  refine call_frz 0 rfl rfl ?_
  refine call_frz 1 rfl rfl ?_
  refine call_pure (map_v [⟨#[97]⟩] [.int 1] (by decide)) rfl ?_
  rintro _ (⟨_, _, rfl⟩ | ⟨h, _⟩)
  rotate_left
  · exact absurd ⟨rfl, by simp⟩ h
  have ht := takes_t exT exV hw (by omega) hv
  rw [exTakes] at ht
  have hpr := print_t exT hw hd
  unfold PrintC at hpr
  rw [hp] at hpr
  have hn := takes_t exT (.int 1) hw (by omega) trivial
  rw [exNot] at hn
  have e1 : (decide (exS = exS)) = true := by simp
  repeat' (first | refine bsplit_t (by decide) ?_ | fail)
  refine call_pure ht rfl ?_
  rintro _ rfl
  repeat' (first | refine bsplit_t (by decide) ?_ | fail)
  refine call_pure hpr rfl ?_
  rintro _ rfl
  repeat' (first | refine bsplit_t (by decide) ?_ | refine bsplit_t e1 ?_ | fail)
  refine call_pure (int_v 1) rfl ?_
  rintro _ rfl
  repeat' (first | refine bsplit_t (by decide) ?_ | refine bsplit_t e1 ?_ | fail)
  refine call_pure hn rfl ?_
  rintro _ rfl
  repeat' (first | refine bsplit_t (by decide) ?_ | refine bsplit_t e1 ?_ | fail)
  show AV.c _ = _
  rfl

end Go.AV0

/- the law KindZeros. -/
namespace Go.AV0
open Go.Proofs

theorem kindZeros_l (s u : ByteArray) : APure Try.prog 3 [.c (.string s), .c (.string u)] (fun r => r = .c (.bool true)) := by
  refine apure_of hTS Try.func3 (by kernel_rfl) rfl rfl rfl ?_
  refine bsplit_d (fun h1 _ => ?_) (fun h1 _ => ?_)
  · repeat' (first | refine bsplit_t (by first | with_reducible assumption | with_reducible rfl | with_reducible exact Bool.not_true | with_reducible exact Bool.not_false) ?_ | refine bsplit_f (by first | with_reducible assumption | with_reducible rfl | with_reducible exact Bool.not_true | with_reducible exact Bool.not_false) ?_ | fail)
    refine call_pure awake_l rfl ?_
    rintro _ rfl
    show AV.c _ = _
    rfl
  repeat' (first | refine bsplit_t (by first | with_reducible assumption | with_reducible rfl | with_reducible exact Bool.not_true | with_reducible exact Bool.not_false) ?_ | refine bsplit_f (by first | with_reducible assumption | with_reducible rfl | with_reducible exact Bool.not_true | with_reducible exact Bool.not_false) ?_ | fail)
  refine bsplit_d (fun h2 _ => ?_) (fun h2 _ => ?_)
  · repeat' (first | refine bsplit_t (by first | with_reducible assumption | with_reducible rfl | with_reducible exact Bool.not_true | with_reducible exact Bool.not_false) ?_ | refine bsplit_f (by first | with_reducible assumption | with_reducible rfl | with_reducible exact Bool.not_true | with_reducible exact Bool.not_false) ?_ | fail)
    refine call_pure awake_l rfl ?_
    rintro _ rfl
    show AV.c _ = _
    rfl
  repeat' (first | refine bsplit_t (by first | with_reducible assumption | with_reducible rfl | with_reducible exact Bool.not_true | with_reducible exact Bool.not_false) ?_ | refine bsplit_f (by first | with_reducible assumption | with_reducible rfl | with_reducible exact Bool.not_true | with_reducible exact Bool.not_false) ?_ | fail)
  refine call_pure awake_l rfl ?_
  rintro _ rfl
  repeat' (first | refine bsplit_t (by first | with_reducible assumption | with_reducible rfl | with_reducible exact Bool.not_true | with_reducible exact Bool.not_false) ?_ | refine bsplit_f (by first | with_reducible assumption | with_reducible rfl | with_reducible exact Bool.not_true | with_reducible exact Bool.not_false) ?_ | fail)
  have hu : ∀ v : AV, ((4096 < u.size ∧ v = .tup [.ptr none, .c (.int .i64 0), .c (.int .i64 3)]) ∨
    (u.size ≤ 4096 ∧ ((∃ t, pParse u = some t ∧ v = .tup [kp t, .c (.int .i64 0), .c (.int .i64 0)]) ∨
      (pParse u = none ∧ ∃ n e, e ≠ 0 ∧ v = .tup [.ptr none, .c (.int .i64 n), .c (.int .i64 e)])))) → ∃ n e, v = .tup [kpo (pParse u), .c (.int .i64 n), .c (.int .i64 e)] ∧ decide (e ≠ 0) = (pParse u).isNone := by
    rintro v (⟨h, _⟩ | ⟨_, ⟨t, h, rfl⟩ | ⟨h, n, e, he, rfl⟩⟩)
    · omega
    · exact ⟨_, _, by rw [h]; rfl, by rw [h]; rfl⟩
    · exact ⟨_, _, by rw [h]; rfl, by rw [h]; simpa using he⟩
  have hub : ∀ t, pParse u = some t → wfK t ∧ kDeep t ≤ 8 := fun t h => ⟨(pParse_ok h).1, (pParse_ok h).2.1⟩
  refine call_pure (parse_r s) rfl ?_
  rintro _ (⟨⟨tf, tl, tn, tlo⟩, m, h3, rfl⟩ | ⟨h3, i, L, N, B, x, e, he, rfl⟩)
  · refine call_pure (parse_c s) rfl ?_
    rintro _ (⟨h4, _⟩ | ⟨_, ⟨t, h4, rfl⟩ | ⟨h4, _⟩⟩)
    · omega
    rotate_left
    · rw [h3] at h4; cases h4
    rw [h3] at h4; cases h4
    obtain ⟨w1, w2, w3⟩ := pParse_ok h3
    refine call_pure (parse_c u) rfl ?_
    intro v hv
    obtain ⟨n', e', rfl, hne⟩ := hu v hv
    have hsame := same_t (some (.mk tf tl tn tlo)) (pParse u) (fun t h => by cases h; exact ⟨w1, w2⟩) hub
    refine bsplit_f (by decide) ?_
    refine draw_ev hTS (by kernel_rfl) (.pur 0 (.part [] [] (.take 2 (.one 1 (.one 3 (.one 4 (.pur 5 (.pur 6 (.pur 7 (.pur 8 (.one 9 (.one 10 (.pur 11 (.pur 12 (.pur 13 (.pur 14 (.pur 16 (.pur 17 (.pur 18 (.one 15 (.pur 19 (.pur 20 (.pur 21 .done))))))))))))))))))))))) (by kernel_rfl) ?_
    have hz := zero_t (.mk tf tl tn tlo) w1
    unfold ZeroC at hz
    refine call_pure hz rfl ?_
    rintro _ rfl
    have hzr := zeroR_t (.mk tf tl tn tlo) w1
    unfold ZeroRC at hzr
    refine call_pure hzr rfl ?_
    rintro _ rfl
    refine call_pure (unlike_t (zeroR (.mk tf tl tn tlo)) (zeroK (.mk tf tl tn tlo)) (ok_zero _ w1) (agr_zero _ w1)) rfl ?_
    rintro _ rfl
    repeat' (first | refine bsplit_t (by decide) ?_ | fail)
    refine call_pure hz rfl ?_
    rintro _ rfl
    repeat' (first | refine bsplit_t (by decide) ?_ | fail)
    have htk := takes_t (.mk tf tl tn tlo) (zeroK (.mk tf tl tn tlo)) w1 (by omega) (ok_zero _ w1)
    rw [wrong_zero _ w1] at htk
    refine call_pure htk rfl ?_
    rintro _ rfl
    repeat' (first | refine bsplit_t (by decide) ?_ | fail)
    refine call_pure hsame rfl ?_
    rintro _ rfl
    repeat' (first | refine bsplit_t (by decide) ?_ | fail)
    have hfin : (decide ((some (KT.mk tf tl tn tlo)).isNone = (pParse u).isNone) && decide (prO (some (KT.mk tf tl tn tlo)) = prO (pParse u))) = decide (s = u) := by
      cases hpu : pParse u with
      | none =>
        have : s ≠ u := fun e => by rw [e, hpu] at h3; cases h3
        simp [this]
      | some t =>
        have h5 := (pParse_ok hpu).2.2
        show (decide (false = false) && decide (prK (KT.mk tf tl tn tlo) = prK t)) = _
        rw [w3, h5]; simp
    show AV.c (.bool (decide ((decide ((some (KT.mk tf tl tn tlo)).isNone = (pParse u).isNone) && decide (prO (some (KT.mk tf tl tn tlo)) = prO (pParse u))) = decide (s = u)))) = _
    rw [hfin, decide_eq_true rfl]
  · refine call_pure (parse_c s) rfl ?_
    rintro _ (⟨h4, _⟩ | ⟨_, ⟨t, h4, rfl⟩ | ⟨h4, n2, e2, he2, rfl⟩⟩)
    · omega
    · rw [h3] at h4; cases h4
    refine call_pure (parse_c u) rfl ?_
    intro v hv
    obtain ⟨n', e', rfl, hne⟩ := hu v hv
    have hsame := same_t none (pParse u) (fun t h => by cases h) hub
    refine bsplit_t (decide_eq_true he) ?_
    repeat' (first | refine bsplit_t (by decide) ?_ | fail)
    refine call_pure hsame rfl ?_
    rintro _ rfl
    repeat' (first | refine bsplit_t (by decide) ?_ | fail)
    have hfin : (decide ((none : Option KT).isNone = (pParse u).isNone) && decide (prO none = prO (pParse u))) = (pParse u).isNone := by
      cases pParse u with
      | none => rfl
      | some t => rfl
    show AV.c (.bool (decide ((decide ((none : Option KT).isNone = (pParse u).isNone) && decide (prO none = prO (pParse u))) = decide (e' ≠ 0)))) = _
    rw [hfin, hne, decide_eq_true rfl]

end Go.AV0

