/- KindPartsUptoSaid: of any type what it holds, for each text, value, number and key of bulk at most 1048576. This text: L6, L7. -/
import Derived.Test.YthbglcdcfdjbbaaGreatMg
import Derived.Test.YthbglcdcfdjbbaaGreatRows
/- the law KindParts. -/
namespace Go.AV0
open Go.Proofs

/-- the place of what there is, if it is there -/
def atO (o : Option KT) (l : List KT) (y : Int) : Prop :=
  match o with
  | some x => 0 ≤ y ∧ l[y.toNat]? = some x
  | none => y < 0

/-- what the law expects: holds, how many, whether, the place, the place of the key -/
def PartsOk (t : KT) (n : Int) (key : ByteArray) (y : Int × Int × Bool × Int × Int) : Prop :=
  y.1 = holdsK t.form ∧ y.2.1 = (kmany t n).1 ∧ y.2.2.1 = (kmany t n).2 ∧ atO (kplace t n) t.l y.2.2.2.1 ∧ atO (kunder t key) t.l y.2.2.2.2

theorem missK_len (v : VT) : ∀ (ns : List ByteArray) (lo : List Bool), (missK v ns lo).length ≤ ns.length
  | [], lo => by cases lo <;> simp [missK]
  | a :: ns, [] => by simp [missK]
  | a :: ns, b :: lo => by
    have := missK_len v ns lo
    simp only [missK]; split <;> simp <;> omega

theorem kfield_place (t : KT) (key : ByteArray) (h : t.names.length = t.l.length) : atO (kfield t key) t.l (intO (idxB t.names key 0)) := by
  unfold kfield
  cases hi : idxB t.names key 0 with
  | none => show (-1 : Int) < 0; decide
  | some i =>
    have hlt : i < t.l.length := by
      have key2 : ∀ (l : List ByteArray) (k i : Nat), idxB l key k = some i → i < k + l.length := by
        intro l
        induction l with
        | nil => intro k i h; cases h
        | cons x l ih =>
          intro k i h
          simp only [idxB] at h
          split at h
          · cases h; simp
          · have := ih _ _ h; simp; omega
      have := key2 _ 0 i hi
      omega
    obtain ⟨x, hx⟩ : ∃ x, t.l[i]? = some x := ⟨_, List.getElem?_eq_getElem hlt⟩
    simp only [Option.bind_some, hx]
    exact ⟨Int.natCast_nonneg _, hx⟩

theorem parts_ok (t : KT) (n : Int) (key : ByteArray) (hwf : wfK t) :
    (t.form = 5 → PartsOk t n key (6, -1, decide (0 ≤ n), if 0 ≤ n then 0 else -1, -1)) ∧
    (t.form = 7 → ∀ k : Nat, k = t.l.length → PartsOk t n key (6, (k : Int), decide (n = k), if 0 ≤ n ∧ n < k then n else -1, -1)) ∧
    (t.form = 6 → PartsOk t n key (7, 0, false, -1, 0)) ∧
    (t.form = 8 → PartsOk t n key (7, 0, false, -1, intO (idxB t.names key 0))) ∧
    (t.form < 5 → PartsOk t n key (0, 0, false, -1, -1)) := by
  obtain ⟨f, l, ns, lo⟩ := t
  simp only [wfK] at hwf
  obtain ⟨w1, w2, w3, w4, w5, w6, w7, w8, w9, w10⟩ := hwf
  have m0 : atO none l (-1) := by show (-1 : Int) < 0; decide
  simp only [KT.form, KT.l, KT.names]
  refine ⟨?_, ?_, ?_, ?_, ?_⟩
  · rintro rfl
    refine ⟨rfl, rfl, rfl, ?_, m0⟩
    have := w4 (.inl rfl)
    obtain ⟨x, hx⟩ : ∃ x, l[0]? = some x := ⟨_, List.getElem?_eq_getElem (by omega)⟩
    by_cases hn : 0 ≤ n
    · have e : kplace (.mk 5 l ns lo) n = some x := (if_pos rfl).trans ((if_pos hn).trans hx)
      simp only [if_pos hn]
      rw [e]; exact ⟨by decide, hx⟩
    · have e : kplace (.mk 5 l ns lo) n = none := (if_pos rfl).trans (if_neg hn)
      simp only [if_neg hn]
      rw [e]; exact m0
  · rintro rfl k rfl
    refine ⟨rfl, rfl, rfl, ?_, m0⟩
    have h75 : ¬ (7 : Nat) = 5 := by decide
    by_cases hn : 0 ≤ n
    · by_cases hl : n < l.length
      · obtain ⟨x, hx⟩ : ∃ x, l[n.toNat]? = some x := ⟨_, List.getElem?_eq_getElem (by omega)⟩
        have e : kplace (.mk 7 l ns lo) n = some x := (if_neg h75).trans ((if_pos rfl).trans ((if_pos hn).trans hx))
        rw [e]
        show atO _ l (if 0 ≤ n ∧ n < (l.length : Int) then n else -1)
        rw [if_pos ⟨hn, hl⟩]; exact ⟨hn, hx⟩
      · have e : kplace (.mk 7 l ns lo) n = none := (if_neg h75).trans ((if_pos rfl).trans ((if_pos hn).trans (List.getElem?_eq_none (by show l.length ≤ _; omega))))
        rw [e]
        show atO _ l (if 0 ≤ n ∧ n < (l.length : Int) then n else -1)
        rw [if_neg fun h => hl h.2]; exact m0
    · have e : kplace (.mk 7 l ns lo) n = none := (if_neg h75).trans ((if_pos rfl).trans (if_neg hn))
      rw [e]
      show atO _ l (if 0 ≤ n ∧ n < (l.length : Int) then n else -1)
      rw [if_neg fun h => hn h.1]; exact m0
  · rintro rfl
    refine ⟨rfl, rfl, rfl, m0, ?_⟩
    have := w4 (.inr rfl)
    obtain ⟨x, hx⟩ : ∃ x, l[0]? = some x := ⟨_, List.getElem?_eq_getElem (by omega)⟩
    have e : kunder (.mk 6 l ns lo) key = some x := (if_pos rfl).trans hx
    rw [e]; exact ⟨by decide, hx⟩
  · rintro rfl
    refine ⟨rfl, rfl, rfl, m0, ?_⟩
    have e : kunder (.mk 8 l ns lo) key = kfield (.mk 8 l ns lo) key := (if_neg (show ¬ (8 : Nat) = 6 by decide)).trans (if_pos rfl)
    rw [e]
    exact kfield_place (.mk 8 l ns lo) key (w5 rfl)
  · intro hf
    have h5 : ¬ f = 5 := by omega
    have h6 : ¬ f = 6 := by omega
    have h7 : ¬ f = 7 := by omega
    have h8 : ¬ f = 8 := by omega
    have e1 : kmany (.mk f l ns lo) n = (0, false) := (if_neg h5).trans (if_neg h7)
    have e2 : kplace (.mk f l ns lo) n = none := (if_neg h5).trans (if_neg h7)
    have e3 : kunder (.mk f l ns lo) key = none := (if_neg h6).trans (if_neg h8)
    unfold PartsOk
    rw [e1, e2, e3]
    exact ⟨(if_pos hf).symm, rfl, rfl, m0, m0⟩

set_option maxRecDepth 20000 in
set_option maxHeartbeats 4000000 in
theorem kindParts_l (s : ByteArray) (r : RV) (n : Int) (key : ByteArray) (hb : bulkR r ≤ 4000000) : APure Tryz.prog 3 [.c (.string s), .agg (rvA r), .c (.int .i64 n), .c (.string key)] (fun x => x = .c (.bool true)) := by
  have hgr := great_r r hb
  have hcl := clean_r r hb
  have hcb := Nat.le_trans (clean_bulk r) hb
  have hto := to_r (cleanR r) hcb
  have hok := clean_ok r
  obtain ⟨rk, rb, rn, rm, rs, rl, rks⟩ := r
  generalize cleanR _ = y at hcl hto hok hcb
  have hfind := fun k => find_r y k hok hcb
  have hat := fun k => at_find hok k
  generalize toV y = v at hto hat
  have hyk : ∀ k, (findR y k).isSome = (vAt v k).isSome := fun k => (hat k).symm
  generalize findR y = fy at hfind hyk
  obtain ⟨yk, yb, yn, ym, ys, yl, yks⟩ := y
  refine apure_of hTS Tryz.func3 (by kernel_rfl) rfl rfl rfl ?_
  refine bsplit_d (fun h1 _ => ?_) (fun h1 _ => ?_)
  · repeat' (first | refine bsplit_t (by first | with_reducible assumption | with_reducible rfl | with_reducible exact Bool.not_true | with_reducible exact Bool.not_false) ?_ | refine bsplit_f (by first | with_reducible assumption | with_reducible rfl | with_reducible exact Bool.not_true | with_reducible exact Bool.not_false) ?_ | fail)
    refine call_pure awake_l rfl ?_
    rintro _ rfl
    show AV.c _ = _
    rfl
  repeat' (first | refine bsplit_t (by first | with_reducible assumption | with_reducible rfl | with_reducible exact Bool.not_true | with_reducible exact Bool.not_false) ?_ | refine bsplit_f (by first | with_reducible assumption | with_reducible rfl | with_reducible exact Bool.not_true | with_reducible exact Bool.not_false) ?_ | fail)
  refine call_pure hgr rfl ?_
  rintro _ ⟨g, _, rfl, _⟩
  repeat' (first | refine bsplit_t (by first | with_reducible assumption | with_reducible rfl | with_reducible exact Bool.not_true | with_reducible exact Bool.not_false) ?_ | refine bsplit_f (by first | with_reducible assumption | with_reducible rfl | with_reducible exact Bool.not_true | with_reducible exact Bool.not_false) ?_ | fail)
  refine bsplit_d (fun h2 _ => ?_) (fun h2 _ => ?_)
  · repeat' (first | refine bsplit_t (by first | with_reducible assumption | with_reducible rfl | with_reducible exact Bool.not_true | with_reducible exact Bool.not_false) ?_ | refine bsplit_f (by first | with_reducible assumption | with_reducible rfl | with_reducible exact Bool.not_true | with_reducible exact Bool.not_false) ?_ | fail)
    refine call_pure awake_l rfl ?_
    rintro _ rfl
    show AV.c _ = _
    rfl
  repeat' (first | refine bsplit_t (by first | with_reducible assumption | with_reducible rfl | with_reducible exact Bool.not_true | with_reducible exact Bool.not_false) ?_ | refine bsplit_f (by first | with_reducible assumption | with_reducible rfl | with_reducible exact Bool.not_true | with_reducible exact Bool.not_false) ?_ | fail)
  refine bsplit_d (fun h3 _ => ?_) (fun h3 _ => ?_)
  · repeat' (first | refine bsplit_t (by first | with_reducible assumption | with_reducible rfl | with_reducible exact Bool.not_true | with_reducible exact Bool.not_false) ?_ | refine bsplit_f (by first | with_reducible assumption | with_reducible rfl | with_reducible exact Bool.not_true | with_reducible exact Bool.not_false) ?_ | fail)
    refine call_pure awake_l rfl ?_
    rintro _ rfl
    show AV.c _ = _
    rfl
  repeat' (first | refine bsplit_t (by first | with_reducible assumption | with_reducible rfl | with_reducible exact Bool.not_true | with_reducible exact Bool.not_false) ?_ | refine bsplit_f (by first | with_reducible assumption | with_reducible rfl | with_reducible exact Bool.not_true | with_reducible exact Bool.not_false) ?_ | fail)
  refine call_pure awake_l rfl ?_
  rintro _ rfl
  repeat' (first | refine bsplit_t (by first | with_reducible assumption | with_reducible rfl | with_reducible exact Bool.not_true | with_reducible exact Bool.not_false) ?_ | refine bsplit_f (by first | with_reducible assumption | with_reducible rfl | with_reducible exact Bool.not_true | with_reducible exact Bool.not_false) ?_ | fail)
  refine call_pure (parse_r s) rfl ?_
  rintro _ (⟨⟨tf, tl, tn, tlo⟩, m, h4, rfl⟩ | ⟨h4, i, L, N, B, x, e, he, rfl⟩)
  rotate_left
  · refine call_pure (parse_c s) rfl ?_
    rintro _ (⟨h5, _⟩ | ⟨_, ⟨t, h5, rfl⟩ | ⟨h5, n2, e2, he2, rfl⟩⟩)
    · omega
    · rw [h4] at h5; cases h5
    refine bsplit_t (decide_eq_true he) ?_
    repeat' (first | refine bsplit_t (by decide) ?_ | fail)
    refine call_pure holds_n rfl ?_
    rintro _ rfl
    repeat' (first | refine bsplit_t (by decide) ?_ | fail)
    show AV.c _ = _
    rfl
  refine call_pure (parse_c s) rfl ?_
  rintro _ (⟨h5, _⟩ | ⟨_, ⟨t, h5, rfl⟩ | ⟨h5, _⟩⟩)
  · omega
  rotate_left
  · rw [h4] at h5; cases h5
  rw [h4] at h5; cases h5
  obtain ⟨w1, w2, _⟩ := pParse_ok h4
  refine bsplit_f (by decide) ?_
  refine call_pure hcl rfl ?_
  rintro _ rfl
  have hpo := parts_ok (.mk tf tl tn tlo) n key w1
  simp only [KT.form, KT.l, KT.names] at hpo
  have hwf := w1
  simp only [wfK] at hwf
  obtain ⟨f1, f2, f3, f4, f5, f6, f7, f8, f9, f10⟩ := hwf
  have htn : tn.length ≤ 16 := by
    by_cases h8 : tf = 8
    · rw [f5 h8]; exact f2
    · rw [f6 h8]; simp
  apply join_loop (P := Tryz.prog) (us := none) (n := Tryz.f3.ntmps) (Y := {y : Int × Int × Bool × Int × Int // PartsOk (.mk tf tl tn tlo) n key y})
    (fun y => ⟨[(0, .v (.c (.string s))), (2, .v (.c (.int .i64 n))), (3, .v (.c (.string key))), (9, .ref 1 0), (11, .v (kp (.mk tf tl tn tlo))), (14, .ref 3 0), (15, .v (.c (.int .i64 y.1.1))), (16, .v (.c (.int .i64 y.1.2.1))), (17, .v (.c (.bool y.1.2.2.1))), (18, .v (.c (.int .i64 y.1.2.2.2.1))), (19, .v (.c (.int .i64 y.1.2.2.2.2))), (20, .v (.c (.slice none 0 0))), (21, .v (.c (.int .i64 0)))], []⟩)
    (fun _ => [.cells [.v (.c (.int .i64 rk)), .v (.c (.bool rb)), .v (.c (.int .i64 rn)), .v (.c (.int .i64 rm)), .v (.c (.string rs)), .v (.sl (rvL rl)), .v (.sl (nmA rks))], .cells [.v (.c (.int .i64 (tf : Int))), .v (.sl (ktRL tl)), .v (.sl (nmA tn)), .v (.sl (boA tlo))],
      .cells [.v (.c (.int .i64 (m : Int))), .v (.c (.int .i64 0))], .cells [.v (.c (.int .i64 yk)), .v (.c (.bool yb)), .v (.c (.int .i64 yn)), .v (.c (.int .i64 ym)), .v (.c (.string ys)), .v (.sl (rvL yl)), .v (.sl (nmA yks))]])
  · intro hj
    refine bsplit_d (fun g5 _ => ?_) (fun g5 _ => ?_)
    · have g5 : tf = 5 := by omega
      have hp := hpo.1 g5
      refine bsplit_d (fun k1 _ => ?_) (fun k1 _ => ?_)
      · rw [if_pos k1] at hp
        exact loop_sub ⟨rfl, rfl, (by (repeat' (first | exact trivial | refine ⟨⟨?_, rfl⟩, ?_⟩ | fail)); all_goals (first | (show some (SV.v (AV.c (Value.int .i64 (IntKind.i64.wrap _)))) = _; rw [inc (by omega)]; try rfl) | rfl)), ⟨_, rfl⟩, rfl⟩ (hj ⟨_, hp⟩)
      · rw [if_neg k1] at hp
        exact loop_sub ⟨rfl, rfl, (by (repeat' (first | exact trivial | refine ⟨⟨?_, rfl⟩, ?_⟩ | fail)); all_goals (first | (show some (SV.v (AV.c (Value.int .i64 (IntKind.i64.wrap _)))) = _; rw [inc (by omega)]; try rfl) | rfl)), ⟨_, rfl⟩, rfl⟩ (hj ⟨_, hp⟩)
    refine bsplit_d (fun g7 _ => ?_) (fun g7 _ => ?_)
    · have g7 : tf = 7 := by omega
      have hp := hpo.2.1 g7 (ktRL tl).length (ktRL_len tl)
      refine draw_ev hTS (by kernel_rfl) (.pur 0 (.pur 3 (.pur 4 (.pur 8 (.part [] [] (.take 1 (.take 2 (.pur 9 (.one 5 (.one 6 (.pur 7 (.pur 10 .done)))))))))))) (by kernel_rfl) ?_
      refine bsplit_d (fun k1 _ => ?_) (fun k1 _ => ?_)
      · repeat' (first | refine bsplit_t (by first | with_reducible assumption | with_reducible rfl | with_reducible exact Bool.not_true | with_reducible exact Bool.not_false) ?_ | refine bsplit_f (by first | with_reducible assumption | with_reducible rfl | with_reducible exact Bool.not_true | with_reducible exact Bool.not_false) ?_ | fail)
        refine bsplit_d (fun k2 _ => ?_) (fun k2 _ => ?_)
        · rw [if_pos ⟨k1, k2⟩] at hp
          exact loop_sub ⟨rfl, rfl, (by (repeat' (first | exact trivial | refine ⟨⟨?_, rfl⟩, ?_⟩ | fail)); all_goals (first | (show some (SV.v (AV.c (Value.int .i64 (IntKind.i64.wrap _)))) = _; rw [inc (by omega)]; try rfl) | rfl)), ⟨_, rfl⟩, rfl⟩ (hj ⟨_, hp⟩)
        · rw [if_neg (fun h => k2 h.2)] at hp
          exact loop_sub ⟨rfl, rfl, (by (repeat' (first | exact trivial | refine ⟨⟨?_, rfl⟩, ?_⟩ | fail)); all_goals (first | (show some (SV.v (AV.c (Value.int .i64 (IntKind.i64.wrap _)))) = _; rw [inc (by omega)]; try rfl) | rfl)), ⟨_, rfl⟩, rfl⟩ (hj ⟨_, hp⟩)
      · repeat' (first | refine bsplit_t (by first | with_reducible assumption | with_reducible rfl | with_reducible exact Bool.not_true | with_reducible exact Bool.not_false) ?_ | refine bsplit_f (by first | with_reducible assumption | with_reducible rfl | with_reducible exact Bool.not_true | with_reducible exact Bool.not_false) ?_ | fail)
        rw [if_neg (fun h => k1 h.1)] at hp
        exact loop_sub ⟨rfl, rfl, (by (repeat' (first | exact trivial | refine ⟨⟨?_, rfl⟩, ?_⟩ | fail)); all_goals (first | (show some (SV.v (AV.c (Value.int .i64 (IntKind.i64.wrap _)))) = _; rw [inc (by omega)]; try rfl) | rfl)), ⟨_, rfl⟩, rfl⟩ (hj ⟨_, hp⟩)
    refine bsplit_d (fun g6 _ => ?_) (fun g6 _ => ?_)
    · have g6 : tf = 6 := by omega
      exact loop_sub ⟨rfl, rfl, (by (repeat' (first | exact trivial | refine ⟨⟨?_, rfl⟩, ?_⟩ | fail)); all_goals (first | (show some (SV.v (AV.c (Value.int .i64 (IntKind.i64.wrap _)))) = _; rw [inc (by omega)]; try rfl) | rfl)), ⟨_, rfl⟩, rfl⟩ (hj ⟨_, hpo.2.2.1 g6⟩)
    refine bsplit_d (fun g8 _ => ?_) (fun g8 _ => ?_)
    · have g8 : tf = 8 := by omega
      refine call_pure (find07_r (.mk tf tl tn tlo) key f9 (by simp only [KT.names]; omega)) rfl ?_
      rintro _ rfl
      exact loop_sub ⟨rfl, rfl, (by (repeat' (first | exact trivial | refine ⟨⟨?_, rfl⟩, ?_⟩ | fail)); all_goals (first | (show some (SV.v (AV.c (Value.int .i64 (IntKind.i64.wrap _)))) = _; rw [inc (by omega)]; try rfl) | rfl)), ⟨_, rfl⟩, rfl⟩ (hj ⟨_, hpo.2.2.2.1 g8⟩)
    · exact loop_sub ⟨rfl, rfl, (by (repeat' (first | exact trivial | refine ⟨⟨?_, rfl⟩, ?_⟩ | fail)); all_goals (first | (show some (SV.v (AV.c (Value.int .i64 (IntKind.i64.wrap _)))) = _; rw [inc (by omega)]; try rfl) | rfl)), ⟨_, rfl⟩, rfl⟩ (hj ⟨_, hpo.2.2.2.2 (by omega)⟩)
  · rintro ⟨⟨y1, y2, y3, y4, y5⟩, p1, p2, p3, p4, p5⟩
    dsimp only at p1 p2 p3 p4 p5 ⊢
    subst p1; subst p2; subst p3
    simp only [KT.form, KT.l] at p4 p5 ⊢
    refine loop_own_t 20 9 1 rfl ?_
    refine loop_on hTS (X := Nat) (fun i => i ≤ tn.length)
      (fun i => ⟨[(2, .v (.c (.int .i64 n))), (3, .v (.c (.string key))), (9, .ref 1 0), (11, .v (kp (.mk tf tl tn tlo))), (14, .ref 3 0), (15, .v (.c (.int .i64 (holdsK tf)))), (16, .v (.c (.int .i64 (kmany (.mk tf tl tn tlo) n).1))), (17, .v (.c (.bool (kmany (.mk tf tl tn tlo) n).2))), (18, .v (.c (.int .i64 y4))), (19, .v (.c (.int .i64 y5))), (20, .ms 4), (21, .v (.c (.int .i64 (i : Int))))], []⟩)
      (fun i => [.cells [.v (.c (.int .i64 rk)), .v (.c (.bool rb)), .v (.c (.int .i64 rn)), .v (.c (.int .i64 rm)), .v (.c (.string rs)), .v (.sl (rvL rl)), .v (.sl (nmA rks))], .cells [.v (.c (.int .i64 (tf : Int))), .v (.sl (ktRL tl)), .v (.sl (nmA tn)), .v (.sl (boA tlo))],
        .cells [.v (.c (.int .i64 (m : Int))), .v (.c (.int .i64 0))], .cells [.v (.c (.int .i64 yk)), .v (.c (.bool yb)), .v (.c (.int .i64 yn)), .v (.c (.int .i64 ym)), .v (.c (.string ys)), .v (.sl (rvL yl)), .v (.sl (nmA yks))], .arr 9 1 (nmA (missK v (tn.take i) (tlo.take i)))]) (fun i => tn.length - i) 0 (Nat.zero_le _) ⟨rfl, rfl, (by (repeat' (first | exact trivial | refine ⟨⟨?_, rfl⟩, ?_⟩ | fail)); all_goals (first | (show some (SV.v (AV.c (Value.int .i64 (IntKind.i64.wrap _)))) = _; rw [inc (by omega)]; try rfl) | rfl)), ⟨_, rfl⟩, rfl⟩ ?_
    intro i hi
    refine bsplit_d (fun k1 _ => ?_) (fun k1 _ => ?_)
    · rw [nmA_len] at k1
      obtain ⟨x, hx⟩ : ∃ x, tn[i]? = some x := ⟨_, List.getElem?_eq_getElem (by omega)⟩
      obtain ⟨q, hq⟩ : ∃ q, tlo[i]? = some q := ⟨_, List.getElem?_eq_getElem (by omega)⟩
      have hsn : missK v (tn.take (i + 1)) (tlo.take (i + 1)) = missK v (tn.take i) (tlo.take i) ++ (if (vAt v x).isSome = true ∨ q = true then [] else [x]) := by
        rw [take_succ hx, take_succ hq, missK_snoc _ _ _ _ _ (by simp; omega)]
      have hml : (missK v (tn.take i) (tlo.take i)).length ≤ 16 := by
        have := missK_len v (tn.take i) (tlo.take i)
        rw [List.length_take] at this; omega
      refine draw_ev hTS (by kernel_rfl) (.pur 0 (.pur 2 (.one 1 (.pur 3 (.one 4 (.pur 5 (.pur 6 (.pur 8 (.pur 10 (.part [] [] (.take 7 (.one 9 (.pur 11 (.one 12 (.one 13 (.pur 14 (.pur 15 .done))))))))))))))))) (by kernel_rfl) ?_
      refine elev (Int.natCast_nonneg _) [AV.c (.bool q)] (boA_get _ _ _ hq) ?_
      cases q with
      | true =>
        repeat' (first | refine bsplit_f (by decide) ?_ | fail)
        refine ⟨i + 1, by omega, (by dsimp only; omega), ⟨rfl, rfl, (by (repeat' (first | exact trivial | refine ⟨⟨?_, rfl⟩, ?_⟩ | fail)); all_goals (first | (show some (SV.v (AV.c (Value.int .i64 (IntKind.i64.wrap _)))) = _; rw [inc (by omega)]; try rfl) | rfl)), ⟨_, by
          show (_ : List SO) = [_, _, _, _, .arr 9 1 (nmA (missK v (tn.take (i + 1)) (tlo.take (i + 1))))] ++ _
          rw [show missK v (tn.take (i + 1)) (tlo.take (i + 1)) = missK v (tn.take i) (tlo.take i) by rw [hsn, if_pos (.inr rfl), List.append_nil]]; rfl⟩, rfl⟩⟩
      | false =>
        repeat' (first | refine bsplit_t (by decide) ?_ | fail)
        refine elev (Int.natCast_nonneg _) [AV.c (.string x)] (nmA_get _ _ _ hx) ?_
        repeat' (first | refine bsplit_t (by decide) ?_ | fail)
        refine call_pure (hfind x) rfl ?_
        rintro _ rfl
        have hyx := hyk x
        cases hfx : fy x with
        | some j =>
          rw [hfx] at hyx
          have hj : decide (((j : Nat) : Int) < 0) = false := decide_eq_false (by omega)
          repeat' (first | refine bsplit_t (by decide) ?_ | refine bsplit_f hj ?_ | fail)
          refine ⟨i + 1, by omega, (by dsimp only; omega), ⟨rfl, rfl, (by (repeat' (first | exact trivial | refine ⟨⟨?_, rfl⟩, ?_⟩ | fail)); all_goals (first | (show some (SV.v (AV.c (Value.int .i64 (IntKind.i64.wrap _)))) = _; rw [inc (by omega)]; try rfl) | rfl)), ⟨_, by
            show (_ : List SO) = [_, _, _, _, .arr 9 1 (nmA (missK v (tn.take (i + 1)) (tlo.take (i + 1))))] ++ _
            rw [show missK v (tn.take (i + 1)) (tlo.take (i + 1)) = missK v (tn.take i) (tlo.take i) by rw [hsn, if_pos (.inl hyx.symm), List.append_nil]]; rfl⟩, rfl⟩⟩
        | none =>
          rw [hfx] at hyx
          repeat' (first | refine bsplit_t (by decide) ?_ | fail)
          refine elev (Int.natCast_nonneg _) [AV.c (.string x)] (nmA_get _ _ _ hx) ?_
          refine side ⟨nmA_one [x], ?_⟩ ?_
          · rw [nmA_len]; show (_ + 1) * 17 ≤ 70368744177664; omega
          refine ⟨i + 1, by omega, (by dsimp only; omega), ⟨rfl, rfl, (by (repeat' (first | exact trivial | refine ⟨⟨?_, rfl⟩, ?_⟩ | fail)); all_goals (first | (show some (SV.v (AV.c (Value.int .i64 (IntKind.i64.wrap _)))) = _; rw [inc (by omega)]; try rfl) | rfl)), ⟨_, by
            show (_ : List SO) = [_, _, _, _, .arr 9 1 (nmA (missK v (tn.take (i + 1)) (tlo.take (i + 1))))] ++ _
            rw [hsn, if_neg (by rw [← hyx]; simp), nmA_app]; rfl⟩, rfl⟩⟩
    · rw [nmA_len] at k1
      have hil : i = tn.length := by omega
      subst hil
      rw [List.take_length, List.take_of_length_le (l := tlo) (by omega)]
      refine call_pure hto rfl ?_
      rintro _ rfl
      have hms : APure Tryz.prog 12 [kp (.mk tf tl tn tlo), vtA v] (fun r => r = .sl (nmA (missK v tn tlo))) := missing_t (.mk tf tl tn tlo) v (by simp only [KT.names, KT.loose]; omega) (by simp only [KT.names]; omega)
      refine call_pure hms rfl ?_
      rintro _ rfl
      have hne : decide (((nmA (missK v tn tlo)).length : Int) ≠ ((nmA (missK v tn tlo)).length : Int)) = false := by simp
      refine bsplit_f hne ?_
      clear hne
      have hwl := missK_len v tn tlo
      generalize missK v tn tlo = want at hwl
      refine loop_on hTS (X := Nat) (fun i => i ≤ want.length)
        (fun i => ⟨[(2, .v (.c (.int .i64 n))), (3, .v (.c (.string key))), (9, .ref 1 0), (11, .v (kp (.mk tf tl tn tlo))), (15, .v (.c (.int .i64 (holdsK tf)))), (16, .v (.c (.int .i64 (kmany (.mk tf tl tn tlo) n).1))), (17, .v (.c (.bool (kmany (.mk tf tl tn tlo) n).2))), (18, .v (.c (.int .i64 y4))), (19, .v (.c (.int .i64 y5))), (20, .ms 4), (22, .v (.sl (nmA want))), (23, .v (.c (.int .i64 (i : Int))))], []⟩)
        (fun _ => [.cells [.v (.c (.int .i64 rk)), .v (.c (.bool rb)), .v (.c (.int .i64 rn)), .v (.c (.int .i64 rm)), .v (.c (.string rs)), .v (.sl (rvL rl)), .v (.sl (nmA rks))], .cells [.v (.c (.int .i64 (tf : Int))), .v (.sl (ktRL tl)), .v (.sl (nmA tn)), .v (.sl (boA tlo))],
          .cells [.v (.c (.int .i64 (m : Int))), .v (.c (.int .i64 0))], .cells [.v (.c (.int .i64 yk)), .v (.c (.bool yb)), .v (.c (.int .i64 yn)), .v (.c (.int .i64 ym)), .v (.c (.string ys)), .v (.sl (rvL yl)), .v (.sl (nmA yks))], .arr 9 1 (nmA want)]) (fun i => want.length - i) 0 (Nat.zero_le _) ⟨rfl, rfl, (by (repeat' (first | exact trivial | refine ⟨⟨?_, rfl⟩, ?_⟩ | fail)); all_goals (first | (show some (SV.v (AV.c (Value.int .i64 (IntKind.i64.wrap _)))) = _; rw [inc (by omega)]; try rfl) | rfl)), ⟨_, rfl⟩, rfl⟩ ?_
      intro i hi2
      refine bsplit_d (fun k1 _ => ?_) (fun k1 _ => ?_)
      · rw [nmA_len] at k1
        obtain ⟨x, hx⟩ : ∃ x, want[i]? = some x := ⟨_, List.getElem?_eq_getElem (by omega)⟩
        refine draw_ev hTS (by kernel_rfl) (.pur 0 (.pur 1 (.pur 2 (.pur 4 (.pur 5 (.pur 6 (.part [] [] (.take 3 (.one 7 (.pur 8 .done)))))))))) (by kernel_rfl) ?_
        have hxn := nmA_get _ _ _ hx
        repeat' (first | refine bsplit_t (by first | with_reducible assumption | with_reducible rfl | with_reducible exact Bool.not_true | with_reducible exact Bool.not_false) ?_ | refine bsplit_f (by first | with_reducible assumption | with_reducible rfl | with_reducible exact Bool.not_true | with_reducible exact Bool.not_false) ?_ | refine elev (Int.natCast_nonneg _) [AV.c (.string x)] hxn ?_ | fail)
        have hne : decide (x ≠ x) = false := by simp
        refine bsplit_f hne ?_
        exact ⟨i + 1, by omega, (by dsimp only; omega), ⟨rfl, rfl, (by (repeat' (first | exact trivial | refine ⟨⟨?_, rfl⟩, ?_⟩ | fail)); all_goals (first | (show some (SV.v (AV.c (Value.int .i64 (IntKind.i64.wrap _)))) = _; rw [inc (by omega)]; try rfl) | rfl)), ⟨_, rfl⟩, rfl⟩⟩
      · have hit := item_t (.mk tf tl tn tlo) n f1
        refine call_pure hit rfl ?_
        rintro _ rfl
        have hpl := place_t (.mk tf tl tn tlo) n f1 (fun h => f4 (.inl h)) f2
        have hun := under_t (.mk tf tl tn tlo) key (fun h => f4 (.inr h)) (by
          simp only [KT.names, KT.l]
          by_cases h8 : tf = 8
          · rw [f5 h8]; exact Nat.le_refl _
          · rw [f6 h8]; simp) (by simp only [KT.names]; omega) f1
        have hdep : ∀ x : KT, x ∈ tl → wfK x ∧ kDeep x ≤ 4000000 := fun x hx => ⟨wfL_mem f10 hx, by
          have h1 := kDeepL_mem hx
          have h2 : kDeepL tl + 1 ≤ 8 := w2
          omega⟩
        generalize hkp : kplace (.mk tf tl tn tlo) n = op at hpl p4
        generalize hku : kunder (.mk tf tl tn tlo) key = ou at hun p5
        have hho := holds_t (.mk tf tl tn tlo)
        simp only [KT.form] at hho
        have e44 : decide (holdsK tf = holdsK tf) = true := decide_eq_true rfl
        have e45 : decide ((kmany (.mk tf tl tn tlo) n).1 = (kmany (.mk tf tl tn tlo) n).1) = true := decide_eq_true rfl
        have hn0 : (none : Option KT).isSome = false := rfl
        have hs0 : ∀ z : KT, (some z).isSome = true := fun _ => rfl
        cases op with
        | none =>
          have p4 : y4 < 0 := p4
          have e1 : (!decide ((none : Option KT).isSome = decide (0 ≤ y4))) = false := by rw [show decide (0 ≤ y4) = false from decide_eq_false (by omega)]; rfl
          cases ou with
          | none =>
            have p5 : y5 < 0 := p5
            have e2 : (!decide ((none : Option KT).isSome = decide (0 ≤ y5))) = false := by rw [show decide (0 ≤ y5) = false from decide_eq_false (by omega)]; rfl
            refine call_pure hpl rfl ?_
            rintro _ rfl
            refine call_pure hun rfl ?_
            rintro _ rfl
            refine draw_ev hTS (by kernel_rfl) (.pur 0 (.pur 1 (.pur 2 (.pur 3 (.pur 4 (.pur 5 (.pur 6 (.pur 7 (.pur 8 (.pur 9 (.pur 10 (.pur 11 (.pur 12 (.pur 13 (.pur 15 (.pur 17 (.part [] [] (.take 16 (.pur 18 (.take 19 (.one 14 (.one 20 (.pur 21 (.pur 22 (.pur 23 (.pur 24 (.pur 25 (.pur 26 (.pur 27 (.pur 29 (.pur 31 (.take 30 (.pur 32 (.take 33 (.one 28 (.one 34 (.pur 35 (.pur 36 (.pur 37 .done))))))))))))))))))))))))))))))))))))))) (by kernel_rfl) ?_
            repeat' (first | refine bsplit_t (by first | with_reducible assumption | with_reducible rfl | with_reducible exact Bool.not_true | with_reducible exact Bool.not_false) ?_ | refine bsplit_f (by first | with_reducible assumption | with_reducible rfl | with_reducible exact Bool.not_true | with_reducible exact Bool.not_false) ?_ | fail)
            repeat' (first | refine bsplit_t (by first | with_reducible assumption | with_reducible rfl | with_reducible exact Bool.not_true | with_reducible exact Bool.not_false) ?_ | refine bsplit_f (by first | with_reducible assumption | with_reducible rfl | with_reducible exact Bool.not_true | with_reducible exact Bool.not_false) ?_ | fail)
            refine call_pure hho rfl ?_
            rintro _ rfl
            repeat' (first | refine bsplit_t (by first | with_reducible assumption | with_reducible rfl | with_reducible exact Bool.not_true | with_reducible exact Bool.not_false) ?_ | refine bsplit_f (by first | with_reducible assumption | with_reducible rfl | with_reducible exact Bool.not_true | with_reducible exact Bool.not_false) ?_ | fail)
            show AV.c (.bool (decide ((kmany (.mk tf tl tn tlo) n).2 = (kmany (.mk tf tl tn tlo) n).2))) = _
            rw [decide_eq_true rfl]
          | some z =>
            have p5 : 0 ≤ y5 ∧ tl[y5.toNat]? = some z := p5
            have e2 : (!decide ((some z).isSome = decide (0 ≤ y5))) = false := by rw [show decide (0 ≤ y5) = true from decide_eq_true p5.1]; rfl
            have hsz := hs0 z
            refine call_pure hpl rfl ?_
            rintro _ rfl
            refine call_pure hun rfl ?_
            rintro _ rfl
            refine draw_ev hTS (by kernel_rfl) (.pur 0 (.pur 1 (.pur 2 (.pur 3 (.pur 4 (.pur 5 (.pur 6 (.pur 7 (.pur 8 (.pur 9 (.pur 10 (.pur 11 (.pur 12 (.pur 13 (.pur 15 (.pur 17 (.part [] [] (.take 16 (.pur 18 (.take 19 (.one 14 (.one 20 (.pur 21 (.pur 22 (.pur 23 (.pur 24 (.pur 25 (.pur 26 (.pur 27 (.pur 29 (.pur 31 (.take 30 (.pur 32 (.take 33 (.one 28 (.one 34 (.pur 35 (.pur 36 (.pur 37 .done))))))))))))))))))))))))))))))))))))))) (by kernel_rfl) ?_
            repeat' (first | refine bsplit_t (by first | with_reducible assumption | with_reducible rfl | with_reducible exact Bool.not_true | with_reducible exact Bool.not_false) ?_ | refine bsplit_f (by first | with_reducible assumption | with_reducible rfl | with_reducible exact Bool.not_true | with_reducible exact Bool.not_false) ?_ | fail)
            obtain ⟨zf, zl, zn, zo⟩ := z
            repeat' (first | refine bsplit_t (by first | with_reducible assumption | with_reducible rfl | with_reducible exact Bool.not_true | with_reducible exact Bool.not_false) ?_ | refine bsplit_f (by first | with_reducible assumption | with_reducible rfl | with_reducible exact Bool.not_true | with_reducible exact Bool.not_false) ?_ | refine elev p5.1 (ktR (.mk zf zl zn zo)) (ktRL_get _ _ _ p5.2) ?_ | fail)
            refine call_pure (deep_t _ (hdep _ (List.mem_of_getElem? p5.2)).1 (hdep _ (List.mem_of_getElem? p5.2)).2) rfl ?_
            rintro _ rfl
            repeat' (first | refine bsplit_t (by first | with_reducible assumption | with_reducible rfl | with_reducible exact Bool.not_true | with_reducible exact Bool.not_false) ?_ | refine bsplit_f (by first | with_reducible assumption | with_reducible rfl | with_reducible exact Bool.not_true | with_reducible exact Bool.not_false) ?_ | refine elev p5.1 (ktR (.mk zf zl zn zo)) (ktRL_get _ _ _ p5.2) ?_ | fail)
            refine call_pure (deep07_r _ (hdep _ (List.mem_of_getElem? p5.2)).1 (hdep _ (List.mem_of_getElem? p5.2)).2) rfl ?_
            rintro _ rfl
            have e59 : decide (((kDeep (.mk zf zl zn zo) : Nat) : Int) ≠ ((kDeep (.mk zf zl zn zo) : Nat) : Int)) = false := by simp
            repeat' (first | refine bsplit_t (by first | with_reducible assumption | with_reducible rfl | with_reducible exact Bool.not_true | with_reducible exact Bool.not_false) ?_ | refine bsplit_f (by first | with_reducible assumption | with_reducible rfl | with_reducible exact Bool.not_true | with_reducible exact Bool.not_false) ?_ | fail)
            refine call_pure hho rfl ?_
            rintro _ rfl
            repeat' (first | refine bsplit_t (by first | with_reducible assumption | with_reducible rfl | with_reducible exact Bool.not_true | with_reducible exact Bool.not_false) ?_ | refine bsplit_f (by first | with_reducible assumption | with_reducible rfl | with_reducible exact Bool.not_true | with_reducible exact Bool.not_false) ?_ | fail)
            show AV.c (.bool (decide ((kmany (.mk tf tl tn tlo) n).2 = (kmany (.mk tf tl tn tlo) n).2))) = _
            rw [decide_eq_true rfl]
        | some x =>
          have p4 : 0 ≤ y4 ∧ tl[y4.toNat]? = some x := p4
          have e1 : (!decide ((some x).isSome = decide (0 ≤ y4))) = false := by rw [show decide (0 ≤ y4) = true from decide_eq_true p4.1]; rfl
          have hsx := hs0 x
          cases ou with
          | none =>
            have p5 : y5 < 0 := p5
            have e2 : (!decide ((none : Option KT).isSome = decide (0 ≤ y5))) = false := by rw [show decide (0 ≤ y5) = false from decide_eq_false (by omega)]; rfl
            refine call_pure hpl rfl ?_
            rintro _ rfl
            refine call_pure hun rfl ?_
            rintro _ rfl
            refine draw_ev hTS (by kernel_rfl) (.pur 0 (.pur 1 (.pur 2 (.pur 3 (.pur 4 (.pur 5 (.pur 6 (.pur 7 (.pur 8 (.pur 9 (.pur 10 (.pur 11 (.pur 12 (.pur 13 (.pur 15 (.pur 17 (.part [] [] (.take 16 (.pur 18 (.take 19 (.one 14 (.one 20 (.pur 21 (.pur 22 (.pur 23 (.pur 24 (.pur 25 (.pur 26 (.pur 27 (.pur 29 (.pur 31 (.take 30 (.pur 32 (.take 33 (.one 28 (.one 34 (.pur 35 (.pur 36 (.pur 37 .done))))))))))))))))))))))))))))))))))))))) (by kernel_rfl) ?_
            repeat' (first | refine bsplit_t (by first | with_reducible assumption | with_reducible rfl | with_reducible exact Bool.not_true | with_reducible exact Bool.not_false) ?_ | refine bsplit_f (by first | with_reducible assumption | with_reducible rfl | with_reducible exact Bool.not_true | with_reducible exact Bool.not_false) ?_ | fail)
            obtain ⟨xf, xl, xn, xo⟩ := x
            repeat' (first | refine bsplit_t (by first | with_reducible assumption | with_reducible rfl | with_reducible exact Bool.not_true | with_reducible exact Bool.not_false) ?_ | refine bsplit_f (by first | with_reducible assumption | with_reducible rfl | with_reducible exact Bool.not_true | with_reducible exact Bool.not_false) ?_ | refine elev p4.1 (ktR (.mk xf xl xn xo)) (ktRL_get _ _ _ p4.2) ?_ | fail)
            refine call_pure (deep_t _ (hdep _ (List.mem_of_getElem? p4.2)).1 (hdep _ (List.mem_of_getElem? p4.2)).2) rfl ?_
            rintro _ rfl
            repeat' (first | refine bsplit_t (by first | with_reducible assumption | with_reducible rfl | with_reducible exact Bool.not_true | with_reducible exact Bool.not_false) ?_ | refine bsplit_f (by first | with_reducible assumption | with_reducible rfl | with_reducible exact Bool.not_true | with_reducible exact Bool.not_false) ?_ | refine elev p4.1 (ktR (.mk xf xl xn xo)) (ktRL_get _ _ _ p4.2) ?_ | fail)
            refine call_pure (deep07_r _ (hdep _ (List.mem_of_getElem? p4.2)).1 (hdep _ (List.mem_of_getElem? p4.2)).2) rfl ?_
            rintro _ rfl
            have e49 : decide (((kDeep (.mk xf xl xn xo) : Nat) : Int) ≠ ((kDeep (.mk xf xl xn xo) : Nat) : Int)) = false := by simp
            repeat' (first | refine bsplit_t (by first | with_reducible assumption | with_reducible rfl | with_reducible exact Bool.not_true | with_reducible exact Bool.not_false) ?_ | refine bsplit_f (by first | with_reducible assumption | with_reducible rfl | with_reducible exact Bool.not_true | with_reducible exact Bool.not_false) ?_ | fail)
            repeat' (first | refine bsplit_t (by first | with_reducible assumption | with_reducible rfl | with_reducible exact Bool.not_true | with_reducible exact Bool.not_false) ?_ | refine bsplit_f (by first | with_reducible assumption | with_reducible rfl | with_reducible exact Bool.not_true | with_reducible exact Bool.not_false) ?_ | fail)
            refine call_pure hho rfl ?_
            rintro _ rfl
            repeat' (first | refine bsplit_t (by first | with_reducible assumption | with_reducible rfl | with_reducible exact Bool.not_true | with_reducible exact Bool.not_false) ?_ | refine bsplit_f (by first | with_reducible assumption | with_reducible rfl | with_reducible exact Bool.not_true | with_reducible exact Bool.not_false) ?_ | fail)
            show AV.c (.bool (decide ((kmany (.mk tf tl tn tlo) n).2 = (kmany (.mk tf tl tn tlo) n).2))) = _
            rw [decide_eq_true rfl]
          | some z =>
            have p5 : 0 ≤ y5 ∧ tl[y5.toNat]? = some z := p5
            have e2 : (!decide ((some z).isSome = decide (0 ≤ y5))) = false := by rw [show decide (0 ≤ y5) = true from decide_eq_true p5.1]; rfl
            have hsz := hs0 z
            refine call_pure hpl rfl ?_
            rintro _ rfl
            refine call_pure hun rfl ?_
            rintro _ rfl
            refine draw_ev hTS (by kernel_rfl) (.pur 0 (.pur 1 (.pur 2 (.pur 3 (.pur 4 (.pur 5 (.pur 6 (.pur 7 (.pur 8 (.pur 9 (.pur 10 (.pur 11 (.pur 12 (.pur 13 (.pur 15 (.pur 17 (.part [] [] (.take 16 (.pur 18 (.take 19 (.one 14 (.one 20 (.pur 21 (.pur 22 (.pur 23 (.pur 24 (.pur 25 (.pur 26 (.pur 27 (.pur 29 (.pur 31 (.take 30 (.pur 32 (.take 33 (.one 28 (.one 34 (.pur 35 (.pur 36 (.pur 37 .done))))))))))))))))))))))))))))))))))))))) (by kernel_rfl) ?_
            repeat' (first | refine bsplit_t (by first | with_reducible assumption | with_reducible rfl | with_reducible exact Bool.not_true | with_reducible exact Bool.not_false) ?_ | refine bsplit_f (by first | with_reducible assumption | with_reducible rfl | with_reducible exact Bool.not_true | with_reducible exact Bool.not_false) ?_ | fail)
            obtain ⟨xf, xl, xn, xo⟩ := x
            repeat' (first | refine bsplit_t (by first | with_reducible assumption | with_reducible rfl | with_reducible exact Bool.not_true | with_reducible exact Bool.not_false) ?_ | refine bsplit_f (by first | with_reducible assumption | with_reducible rfl | with_reducible exact Bool.not_true | with_reducible exact Bool.not_false) ?_ | refine elev p4.1 (ktR (.mk xf xl xn xo)) (ktRL_get _ _ _ p4.2) ?_ | fail)
            refine call_pure (deep_t _ (hdep _ (List.mem_of_getElem? p4.2)).1 (hdep _ (List.mem_of_getElem? p4.2)).2) rfl ?_
            rintro _ rfl
            repeat' (first | refine bsplit_t (by first | with_reducible assumption | with_reducible rfl | with_reducible exact Bool.not_true | with_reducible exact Bool.not_false) ?_ | refine bsplit_f (by first | with_reducible assumption | with_reducible rfl | with_reducible exact Bool.not_true | with_reducible exact Bool.not_false) ?_ | refine elev p4.1 (ktR (.mk xf xl xn xo)) (ktRL_get _ _ _ p4.2) ?_ | fail)
            refine call_pure (deep07_r _ (hdep _ (List.mem_of_getElem? p4.2)).1 (hdep _ (List.mem_of_getElem? p4.2)).2) rfl ?_
            rintro _ rfl
            have e49 : decide (((kDeep (.mk xf xl xn xo) : Nat) : Int) ≠ ((kDeep (.mk xf xl xn xo) : Nat) : Int)) = false := by simp
            repeat' (first | refine bsplit_t (by first | with_reducible assumption | with_reducible rfl | with_reducible exact Bool.not_true | with_reducible exact Bool.not_false) ?_ | refine bsplit_f (by first | with_reducible assumption | with_reducible rfl | with_reducible exact Bool.not_true | with_reducible exact Bool.not_false) ?_ | fail)
            obtain ⟨zf, zl, zn, zo⟩ := z
            repeat' (first | refine bsplit_t (by first | with_reducible assumption | with_reducible rfl | with_reducible exact Bool.not_true | with_reducible exact Bool.not_false) ?_ | refine bsplit_f (by first | with_reducible assumption | with_reducible rfl | with_reducible exact Bool.not_true | with_reducible exact Bool.not_false) ?_ | refine elev p5.1 (ktR (.mk zf zl zn zo)) (ktRL_get _ _ _ p5.2) ?_ | fail)
            refine call_pure (deep_t _ (hdep _ (List.mem_of_getElem? p5.2)).1 (hdep _ (List.mem_of_getElem? p5.2)).2) rfl ?_
            rintro _ rfl
            repeat' (first | refine bsplit_t (by first | with_reducible assumption | with_reducible rfl | with_reducible exact Bool.not_true | with_reducible exact Bool.not_false) ?_ | refine bsplit_f (by first | with_reducible assumption | with_reducible rfl | with_reducible exact Bool.not_true | with_reducible exact Bool.not_false) ?_ | refine elev p5.1 (ktR (.mk zf zl zn zo)) (ktRL_get _ _ _ p5.2) ?_ | fail)
            refine call_pure (deep07_r _ (hdep _ (List.mem_of_getElem? p5.2)).1 (hdep _ (List.mem_of_getElem? p5.2)).2) rfl ?_
            rintro _ rfl
            have e59 : decide (((kDeep (.mk zf zl zn zo) : Nat) : Int) ≠ ((kDeep (.mk zf zl zn zo) : Nat) : Int)) = false := by simp
            repeat' (first | refine bsplit_t (by first | with_reducible assumption | with_reducible rfl | with_reducible exact Bool.not_true | with_reducible exact Bool.not_false) ?_ | refine bsplit_f (by first | with_reducible assumption | with_reducible rfl | with_reducible exact Bool.not_true | with_reducible exact Bool.not_false) ?_ | fail)
            refine call_pure hho rfl ?_
            rintro _ rfl
            repeat' (first | refine bsplit_t (by first | with_reducible assumption | with_reducible rfl | with_reducible exact Bool.not_true | with_reducible exact Bool.not_false) ?_ | refine bsplit_f (by first | with_reducible assumption | with_reducible rfl | with_reducible exact Bool.not_true | with_reducible exact Bool.not_false) ?_ | fail)
            show AV.c (.bool (decide ((kmany (.mk tf tl tn tlo) n).2 = (kmany (.mk tf tl tn tlo) n).2))) = _
            rw [decide_eq_true rfl]

end Go.AV0
/- KindParts, where what it reads is of bulk at most 1048576: of any type what it holds: true for each text, value, number and key of that bulk. -/
namespace Go.Proofs.YthbglcdcfdjbbaaGreat
open Go.ChangeShapes Go.WideShapes Go.ChangeAt Go.RowKit

/-- the types of what is read -/
def typesV : List TypeId := [25, 3, 4, 9, 22, 23]

theorem kindParts_avs (avs : List Go.AV0.AV) (m : Nat) (hm : m ≤ 1048576) (h : Go.AV0.ShpA Go.AV0.TS [9, 25, 3, 9] avs m) : Go.AV0.APure Tryz.prog 3 avs (fun r => r = .c (.bool true)) := by
  obtain ⟨n0, i0, x0, r0, a0, b0, hi0, rfl, h0, ⟨n1, i1, x1, r1, a1, b1, hi1, rfl, h1, ⟨n2, i2, x2, r2, a2, b2, hi2, rfl, h2, ⟨n3, i3, x3, r3, a3, b3, hi3, rfl, h3, rfl, g3⟩, g2⟩, g1⟩, g0⟩ := h
  cases hi0; cases hi1; cases hi2; cases hi3
  obtain ⟨r, rfl, hb⟩ := Go.AV0.shp_val h1
  match n0, h0, n2, h2, n3, h3 with
  | n0 + 1, h0, n2 + 1, h2, n3 + 1, h3 =>
    obtain ⟨s, rfl, _⟩ := h0
    obtain ⟨n, _, rfl, _⟩ := h2
    obtain ⟨key, rfl, _⟩ := h3
    exact Go.AV0.kindParts_l s r n key (by omega)

theorem lifted (os : Os) (started : os.Started) (H : Type) (enc : TypeId × Value → H) (F : Stop.Interp) :
    ReturnsInHanded {} Tryz.checked os 3 .any ((Rows.OpenSpec.upto Rows.kindPartsSpec).pre6 enc Tryz.prog Tryz.f3 Rows.kindPartsUptoRow.domain false) (((Rows.OpenSpec.upto Rows.kindPartsSpec).at F).post enc Tryz.prog Tryz.f3 false true false false) :=
  Go.AV0.law_lifted (C := Tryz.checked) (fn := Tryz.f3) (s := Rows.kindPartsSpec) (bt := 4) (S := typesV) (ts := [9, 25, 3, 9]) (by kernel_rfl) started (by kernel_rfl) Tryz.func3 Go.AV0.hTS (by kernel_rfl) (by kernel_rfl) (by kernel_rfl) (by kernel_rfl) (by kernel_rfl) Tryz.underlying4 rfl
    (fun H ds h => match ds, h with | [d1, d2, d3, d4], _ => ⟨rfl, rfl, rfl⟩)
    (OpenSpec.witness (enc := enc) (C := Tryz.checked) (s := Rows.OpenSpec.upto Rows.kindPartsSpec) (k := Rows.uptoSmall) rfl false ⟨#[], #[.string ⟨#[]⟩, .agg #[.int .i64 0, .bool false, .int .i64 0, .int .i64 0, .string ⟨#[]⟩, .slice none 0 0, .slice none 0 0], .int .i64 0, .string ⟨#[]⟩], []⟩ 8 (by kernel_rfl) (by kernel_rfl) (by kernel_rfl)
      (x := ([.lit (.string []), .agg [.lit (.int .i64 0), .lit (.bool false), .lit (.int .i64 0), .lit (.int .i64 0), .lit (.string []), .nil, .nil], .lit (.int .i64 0), .lit (.string [])], [], [])) (by kernel_rfl) (by kernel_rfl) (by kernel_rfl) (by kernel_rfl))
    kindParts_avs

theorem kindParts_upto : Rows.KindPartsUptoSaid :=
  OpenClaim.holds_of_cond 3 Tryz.f3 rfl rfl rfl rfl rfl rfl rfl ⟨rfl, rfl, rfl, rfl, rfl⟩ rfl rfl rfl rfl rfl (by kernel_rfl) Tryz.func3 (by kernel_rfl)
    (of_decide_eq_true (by kernel_rfl)) (by unfold Func.isWrapper; first | (rw [if_pos (by decide +kernel)]; kernel_rfl) | (rw [if_neg (by decide +kernel)]; exact ⟨rfl, rfl⟩))
    (fun os started H enc _ F => lifted os started H enc F)

end Go.Proofs.YthbglcdcfdjbbaaGreat
