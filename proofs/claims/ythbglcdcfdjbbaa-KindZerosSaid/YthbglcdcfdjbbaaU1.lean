/- a value against the document's. -/
import Derived.Test.YthbglcdcfdjbbaaR6
namespace Go.AV0
open Go.Proofs

theorem RV.ind {P : RV → Prop} (h : ∀ k b n m s l ks, (∀ x ∈ l, P x) → P (.mk k b n m s l ks)) : ∀ t, P t := by
  intro t
  have key : ∀ n, ∀ t : RV, SizeOf.sizeOf t ≤ n → P t := by
    intro n
    induction n with
    | zero => intro t ht; cases t; simp at ht
    | succ n ih =>
      intro t ht
      cases t with
      | mk k b n' m s l ks => exact h k b n' m s l ks fun x hx => ih x (by have := List.sizeOf_lt_of_mem hx; simp at ht; omega)
  exact key _ t (Nat.le_refl _)

def isPt : VT → Bool
  | .pt _ _ => true
  | _ => false

def zeroPt (v : VT) : Prop := match v with
  | .pt a b => a = FloatKind.f64.nearest 0 ∧ b = FloatKind.f64.nearest 0
  | _ => True

mutual
/-- the document's value says the same (a Point: the zero one) -/
def Agr : RV → VT → Prop
  | .mk k b n m s l ks, v => k = kindV v ∧ b = (isBool v).1 ∧ n = (isInt v).1 ∧ m = 0 ∧ s = (isText v).1 ∧ zeroPt v ∧ ks = vkeys v ∧ AgrL l (vitems v)
def AgrL : List RV → List VT → Prop
  | [], [] => True
  | r :: l, v :: vs => Agr r v ∧ AgrL l vs
  | _, _ => False
end

theorem AgrL_len : ∀ {l : List RV} {vs : List VT}, AgrL l vs → l.length = vs.length
  | [], [], _ => rfl
  | r :: l, v :: vs, h => by simp only [AgrL] at h; simp [AgrL_len h.2]
  | [], _ :: _, h => by simp [AgrL] at h
  | _ :: _, [], h => by simp [AgrL] at h

theorem AgrL_get : ∀ {l : List RV} {vs : List VT} {i : Nat} {r : RV} {v : VT}, AgrL l vs → l[i]? = some r → vs[i]? = some v → Agr r v
  | r' :: l, v' :: vs, 0, r, v, h, h1, h2 => by simp only [AgrL] at h; simp at h1 h2; subst h1; subst h2; exact h.1
  | r' :: l, v' :: vs, i + 1, r, v, h, h1, h2 => by simp only [AgrL] at h; exact AgrL_get h.2 (by simpa using h1) (by simpa using h2)
  | [], _, i, r, v, _, h1, _ => by simp at h1
  | _ :: _, [], i, r, v, _, _, h2 => by simp at h2

theorem dec0 : (FloatKind.f64.decode 0).toInt .zero = some 0 := by decide
theorem near0 : FloatKind.f64.nearest 0 = 0 := by decide
theorem dec0' : (FloatKind.f64.decode (FloatKind.f64.nearest 0)).toInt .zero = some 0 := by rw [near0]; exact dec0

theorem asPoint_v (v : VT) (h : zeroPt v) : APure Try.prog 31 [vtA v] (fun r => r = .tup [.c (.int .i64 0), .c (.int .i64 0), .c (.bool (isPt v))]) := by
  cases v
  case pt a b =>
    obtain ⟨rfl, rfl⟩ := h
    refine apure_of hTS Try.func31 (by kernel_rfl) rfl rfl rfl ?_
    refine ftoi 0 dec0' (by decide) (by decide) ?_
    refine ftoi 0 dec0' (by decide) (by decide) ?_
    show AV.tup _ = _
    rfl
  all_goals
    refine apure_of hTS Try.func31 (by kernel_rfl) rfl rfl rfl ?_
    refine ftoi 0 dec0 (by decide) (by decide) ?_
    refine ftoi 0 dec0 (by decide) (by decide) ?_
    show AV.tup _ = _
    rfl

def UnlikeC (r : RV) : Prop := ∀ v, okV v → Agr r v → APure Try.prog 9 [vtA v, .agg (rvA r)] (fun x => x = .c (.int .i64 0))

set_option maxRecDepth 20000 in
set_option maxHeartbeats 4000000 in
theorem unlike_t : ∀ (r : RV), UnlikeC r := by
  intro r
  induction r using RV.ind with
  | _ k b n m s l ks ih =>
  intro v hv hag
  simp only [Agr] at hag
  obtain ⟨rfl, rfl, rfl, rfl, rfl, hpt, rfl, hl⟩ := hag
  have hll := AgrL_len hl
  refine apure_of hTS Try.func9 (by kernel_rfl) rfl rfl rfl ?_
  refine call_pure (bool_v v) rfl ?_
  rintro _ rfl
  refine call_pure (asInt_v v) rfl ?_
  rintro _ rfl
  refine call_pure (asPoint_v v hpt) rfl ?_
  rintro _ rfl
  refine call_pure (asText_v v) rfl ?_
  rintro _ rfl
  refine draw_ev hTS (by kernel_rfl) (.part [] [] (.take 0 (.take 2 (.one 1 (.one 3 (.pur 4 (.pur 5 .done))))))) (by kernel_rfl) ?_
  refine call_pure (items_v v hv) rfl ?_
  rintro _ rfl
  refine call_pure (keys_v v hv) rfl ?_
  rintro _ rfl
  refine draw_ev hTS (by kernel_rfl) (.pur 2 (.part [] [] (.take 0 (.take 3 (.one 1 (.pur 4 (.pur 5 (.pur 6 (.pur 7 (.one 8 (.pur 9 (.pur 10 (.pur 11 (.pur 12 (.pur 13 (.pur 14 (.one 15 (.pur 16 (.pur 17 (.pur 18 (.pur 19 (.pur 20 (.pur 21 (.one 22 (.pur 23 (.pur 24 (.pur 25 (.pur 26 (.pur 27 (.pur 28 (.one 29 (.pur 30 (.pur 31 (.pur 32 (.pur 33 (.pur 34 (.pur 35 (.one 36 (.pur 37 (.pur 38 (.pur 39 (.one 40 (.pur 41 (.pur 42 (.pur 43 (.pur 44 (.pur 45 (.pur 46 (.one 47 (.pur 48 (.pur 49 (.pur 50 (.pur 51 (.pur 53 (.take 52 (.one 54 (.one 55 (.pur 56 (.pur 57 (.pur 58 (.pur 59 (.pur 61 (.take 60 (.one 62 (.one 63 (.pur 64 (.pur 65 .done))))))))))))))))))))))))))))))))))))))))))))))))))))))))))))))))))) (by kernel_rfl) ?_
  refine call_pure (kind_v v) rfl ?_
  rintro _ rfl
  have hlen1 : decide (((vtL (vitems v)).length : Int) ≠ ((rvL l).length : Int)) = false := by rw [vtL_len, rvL_len, hll]; simp
  have hlen2 : decide (((nmA (vkeys v)).length : Int) ≠ ((nmA (vkeys v)).length : Int)) = false := by simp
  cases v
  case list l' =>
    repeat' (first | refine bsplit_f rfl ?_ | refine bsplit_t rfl ?_ | refine bsplit_f (decide_eq_false (fun h => h rfl)) ?_ | refine bsplit_f hlen1 ?_ | refine bsplit_f hlen2 ?_ | fail)
    have hok := okV_items hv
    have hl16 : l.length ≤ 1000000 := by rw [hll]; exact (okV_len hv).1
    refine loop_on hTS (X := Nat) (fun i => i ≤ l.length)
      (fun i => ⟨[(2, .ref 0 0), (3, .ref 1 0), (14, .v (.sl (vtL (vitems (.list l'))))), (16, .v (.c (.int .i64 0))), (17, .v (.c (.int .i64 (i : Int))))], []⟩)
      (fun i => [.cells [.v (.ifc (vtO (.list l')))], .cells ((rvA (.mk (kindV (.list l')) (isBool (.list l')).1 (isInt (.list l')).1 0 (isText (.list l')).1 l (vkeys (.list l')))).map .v)]) (fun i => l.length - i) 0 (Nat.zero_le _) ⟨rfl, rfl, (by (repeat' (first | exact trivial | refine ⟨⟨?_, rfl⟩, ?_⟩ | fail)); all_goals (first | (show some (SV.v (AV.c (Value.int .i64 (IntKind.i64.wrap _)))) = _; rw [inc (by omega)]; try rfl) | rfl)), ⟨_, rfl⟩, rfl⟩ ?_
    intro i hi
    refine bsplit_d (fun h1 _ => ?_) (fun h1 _ => ?_)
    · rw [vtL_len, ← hll] at h1
      obtain ⟨r, hr⟩ : ∃ r, l[i]? = some r := ⟨_, List.getElem?_eq_getElem (by omega)⟩
      obtain ⟨v, hv2⟩ : ∃ v, (vitems (.list l'))[i]? = some v := ⟨_, List.getElem?_eq_getElem (by rw [← hll]; omega)⟩
      have hag := AgrL_get hl hr hv2
      have hmem := List.mem_of_getElem? hr
      have hvok := hok v (List.mem_of_getElem? hv2)
      have hrg := rvL_get _ _ _ hr
      have hc := ih r hmem v hvok hag
      obtain ⟨k1, b1, n1, m1, s1, rl1, rk1⟩ := r
      refine bsplit_f rfl ?_
      refine draw_ev hTS (by kernel_rfl) (.pur 0 (.pur 1 (.pur 2 (.pur 3 (.pur 5 (.pur 7 (.part [] [] (.take 4 (.one 6 (.pur 8 (.one 9 (.one 10 (.pur 11 (.pur 12 .done)))))))))))))) (by kernel_rfl) ?_
      refine elev (Int.natCast_nonneg _) [AV.ifc (vtO v)] (vtL_get _ _ _ hv2) ?_
      refine elev (Int.natCast_nonneg _) (rvA (.mk k1 b1 n1 m1 s1 rl1 rk1)) hrg ?_
      refine call_pure hc rfl ?_
      rintro _ rfl
      exact ⟨i + 1, by omega, (by dsimp only; omega), ⟨rfl, rfl, (by (repeat' (first | exact trivial | refine ⟨⟨?_, rfl⟩, ?_⟩ | fail)); all_goals (first | (show some (SV.v (AV.c (Value.int .i64 (IntKind.i64.wrap _)))) = _; rw [inc (by omega)]; try rfl) | rfl)), ⟨_, rfl⟩, rfl⟩⟩
    · show AV.c _ = _
      rfl
  case map es =>
    repeat' (first | refine bsplit_f rfl ?_ | refine bsplit_t rfl ?_ | refine bsplit_f (decide_eq_false (fun h => h rfl)) ?_ | refine bsplit_f hlen1 ?_ | refine bsplit_f hlen2 ?_ | fail)
    have hok := okV_items hv
    have hlk : (vkeys (.map es)).length = l.length := by rw [hll]; simp [vitems, vkeys]
    have hl16 : (vkeys (.map es)).length ≤ 1000000 := (okV_len hv).2
    refine loop_on hTS (X := Nat) (fun i => i ≤ l.length)
      (fun i => ⟨[(2, .ref 0 0), (3, .ref 1 0), (14, .v (.sl (vtL (vitems (.map es))))), (15, .v (.sl (nmA (vkeys (.map es))))), (16, .v (.c (.int .i64 0))), (17, .v (.c (.int .i64 (i : Int))))], []⟩)
      (fun i => [.cells [.v (.ifc (vtO (.map es)))], .cells ((rvA (.mk (kindV (.map es)) (isBool (.map es)).1 (isInt (.map es)).1 0 (isText (.map es)).1 l (vkeys (.map es)))).map .v)]) (fun i => l.length - i) 0 (Nat.zero_le _) ⟨rfl, rfl, (by (repeat' (first | exact trivial | refine ⟨⟨?_, rfl⟩, ?_⟩ | fail)); all_goals (first | (show some (SV.v (AV.c (Value.int .i64 (IntKind.i64.wrap _)))) = _; rw [inc (by omega)]; try rfl) | rfl)), ⟨_, rfl⟩, rfl⟩ ?_
    intro i hi
    refine bsplit_d (fun h1 _ => ?_) (fun h1 _ => ?_)
    · rw [vtL_len, ← hll] at h1
      obtain ⟨r, hr⟩ : ∃ r, l[i]? = some r := ⟨_, List.getElem?_eq_getElem (by omega)⟩
      obtain ⟨k, hk⟩ : ∃ v, (vkeys (.map es))[i]? = some v := ⟨_, List.getElem?_eq_getElem (by omega)⟩
      have hk' : (skeys es)[i]? = some k := hk
      obtain ⟨v, hvg⟩ := skeys_mem (List.mem_of_getElem? hk')
      have hv2 : (vitems (.map es))[i]? = some v := by
        show ((skeys es).map fun k => optV (vget es k))[i]? = _
        rw [List.getElem?_map, hk']; simp [hvg, optV]
      have hag := AgrL_get hl hr hv2
      have hmem := List.mem_of_getElem? hr
      have hvok := hok v (List.mem_of_getElem? hv2)
      have hrg := rvL_get _ _ _ hr
      have hc := ih r hmem v hvok hag
      have hat : vAt (.map es) k = some v := hvg
      have hatv := at_v (.map es) k
      rw [hat] at hatv
      obtain ⟨k1, b1, n1, m1, s1, rl1, rk1⟩ := r
      refine bsplit_t rfl ?_
      refine draw_ev hTS (by kernel_rfl) (.pur 1 (.pur 3 (.part [] [11] (.take 0 (.take 2 (.pur 4 (.take 5 (.or 6 (.pur 7 (.pur 8 (.pur 9 (.one 10 (.fin 11 (.pur 12 .done)))))) (.one 10 (.one 6 (.pur 7 (.pur 8 (.pur 9 (.fin 11 (.pur 12 .done))))))))))))))) (by kernel_rfl) ?_
      refine elev (Int.natCast_nonneg _) [AV.c (.string k)] (nmA_get _ _ _ hk) ?_
      refine ⟨?_, ?_⟩
      all_goals
        refine call_pure hatv rfl ?_
        rintro _ rfl
        refine draw_ev hTS (by kernel_rfl) (.pur 0 (.pur 1 (.pur 2 (.pur 4 (.pur 6 (.part [] [] (.take 3 (.one 5 (.pur 7 (.one 8 (.pur 9 (.pur 10 (.pur 11 (.pur 12 (.pur 13 (.pur 14 (.pur 16 (.pur 18 (.take 15 (.one 17 (.pur 19 (.one 20 (.one 21 (.pur 22 (.pur 23 .done))))))))))))))))))))))))) (by kernel_rfl) ?_
        refine elev (Int.natCast_nonneg _) [AV.c (.string k)] (nmA_get _ _ _ hk) ?_
        refine elev (Int.natCast_nonneg _) [AV.c (.string k)] (nmA_get _ _ _ hk) ?_
        repeat' (first | refine bsplit_f rfl ?_ | refine bsplit_f (decide_eq_false (fun h => h rfl)) ?_ | refine elev (Int.natCast_nonneg _) (rvA (.mk k1 b1 n1 m1 s1 rl1 rk1)) hrg ?_ | fail)
        refine call_pure hc rfl ?_
        rintro _ rfl
        repeat' (first | refine bsplit_f rfl ?_ | refine bsplit_f (decide_eq_false (fun h => h rfl)) ?_ | fail)
        refine draw_ev hTS (by kernel_rfl) (.pur 0 (.pur 1 (.pur 2 (.pur 3 (.pur 5 (.pur 7 (.part [] [] (.take 4 (.one 6 (.pur 8 (.one 9 (.one 10 (.pur 11 (.pur 12 .done)))))))))))))) (by kernel_rfl) ?_
        refine elev (Int.natCast_nonneg _) [AV.ifc (vtO v)] (vtL_get _ _ _ hv2) ?_
        refine elev (Int.natCast_nonneg _) (rvA (.mk k1 b1 n1 m1 s1 rl1 rk1)) hrg ?_
        refine call_pure hc rfl ?_
        rintro _ rfl
        exact ⟨i + 1, by omega, (by dsimp only; omega), ⟨rfl, rfl, (by (repeat' (first | exact trivial | refine ⟨⟨?_, rfl⟩, ?_⟩ | fail)); all_goals (first | (show some (SV.v (AV.c (Value.int .i64 (IntKind.i64.wrap _)))) = _; rw [inc (by omega)]; try rfl) | rfl)), ⟨_, rfl⟩, rfl⟩⟩
    · show AV.c _ = _
      rfl
  case bool b =>
    have hl0 : l = [] := List.eq_nil_of_length_eq_zero hll
    subst hl0
    cases b
    all_goals
      repeat' (first | refine bsplit_f rfl ?_ | refine bsplit_t rfl ?_ | refine bsplit_f (decide_eq_false (fun h => h rfl)) ?_ | refine bsplit_f hlen1 ?_ | refine bsplit_f hlen2 ?_ | fail)
      refine loop_on hTS (X := Nat) (fun i => i = 0) (fun i => ⟨[(14, .v (.sl [])), (16, .v (.c (.int .i64 0))), (17, .v (.c (.int .i64 (i : Int))))], []⟩) (fun i => []) (fun i => 0) 0 rfl ⟨rfl, rfl, (by (repeat' (first | exact trivial | refine ⟨⟨?_, rfl⟩, ?_⟩ | fail)); all_goals (first | (show some (SV.v (AV.c (Value.int .i64 (IntKind.i64.wrap _)))) = _; rw [inc (by omega)]; try rfl) | rfl)), ⟨_, rfl⟩, rfl⟩ ?_
      rintro i rfl
      refine bsplit_f rfl ?_
      show AV.c _ = _
      rfl
  all_goals
    have hl0 : l = [] := List.eq_nil_of_length_eq_zero hll
    subst hl0
    repeat' (first | refine bsplit_f rfl ?_ | refine bsplit_t rfl ?_ | refine bsplit_f (decide_eq_false (fun h => h rfl)) ?_ | refine bsplit_f hlen1 ?_ | refine bsplit_f hlen2 ?_ | fail)
    refine loop_on hTS (X := Nat) (fun i => i = 0) (fun i => ⟨[(14, .v (.sl [])), (16, .v (.c (.int .i64 0))), (17, .v (.c (.int .i64 (i : Int))))], []⟩) (fun i => []) (fun i => 0) 0 rfl ⟨rfl, rfl, (by (repeat' (first | exact trivial | refine ⟨⟨?_, rfl⟩, ?_⟩ | fail)); all_goals (first | (show some (SV.v (AV.c (Value.int .i64 (IntKind.i64.wrap _)))) = _; rw [inc (by omega)]; try rfl) | rfl)), ⟨_, rfl⟩, rfl⟩ ?_
    rintro i rfl
    refine bsplit_f rfl ?_
    show AV.c _ = _
    rfl

end Go.AV0
