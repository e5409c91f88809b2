/- kind: zeros. -/
import Derived.Test.YthbglcdcfdjbbaaT5
namespace Go.AV0
open Go.Proofs

mutual
/-- a type's zero -/
def zeroK : KT → VT
  | .mk f l ns lo => if f = 1 then .bool false else if f = 2 then .int 0 else if f = 3 then .pt (FloatKind.f64.nearest 0) (FloatKind.f64.nearest 0) else if f = 4 then .text noBytes
      else if f = 5 then .list [] else if f = 6 then .map [] else if f = 7 then .list (zeroL l) else if f = 8 then .map (zeroM l ns lo) else .null
def zeroL : List KT → List VT
  | [] => []
  | t :: l => zeroK t :: zeroL l
def zeroM : List KT → List ByteArray → List Bool → List (ByteArray × VT)
  | t :: l, s :: ns, q :: lo => if q = true then zeroM l ns lo else (s, zeroK t) :: zeroM l ns lo
  | _, _, _ => []
end

theorem zeroL_app : ∀ (l : List KT) (x : KT), zeroL (l ++ [x]) = zeroL l ++ [zeroK x]
  | [], x => by simp [zeroL]
  | t :: l, x => by simp [zeroL, zeroL_app l x]
theorem zeroL_len : ∀ (l : List KT), (zeroL l).length = l.length
  | [] => rfl
  | t :: l => by simp [zeroL, zeroL_len l]

theorem zeroM_snoc (x : KT) (s : ByteArray) (q : Bool) : ∀ (l : List KT) (ns : List ByteArray) (lo : List Bool), l.length = ns.length → ns.length = lo.length → zeroM (l ++ [x]) (ns ++ [s]) (lo ++ [q]) = zeroM l ns lo ++ (if q = true then [] else [(s, zeroK x)])
  | [], [], [], _, _ => by simp [zeroM]
  | t :: l, n :: ns, o :: lo, h1, h2 => by
    simp only [List.cons_append, zeroM]
    rw [zeroM_snoc x s q l ns lo (by simpa using h1) (by simpa using h2)]
    split <;> simp
  | [], _ :: _, _, h, _ => by simp at h
  | _ :: _, [], _, h, _ => by simp at h
  | _, [], _ :: _, _, h => by simp at h
  | _, _ :: _, [], _, h => by simp at h

theorem zeroM_len : ∀ (l : List KT) (ns : List ByteArray) (lo : List Bool), (zeroM l ns lo).length ≤ l.length
  | t :: l, n :: ns, o :: lo => by
    have := zeroM_len l ns lo
    simp only [zeroM]; split <;> simp <;> omega
  | [], _, _ => by simp [zeroM]
  | _ :: _, [], _ => by simp [zeroM]
  | _ :: _, _ :: _, [] => by simp [zeroM]

theorem zeroM_sub : ∀ (l : List KT) (ns : List ByteArray) (lo : List Bool), ((zeroM l ns lo).map (·.1)).Sublist ns
  | t :: l, n :: ns, o :: lo => by
    have := zeroM_sub l ns lo
    simp only [zeroM]; split
    · exact this.cons _
    · simpa using this
  | [], _, _ => by simp [zeroM]
  | _ :: _, [], _ => by simp [zeroM]
  | _ :: _, _ :: _, [] => by simp [zeroM]

def ZeroC (t : KT) : Prop := APure Try.prog 10 [kp t] (fun r => r = vtA (zeroK t))

theorem kpL_len' (l : List KT) : ((kpL l).length : Int) = (l.length : Int) := by rw [kpL_len]

set_option maxRecDepth 20000 in
theorem zerosT_t (l : List KT) (ns : List ByteArray) (lo : List Bool) (f : Nat) (hf : f = 7) (hl : l.length ≤ 1000000) (hih : ∀ x ∈ l, ZeroC x) :
    APure Try.prog 40 [kp (.mk f l ns lo)] (fun r => r = .tup [.sl [], .sl (vtL (zeroL l))]) := by
  subst hf
  refine apure_of hTS Try.func40 (by kernel_rfl) rfl rfl rfl ?_
  refine loop_own_t 5 39 1 rfl ?_
  refine loop_on hTS (X := Nat) (fun i => i ≤ l.length)
    (fun i => ⟨[(0, .v (kp (.mk 7 l ns lo))), (4, .v (.c (.slice none 0 0))), (5, .ms 0), (11, .v (.sl (kpL l))), (12, .v (.c (.int .i64 ((kpL l).length : Int)))), (13, .v (.c (.int .i64 (i : Int))))], []⟩)
    (fun i => [.arr 39 1 (vtL (zeroL (l.take i)))]) (fun i => l.length - i) 0 (Nat.zero_le _) ⟨rfl, rfl, (by (repeat' (first | exact trivial | refine ⟨⟨?_, rfl⟩, ?_⟩ | fail)); all_goals (first | (show some (SV.v (AV.c (Value.int .i64 (IntKind.i64.wrap _)))) = _; rw [inc (by omega)]; try rfl) | rfl)), ⟨_, rfl⟩, rfl⟩ ?_
  intro i hi
  refine bsplit_d (fun h1 _ => ?_) (fun h1 _ => ?_)
  · rw [kpL_len] at h1
    obtain ⟨x, hx⟩ : ∃ x, l[i]? = some x := ⟨_, List.getElem?_eq_getElem (by omega)⟩
    have hmem := List.mem_of_getElem? hx
    refine elev (Int.natCast_nonneg _) [AV.ptr (kpO x)] (kpL_get _ _ _ hx) ?_
    repeat' (first | refine bsplit_f (by decide) ?_ | fail)
    refine call_pure (hih x hmem) rfl ?_
    rintro _ rfl
    refine side ⟨vtL_one [zeroK x], ?_⟩ ?_
    · rw [vtL_len, zeroL_len, List.length_take]; show (min i l.length + 1) * 17 ≤ 70368744177664; omega
    refine ⟨i + 1, by omega, (by dsimp only; omega), ⟨rfl, rfl, ⟨⟨rfl, rfl⟩, ⟨rfl, rfl⟩, ⟨rfl, rfl⟩, ⟨rfl, rfl⟩, ⟨rfl, rfl⟩, ⟨congrArg (fun x => some (SV.v (AV.c (.int .i64 x)))) (inc (k := i) (by omega)), rfl⟩, trivial⟩, ⟨_, by
      show (_ : List SO) = [.arr 39 1 (vtL (zeroL (l.take (i + 1))))] ++ _
      rw [take_succ hx, zeroL_app, vtL_app]; rfl⟩, rfl⟩⟩
  · rw [kpL_len] at h1
    have hil : i = l.length := by omega
    subst hil
    show AV.tup [_, .sl (vtL (zeroL (l.take l.length)))] = _
    rw [List.take_length]; rfl

set_option maxRecDepth 20000 in
theorem zerosM_t (l : List KT) (ns : List ByteArray) (lo : List Bool) (h1 : l.length = ns.length) (h2 : ns.length = lo.length) (hl : l.length ≤ 1000000) (hih : ∀ x ∈ l, ZeroC x) :
    APure Try.prog 40 [kp (.mk 8 l ns lo)] (fun r => r = .tup [.sl (nmA ((zeroM l ns lo).map (·.1))), .sl (vtL ((zeroM l ns lo).map (·.2)))]) := by
  refine apure_of hTS Try.func40 (by kernel_rfl) rfl rfl rfl ?_
  refine loop_own_t 4 9 1 rfl ?_
  refine loop_own_t 5 39 1 rfl ?_
  refine loop_on hTS (X := Nat) (fun i => i ≤ l.length)
    (fun i => ⟨[(0, .v (kp (.mk 8 l ns lo))), (4, .ms 0), (5, .ms 1), (11, .v (.sl (kpL l))), (12, .v (.c (.int .i64 ((kpL l).length : Int)))), (13, .v (.c (.int .i64 (i : Int))))], []⟩)
    (fun i => [.arr 9 1 (nmA ((zeroM (l.take i) (ns.take i) (lo.take i)).map (·.1))), .arr 39 1 (vtL ((zeroM (l.take i) (ns.take i) (lo.take i)).map (·.2)))]) (fun i => l.length - i) 0 (Nat.zero_le _) ⟨rfl, rfl, (by (repeat' (first | exact trivial | refine ⟨⟨?_, rfl⟩, ?_⟩ | fail)); all_goals (first | (show some (SV.v (AV.c (Value.int .i64 (IntKind.i64.wrap _)))) = _; rw [inc (by omega)]; try rfl) | rfl)), ⟨_, rfl⟩, rfl⟩ ?_
  intro i hi
  have hzl := zeroM_len (l.take i) (ns.take i) (lo.take i)
  rw [List.length_take] at hzl
  refine bsplit_d (fun h3 _ => ?_) (fun h3 _ => ?_)
  · rw [kpL_len] at h3
    obtain ⟨x, hx⟩ : ∃ x, l[i]? = some x := ⟨_, List.getElem?_eq_getElem (by omega)⟩
    obtain ⟨s, hs⟩ : ∃ x, ns[i]? = some x := ⟨_, List.getElem?_eq_getElem (by omega)⟩
    obtain ⟨q, hq⟩ : ∃ x, lo[i]? = some x := ⟨_, List.getElem?_eq_getElem (by omega)⟩
    have hmem := List.mem_of_getElem? hx
    have hsn := zeroM_snoc x s q (l.take i) (ns.take i) (lo.take i) (by simp; omega) (by simp; omega)
    rw [← take_succ hx, ← take_succ hs, ← take_succ hq] at hsn
    refine elev (Int.natCast_nonneg _) [AV.ptr (kpO x)] (kpL_get _ _ _ hx) ?_
    repeat' (first | refine bsplit_t (by decide) ?_ | refine elev (Int.natCast_nonneg _) [AV.c (.bool q)] (boA_get _ _ _ hq) ?_ | fail)
    cases q with
    | true =>
      refine bsplit_t rfl ?_
      refine ⟨i + 1, by omega, (by dsimp only; omega), ⟨rfl, rfl, ⟨⟨rfl, rfl⟩, ⟨rfl, rfl⟩, ⟨rfl, rfl⟩, ⟨rfl, rfl⟩, ⟨rfl, rfl⟩, ⟨congrArg (fun x => some (SV.v (AV.c (.int .i64 x)))) (inc (k := i) (by omega)), rfl⟩, trivial⟩, ⟨_, by
        show (_ : List SO) = [.arr 9 1 (nmA ((zeroM (l.take (i + 1)) (ns.take (i + 1)) (lo.take (i + 1))).map (·.1))), .arr 39 1 (vtL ((zeroM (l.take (i + 1)) (ns.take (i + 1)) (lo.take (i + 1))).map (·.2)))] ++ _
        rw [(hsn.trans (by simp) : _ = zeroM (l.take i) (ns.take i) (lo.take i))]; rfl⟩, rfl⟩⟩
    | false =>
      refine bsplit_f rfl ?_
      refine bsplit_t (by decide) ?_
      refine elev (Int.natCast_nonneg _) [AV.c (.string s)] (nmA_get _ _ _ hs) ?_
      refine side ⟨nmA_one [s], ?_⟩ ?_
      · rw [nmA_len, List.length_map]; show ((zeroM (l.take i) (ns.take i) (lo.take i)).length + 1) * 17 ≤ 70368744177664; omega
      refine call_pure (hih x hmem) rfl ?_
      rintro _ rfl
      refine side ⟨vtL_one [zeroK x], ?_⟩ ?_
      · rw [vtL_len, List.length_map]; show ((zeroM (l.take i) (ns.take i) (lo.take i)).length + 1) * 17 ≤ 70368744177664; omega
      refine ⟨i + 1, by omega, (by dsimp only; omega), ⟨rfl, rfl, ⟨⟨rfl, rfl⟩, ⟨rfl, rfl⟩, ⟨rfl, rfl⟩, ⟨rfl, rfl⟩, ⟨rfl, rfl⟩, ⟨congrArg (fun x => some (SV.v (AV.c (.int .i64 x)))) (inc (k := i) (by omega)), rfl⟩, trivial⟩, ⟨_, by
        show (_ : List SO) = [.arr 9 1 (nmA ((zeroM (l.take (i + 1)) (ns.take (i + 1)) (lo.take (i + 1))).map (·.1))), .arr 39 1 (vtL ((zeroM (l.take (i + 1)) (ns.take (i + 1)) (lo.take (i + 1))).map (·.2)))] ++ _
        rw [(hsn.trans (by simp) : _ = zeroM (l.take i) (ns.take i) (lo.take i) ++ [(s, zeroK x)]), List.map_append, List.map_append, List.map_singleton, List.map_singleton, nmA_app, vtL_app]; rfl⟩, rfl⟩⟩
  · rw [kpL_len] at h3
    have hil : i = l.length := by omega
    subst hil
    show AV.tup [.sl (nmA ((zeroM (l.take l.length) (ns.take l.length) (lo.take l.length)).map (·.1))), .sl (vtL ((zeroM (l.take l.length) (ns.take l.length) (lo.take l.length)).map (·.2)))] = _
    rw [List.take_length, show ns.take l.length = ns by rw [h1, List.take_length], show lo.take l.length = lo by rw [h1, h2, List.take_length]]

theorem zip_fst_snd {α β : Type} : ∀ (l : List (α × β)), (l.map (·.1)).zip (l.map (·.2)) = l
  | [] => rfl
  | (a, b) :: l => by simp [zip_fst_snd l]

set_option maxRecDepth 20000 in
theorem zero_t : ∀ (t : KT), wfK t → ZeroC t := by
  intro t
  induction t using KT.ind with
  | _ f l ns lo ih =>
  intro hwf
  simp only [wfK] at hwf
  obtain ⟨hf8, hl16, _, _, hfn, _, hlo, _, hnd, hwl⟩ := hwf
  have hih : ∀ x ∈ l, ZeroC x := fun x hx => ih x hx (wfL_mem hwl hx)
  unfold ZeroC
  refine apure_of hTS Try.func10 (by kernel_rfl) rfl rfl rfl ?_
  repeat' (first | refine bsplit_t (by first | with_reducible assumption | with_reducible rfl | with_reducible exact Bool.not_true | with_reducible exact Bool.not_false) ?_ | refine bsplit_f (by first | with_reducible assumption | with_reducible rfl | with_reducible exact Bool.not_true | with_reducible exact Bool.not_false) ?_ | fail)
  refine bsplit_d (fun h1 _ => ?_) (fun h1 _ => ?_)
  · have h1 : f = 1 := by omega
    subst h1
    refine call_pure (of_v false) rfl ?_
    rintro _ rfl
    show AV.agg _ = _
    rfl
  refine bsplit_d (fun h2 _ => ?_) (fun h2 _ => ?_)
  · have h2 : f = 2 := by omega
    subst h2
    refine call_pure (int_v 0) rfl ?_
    rintro _ rfl
    show AV.agg _ = _
    rfl
  refine bsplit_d (fun h3 _ => ?_) (fun h3 _ => ?_)
  · have h3 : f = 3 := by omega
    subst h3
    refine call_pure (point_v 0 0) rfl ?_
    rintro _ (⟨_, rfl⟩ | ⟨h, _⟩)
    · show AV.agg _ = _
      rfl
    · exact absurd h (by decide)
  refine bsplit_d (fun h4 _ => ?_) (fun h4 _ => ?_)
  · have h4 : f = 4 := by omega
    subst h4
    refine call_pure (text_v noBytes) rfl ?_
    rintro _ rfl
    show AV.agg _ = _
    rfl
  refine bsplit_d (fun h5 _ => ?_) (fun h5 _ => ?_)
  · have h5 : f = 5 := by omega
    subst h5
    refine call_pure (list_v [] (Nat.zero_le _)) rfl ?_
    rintro _ rfl
    show AV.agg _ = _
    rfl
  refine bsplit_d (fun h6 _ => ?_) (fun h6 _ => ?_)
  · have h6 : f = 6 := by omega
    subst h6
    refine call_pure (map_v [] [] (Nat.zero_le _)) rfl ?_
    rintro _ (⟨_, _, rfl⟩ | ⟨h, _⟩)
    · show AV.agg _ = _
      rfl
    · exact absurd ⟨rfl, List.nodup_nil⟩ h
  refine bsplit_d (fun h7 _ => ?_) (fun h7 _ => ?_)
  · have h7 : f = 7 := by omega
    subst h7
    refine call_pure (zerosT_t l ns lo 7 rfl (by omega) hih) rfl ?_
    rintro _ rfl
    refine call_pure (list_v (zeroL l) (by rw [zeroL_len]; omega)) rfl ?_
    rintro _ rfl
    show AV.agg _ = _
    rfl
  refine bsplit_d (fun h8 _ => ?_) (fun h8 _ => ?_)
  · have h8 : f = 8 := by omega
    subst h8
    have hzl := zeroM_len l ns lo
    refine call_pure (zerosM_t l ns lo (hfn rfl).symm hlo.symm (by omega) hih) rfl ?_
    rintro _ rfl
    refine call_pure (map_v ((zeroM l ns lo).map (·.1)) ((zeroM l ns lo).map (·.2)) (by rw [List.length_map]; omega)) rfl ?_
    rintro _ (⟨_, _, rfl⟩ | ⟨h, _⟩)
    · rw [zip_fst_snd]
      show AV.agg _ = _
      rfl
    · exact absurd ⟨by simp, (zeroM_sub l ns lo).nodup (rises_nodup hnd)⟩ h
  have h0 : f = 0 := by omega
  subst h0
  refine call_pure unset_v rfl ?_
  rintro _ rfl
  show AV.agg _ = _
  rfl

theorem zero_n : APure Try.prog 10 [.ptr none] (fun r => r = vtA .null) := by
  refine apure_of hTS Try.func10 (by kernel_rfl) rfl rfl rfl ?_
  repeat' (first | refine bsplit_t (by first | with_reducible assumption | with_reducible rfl | with_reducible exact Bool.not_true | with_reducible exact Bool.not_false) ?_ | refine bsplit_f (by first | with_reducible assumption | with_reducible rfl | with_reducible exact Bool.not_true | with_reducible exact Bool.not_false) ?_ | fail)
  refine call_pure unset_v rfl ?_
  rintro _ rfl
  show AV.agg _ = _
  rfl

end Go.AV0
