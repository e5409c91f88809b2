/- the document's values; a type's zero. -/
import Derived.Test.YthbglcdcfdjbbaaR2
import Derived.Test.YthbglcdcfdjbbaaT6
namespace Go.AV0
open Go.Proofs

/-- the document's value: its kind, a Bool's, two numbers, a text, its values, its keys -/
inductive RV where
  | mk (k : Int) (b : Bool) (n m : Int) (s : ByteArray) (l : List RV) (keys : List ByteArray)

mutual
def rvA : RV → List AV
  | .mk k b n m s l ks => [.c (.int .i64 k), .c (.bool b), .c (.int .i64 n), .c (.int .i64 m), .c (.string s), .sl (rvL l), .sl (nmA ks)]
def rvL : List RV → List (List AV)
  | [] => []
  | r :: l => rvA r :: rvL l
end

theorem rvL_app : ∀ (l : List RV) (x : RV), rvL (l ++ [x]) = rvL l ++ [rvA x]
  | [], x => by simp [rvL]
  | t :: l, x => by simp [rvL, rvL_app l x]
theorem rvL_len : ∀ (l : List RV), (rvL l).length = l.length
  | [] => rfl
  | t :: l => by simp [rvL, rvL_len l]
theorem rvL_get : ∀ (l : List RV) (i : Nat) (x : RV), l[i]? = some x → (rvL l)[i]? = some (rvA x)
  | [], i, x, h => by simp at h
  | t :: l, 0, x, h => by simp at h; subst h; simp [rvL]
  | t :: l, i + 1, x, h => by simp only [List.getElem?_cons_succ] at h; simpa [rvL] using rvL_get l i x h
theorem rvA_one (x : RV) : ElOk 7 [rvA x] := by
  obtain ⟨k, b, n, m, s, l, ks⟩ := x
  intro y hy
  simp at hy; subst hy
  exact ⟨rfl, rfl⟩

theorem ktRL_get : ∀ (l : List KT) (i : Nat) (x : KT), l[i]? = some x → (ktRL l)[i]? = some (ktR x)
  | [], i, x, h => by simp at h
  | t :: l, 0, x, h => by simp at h; subst h; simp [ktRL]
  | t :: l, i + 1, x, h => by simp only [List.getElem?_cons_succ] at h; simpa [ktRL] using ktRL_get l i x h

def rv0 (k : Int) : RV := .mk k false 0 0 noBytes [] []

mutual
def zeroR : KT → RV
  | .mk f l ns lo => if f = 0 then rv0 0 else if f = 1 then rv0 2 else if f = 2 then rv0 3 else if f = 3 then rv0 4 else if f = 4 then rv0 5 else if f = 5 then rv0 6 else if f = 6 then rv0 7
      else if f = 8 then .mk 7 false 0 0 noBytes (zeroRM l ns lo) (zeroRK ns lo) else .mk ((f : Int) - 1) false 0 0 noBytes (zeroRL l) []
def zeroRL : List KT → List RV
  | [] => []
  | t :: l => zeroR t :: zeroRL l
def zeroRM : List KT → List ByteArray → List Bool → List RV
  | t :: l, _ :: ns, q :: lo => if q = true then zeroRM l ns lo else zeroR t :: zeroRM l ns lo
  | _, _, _ => []
def zeroRK : List ByteArray → List Bool → List ByteArray
  | s :: ns, q :: lo => if q = true then zeroRK ns lo else s :: zeroRK ns lo
  | _, _ => []
end

theorem zeroRL_app : ∀ (l : List KT) (x : KT), zeroRL (l ++ [x]) = zeroRL l ++ [zeroR x]
  | [], x => by simp [zeroRL]
  | t :: l, x => by simp [zeroRL, zeroRL_app l x]
theorem zeroRL_len : ∀ (l : List KT), (zeroRL l).length = l.length
  | [] => rfl
  | t :: l => by simp [zeroRL, zeroRL_len l]

theorem zeroRM_snoc (x : KT) (s : ByteArray) (q : Bool) : ∀ (l : List KT) (ns : List ByteArray) (lo : List Bool), l.length = ns.length → ns.length = lo.length → zeroRM (l ++ [x]) (ns ++ [s]) (lo ++ [q]) = zeroRM l ns lo ++ (if q = true then [] else [zeroR x])
  | [], [], [], _, _ => by simp [zeroRM]
  | t :: l, n :: ns, o :: lo, h1, h2 => by
    simp only [List.cons_append, zeroRM]
    rw [zeroRM_snoc x s q l ns lo (by simpa using h1) (by simpa using h2)]
    split <;> simp
  | [], _ :: _, _, h, _ => by simp at h
  | _ :: _, [], _, h, _ => by simp at h
  | _, [], _ :: _, _, h => by simp at h
  | _, _ :: _, [], _, h => by simp at h

theorem zeroRK_snoc (s : ByteArray) (q : Bool) : ∀ (ns : List ByteArray) (lo : List Bool), ns.length = lo.length → zeroRK (ns ++ [s]) (lo ++ [q]) = zeroRK ns lo ++ (if q = true then [] else [s])
  | [], [], _ => by simp [zeroRK]
  | n :: ns, o :: lo, h2 => by
    simp only [List.cons_append, zeroRK]
    rw [zeroRK_snoc s q ns lo (by simpa using h2)]
    split <;> simp
  | [], _ :: _, h => by simp at h
  | _ :: _, [], h => by simp at h

theorem zeroRM_len : ∀ (l : List KT) (ns : List ByteArray) (lo : List Bool), (zeroRM l ns lo).length ≤ l.length
  | t :: l, n :: ns, o :: lo => by
    have := zeroRM_len l ns lo
    simp only [zeroRM]; split <;> simp <;> omega
  | [], _, _ => by simp [zeroRM]
  | _ :: _, [], _ => by simp [zeroRM]
  | _ :: _, _ :: _, [] => by simp [zeroRM]

theorem zeroRK_len : ∀ (ns : List ByteArray) (lo : List Bool), (zeroRK ns lo).length ≤ ns.length
  | n :: ns, o :: lo => by
    have := zeroRK_len ns lo
    simp only [zeroRK]; split <;> simp <;> omega
  | [], _ => by simp [zeroRK]
  | _ :: _, [] => by simp [zeroRK]

def ZeroRC (t : KT) : Prop := APure Try.prog 11 [.agg (ktR t)] (fun r => r = .agg (rvA (zeroR t)))

def zVR : SO := .cells [.v (.c (.int .i64 0)), .v (.c (.bool false)), .v (.c (.int .i64 0)), .v (.c (.int .i64 0)), .v (.c (.string ⟨#[]⟩)), .v (.c (.slice none 0 0)), .v (.c (.slice none 0 0))]

set_option maxRecDepth 20000 in
set_option maxHeartbeats 4000000 in
theorem zeroR_t : ∀ (t : KT), wfK t → ZeroRC t := by
  intro t
  induction t using KT.ind with
  | _ f l ns lo ih =>
  intro hwf
  simp only [wfK] at hwf
  obtain ⟨hf8, hl16, _, _, hfn, _, hlo, _, hnd, hwl⟩ := hwf
  have hih : ∀ x ∈ l, ZeroRC x := fun x hx => ih x hx (wfL_mem hwl hx)
  unfold ZeroRC
  refine apure_of hTS Try.func11 (by kernel_rfl) rfl rfl rfl ?_
  refine bsplit_d (fun h0 _ => ?_) (fun h0 _ => ?_)
  · have h0 : f = 0 := by omega
    subst h0
    show AV.agg _ = _
    rfl
  refine bsplit_d (fun h1 _ => ?_) (fun h1 _ => ?_)
  · have h1 : f = 1 := by omega
    subst h1
    show AV.agg _ = _
    rfl
  refine bsplit_d (fun h2 _ => ?_) (fun h2 _ => ?_)
  · have h2 : f = 2 := by omega
    subst h2
    show AV.agg _ = _
    rfl
  refine bsplit_d (fun h3 _ => ?_) (fun h3 _ => ?_)
  · have h3 : f = 3 := by omega
    subst h3
    show AV.agg _ = _
    rfl
  refine bsplit_d (fun h4 _ => ?_) (fun h4 _ => ?_)
  · have h4 : f = 4 := by omega
    subst h4
    show AV.agg _ = _
    rfl
  refine bsplit_d (fun h5 _ => ?_) (fun h5 _ => ?_)
  · have h5 : f = 5 := by omega
    subst h5
    show AV.agg _ = _
    rfl
  refine bsplit_d (fun h6 _ => ?_) (fun h6 _ => ?_)
  · have h6 : f = 6 := by omega
    subst h6
    show AV.agg _ = _
    rfl
  have hf78 : f = 7 ∨ f = 8 := by omega
  rcases hf78 with rfl | rfl
  · refine loop_own 2 5 43 7 rfl rfl rfl ?_
    refine loop_on hTS (X := Nat) (fun i => i ≤ l.length)
      (fun i => ⟨[(1, .ref 0 0), (2, .ref 1 0), (3, .ref 2 0), (4, .v (.c (.int .i64 (i : Int))))], []⟩)
      (fun i => [.cells [.v (.c (.int .i64 7)), .v (.sl (ktRL l)), .v (.sl (nmA ns)), .v (.sl (boA lo))], zVR, .cells [.v (.c (.int .i64 6)), .v (.c (.bool false)), .v (.c (.int .i64 0)), .v (.c (.int .i64 0)), .v (.c (.string ⟨#[]⟩)), .ms 3, .v (.c (.slice none 0 0))], .arr 43 7 (rvL (zeroRL (l.take i)))]) (fun i => l.length - i) 0 (Nat.zero_le _) ⟨rfl, rfl, (by (repeat' (first | exact trivial | refine ⟨⟨?_, rfl⟩, ?_⟩ | fail)); all_goals (first | (show some (SV.v (AV.c (Value.int .i64 (IntKind.i64.wrap _)))) = _; rw [inc (by omega)]; try rfl) | rfl)), ⟨_, rfl⟩, rfl⟩ ?_
    intro i hi
    refine bsplit_d (fun h7 _ => ?_) (fun h7 _ => ?_)
    · rw [ktRL_len] at h7
      obtain ⟨x, hx⟩ : ∃ x, l[i]? = some x := ⟨_, List.getElem?_eq_getElem (by omega)⟩
      have hmem := List.mem_of_getElem? hx
      repeat' (first | refine bsplit_f (by decide) ?_ | fail)
      refine draw_ev hTS (by kernel_rfl) (.pur 0 (.pur 2 (.pur 4 (.part [3] [11] (.take 1 (.one 3 (.pur 5 (.one 6 (.one 7 (.one 8 (.one 9 (.pur 10 (.fin 11 .done))))))))))))) (by kernel_rfl) ?_
      have hzl := zeroRL_app (l.take i) x
      rw [← take_succ hx] at hzl
      obtain ⟨xf, xl, xn, xlo⟩ := x
      refine elev (Int.natCast_nonneg _) (ktR (.mk xf xl xn xlo)) (ktRL_get _ _ _ hx) ?_
      refine call_pure (hih _ hmem) rfl ?_
      rintro _ rfl
      cases hz : zeroR (.mk xf xl xn xlo) with
      | mk k b n m s rl rk =>
      rw [hz] at hzl
      refine side ⟨rvA_one (.mk k b n m s rl rk), ?_⟩ ?_
      · rw [rvL_len, zeroRL_len, List.length_take]; show (min i l.length + 1) * 97 ≤ 70368744177664; omega
      repeat' (first | refine bsplit_f (by decide) ?_ | fail)
      refine ⟨i + 1, by omega, (by dsimp only; omega), ⟨rfl, rfl, ⟨⟨rfl, rfl⟩, ⟨rfl, rfl⟩, ⟨rfl, rfl⟩, ⟨congrArg (fun x => some (SV.v (AV.c (.int .i64 x)))) (inc (k := i) (by omega)), rfl⟩, trivial⟩, ⟨_, by
        show (_ : List SO) = [.cells [.v (.c (.int .i64 7)), .v (.sl (ktRL l)), .v (.sl (nmA ns)), .v (.sl (boA lo))], zVR, .cells [.v (.c (.int .i64 6)), .v (.c (.bool false)), .v (.c (.int .i64 0)), .v (.c (.int .i64 0)), .v (.c (.string ⟨#[]⟩)), .ms 3, .v (.c (.slice none 0 0))], .arr 43 7 (rvL (zeroRL (l.take (i + 1))))] ++ _
        rw [hzl, rvL_app]; rfl⟩, rfl⟩⟩
    · rw [ktRL_len] at h7
      have hil : i = l.length := by omega
      subst hil
      show AV.agg [_, _, _, _, _, .sl (rvL (zeroRL (l.take l.length))), _] = _
      rw [List.take_length]; rfl
  · have hnl := hfn rfl
    refine loop_own 2 5 43 7 rfl rfl rfl ?_
    refine loop_own 2 6 9 1 rfl rfl rfl ?_
    refine loop_on hTS (X := Nat) (fun i => i ≤ l.length)
      (fun i => ⟨[(1, .ref 0 0), (2, .ref 1 0), (3, .ref 2 0), (4, .v (.c (.int .i64 (i : Int))))], []⟩)
      (fun i => [.cells [.v (.c (.int .i64 8)), .v (.sl (ktRL l)), .v (.sl (nmA ns)), .v (.sl (boA lo))], zVR, .cells [.v (.c (.int .i64 7)), .v (.c (.bool false)), .v (.c (.int .i64 0)), .v (.c (.int .i64 0)), .v (.c (.string ⟨#[]⟩)), .ms 3, .ms 4], .arr 43 7 (rvL (zeroRM (l.take i) (ns.take i) (lo.take i))), .arr 9 1 (nmA (zeroRK (ns.take i) (lo.take i)))]) (fun i => l.length - i) 0 (Nat.zero_le _) ⟨rfl, rfl, (by (repeat' (first | exact trivial | refine ⟨⟨?_, rfl⟩, ?_⟩ | fail)); all_goals (first | (show some (SV.v (AV.c (Value.int .i64 (IntKind.i64.wrap _)))) = _; rw [inc (by omega)]; try rfl) | rfl)), ⟨_, rfl⟩, rfl⟩ ?_
    intro i hi
    refine bsplit_d (fun h7 _ => ?_) (fun h7 _ => ?_)
    · rw [ktRL_len] at h7
      obtain ⟨x, hx⟩ : ∃ x, l[i]? = some x := ⟨_, List.getElem?_eq_getElem (by omega)⟩
      obtain ⟨s, hs⟩ : ∃ x, ns[i]? = some x := ⟨_, List.getElem?_eq_getElem (by omega)⟩
      obtain ⟨q, hq⟩ : ∃ x, lo[i]? = some x := ⟨_, List.getElem?_eq_getElem (by omega)⟩
      have hmem := List.mem_of_getElem? hx
      have hsM := zeroRM_snoc x s q (l.take i) (ns.take i) (lo.take i) (by simp; omega) (by simp; omega)
      have hsK := zeroRK_snoc s q (ns.take i) (lo.take i) (by simp; omega)
      rw [← take_succ hx, ← take_succ hs, ← take_succ hq] at hsM
      rw [← take_succ hs, ← take_succ hq] at hsK
      have hzM := zeroRM_len (l.take i) (ns.take i) (lo.take i)
      have hzK := zeroRK_len (ns.take i) (lo.take i)
      rw [List.length_take] at hzM hzK
      repeat' (first | refine bsplit_t (by decide) ?_ | refine elev (Int.natCast_nonneg _) [AV.c (.bool q)] (boA_get _ _ _ hq) ?_ | fail)
      cases q with
      | true =>
        refine bsplit_t rfl ?_
        refine ⟨i + 1, by omega, (by dsimp only; omega), ⟨rfl, rfl, ⟨⟨rfl, rfl⟩, ⟨rfl, rfl⟩, ⟨rfl, rfl⟩, ⟨congrArg (fun x => some (SV.v (AV.c (.int .i64 x)))) (inc (k := i) (by omega)), rfl⟩, trivial⟩, ⟨_, by
          show (_ : List SO) = [.cells [.v (.c (.int .i64 8)), .v (.sl (ktRL l)), .v (.sl (nmA ns)), .v (.sl (boA lo))], zVR, .cells [.v (.c (.int .i64 7)), .v (.c (.bool false)), .v (.c (.int .i64 0)), .v (.c (.int .i64 0)), .v (.c (.string ⟨#[]⟩)), .ms 3, .ms 4], .arr 43 7 (rvL (zeroRM (l.take (i + 1)) (ns.take (i + 1)) (lo.take (i + 1)))), .arr 9 1 (nmA (zeroRK (ns.take (i + 1)) (lo.take (i + 1))))] ++ _
          rw [(hsM.trans (by simp) : _ = zeroRM (l.take i) (ns.take i) (lo.take i)), (hsK.trans (by simp) : _ = zeroRK (ns.take i) (lo.take i))]; rfl⟩, rfl⟩⟩
      | false =>
        refine bsplit_f rfl ?_
        refine draw_ev hTS (by kernel_rfl) (.pur 0 (.pur 2 (.pur 4 (.part [3] [11] (.take 1 (.one 3 (.pur 5 (.one 6 (.one 7 (.one 8 (.one 9 (.pur 10 (.fin 11 .done))))))))))))) (by kernel_rfl) ?_
        obtain ⟨xf, xl, xn, xlo⟩ := x
        refine elev (Int.natCast_nonneg _) (ktR (.mk xf xl xn xlo)) (ktRL_get _ _ _ hx) ?_
        refine call_pure (hih _ hmem) rfl ?_
        rintro _ rfl
        cases hz : zeroR (.mk xf xl xn xlo) with
        | mk k b n m sx rl rk =>
        rw [hz] at hsM
        refine side ⟨rvA_one (.mk k b n m sx rl rk), ?_⟩ ?_
        · rw [rvL_len]; show ((zeroRM (l.take i) (ns.take i) (lo.take i)).length + 1) * 97 ≤ 70368744177664; omega
        refine bsplit_t (by decide) ?_
        refine draw_ev hTS (by kernel_rfl) (.pur 0 (.pur 2 (.pur 4 (.part [4] [10] (.take 1 (.one 3 (.pur 5 (.one 6 (.one 7 (.one 8 (.pur 9 (.fin 10 .done)))))))))))) (by kernel_rfl) ?_
        refine elev (Int.natCast_nonneg _) [AV.c (.string s)] (nmA_get _ _ _ hs) ?_
        refine side ⟨nmA_one [s], ?_⟩ ?_
        · rw [nmA_len]; show ((zeroRK (ns.take i) (lo.take i)).length + 1) * 17 ≤ 70368744177664; omega
        refine ⟨i + 1, by omega, (by dsimp only; omega), ⟨rfl, rfl, ⟨⟨rfl, rfl⟩, ⟨rfl, rfl⟩, ⟨rfl, rfl⟩, ⟨congrArg (fun x => some (SV.v (AV.c (.int .i64 x)))) (inc (k := i) (by omega)), rfl⟩, trivial⟩, ⟨_, by
          show (_ : List SO) = [.cells [.v (.c (.int .i64 8)), .v (.sl (ktRL l)), .v (.sl (nmA ns)), .v (.sl (boA lo))], zVR, .cells [.v (.c (.int .i64 7)), .v (.c (.bool false)), .v (.c (.int .i64 0)), .v (.c (.int .i64 0)), .v (.c (.string ⟨#[]⟩)), .ms 3, .ms 4], .arr 43 7 (rvL (zeroRM (l.take (i + 1)) (ns.take (i + 1)) (lo.take (i + 1)))), .arr 9 1 (nmA (zeroRK (ns.take (i + 1)) (lo.take (i + 1))))] ++ _
          rw [(hsM.trans (by simp) : _ = zeroRM (l.take i) (ns.take i) (lo.take i) ++ [.mk k b n m sx rl rk]), (hsK.trans (by simp) : _ = zeroRK (ns.take i) (lo.take i) ++ [s]), rvL_app, nmA_app]; rfl⟩, rfl⟩⟩
    · rw [ktRL_len] at h7
      have hil : i = l.length := by omega
      subst hil
      show AV.agg [_, _, _, _, _, .sl (rvL (zeroRM (l.take l.length) (ns.take l.length) (lo.take l.length))), .sl (nmA (zeroRK (ns.take l.length) (lo.take l.length)))] = _
      rw [List.take_length, show ns.take l.length = ns by rw [← hnl, List.take_length], show lo.take l.length = lo by rw [← hnl, ← hlo, List.take_length]]; rfl

end Go.AV0
