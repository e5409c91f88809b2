/- kind: where a value is wrong: the answer; steps. -/
import Derived.Test.YthbglcdcfdjbbaaT2
namespace Go.AV0
open Go.Proofs

abbrev StepV := ByteArray × Int
def stA (s : StepV) : List AV := [.c (.string s.1), .c (.int .i64 s.2)]
def stsA (l : List StepV) : List (List AV) := l.map stA
def noBytes : ByteArray := ⟨#[]⟩

theorem stsA_len (l : List StepV) : (stsA l).length = l.length := by simp [stsA]
theorem stsA_app (l : List StepV) (x : StepV) : stsA (l ++ [x]) = stsA l ++ [[.c (.string x.1), .c (.int .i64 x.2)]] := by simp [stsA, stA]
theorem stsA_get (l : List StepV) (i : Nat) (x : StepV) (h : l[i]? = some x) : (stsA l)[i]? = some [.c (.string x.1), .c (.int .i64 x.2)] := by
  show (l.map stA)[i]? = _
  rw [List.getElem?_map, h]; rfl
theorem stsA_one (l : List StepV) : ElOk 2 (stsA l) := by
  intro y hy
  obtain ⟨x, _, rfl⟩ := List.mem_map.1 hy
  exact ⟨rfl, rfl⟩

def keyS (s : ByteArray) : StepV := (s, -1)
def placeS (i : Nat) : StepV := (noBytes, (i : Int))

def isNearV (v : VT) : Bool :=
  match v with
  | .int n => isNear n
  | _ => false

def plainB (f : Nat) (v : VT) : Bool :=
  if f = 1 then decide (kindV v = 2) else if f = 2 then decide (kindV v = 3) else if f = 3 then decide (kindV v = 4) || isNearV v else if f = 4 then decide (kindV v = 5) else true

def innerF (fs : List (VT → Option (List StepV))) : Nat → List VT → List StepV → Option (List StepV)
  | i, v :: vs, s :: ss => match fs[min i (fs.length - 1)]? with
    | some f => match f v with
      | some p => some (s :: p)
      | none => innerF fs (i + 1) vs ss
    | none => some []
  | _, _, _ => none

def objF (fs : List (VT → Option (List StepV))) (ns : List ByteArray) : List ByteArray → List VT → Option (List StepV)
  | k :: ks, v :: vs => match (idxB ns k 0).bind fun i => fs[i]? with
    | none => some [keyS k]
    | some f => match f v with
      | some p => some (keyS k :: p)
      | none => objF fs ns ks vs
  | _, _ => none

mutual
/-- where, first, a type doesn't take a value -/
def wrongK : KT → VT → Option (List StepV)
  | .mk f l ns lo, v =>
    if kindV v = 0 ∨ kindV v = 1 then none
    else if f < 5 then (if plainB f v = true then none else some [])
    else if kindV v ≠ holdsK f then some []
    else if f = 8 then match objF (wrongF l) ns (vkeys v) (vitems v) with
      | some p => some p
      | none => match missK v ns lo with
        | s :: _ => some [keyS s]
        | [] => none
    else if f = 6 then innerF (wrongF l) 0 (vitems v) ((vkeys v).map keyS)
    else if f = 7 ∧ (vitems v).length ≠ l.length then some []
    else innerF (wrongF l) 0 (vitems v) ((List.range (vitems v).length).map placeS)
def wrongF : List KT → List (VT → Option (List StepV))
  | [] => []
  | t :: l => wrongK t :: wrongF l
end

theorem wrongF_get : ∀ {l : List KT} {i : Nat} {x : KT}, l[i]? = some x → (wrongF l)[i]? = some (wrongK x)
  | t :: l, 0, x, h => by simp at h; subst h; simp [wrongF]
  | t :: l, i + 1, x, h => by simp only [List.getElem?_cons_succ] at h; simpa [wrongF] using wrongF_get h
theorem wrongF_len : ∀ (l : List KT), (wrongF l).length = l.length
  | [] => rfl
  | t :: l => by simp [wrongF, wrongF_len l]

theorem key_k (s : ByteArray) : APure Try.prog 69 [.c (.string s)] (fun r => r = .agg [.c (.string s), .c (.int .i64 (-1))]) := by
  refine apure_of hTS Try.func69 (by kernel_rfl) rfl rfl rfl ?_
  show AV.agg _ = _
  rfl

theorem step_k (i : Int) : APure Try.prog 71 [.c (.int .i64 i)] (fun r => r = .agg [.c (.string noBytes), .c (.int .i64 i)]) := by
  refine apure_of hTS Try.func71 (by kernel_rfl) rfl rfl rfl ?_
  show AV.agg _ = _
  rfl

theorem keysT_k (l : List ByteArray) (hl : l.length ≤ 1000000) : APure Try.prog 47 [.sl (nmA l)] (fun r => r = .sl (stsA (l.map keyS))) := by
  refine apure_of hTS Try.func47 (by kernel_rfl) rfl rfl rfl ?_
  refine loop_own_t 3 125 2 rfl ?_
  refine loop_on hTS (X := Nat) (fun i => i ≤ l.length)
    (fun i => ⟨[(3, .ms 0), (6, .v (.sl (nmA l))), (7, .v (.c (.int .i64 ((nmA l).length : Int)))), (8, .v (.c (.int .i64 (i : Int))))], []⟩)
    (fun i => [.arr 125 2 (stsA ((l.take i).map keyS))]) (fun i => l.length - i) 0 (Nat.zero_le _) ⟨rfl, rfl, (by (repeat' (first | exact trivial | refine ⟨⟨?_, rfl⟩, ?_⟩ | fail)); all_goals (first | (show some (SV.v (AV.c (Value.int .i64 (IntKind.i64.wrap _)))) = _; rw [inc (by omega)]; try rfl) | rfl)), ⟨_, rfl⟩, rfl⟩ ?_
  intro i hi
  refine bsplit_d (fun h1 _ => ?_) (fun h1 _ => ?_)
  · rw [nmA_len] at h1
    obtain ⟨k, hk⟩ : ∃ k, l[i]? = some k := ⟨_, List.getElem?_eq_getElem (by omega)⟩
    refine elev (Int.natCast_nonneg _) [AV.c (.string k)] (nmA_get _ _ _ hk) ?_
    refine call_pure (key_k k) rfl ?_
    rintro _ rfl
    refine side ⟨stsA_one [keyS k], ?_⟩ ?_
    · rw [stsA_len]; simp only [List.length_map, List.length_take]; show (min i l.length + 1) * 25 ≤ 70368744177664; omega
    refine ⟨i + 1, by omega, (by dsimp only; omega), ⟨rfl, rfl, ⟨⟨rfl, rfl⟩, ⟨rfl, rfl⟩, ⟨rfl, rfl⟩, ⟨congrArg (fun x => some (SV.v (AV.c (.int .i64 x)))) (inc (k := i) (by omega)), rfl⟩, trivial⟩, ⟨_, by
      show (_ : List SO) = [.arr 125 2 (stsA ((l.take (i + 1)).map keyS))] ++ _
      rw [take_succ hk, List.map_append, List.map_singleton, stsA_app]; rfl⟩, rfl⟩⟩
  · rw [nmA_len] at h1
    have hil : i = l.length := by omega
    subst hil
    show AV.sl (stsA ((l.take l.length).map keyS)) = _
    rw [List.take_length]

theorem places_k (n : Nat) (hn : n ≤ 1000000) : APure Try.prog 48 [.c (.int .i64 (n : Int))] (fun r => r = .sl (stsA ((List.range n).map placeS))) := by
  refine apure_of hTS Try.func48 (by kernel_rfl) rfl rfl rfl ?_
  refine loop_own_t 3 125 2 rfl ?_
  refine loop_on hTS (X := Nat) (fun i => i ≤ n)
    (fun i => ⟨[(3, .ms 0), (5, .v (.c (.int .i64 (n : Int)))), (6, .v (.c (.int .i64 (i : Int))))], []⟩)
    (fun i => [.arr 125 2 (stsA ((List.range i).map placeS))]) (fun i => n - i) 0 (Nat.zero_le _) ⟨rfl, rfl, (by (repeat' (first | exact trivial | refine ⟨⟨?_, rfl⟩, ?_⟩ | fail)); all_goals (first | (show some (SV.v (AV.c (Value.int .i64 (IntKind.i64.wrap _)))) = _; rw [inc (by omega)]; try rfl) | rfl)), ⟨_, rfl⟩, rfl⟩ ?_
  intro i hi
  refine bsplit_d (fun h1 _ => ?_) (fun h1 _ => ?_)
  · refine call_pure (step_k (i : Int)) rfl ?_
    rintro _ rfl
    refine side ⟨stsA_one [placeS i], ?_⟩ ?_
    · rw [stsA_len]; simp only [List.length_map, List.length_range]; show (i + 1) * 25 ≤ 70368744177664; omega
    refine ⟨i + 1, by omega, (by dsimp only; omega), ⟨rfl, rfl, ⟨⟨rfl, rfl⟩, ⟨rfl, rfl⟩, ⟨congrArg (fun x => some (SV.v (AV.c (.int .i64 x)))) (inc (k := i) (by omega)), rfl⟩, trivial⟩, ⟨_, by
      show (_ : List SO) = [.arr 125 2 (stsA ((List.range (i + 1)).map placeS))] ++ _
      rw [List.range_succ, List.map_append, List.map_singleton, stsA_app]; rfl⟩, rfl⟩⟩
  · have hil : i = n := by omega
    subst hil
    show AV.sl (stsA ((List.range i).map placeS)) = _
    rfl

theorem near_k (v : VT) : APure Try.prog 68 [vtA v] (fun r => r = .c (.bool (isNearV v))) := by
  have h0 : isNear 0 = true := by decide
  cases v
  case int n =>
    refine apure_of hTS Try.func68 (by kernel_rfl) rfl rfl rfl ?_
    refine call_pure (asInt_v (.int n)) rfl ?_
    rintro _ rfl
    refine call_pure (point_v n 0) rfl ?_
    rintro _ (⟨h1, rfl⟩ | ⟨h1, rfl⟩)
    · repeat' (first | refine bsplit_t rfl ?_ | fail)
      show AV.c _ = _
      rw [h0, Bool.and_true] at h1
      show _ = AV.c (.bool (isNear n))
      rw [h1]; rfl
    · repeat' (first | refine bsplit_t rfl ?_ | fail)
      show AV.c _ = _
      rw [h0, Bool.and_true] at h1
      show _ = AV.c (.bool (isNear n))
      rw [h1]; rfl
  all_goals
    refine apure_of hTS Try.func68 (by kernel_rfl) rfl rfl rfl ?_
    refine call_pure (asInt_v _) rfl ?_
    rintro _ rfl
    refine call_pure (point_v 0 0) rfl ?_
    rintro _ (⟨h1, rfl⟩ | ⟨h1, rfl⟩)
    · repeat' (first | refine bsplit_f rfl ?_ | fail)
      show AV.c _ = _
      rfl
    · repeat' (first | refine bsplit_f rfl ?_ | fail)
      show AV.c _ = _
      rfl

end Go.AV0
