/- values: what they are. -/
import Derived.Test.YthbglcdcfdjbbaaB1
namespace Go.AV0
open Go.Proofs

/-- a value: Null, Unknown, Bool, Int, Point, Text, List, Map -/
inductive VT where
  | null
  | unk
  | bool (b : Bool)
  | int (n : Int)
  | pt (a b : Nat)
  | text (s : ByteArray)
  | list (l : List VT)
  | map (es : List (ByteArray × VT))

mutual
def vtO : VT → Option (Nat × AV)
  | .null => none
  | .unk => some (101, .agg [])
  | .bool b => some (4, .c (.bool b))
  | .int n => some (3, .c (.int .i64 n))
  | .pt a b => some (102, .c (.complex .f64 a b))
  | .text s => some (9, .c (.string s))
  | .list l => some (103, .sl (vtL l))
  | .map es => some (105, .map (some (vtM es)))
def vtL : List VT → List (List AV)
  | [] => []
  | v :: l => [.ifc (vtO v)] :: vtL l
def vtM : List (ByteArray × VT) → List (ByteArray × AV)
  | [] => []
  | (k, v) :: l => (k, .agg [.ifc (vtO v)]) :: vtM l
end

def vtA (v : VT) : AV := .agg [.ifc (vtO v)]

theorem vtL_len : ∀ (l : List VT), (vtL l).length = l.length
  | [] => rfl
  | t :: l => by simp [vtL, vtL_len l]
theorem vtL_app : ∀ (l : List VT) (x : VT), vtL (l ++ [x]) = vtL l ++ [[.ifc (vtO x)]]
  | [], x => by simp [vtL]
  | t :: l, x => by simp [vtL, vtL_app l x]
theorem vtL_get : ∀ (l : List VT) (i : Nat) (x : VT), l[i]? = some x → (vtL l)[i]? = some [.ifc (vtO x)]
  | [], i, x, h => by simp at h
  | t :: l, 0, x, h => by simp at h; subst h; simp [vtL]
  | t :: l, i + 1, x, h => by simp only [List.getElem?_cons_succ] at h; simpa [vtL] using vtL_get l i x h
theorem vtL_one : ∀ (l : List VT), ElOk 1 (vtL l)
  | [], y, h => by cases h
  | t :: l, y, h => by
    simp only [vtL, List.mem_cons] at h
    rcases h with rfl | h
    · exact ⟨rfl, rfl⟩
    · exact vtL_one l y h

def vget : List (ByteArray × VT) → ByteArray → Option VT
  | [], _ => none
  | (k, v) :: l, x => if k = x then some v else vget l x

def kindV : VT → Int
  | .null => 0
  | .unk => 1
  | .bool _ => 2
  | .int _ => 3
  | .pt _ _ => 4
  | .text _ => 5
  | .list _ => 6
  | .map _ => 7

theorem kind_v (v : VT) : APure Try.prog 20 [vtA v] (fun r => r = .c (.int .i64 (kindV v))) := by
  cases v <;>
  · refine apure_of hTS Try.func20 (by kernel_rfl) rfl rfl rfl ?_
    repeat' (first | refine bsplit_t (by first | with_reducible assumption | with_reducible rfl | with_reducible exact Bool.not_true | with_reducible exact Bool.not_false) ?_ | refine bsplit_f (by first | with_reducible assumption | with_reducible rfl | with_reducible exact Bool.not_true | with_reducible exact Bool.not_false) ?_ | fail)
    show AV.c _ = _
    rfl

theorem unset_v : APure Try.prog 18 [] (fun r => r = vtA .null) := by
  refine apure_of hTS Try.func18 (by kernel_rfl) rfl rfl rfl ?_
  show AV.agg _ = _
  rfl

theorem later_v : APure Try.prog 49 [] (fun r => r = vtA .unk) := by
  refine apure_of hTS Try.func49 (by kernel_rfl) rfl rfl rfl ?_
  show AV.agg _ = _
  rfl

theorem of_v (b : Bool) : APure Try.prog 36 [.c (.bool b)] (fun r => r = vtA (.bool b)) := by
  refine apure_of hTS Try.func36 (by kernel_rfl) rfl rfl rfl ?_
  show AV.agg _ = _
  rfl

theorem int_v (n : Int) : APure Try.prog 24 [.c (.int .i64 n)] (fun r => r = vtA (.int n)) := by
  refine apure_of hTS Try.func24 (by kernel_rfl) rfl rfl rfl ?_
  show AV.agg _ = _
  rfl

theorem text_v (s : ByteArray) : APure Try.prog 38 [.c (.string s)] (fun r => r = vtA (.text s)) := by
  refine apure_of hTS Try.func38 (by kernel_rfl) rfl rfl rfl ?_
  show AV.agg _ = _
  rfl

def isBool : VT → Bool × Bool
  | .bool b => (b, true)
  | _ => (false, false)
def isInt : VT → Int × Bool
  | .int n => (n, true)
  | _ => (0, false)
def isText : VT → ByteArray × Bool
  | .text s => (s, true)
  | _ => (⟨#[]⟩, false)

theorem bool_v (v : VT) : APure Try.prog 29 [vtA v] (fun r => r = .tup [.c (.bool (isBool v).1), .c (.bool (isBool v).2)]) := by
  cases v <;>
  · refine apure_of hTS Try.func29 (by kernel_rfl) rfl rfl rfl ?_
    show AV.tup _ = _
    rfl

theorem asInt_v (v : VT) : APure Try.prog 30 [vtA v] (fun r => r = .tup [.c (.int .i64 (isInt v).1), .c (.bool (isInt v).2)]) := by
  cases v <;>
  · refine apure_of hTS Try.func30 (by kernel_rfl) rfl rfl rfl ?_
    show AV.tup _ = _
    rfl

theorem asText_v (v : VT) : APure Try.prog 32 [vtA v] (fun r => r = .tup [.c (.string (isText v).1), .c (.bool (isText v).2)]) := by
  cases v <;>
  · refine apure_of hTS Try.func32 (by kernel_rfl) rfl rfl rfl ?_
    show AV.tup _ = _
    rfl

theorem mget_vtM : ∀ (es : List (ByteArray × VT)) (k : ByteArray), mget (vtM es) k = (vget es k).map vtA
  | [], k => rfl
  | (k', v) :: l, k => by
    simp only [vtM, mget, vget]
    by_cases h : k' = k
    · simp [h, vtA]
    · simp [h, mget_vtM l k]

def vAt (v : VT) (k : ByteArray) : Option VT :=
  match v with
  | .map es => vget es k
  | _ => none

def optV (o : Option VT) : VT :=
  match o with
  | some v => v
  | none => .null

theorem at_v (v : VT) (k : ByteArray) : APure Try.prog 35 [vtA v, .c (.string k)] (fun r => r = .tup [vtA (optV (vAt v k)), .c (.bool (vAt v k).isSome)]) := by
  cases v
  case map es =>
    refine apure_of hTS Try.func35 (by kernel_rfl) rfl rfl rfl ?_
    have hm := mget_vtM es k
    cases hg : vget es k with
    | none =>
      rw [hg] at hm
      refine optev_n hm ?_
      show AV.tup _ = _
      simp only [vAt, hg]; rfl
    | some x =>
      rw [hg] at hm
      refine optev_s (vtA x) hm ?_
      show AV.tup _ = _
      simp only [vAt, hg]; rfl
  all_goals
    refine apure_of hTS Try.func35 (by kernel_rfl) rfl rfl rfl ?_
    refine optev_n rfl ?_
    show AV.tup _ = _
    rfl

end Go.AV0
