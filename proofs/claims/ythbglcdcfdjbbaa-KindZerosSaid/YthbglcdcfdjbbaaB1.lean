/- numbers, lists of names. -/
import Derived.Test.YthbglcdcfdjbbaaFwT
import Derived.Test.YthbglcdcfdjbbaaFwU
namespace Go.AV0
open Go.Proofs

theorem wr {a : Int} (h1 : -9223372036854775808 ≤ a) (h2 : a ≤ 9223372036854775807) : IntKind.i64.wrap a = a := by
  simp only [IntKind.wrap, IntKind.bits, IntKind.signed, Bool.true_and]
  split <;> rename_i h <;> simp at h <;> omega

theorem inc {k : Nat} (h : k < 4611686018427387904) : IntKind.i64.wrap ((k : Int) + 1) = ((k + 1 : Nat) : Int) := by rw [wr] <;> omega

def nmA (l : List ByteArray) : List (List AV) := l.map fun s => [.c (.string s)]
def boA (l : List Bool) : List (List AV) := l.map fun b => [.c (.bool b)]

theorem nmA_len (l : List ByteArray) : (nmA l).length = l.length := by simp [nmA]
theorem boA_len (l : List Bool) : (boA l).length = l.length := by simp [boA]
theorem nmA_app (l : List ByteArray) (x : ByteArray) : nmA (l ++ [x]) = nmA l ++ [[.c (.string x)]] := by simp [nmA]
theorem boA_app (l : List Bool) (x : Bool) : boA (l ++ [x]) = boA l ++ [[.c (.bool x)]] := by simp [boA]

theorem nmA_get (l : List ByteArray) (i : Nat) (x : ByteArray) (h : l[i]? = some x) : (nmA l)[i]? = some [.c (.string x)] := by
  show (l.map fun s => [AV.c (.string s)])[i]? = _
  rw [List.getElem?_map, h]; rfl
theorem boA_get (l : List Bool) (i : Nat) (x : Bool) (h : l[i]? = some x) : (boA l)[i]? = some [.c (.bool x)] := by
  show (l.map fun s => [AV.c (.bool s)])[i]? = _
  rw [List.getElem?_map, h]; rfl
theorem nmA_one (l : List ByteArray) : ElOk 1 (nmA l) := by
  intro y hy
  obtain ⟨x, _, rfl⟩ := List.mem_map.1 hy
  exact ⟨rfl, rfl⟩

end Go.AV0
