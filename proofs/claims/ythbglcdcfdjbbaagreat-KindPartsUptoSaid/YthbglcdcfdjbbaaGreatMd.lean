/- KindPartsUptoSaid: of any type what it holds, for each text, value, number and key of bulk at most 1048576. This text: FwT, B1, V1, V2, V3. -/
import Derived.Test.YthbglcdcfdjbbaaGreatMc
import Derived.Test.YthbglcdcfdjbbaaGreatProg
import Derived.KernelRfl
/- The types of the translation, as a small table; that they are so. (Written by wip/types.py.) -/
namespace Go.AV0
open Go.Proofs
def TS : TT := (.node 88 ⟨.fn, 1, 8, [.nilFunc]⟩ (.node 43 ⟨.fn, 1, 8, [.nilFunc]⟩ (.node 21 ⟨.int .i32, 1, 4, [(.int .i32 0)]⟩ (.node 11 ⟨.str, 1, 16, [(.string ⟨#[]⟩)]⟩ (.node 6 ⟨.int .u8, 1, 1, [(.int .u8 0)]⟩ (.node 3 ⟨.int .i64, 1, 8, [(.int .i64 0)]⟩ (.node 2 ⟨.int .i64, 1, 8, [(.int .i64 0)]⟩ (.node 1 ⟨.fn, 1, 8, [.nilFunc]⟩ .nil .nil) .nil) (.node 5 ⟨.int .u8, 1, 1, [(.int .u8 0)]⟩ (.node 4 ⟨.bl, 1, 1, [(.bool false)]⟩ .nil .nil) .nil)) (.node 9 ⟨.str, 1, 16, [(.string ⟨#[]⟩)]⟩ (.node 8 ⟨.st [(0, 2), (1, 3), (2, 4), (3, 6)], 4, 24, [(.int .i64 0), (.int .i64 0), (.bool false), (.int .u8 0)]⟩ (.node 7 ⟨.st [(0, 2), (1, 3), (2, 4), (3, 6)], 4, 24, [(.int .i64 0), (.int .i64 0), (.bool false), (.int .u8 0)]⟩ .nil .nil) .nil) (.node 10 ⟨.str, 1, 16, [(.string ⟨#[]⟩)]⟩ .nil .nil))) (.node 16 ⟨.pt 166, 1, 8, [(.pointer none)]⟩ (.node 14 ⟨.st [(0, 9), (1, 12)], 2, 24, [(.string ⟨#[]⟩), (.int .u64 0)]⟩ (.node 13 ⟨.st [(0, 9), (1, 12)], 2, 24, [(.string ⟨#[]⟩), (.int .u64 0)]⟩ (.node 12 ⟨.int .u64, 1, 8, [(.int .u64 0)]⟩ .nil .nil) .nil) (.node 15 ⟨.pt 163, 1, 8, [(.pointer none)]⟩ .nil .nil)) (.node 19 ⟨.st [(0, 17)], 1, 8, [(.pointer none)]⟩ (.node 18 ⟨.st [(0, 17)], 1, 8, [(.pointer none)]⟩ (.node 17 ⟨.pt 173, 1, 8, [(.pointer none)]⟩ .nil .nil) .nil) (.node 20 ⟨.ifc, 1, 16, [.nilIface]⟩ .nil .nil)))) (.node 31 ⟨.st [(0, 3), (1, 28), (2, 23), (3, 29)], 4, 80, [(.int .i64 0), (.slice none 0 0), (.slice none 0 0), (.slice none 0 0)]⟩ (.node 26 ⟨.fn, 1, 8, [.nilFunc]⟩ (.node 24 ⟨.st [(0, 3), (1, 4), (2, 3), (3, 3), (4, 9), (5, 22), (6, 23)], 7, 96, [(.int .i64 0), (.bool false), (.int .i64 0), (.int .i64 0), (.string ⟨#[]⟩), (.slice none 0 0), (.slice none 0 0)]⟩ (.node 23 ⟨.sl 9, 1, 24, [(.slice none 0 0)]⟩ (.node 22 ⟨.sl 25, 1, 24, [(.slice none 0 0)]⟩ .nil .nil) .nil) (.node 25 ⟨.st [(0, 3), (1, 4), (2, 3), (3, 3), (4, 9), (5, 22), (6, 23)], 7, 96, [(.int .i64 0), (.bool false), (.int .i64 0), (.int .i64 0), (.string ⟨#[]⟩), (.slice none 0 0), (.slice none 0 0)]⟩ .nil .nil)) (.node 29 ⟨.sl 4, 1, 24, [(.slice none 0 0)]⟩ (.node 28 ⟨.sl 31, 1, 24, [(.slice none 0 0)]⟩ (.node 27 ⟨.fn, 1, 8, [.nilFunc]⟩ .nil .nil) .nil) (.node 30 ⟨.st [(0, 3), (1, 28), (2, 23), (3, 29)], 4, 80, [(.int .i64 0), (.slice none 0 0), (.slice none 0 0), (.slice none 0 0)]⟩ .nil .nil))) (.node 37 ⟨.int .i64, 1, 8, [(.int .i64 0)]⟩ (.node 35 ⟨.fn, 1, 8, [.nilFunc]⟩ (.node 33 ⟨.st [(0, 3), (1, 3)], 2, 16, [(.int .i64 0), (.int .i64 0)]⟩ (.node 32 ⟨.st [(0, 3), (1, 3)], 2, 16, [(.int .i64 0), (.int .i64 0)]⟩ .nil .nil) .nil) (.node 36 ⟨.pt 71, 1, 8, [(.pointer none)]⟩ .nil .nil)) (.node 41 ⟨.fn, 1, 8, [.nilFunc]⟩ (.node 40 ⟨.fn, 1, 8, [.nilFunc]⟩ (.node 39 ⟨.fn, 1, 8, [.nilFunc]⟩ .nil .nil) .nil) (.node 42 ⟨.fn, 1, 8, [.nilFunc]⟩ .nil .nil))))) (.node 66 ⟨.st [(0, 64), (3, 3)], 4, 40, [(.string ⟨#[]⟩), (.int .i64 0), (.int .i64 0), (.int .i64 0)]⟩ (.node 56 ⟨.fn, 1, 8, [.nilFunc]⟩ (.node 49 ⟨.fn, 1, 8, [.nilFunc]⟩ (.node 46 ⟨.st [(0, 20)], 1, 16, [.nilIface]⟩ (.node 45 ⟨.st [(0, 20)], 1, 16, [.nilIface]⟩ (.node 44 ⟨.fn, 1, 8, [.nilFunc]⟩ .nil .nil) .nil) (.node 47 ⟨.fn, 1, 8, [.nilFunc]⟩ .nil .nil)) (.node 53 ⟨.fn, 1, 8, [.nilFunc]⟩ (.node 52 ⟨.fn, 1, 8, [.nilFunc]⟩ (.node 51 ⟨.fn, 1, 8, [.nilFunc]⟩ .nil .nil) .nil) (.node 54 ⟨.fn, 1, 8, [.nilFunc]⟩ .nil .nil))) (.node 61 ⟨.fn, 1, 8, [.nilFunc]⟩ (.node 59 ⟨.fn, 1, 8, [.nilFunc]⟩ (.node 58 ⟨.sl 46, 1, 24, [(.slice none 0 0)]⟩ (.node 57 ⟨.fn, 1, 8, [.nilFunc]⟩ .nil .nil) .nil) (.node 60 ⟨.fn, 1, 8, [.nilFunc]⟩ .nil .nil)) (.node 64 ⟨.st [(0, 9), (1, 3), (2, 37)], 3, 32, [(.string ⟨#[]⟩), (.int .i64 0), (.int .i64 0)]⟩ (.node 63 ⟨.st [(0, 9), (1, 3), (2, 37)], 3, 32, [(.string ⟨#[]⟩), (.int .i64 0), (.int .i64 0)]⟩ (.node 62 ⟨.pt 66, 1, 8, [(.pointer none)]⟩ .nil .nil) .nil) (.node 65 ⟨.st [(0, 64), (3, 3)], 4, 40, [(.string ⟨#[]⟩), (.int .i64 0), (.int .i64 0), (.int .i64 0)]⟩ .nil .nil)))) (.node 77 ⟨.fn, 1, 8, [.nilFunc]⟩ (.node 71 ⟨.st [(0, 3), (1, 69), (2, 23), (3, 29)], 4, 80, [(.int .i64 0), (.slice none 0 0), (.slice none 0 0), (.slice none 0 0)]⟩ (.node 69 ⟨.sl 36, 1, 24, [(.slice none 0 0)]⟩ (.node 68 ⟨.fn, 1, 8, [.nilFunc]⟩ (.node 67 ⟨.fn, 1, 8, [.nilFunc]⟩ .nil .nil) .nil) (.node 70 ⟨.st [(0, 3), (1, 69), (2, 23), (3, 29)], 4, 80, [(.int .i64 0), (.slice none 0 0), (.slice none 0 0), (.slice none 0 0)]⟩ .nil .nil)) (.node 75 ⟨.fn, 1, 8, [.nilFunc]⟩ (.node 74 ⟨.fn, 1, 8, [.nilFunc]⟩ (.node 73 ⟨.fn, 1, 8, [.nilFunc]⟩ .nil .nil) .nil) (.node 76 ⟨.fn, 1, 8, [.nilFunc]⟩ .nil .nil))) (.node 83 ⟨.fn, 1, 8, [.nilFunc]⟩ (.node 80 ⟨.mp 9 46, 1, 8, [(.map none)]⟩ (.node 79 ⟨.mp 9 46, 1, 8, [(.map none)]⟩ (.node 78 ⟨.fn, 1, 8, [.nilFunc]⟩ .nil .nil) .nil) (.node 81 ⟨.sl 124, 1, 24, [(.slice none 0 0)]⟩ .nil .nil)) (.node 86 ⟨.ar 5 9, 5, 80, [(.string ⟨#[]⟩), (.string ⟨#[]⟩), (.string ⟨#[]⟩), (.string ⟨#[]⟩), (.string ⟨#[]⟩)]⟩ (.node 85 ⟨.fn, 1, 8, [.nilFunc]⟩ (.node 84 ⟨.fn, 1, 8, [.nilFunc]⟩ .nil .nil) .nil) (.node 87 ⟨.fn, 1, 8, [.nilFunc]⟩ .nil .nil)))))) (.node 131 ⟨.pt 5, 1, 8, [(.pointer none)]⟩ (.node 109 ⟨.sl 5, 1, 24, [(.slice none 0 0)]⟩ (.node 99 ⟨.fl .f64, 1, 8, [(.float .f64 0)]⟩ (.node 93 ⟨.pt 64, 1, 8, [(.pointer none)]⟩ (.node 91 ⟨.fn, 1, 8, [.nilFunc]⟩ (.node 90 ⟨.fn, 1, 8, [.nilFunc]⟩ (.node 89 ⟨.fn, 1, 8, [.nilFunc]⟩ .nil .nil) .nil) (.node 92 ⟨.fn, 1, 8, [.nilFunc]⟩ .nil .nil)) (.node 97 ⟨.fn, 1, 8, [.nilFunc]⟩ (.node 96 ⟨.st [], 0, 0, []⟩ (.node 95 ⟨.st [], 0, 0, []⟩ .nil .nil) .nil) (.node 98 ⟨.cx, 1, 16, [(.complex .f64 0 0)]⟩ .nil .nil))) (.node 104 ⟨.fn, 1, 8, [.nilFunc]⟩ (.node 102 ⟨.fn, 1, 8, [.nilFunc]⟩ (.node 101 ⟨.fn, 1, 8, [.nilFunc]⟩ (.node 100 ⟨.sl 46, 1, 24, [(.slice none 0 0)]⟩ .nil .nil) .nil) (.node 103 ⟨.fn, 1, 8, [.nilFunc]⟩ .nil .nil)) (.node 107 ⟨.fn, 1, 8, [.nilFunc]⟩ (.node 106 ⟨.fn, 1, 8, [.nilFunc]⟩ (.node 105 ⟨.fn, 1, 8, [.nilFunc]⟩ .nil .nil) .nil) (.node 108 ⟨.pt 111, 1, 8, [(.pointer none)]⟩ .nil .nil)))) (.node 120 ⟨.fn, 1, 8, [.nilFunc]⟩ (.node 114 ⟨.ifc, 1, 16, [.nilIface]⟩ (.node 112 ⟨.fn, 1, 8, [.nilFunc]⟩ (.node 111 ⟨.st [(0, 108), (1, 109)], 2, 32, [(.pointer none), (.slice none 0 0)]⟩ (.node 110 ⟨.st [(0, 108), (1, 109)], 2, 32, [(.pointer none), (.slice none 0 0)]⟩ .nil .nil) .nil) (.node 113 ⟨.ifc, 1, 16, [.nilIface]⟩ .nil .nil)) (.node 118 ⟨.fn, 1, 8, [.nilFunc]⟩ (.node 117 ⟨.fn, 1, 8, [.nilFunc]⟩ (.node 116 ⟨.fn, 1, 8, [.nilFunc]⟩ .nil .nil) .nil) (.node 119 ⟨.fn, 1, 8, [.nilFunc]⟩ .nil .nil))) (.node 126 ⟨.fn, 1, 8, [.nilFunc]⟩ (.node 124 ⟨.st [(0, 9), (1, 3)], 2, 24, [(.string ⟨#[]⟩), (.int .i64 0)]⟩ (.node 123 ⟨.st [(0, 9), (1, 3)], 2, 24, [(.string ⟨#[]⟩), (.int .i64 0)]⟩ (.node 122 ⟨.fn, 1, 8, [.nilFunc]⟩ .nil .nil) .nil) (.node 125 ⟨.fn, 1, 8, [.nilFunc]⟩ .nil .nil)) (.node 129 ⟨.fn, 1, 8, [.nilFunc]⟩ (.node 128 ⟨.fn, 1, 8, [.nilFunc]⟩ (.node 127 ⟨.fn, 1, 8, [.nilFunc]⟩ .nil .nil) .nil) (.node 130 ⟨.fn, 1, 8, [.nilFunc]⟩ .nil .nil))))) (.node 153 ⟨.int .u64, 1, 8, [(.int .u64 0)]⟩ (.node 142 ⟨.fn, 1, 8, [.nilFunc]⟩ (.node 137 ⟨.fn, 1, 8, [.nilFunc]⟩ (.node 134 ⟨.fn, 1, 8, [.nilFunc]⟩ (.node 133 ⟨.fn, 1, 8, [.nilFunc]⟩ (.node 132 ⟨.fn, 1, 8, [.nilFunc]⟩ .nil .nil) .nil) (.node 136 ⟨.fn, 1, 8, [.nilFunc]⟩ .nil .nil)) (.node 140 ⟨.fn, 1, 8, [.nilFunc]⟩ (.node 139 ⟨.fn, 1, 8, [.nilFunc]⟩ (.node 138 ⟨.fn, 1, 8, [.nilFunc]⟩ .nil .nil) .nil) (.node 141 ⟨.int .u64, 1, 8, [(.int .u64 0)]⟩ .nil .nil))) (.node 148 ⟨.fn, 1, 8, [.nilFunc]⟩ (.node 146 ⟨.fn, 1, 8, [.nilFunc]⟩ (.node 145 ⟨.fn, 1, 8, [.nilFunc]⟩ (.node 143 ⟨.int .i64, 1, 8, [(.int .i64 0)]⟩ .nil .nil) .nil) (.node 147 ⟨.fn, 1, 8, [.nilFunc]⟩ .nil .nil)) (.node 151 ⟨.fn, 1, 8, [.nilFunc]⟩ (.node 150 ⟨.int .u32, 1, 4, [(.int .u32 0)]⟩ (.node 149 ⟨.fn, 1, 8, [.nilFunc]⟩ .nil .nil) .nil) (.node 152 ⟨.int .u64, 1, 8, [(.int .u64 0)]⟩ .nil .nil)))) (.node 164 ⟨.ar 0 16, 0, 0, []⟩ (.node 158 ⟨.fn, 1, 8, [.nilFunc]⟩ (.node 156 ⟨.fn, 1, 8, [.nilFunc]⟩ (.node 155 ⟨.fn, 1, 8, [.nilFunc]⟩ (.node 154 ⟨.fn, 1, 8, [.nilFunc]⟩ .nil .nil) .nil) (.node 157 ⟨.pt 3, 1, 8, [(.pointer none)]⟩ .nil .nil)) (.node 162 ⟨.st [(0, 17), (1, 17), (2, 17), (3, 9)], 4, 40, [(.pointer none), (.pointer none), (.pointer none), (.string ⟨#[]⟩)]⟩ (.node 161 ⟨.fn, 1, 8, [.nilFunc]⟩ (.node 159 ⟨.pt 153, 1, 8, [(.pointer none)]⟩ .nil .nil) .nil) (.node 163 ⟨.st [(0, 17), (1, 17), (2, 17), (3, 9)], 4, 40, [(.pointer none), (.pointer none), (.pointer none), (.string ⟨#[]⟩)]⟩ .nil .nil))) (.node 169 ⟨.fn, 1, 8, [.nilFunc]⟩ (.node 167 ⟨.int .u8, 1, 1, [(.int .u8 0)]⟩ (.node 166 ⟨.st [(0, 164)], 0, 0, []⟩ (.node 165 ⟨.st [(0, 164)], 0, 0, []⟩ .nil .nil) .nil) (.node 168 ⟨.int .u8, 1, 1, [(.int .u8 0)]⟩ .nil .nil)) (.node 172 ⟨.st [(0, 12), (1, 12), (2, 150), (3, 167), (4, 5), (5, 5), (6, 168), (7, 169), (8, 131), (9, 170), (10, 171)], 11, 48, [(.int .u64 0), (.int .u64 0), (.int .u32 0), (.int .u8 0), (.int .u8 0), (.int .u8 0), (.int .u8 0), .nilFunc, (.pointer none), (.int .i32 0), (.int .i32 0)]⟩ (.node 171 ⟨.int .i32, 1, 4, [(.int .i32 0)]⟩ (.node 170 ⟨.int .i32, 1, 4, [(.int .i32 0)]⟩ .nil .nil) .nil) (.node 173 ⟨.st [(0, 12), (1, 12), (2, 150), (3, 167), (4, 5), (5, 5), (6, 168), (7, 169), (8, 131), (9, 170), (10, 171)], 11, 48, [(.int .u64 0), (.int .u64 0), (.int .u32 0), (.int .u8 0), (.int .u8 0), (.int .u8 0), (.int .u8 0), .nilFunc, (.pointer none), (.int .i32 0), (.int .i32 0)]⟩ .nil .nil)))))))
theorem hTS : TS.all Tryz.prog = true := by kernel_rfl
end Go.AV0
/- numbers, lists of names. -/
namespace Go.AV0
open Go.Proofs

theorem wr {a : Int} (h1 : -9223372036854775808 ≤ a) (h2 : a ≤ 9223372036854775807) : IntKind.i64.wrap a = a := by
  simp only [IntKind.wrap, IntKind.bits, IntKind.signed, Bool.true_and]
  split <;> rename_i h <;> simp at h <;> omega

theorem inc {k : Nat} (h : k < 4611686018427387904) : IntKind.i64.wrap ((k : Int) + 1) = ((k + 1 : Nat) : Int) := by rw [wr] <;> omega

def nmA (l : List ByteArray) : List (List AV) := l.map fun s => [.c (.string s)]
def boA (l : List Bool) : List (List AV) := l.map fun b => [.c (.bool b)]

theorem nmA_len (l : List ByteArray) : (nmA l).length = l.length := by simp [nmA]
theorem boA_len (l : List Bool) : (boA l).length = l.length := by simp [boA]
theorem nmA_app (l : List ByteArray) (x : ByteArray) : nmA (l ++ [x]) = nmA l ++ [[.c (.string x)]] := by simp [nmA]
theorem boA_app (l : List Bool) (x : Bool) : boA (l ++ [x]) = boA l ++ [[.c (.bool x)]] := by simp [boA]

theorem nmA_get (l : List ByteArray) (i : Nat) (x : ByteArray) (h : l[i]? = some x) : (nmA l)[i]? = some [.c (.string x)] := by
  show (l.map fun s => [AV.c (.string s)])[i]? = _
  rw [List.getElem?_map, h]; rfl
theorem boA_get (l : List Bool) (i : Nat) (x : Bool) (h : l[i]? = some x) : (boA l)[i]? = some [.c (.bool x)] := by
  show (l.map fun s => [AV.c (.bool s)])[i]? = _
  rw [List.getElem?_map, h]; rfl
theorem nmA_one (l : List ByteArray) : ElOk 1 (nmA l) := by
  intro y hy
  obtain ⟨x, _, rfl⟩ := List.mem_map.1 hy
  exact ⟨rfl, rfl⟩

end Go.AV0
/- values: what they are. -/
namespace Go.AV0
open Go.Proofs

/-- a value: Null, Unknown, Bool, Int, Point, Text, List, Map -/
inductive VT where
  | null
  | unk
  | bool (b : Bool)
  | int (n : Int)
  | pt (a b : Nat)
  | text (s : ByteArray)
  | list (l : List VT)
  | map (es : List (ByteArray × VT))

mutual
def vtO : VT → Option (Nat × AV)
  | .null => none
  | .unk => some (96, .agg [])
  | .bool b => some (4, .c (.bool b))
  | .int n => some (3, .c (.int .i64 n))
  | .pt a b => some (98, .c (.complex .f64 a b))
  | .text s => some (9, .c (.string s))
  | .list l => some (100, .sl (vtL l))
  | .map es => some (80, .map (some (vtM es)))
def vtL : List VT → List (List AV)
  | [] => []
  | v :: l => [.ifc (vtO v)] :: vtL l
def vtM : List (ByteArray × VT) → List (ByteArray × AV)
  | [] => []
  | (k, v) :: l => (k, .agg [.ifc (vtO v)]) :: vtM l
end

def vtA (v : VT) : AV := .agg [.ifc (vtO v)]

theorem vtL_len : ∀ (l : List VT), (vtL l).length = l.length
  | [] => rfl
  | t :: l => by simp [vtL, vtL_len l]
theorem vtL_app : ∀ (l : List VT) (x : VT), vtL (l ++ [x]) = vtL l ++ [[.ifc (vtO x)]]
  | [], x => by simp [vtL]
  | t :: l, x => by simp [vtL, vtL_app l x]
theorem vtL_get : ∀ (l : List VT) (i : Nat) (x : VT), l[i]? = some x → (vtL l)[i]? = some [.ifc (vtO x)]
  | [], i, x, h => by simp at h
  | t :: l, 0, x, h => by simp at h; subst h; simp [vtL]
  | t :: l, i + 1, x, h => by simp only [List.getElem?_cons_succ] at h; simpa [vtL] using vtL_get l i x h
theorem vtL_one : ∀ (l : List VT), ElOk 1 (vtL l)
  | [], y, h => by cases h
  | t :: l, y, h => by
    simp only [vtL, List.mem_cons] at h
    rcases h with rfl | h
    · exact ⟨rfl, rfl⟩
    · exact vtL_one l y h

def vget : List (ByteArray × VT) → ByteArray → Option VT
  | [], _ => none
  | (k, v) :: l, x => if k = x then some v else vget l x

def kindV : VT → Int
  | .null => 0
  | .unk => 1
  | .bool _ => 2
  | .int _ => 3
  | .pt _ _ => 4
  | .text _ => 5
  | .list _ => 6
  | .map _ => 7

theorem kind_v (v : VT) : APure Tryz.prog 52 [vtA v] (fun r => r = .c (.int .i64 (kindV v))) := by
  cases v <;>
  · refine apure_of hTS Tryz.func52 (by kernel_rfl) rfl rfl rfl ?_
    repeat' (first | refine bsplit_t (by first | with_reducible assumption | with_reducible rfl | with_reducible exact Bool.not_true | with_reducible exact Bool.not_false) ?_ | refine bsplit_f (by first | with_reducible assumption | with_reducible rfl | with_reducible exact Bool.not_true | with_reducible exact Bool.not_false) ?_ | fail)
    show AV.c _ = _
    rfl

theorem unset_v : APure Tryz.prog 35 [] (fun r => r = vtA .null) := by
  refine apure_of hTS Tryz.func35 (by kernel_rfl) rfl rfl rfl ?_
  show AV.agg _ = _
  rfl

theorem later_v : APure Tryz.prog 30 [] (fun r => r = vtA .unk) := by
  refine apure_of hTS Tryz.func30 (by kernel_rfl) rfl rfl rfl ?_
  show AV.agg _ = _
  rfl

theorem of_v (b : Bool) : APure Tryz.prog 31 [.c (.bool b)] (fun r => r = vtA (.bool b)) := by
  refine apure_of hTS Tryz.func31 (by kernel_rfl) rfl rfl rfl ?_
  show AV.agg _ = _
  rfl

theorem int_v (n : Int) : APure Tryz.prog 22 [.c (.int .i64 n)] (fun r => r = vtA (.int n)) := by
  refine apure_of hTS Tryz.func22 (by kernel_rfl) rfl rfl rfl ?_
  show AV.agg _ = _
  rfl

theorem text_v (s : ByteArray) : APure Tryz.prog 33 [.c (.string s)] (fun r => r = vtA (.text s)) := by
  refine apure_of hTS Tryz.func33 (by kernel_rfl) rfl rfl rfl ?_
  show AV.agg _ = _
  rfl

def isInt : VT → Int × Bool
  | .int n => (n, true)
  | _ => (0, false)
theorem asInt_v (v : VT) : APure Tryz.prog 77 [vtA v] (fun r => r = .tup [.c (.int .i64 (isInt v).1), .c (.bool (isInt v).2)]) := by
  cases v <;>
  · refine apure_of hTS Tryz.func77 (by kernel_rfl) rfl rfl rfl ?_
    show AV.tup _ = _
    rfl

theorem mget_vtM : ∀ (es : List (ByteArray × VT)) (k : ByteArray), mget (vtM es) k = (vget es k).map vtA
  | [], k => rfl
  | (k', v) :: l, k => by
    simp only [vtM, mget, vget]
    by_cases h : k' = k
    · simp [h, vtA]
    · simp [h, mget_vtM l k]

def vAt (v : VT) (k : ByteArray) : Option VT :=
  match v with
  | .map es => vget es k
  | _ => none

def optV (o : Option VT) : VT :=
  match o with
  | some v => v
  | none => .null

theorem at_v (v : VT) (k : ByteArray) : APure Tryz.prog 29 [vtA v, .c (.string k)] (fun r => r = .tup [vtA (optV (vAt v k)), .c (.bool (vAt v k).isSome)]) := by
  cases v
  case map es =>
    refine apure_of hTS Tryz.func29 (by kernel_rfl) rfl rfl rfl ?_
    have hm := mget_vtM es k
    cases hg : vget es k with
    | none =>
      rw [hg] at hm
      refine optev_n hm ?_
      show AV.tup _ = _
      simp only [vAt, hg]; rfl
    | some x =>
      rw [hg] at hm
      refine optev_s (vtA x) hm ?_
      show AV.tup _ = _
      simp only [vAt, hg]; rfl
  all_goals
    refine apure_of hTS Tryz.func29 (by kernel_rfl) rfl rfl rfl ?_
    refine optev_n rfl ?_
    show AV.tup _ = _
    rfl

end Go.AV0
/- values made: points, lists, maps. -/
namespace Go.AV0
open Go.Proofs

theorem vtM_app : ∀ (l : List (ByteArray × VT)) (k : ByteArray) (x : VT), vtM (l ++ [(k, x)]) = vtM l ++ [(k, .agg [.ifc (vtO x)])]
  | [], k, x => by simp [vtM]
  | (k', t) :: l, k, x => by simp [vtM, vtM_app l k x]

theorem near_v (n : Int) : APure Tryz.prog 49 [.c (.int .i64 n)] (fun r => r = .c (.bool (decide (-9007199254740992 ≤ n) && decide (n ≤ 9007199254740992)))) := by
  refine apure_of hTS Tryz.func49 (by kernel_rfl) rfl rfl rfl ?_
  refine bsplit_d (fun h1 e1 => ?_) (fun h1 e1 => ?_)
  · repeat' (first | refine bsplit_t (by first | with_reducible assumption | with_reducible rfl | with_reducible exact Bool.not_true | with_reducible exact Bool.not_false) ?_ | refine bsplit_f (by first | with_reducible assumption | with_reducible rfl | with_reducible exact Bool.not_true | with_reducible exact Bool.not_false) ?_ | fail)
    show AV.c _ = _
    rw [e1]; rfl
  · repeat' (first | refine bsplit_t (by first | with_reducible assumption | with_reducible rfl | with_reducible exact Bool.not_true | with_reducible exact Bool.not_false) ?_ | refine bsplit_f (by first | with_reducible assumption | with_reducible rfl | with_reducible exact Bool.not_true | with_reducible exact Bool.not_false) ?_ | fail)
    show AV.c _ = _
    rw [e1]; rfl

def isNear (n : Int) : Bool := decide (-9007199254740992 ≤ n) && decide (n ≤ 9007199254740992)

theorem point_v (re im : Int) : APure Tryz.prog 32 [.c (.int .i64 re), .c (.int .i64 im)] (fun r =>
    ((isNear re && isNear im) = true ∧ r = .tup [vtA (.pt (FloatKind.f64.nearest re) (FloatKind.f64.nearest im)), .c (.int .i64 0)]) ∨ ((isNear re && isNear im) = false ∧ r = .tup [vtA .null, .c (.int .i64 2)])) := by
  refine apure_of hTS Tryz.func32 (by kernel_rfl) rfl rfl rfl ?_
  refine call_pure (near_v re) rfl ?_
  rintro _ rfl
  cases h1 : isNear re with
  | false =>
    have e1 : (decide (-9007199254740992 ≤ re) && decide (re ≤ 9007199254740992)) = false := h1
    have e2 : (!(decide (-9007199254740992 ≤ re) && decide (re ≤ 9007199254740992))) = true := by rw [e1]; rfl
    repeat' (first | refine bsplit_t (by first | with_reducible assumption | with_reducible rfl | with_reducible exact Bool.not_true | with_reducible exact Bool.not_false) ?_ | refine bsplit_f (by first | with_reducible assumption | with_reducible rfl | with_reducible exact Bool.not_true | with_reducible exact Bool.not_false) ?_ | fail)
    exact .inr ⟨rfl, rfl⟩
  | true =>
    have e1 : (decide (-9007199254740992 ≤ re) && decide (re ≤ 9007199254740992)) = true := h1
    have e2 : (!(decide (-9007199254740992 ≤ re) && decide (re ≤ 9007199254740992))) = false := by rw [e1]; rfl
    repeat' (first | refine bsplit_t (by first | with_reducible assumption | with_reducible rfl | with_reducible exact Bool.not_true | with_reducible exact Bool.not_false) ?_ | refine bsplit_f (by first | with_reducible assumption | with_reducible rfl | with_reducible exact Bool.not_true | with_reducible exact Bool.not_false) ?_ | fail)
    refine call_pure (near_v im) rfl ?_
    rintro _ rfl
    cases h2 : isNear im with
    | false =>
      have e3 : (decide (-9007199254740992 ≤ im) && decide (im ≤ 9007199254740992)) = false := h2
      have e4 : (!(decide (-9007199254740992 ≤ im) && decide (im ≤ 9007199254740992))) = true := by rw [e3]; rfl
      repeat' (first | refine bsplit_t (by first | with_reducible assumption | with_reducible rfl | with_reducible exact Bool.not_true | with_reducible exact Bool.not_false) ?_ | refine bsplit_f (by first | with_reducible assumption | with_reducible rfl | with_reducible exact Bool.not_true | with_reducible exact Bool.not_false) ?_ | fail)
      exact .inr ⟨rfl, rfl⟩
    | true =>
      have e3 : (decide (-9007199254740992 ≤ im) && decide (im ≤ 9007199254740992)) = true := h2
      have e4 : (!(decide (-9007199254740992 ≤ im) && decide (im ≤ 9007199254740992))) = false := by rw [e3]; rfl
      repeat' (first | refine bsplit_t (by first | with_reducible assumption | with_reducible rfl | with_reducible exact Bool.not_true | with_reducible exact Bool.not_false) ?_ | refine bsplit_f (by first | with_reducible assumption | with_reducible rfl | with_reducible exact Bool.not_true | with_reducible exact Bool.not_false) ?_ | fail)
      exact .inl ⟨rfl, rfl⟩

theorem cloneL_v (l : List VT) (hl : l.length ≤ 4000000) : APure Tryz.prog 50 [.sl (vtL l)] (fun r => r = .sl (vtL l)) := by
  refine apure_of hTS Tryz.func50 (by kernel_rfl) rfl rfl rfl ?_
  refine anyb (fun t ht => ?_)
  refine bsplit (fun h => ?_) (fun h => ?_)
  · have : vtL l = [] := Decidable.byContradiction fun hne => by have := ht hne; rw [h] at this; cases this
    rw [this]
    show nrm (AV.c _) = _
    rfl
  · refine side ⟨vtL_one l, by rw [vtL_len]; show (0 + l.length) * 17 ≤ 70368744177664; omega⟩ ?_
    show AV.sl _ = _
    rfl

theorem clonel_v (l : List VT) (hl : l.length ≤ 4000000) : APure Tryz.prog 68 [.sl (vtL l)] (fun r => r = .sl (vtL l)) := by
  refine apure_of hTS Tryz.func68 (by kernel_rfl) rfl rfl rfl ?_
  refine anyb (fun t ht => ?_)
  refine bsplit (fun h => ?_) (fun h => ?_)
  · have : vtL l = [] := Decidable.byContradiction fun hne => by have := ht hne; rw [h] at this; cases this
    rw [this]
    show nrm (AV.c _) = _
    rfl
  · refine side ⟨vtL_one l, by rw [vtL_len]; show (0 + l.length) * 17 ≤ 70368744177664; omega⟩ ?_
    show AV.sl _ = _
    rfl

theorem list_v (l : List VT) (hl : l.length ≤ 4000000) : APure Tryz.prog 34 [.sl (vtL l)] (fun r => r = vtA (.list l)) := by
  refine apure_of hTS Tryz.func34 (by kernel_rfl) rfl rfl rfl ?_
  refine call_pure (cloneL_v l hl) rfl ?_
  rintro _ rfl
  show AV.agg _ = _
  rfl

end Go.AV0
/- values made: maps. -/
namespace Go.AV0
open Go.Proofs

def zV : SO := .cells [.v (.ifc none)]

theorem vget_none {es : List (ByteArray × VT)} {k : ByteArray} : vget es k = none ↔ k ∉ es.map (·.1) := by
  induction es with
  | nil => simp [vget]
  | cons e es ih =>
    obtain ⟨k', v⟩ := e
    simp only [vget, List.map_cons, List.mem_cons, not_or]
    split
    · rename_i h; simp [h]
    · rename_i h; rw [ih]; exact ⟨fun h2 => ⟨fun h3 => h h3.symm, h2⟩, fun h2 => h2.2⟩

theorem zip_take_succ {α β : Type} {a : List α} {b : List β} {i : Nat} {x : α} {y : β} (ha : a[i]? = some x) (hb : b[i]? = some y) : (a.take (i + 1)).zip (b.take (i + 1)) = (a.take i).zip (b.take i) ++ [(x, y)] := by
  rw [List.take_add_one, List.take_add_one, ha, hb]
  rw [List.zip_append]
  · rfl
  · simp
    have := get_lt ha
    have := get_lt hb
    omega

set_option maxRecDepth 20000 in
theorem map_v (ks : List ByteArray) (l : List VT) (hl : ks.length ≤ 4000000) : APure Tryz.prog 21 [.sl (nmA ks), .sl (vtL l)] (fun r =>
    (ks.length = l.length ∧ ks.Nodup ∧ r = .tup [vtA (.map (ks.zip l)), .c (.int .i64 0)]) ∨ (¬ (ks.length = l.length ∧ ks.Nodup) ∧ ∃ e, e ≠ 0 ∧ r = .tup [vtA .null, .c (.int .i64 e)])) := by
  refine apure_of hTS Tryz.func21 (by kernel_rfl) rfl rfl rfl ?_
  refine bsplit_d (fun h1 _ => ?_) (fun h1 _ => ?_)
  · rw [nmA_len, vtL_len] at h1
    exact .inr ⟨fun h => h1 (by rw [h.1]), _, by decide, rfl⟩
  rw [nmA_len, vtL_len] at h1
  have h1 : ks.length = l.length := by omega
  refine loop_on hTS (X := Nat) (fun i => i ≤ ks.length ∧ (ks.take i).Nodup)
    (fun i => ⟨[(0, .v (.sl (nmA ks))), (1, .v (.sl (vtL l))), (4, .ref 0 0), (5, .v (.c (.int .i64 0))), (6, .mm 1), (18, .v (.sl (nmA ks))), (19, .v (.c (.int .i64 ((nmA ks).length : Int)))), (20, .v (.c (.int .i64 (i : Int))))], []⟩)
    (fun i => [zV, .map (vtM ((ks.take i).zip (l.take i)))]) (fun i => ks.length - i) 0 ⟨Nat.zero_le _, by simp⟩ ⟨rfl, rfl, (by (repeat' (first | exact trivial | refine ⟨⟨?_, rfl⟩, ?_⟩ | fail)); all_goals (first | (show some (SV.v (AV.c (Value.int .i64 (IntKind.i64.wrap _)))) = _; rw [inc (by omega)]; try rfl) | rfl)), ⟨_, rfl⟩, rfl⟩ ?_
  rintro i ⟨hi, hnd⟩
  refine bsplit_d (fun h2 _ => ?_) (fun h2 _ => ?_)
  · have h2 : i < ks.length := by rw [nmA_len] at h2; omega
    obtain ⟨k, hk⟩ : ∃ k, ks[i]? = some k := ⟨_, List.getElem?_eq_getElem h2⟩
    obtain ⟨x, hx⟩ : ∃ x, l[i]? = some x := ⟨_, List.getElem?_eq_getElem (by omega)⟩
    refine elev (Int.natCast_nonneg _) [AV.c (.string k)] (nmA_get _ _ _ hk) ?_
    have hm := mget_vtM ((ks.take i).zip (l.take i)) k
    have hkeys : ((ks.take i).zip (l.take i)).map (·.1) = ks.take i := by
      rw [List.map_fst_zip]; simp; omega
    have htk : ks.take (i + 1) = ks.take i ++ [k] := by rw [List.take_add_one, hk]; rfl
    cases hg : vget ((ks.take i).zip (l.take i)) k with
    | some y =>
      rw [hg] at hm
      refine optev_s (vtA y) hm ?_
      have hin : k ∈ ks.take i := by
        rw [← hkeys]
        exact Classical.byContradiction fun h => by rw [vget_none.2 h] at hg; cases hg
      repeat' (first | refine bsplit_t (by first | with_reducible assumption | with_reducible rfl | with_reducible exact Bool.not_true | with_reducible exact Bool.not_false) ?_ | refine bsplit_f (by first | with_reducible assumption | with_reducible rfl | with_reducible exact Bool.not_true | with_reducible exact Bool.not_false) ?_ | fail)
      refine .inr ⟨fun h => ?_, _, by decide, rfl⟩
      have h3 : (ks.take (i + 1)).Nodup := h.2.sublist (List.take_sublist _ _)
      rw [htk, List.nodup_append] at h3
      exact h3.2.2 k hin k (by simp) rfl
    | none =>
      rw [hg] at hm
      have hnin : k ∉ ks.take i := by rw [← hkeys]; exact vget_none.1 hg
      refine optev_n hm ?_
      repeat' (first | refine bsplit_t (by first | with_reducible assumption | with_reducible rfl | with_reducible exact Bool.not_true | with_reducible exact Bool.not_false) ?_ | refine bsplit_f (by first | with_reducible assumption | with_reducible rfl | with_reducible exact Bool.not_true | with_reducible exact Bool.not_false) ?_ | fail)
      refine elev (Int.natCast_nonneg _) [AV.ifc (vtO x)] (vtL_get _ _ _ hx) ?_
      refine ⟨i + 1, ⟨by omega, ?_⟩, (by dsimp only; omega), ⟨rfl, rfl, ⟨⟨rfl, rfl⟩, ⟨rfl, rfl⟩, ⟨rfl, rfl⟩, ⟨rfl, rfl⟩, ⟨rfl, rfl⟩, ⟨rfl, rfl⟩, ⟨rfl, rfl⟩, ⟨congrArg (fun x => some (SV.v (AV.c (.int .i64 x)))) (inc (k := i) (by omega)), rfl⟩, trivial⟩, ⟨_, by
        show (_ : List SO) = [zV, .map (vtM ((ks.take (i + 1)).zip (l.take (i + 1))))] ++ _
        rw [zip_take_succ hk hx, vtM_app, ← mput_none hm]; rfl⟩, rfl⟩⟩
      rw [htk, List.nodup_append]
      refine ⟨hnd, by simp, ?_⟩
      intro a ha b hb e
      simp at hb
      subst hb; subst e
      exact hnin ha
  · have h2 : i = ks.length := by rw [nmA_len] at h2; omega
    subst h2
    rw [List.take_length] at hnd
    refine .inl ⟨h1, hnd, ?_⟩
    show AV.tup [.agg [.ifc (some (_, .map (some (vtM ((ks.take ks.length).zip (l.take ks.length))))))], _] = _
    rw [List.take_length, h1, List.take_length]; rfl

end Go.AV0
