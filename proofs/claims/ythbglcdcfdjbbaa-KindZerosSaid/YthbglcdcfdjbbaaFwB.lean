/- The symbolic executor: what the operations of a region do to abstract values. -/
import Derived.Test.YthbglcdcfdjbbaaFwA
namespace Go.AV0

/-! ### types, as a small table -/
inductive TK where
  | bl | int (k : IntKind) | fl (k : FloatKind) | cx | str | pt (e : TypeId) | sl (e : TypeId) | ar (n : Nat) (e : TypeId) | mp (k e : TypeId)
  | st (fs : List (Nat × TypeId)) | ifc | fn | oth

structure TI where
  k : TK
  size : Nat
  bytes : Nat
  zero : List Value

inductive TT where
  | nil
  | node (k : Nat) (v : TI) (l r : TT)

def TT.find : TT → Nat → Option TI
  | .nil, _ => none
  | .node k v l r, i => bif Nat.beq i k then some v else bif Nat.ble i k then l.find i else r.find i

def tkOk : TK → TypeDesc → Bool
  | .bl, .bool => true
  | .int k, .int k' => k == k'
  | .fl k, .float k' => k == k'
  | .cx, .complex _ => true
  | .str, .string => true
  | .pt e, .pointer e' => e == e'
  | .sl e, .slice e' => e == e'
  | .ar n e, .array n' e' => n == n' && e == e'
  | .mp k e, .map k' e' => k == k' && e == e'
  | .st fs, .struct a => (a.toList.map fun f => (f.offset, f.type)) == fs
  | .ifc, .interface _ => true
  | .fn, .func _ _ _ => true
  | _, _ => false

def zeq : Value → Value → Bool
  | .bool a, .bool b => a == b
  | .int k a, .int k' b => k == k' && a == b
  | .float k a, .float k' b => k == k' && a == b
  | .complex k a c, .complex k' b d => k == k' && a == b && c == d
  | .string a, .string b => a.data == b.data
  | .pointer none, .pointer none => true
  | .slice none 0 0, .slice none 0 0 => true
  | .map none, .map none => true
  | .nilFunc, .nilFunc => true
  | .nilIface, .nilIface => true
  | _, _ => false

def zeqs : List Value → List Value → Bool
  | [], [] => true
  | a :: x, b :: y => zeq a b && zeqs x y
  | _, _ => false

theorem zeq_eq {a b : Value} (h : zeq a b = true) : a = b := by
  unfold zeq at h
  split at h <;> simp_all
  rename_i a b; cases a; cases b; simp_all

theorem zeqs_eq : ∀ {a b : List Value}, zeqs a b = true → a = b
  | [], [], _ => rfl
  | a :: x, b :: y, h => by
    simp only [zeqs, Bool.and_eq_true] at h; rw [zeq_eq h.1, zeqs_eq h.2]
  | [], _ :: _, h => by simp [zeqs] at h
  | _ :: _, [], h => by simp [zeqs] at h

def isAggV : Value → Bool
  | .agg _ => true
  | _ => false

def isAggK : TK → Bool
  | .st _ => true
  | .ar _ _ => true
  | _ => false

def tiB (P : Program) (t : Nat) (i : TI) : Bool :=
  match P.info? t, P.underlying t with
  | some f, some d => f.size == i.size && f.bytes == i.bytes && tkOk i.k d && (match f.zero with | some z => zeqs z.cells.toList i.zero && (isAggV z == isAggK i.k) | none => false)
  | _, _ => false

def TT.all (P : Program) : TT → Bool
  | .nil => true
  | .node k v l r => tiB P k v && l.all P && r.all P

structure TOk (P : Program) (t : Nat) (i : TI) : Prop where
  ex : ∃ f d z, P.info? t = some f ∧ P.underlying t = some d ∧ f.size = i.size ∧ f.bytes = i.bytes ∧ tkOk i.k d = true ∧ f.zero = some z ∧ z.cells.toList = i.zero ∧ isAggV z = isAggK i.k

theorem tok_of {P t i} (h : tiB P t i = true) : TOk P t i := by
  unfold tiB at h
  split at h
  · rename_i f d h1 h2
    simp only [Bool.and_eq_true, beq_iff_eq] at h
    obtain ⟨⟨⟨a, b⟩, c⟩, e⟩ := h
    split at e
    · rename_i z hz
      simp only [Bool.and_eq_true, beq_iff_eq] at e
      exact ⟨f, d, z, h1, h2, a, b, c, hz, zeqs_eq e.1, e.2⟩
    · cases e
  · cases h

theorem TT.ok {P : Program} : ∀ {T : TT}, T.all P = true → ∀ t i, T.find t = some i → TOk P t i
  | .nil, _, t, i, h => by simp [TT.find] at h
  | .node k v l r, ha, t, i, h => by
    simp only [TT.all, Bool.and_eq_true] at ha
    simp only [TT.find] at h
    cases hb : Nat.beq t k with
    | true => rw [hb] at h; simp at h; subst h; rw [Nat.eq_of_beq_eq_true hb]; exact tok_of ha.1.1
    | false =>
      rw [hb] at h; simp only [cond_false] at h
      cases hc : Nat.ble t k with
      | true => rw [hc] at h; exact TT.ok ha.1.2 t i h
      | false => rw [hc] at h; exact TT.ok ha.2 t i h

/-! ### what a proof decides -/
@[irreducible] def BSplit (t : Bool) (A B : Prop) : Prop := (t = true → A) ∧ (t = false → B)
@[irreducible] def Side (c : Prop) (A : Prop) : Prop := c ∧ A
@[irreducible] def ElEv {α : Type} (l : List α) (i : Int) (k : α → Prop) : Prop := 0 ≤ i ∧ ∃ e, l[i.toNat]? = some e ∧ k e
@[irreducible] def OptEv {α : Type} (o : Option α) (s : α → Prop) (n : Prop) : Prop := (∀ v, o = some v → s v) ∧ (o = none → n)
@[irreducible] def AnyB (c : Bool → Prop) (k : Bool → Prop) : Prop := ∀ t, c t → k t

theorem bsplit {t : Bool} {A B : Prop} (h : t = true → A) (k : t = false → B) : BSplit t A B := by unfold BSplit; exact ⟨h, k⟩
theorem bsplit_t {t : Bool} {A B : Prop} (h : t = true) (k : A) : BSplit t A B := by subst h; unfold BSplit; exact ⟨fun _ => k, nofun⟩
theorem bsplit_f {t : Bool} {A B : Prop} (h : t = false) (k : B) : BSplit t A B := by subst h; unfold BSplit; exact ⟨nofun, fun _ => k⟩
theorem side {c A : Prop} (h : c) (k : A) : Side c A := by unfold Side; exact ⟨h, k⟩
theorem elev {α : Type} {l : List α} {i : Int} {k : α → Prop} (h0 : 0 ≤ i) (e : α) (h : l[i.toNat]? = some e) (hk : k e) : ElEv l i k := by unfold ElEv; exact ⟨h0, e, h, hk⟩
theorem optev {α : Type} {o : Option α} {s : α → Prop} {n : Prop} (h : ∀ v, o = some v → s v) (k : o = none → n) : OptEv o s n := by unfold OptEv; exact ⟨h, k⟩
theorem optev_s {α : Type} {o : Option α} {s : α → Prop} {n : Prop} (v : α) (h : o = some v) (k : s v) : OptEv o s n := by subst h; unfold OptEv; exact ⟨fun w hw => (by cases hw; exact k), nofun⟩
theorem optev_n {α : Type} {o : Option α} {s : α → Prop} {n : Prop} (h : o = none) (k : n) : OptEv o s n := by subst h; unfold OptEv; exact ⟨nofun, fun _ => k⟩
theorem anyb {c k : Bool → Prop} (h : ∀ t, c t → k t) : AnyB c k := by unfold AnyB; exact h

theorem BSplit.elim {t : Bool} {A B : Prop} (h : BSplit t A B) : (t = true → A) ∧ (t = false → B) := by unfold BSplit at h; exact h
theorem Side.elim {c A : Prop} (h : Side c A) : c ∧ A := by unfold Side at h; exact h
theorem ElEv.elim {α : Type} {l : List α} {i : Int} {k : α → Prop} (h : ElEv l i k) : 0 ≤ i ∧ ∃ e, l[i.toNat]? = some e ∧ k e := by unfold ElEv at h; exact h
theorem OptEv.elim {α : Type} {o : Option α} {s : α → Prop} {n : Prop} (h : OptEv o s n) : (∀ v, o = some v → s v) ∧ (o = none → n) := by unfold OptEv at h; exact h
theorem AnyB.elim {c k : Bool → Prop} (h : AnyB c k) : ∀ t, c t → k t := by unfold AnyB at h; exact h

/-! ### a value is brought to its outermost form before it is handed on -/
def forceC (v : Value) (k : Value → Prop) : Prop :=
  match v with
  | .bool b => k (.bool b)
  | .int d n => k (.int d n)
  | .float d b => k (.float d b)
  | .complex d a b => k (.complex d a b)
  | .string s => k (.string s)
  | .pointer a => k (.pointer a)
  | .slice a l c => k (.slice a l c)
  | .map r => k (.map r)
  | .chan r => k (.chan r)
  | .func f a b => k (.func f a b)
  | .nilFunc => k .nilFunc
  | .iface t v => k (.iface t v)
  | .nilIface => k .nilIface
  | .agg l => k (.agg l)
  | .tuple l => k (.tuple l)

theorem forceC_eq (v k) : forceC v k = k v := by cases v <;> rfl

def forceV (x : AV) (k : AV → Prop) : Prop :=
  match x with
  | .c v => forceC v fun v => k (.c v)
  | .sl e => k (.sl e)
  | .ptr o => k (.ptr o)
  | .ifc o => k (.ifc o)
  | .agg l => k (.agg l)
  | .tup l => k (.tup l)
  | .map o => k (.map o)
  | .clo f a b => k (.clo f a b)

theorem forceV_eq (v k) : forceV v k = k v := by cases v <;> simp only [forceV, forceC_eq]

def forceS (s : SV) (k : SV → Prop) : Prop :=
  match s with
  | .any => k .any
  | .v x => forceV x fun x => k (.v x)
  | .ref a b => k (.ref a b)
  | .eref a b c => k (.eref a b c)
  | .ms a => k (.ms a)
  | .mm a => k (.mm a)
  | .tup l => k (.tup l)
  | .agg l => k (.agg l)
  | .clo f a b => k (.clo f a b)

theorem forceS_eq (s k) : forceS s k = k s := by cases s <;> simp only [forceS, forceV_eq]

def forceN (n : Nat) (k : Nat → Prop) : Prop :=
  match n with
  | 0 => k 0 | 1 => k 1 | 2 => k 2 | 3 => k 3 | 4 => k 4 | 5 => k 5 | 6 => k 6 | 7 => k 7 | 8 => k 8 | 9 => k 9 | 10 => k 10 | 11 => k 11 | 12 => k 12
  | n + 13 => k (n + 13)

theorem forceN_eq (n k) : forceN n k = k n := by unfold forceN; split <;> rfl

def onO {α : Type} (o : Option α) (k : α → Prop) : Prop :=
  match o with
  | some x => k x
  | none => False

def nth {α : Type} : List α → Nat → Option α
  | [], _ => none
  | x :: _, 0 => some x
  | _ :: l, n + 1 => nth l n

theorem nth_eq {α : Type} : ∀ (l : List α) (n : Nat), nth l n = l[n]?
  | [], n => by cases n <;> rfl
  | x :: l, 0 => rfl
  | x :: l, n + 1 => by simp only [nth, nth_eq l n, List.getElem?_cons_succ]

/-- an operand's slot value -/
def evs (α : AF) : Operand → Option SV
  | .tmp t => look α.s t
  | .const v => some (.v (ofVal v))
  | .func f => some (.v (.c (.func (.func f) #[] #[])))
  | .global _ => none

theorem evs_ok {ι N w M n α a} (H : FR ι N w M n α a) {x : Operand} {s : SV} (h : evs α x = some s) : RepS ι N w M s (a.eval x) := by
  cases x with
  | tmp t =>
    simp only [evs] at h
    obtain ⟨c, h1, h2⟩ := H.slot t s h
    simpa [Act.eval, h1] using h2
  | const v => simp only [evs] at h; cases h; simp only [RepS, Act.eval]; exact rep_ofVal w M v
  | func f => simp only [evs] at h; cases h; simp [RepS, Rep, Act.eval]
  | global g => simp [evs] at h

def evL (α : AF) : List Operand → Option (List SV)
  | [] => some []
  | x :: l => match evs α x, evL α l with
    | some s, some r => some (s :: r)
    | _, _ => none

theorem evL_ok {ι N w M n α a} (H : FR ι N w M n α a) : ∀ {l : List Operand} {r : List SV}, evL α l = some r → RepSL ι N w M r (l.map a.eval)
  | [], r, h => by simp only [evL] at h; cases h; simp [RepSL]
  | x :: l, r, h => by
    simp only [evL] at h
    split at h
    · rename_i s r' h1 h2
      cases h
      simp only [List.map_cons, RepSL]
      exact ⟨_, _, rfl, evs_ok H h1, evL_ok H h2⟩
    · cases h

/-! ### integers, strings, bools -/
def intB (op : BinOp) (k : IntKind) (a b : Int) (K : Value → Prop) : Prop :=
  match op with
  | .add => K (.int k (k.wrap (a + b)))
  | .sub => K (.int k (k.wrap (a - b)))
  | .mul => K (.int k (k.wrap (a * b)))
  | .quo => Side (b ≠ 0) (K (.int k (k.wrap (a.tdiv b))))
  | .rem => Side (b ≠ 0) (K (.int k (a.tmod b)))
  | .eql => K (.bool (decide (a = b)))
  | .neq => K (.bool (decide (a ≠ b)))
  | .lss => K (.bool (decide (a < b)))
  | .leq => K (.bool (decide (a ≤ b)))
  | .gtr => K (.bool (decide (b < a)))
  | .geq => K (.bool (decide (b ≤ a)))
  | .and => K (.int k (k.wrap ((BitVec.ofInt k.bits a &&& BitVec.ofInt k.bits b).toNat : Int)))
  | .or => K (.int k (k.wrap ((BitVec.ofInt k.bits a ||| BitVec.ofInt k.bits b).toNat : Int)))
  | .xor => K (.int k (k.wrap ((BitVec.ofInt k.bits a ^^^ BitVec.ofInt k.bits b).toNat : Int)))
  | .shl => Side (0 ≤ b) (K (.int k (k.wrap (a * 2 ^ (min b.toNat k.bits)))))
  | .shr => Side (0 ≤ b) (K (.int k (a.fdiv (2 ^ (min b.toNat k.bits)))))
  | .andNot => False

def slt (a b : ByteArray) : Bool := Op.bytesLess a.toList b.toList

def strB (op : BinOp) (a b : ByteArray) (K : Value → Prop) : Prop :=
  match op with
  | .add => Side (a.size + b.size ≤ 9223372036854775807) (K (.string (a ++ b)))
  | .eql => K (.bool (decide (a = b)))
  | .neq => K (.bool (decide (a ≠ b)))
  | .lss => K (.bool (slt a b))
  | .leq => K (.bool (slt a b || decide (a = b)))
  | .gtr => K (.bool (!(slt a b || decide (a = b))))
  | .geq => K (.bool (!slt a b))
  | _ => False

def isShift : BinOp → Bool
  | .shl => true
  | .shr => true
  | _ => false

def binC (op : BinOp) (x y : Value) (K : Value → Prop) : Prop :=
  match x, y with
  | .int k a, .int k' b => bif isShift op then intB op k a b K else if k = k' then intB op k a b K else False
  | .string a, .string b => strB op a b K
  | _, _ => False

theorem tl_beq (a b : ByteArray) : (a.toList == b.toList) = decide (a = b) := by
  by_cases h : a = b
  · subst h; simp
  · have : a.toList ≠ b.toList := by
      intro e
      apply h
      have e2 : a.data.toList = b.data.toList := by simpa [ByteArray.toList_eq] using e
      cases a; cases b; simp at e2; simp [e2]
    simp [h, this]

end Go.AV0
