/- T7, T8, T9, T10: texts of this proof, one behind the other. -/
import Derived.Test.YthbglcdcfdjbbaaT6
import Derived.Test.YthbglcdcfdjbbaaLib
/- kind: texts of types. -/
namespace Go.AV0
open Go.Proofs Go.RowKit

def joinB (xs : List ByteArray) (sep : ByteArray) : ByteArray := ⟨(Lib.join (xs.map (·.data.toList)) sep.data.toList).toArray⟩

def sumZ : List ByteArray → Nat
  | [] => 0
  | x :: l => x.size + sumZ l

theorem join_le (sep : List UInt8) : ∀ (xs : List ByteArray), (Lib.join (xs.map (·.data.toList)) sep).length ≤ sumZ xs + xs.length * sep.length
  | [] => by simp [Lib.join, sumZ]
  | [x] => by simp [Lib.join, sumZ]
  | x :: y :: l => by
    have ih := join_le sep (y :: l)
    have e : Lib.join ((x :: y :: l).map (·.data.toList)) sep = x.data.toList ++ sep ++ Lib.join ((y :: l).map (·.data.toList)) sep := by
      simp [Lib.join, List.intercalate]
    rw [e]
    simp only [List.length_append, sumZ, List.length_cons] at ih ⊢
    have : x.data.toList.length = x.size := by simp
    rw [this, Nat.add_mul _ 1]
    omega

theorem joinB_le (xs : List ByteArray) (sep : ByteArray) : (joinB xs sep).size ≤ sumZ xs + xs.length * sep.size := by
  have := join_le sep.data.toList xs
  have e : sep.data.toList.length = sep.size := by simp
  rw [e] at this
  exact this

theorem repEls_get {w : World} {M : Nat → Prop} {b n : Nat} : ∀ {xs : List ByteArray} {off : Nat}, RepEls w M b n (nmA xs) off → ∀ (j : Nat) x, xs[j]? = some x → w.cell? ⟨b, off + j, none⟩ = some (.string x)
  | [], off, _, j, x, hx => by simp at hx
  | y :: xs, off, h, j, x, hx => by
    have h : (([AV.c (.string y)].length = n ∧ RepAt w M b [AV.c (.string y)] off) ∧ RepEls w M b n (nmA xs) (off + n)) := h
    obtain ⟨⟨hn, h1⟩, h2⟩ := h
    have hn : n = 1 := by simpa using hn.symm
    subst hn
    simp only [RepAt, Rep] at h1
    obtain ⟨⟨_, c, h1, rfl⟩, _⟩ := h1
    cases j with
    | zero => simp at hx; subst hx; exact h1
    | succ j =>
      have := repEls_get h2 j x (by simpa using hx)
      rwa [show off + 1 + j = off + (j + 1) by omega] at this

theorem join_v (xs : List ByteArray) (sep : ByteArray) (h1 : xs.length ≤ 1000000) (h2 : sumZ xs + xs.length * sep.size ≤ 140737488355328) : APure Try.prog 52 [.sl (nmA xs), .c (.string sep)] (fun r => r = .c (.string (joinB xs sep))) := by
  refine ⟨⟨_, Try.func52, by kernel_rfl, rfl⟩, ?_⟩
  intro w M cs hM hr
  simp only [RepL, Rep] at hr
  obtain ⟨_, _, rfl, ⟨ao, cap, rfl, hcap, hel⟩, _, _, rfl, rfl, rfl⟩ := hr
  rw [nmA_len] at hcap ⊢
  have hjl := join_le sep.data.toList xs
  have e : sep.data.toList.length = sep.size := by simp
  rw [e] at hjl
  rcases hel with hel | ⟨b, off, n, rfl, hel⟩
  · have hx : xs = [] := List.eq_nil_of_length_eq_zero (by rw [← nmA_len, hel]; rfl)
    subst hx
    refine (Try.strings_Join_none ao cap sep w).mono ?_
    rintro e w' ⟨rfl, rfl⟩
    exact ⟨_, _, rfl, rfl, Below.refl _ _, by simp only [Rep]; rfl⟩
  · have hcells := repEls_get hel
    cases xs with
    | nil =>
      refine (Try.strings_Join_none _ cap sep w).mono ?_
      rintro e w' ⟨rfl, rfl⟩
      exact ⟨_, _, rfl, rfl, Below.refl _ _, by simp only [Rep]; rfl⟩
    | cons x xs =>
      have hb := lt_of_cell (hcells 0 x rfl)
      refine (Try.strings_Join b off cap (x :: xs) sep w hcells hb (by omega) hcap (by omega)).mono ?_
      rintro e w' ⟨rfl, hbw⟩
      exact ⟨_, _, rfl, rfl, hbw, by simp only [Rep]; rfl⟩

end Go.AV0

/- kind: texts of types. -/
namespace Go.AV0
open Go.Proofs

def bs (l : List UInt8) : ByteArray := ⟨l.toArray⟩
def sComma : ByteArray := ⟨#[44]⟩

def fldB (s : ByteArray) (q : Bool) (p : ByteArray) : ByteArray := s ++ (if q = true then ⟨#[63, 58]⟩ else ⟨#[58]⟩) ++ p

def flds : List ByteArray → List Bool → List ByteArray → List ByteArray
  | s :: ns, q :: lo, p :: ps => fldB s q p :: flds ns lo ps
  | _, _, ps => ps

def headB : List ByteArray → ByteArray
  | x :: _ => x
  | [] => noBytes

def wordB (f : Nat) : ByteArray :=
  match f with
  | 0 => wAny
  | 1 => wBool
  | 2 => wInt
  | 3 => wPoint
  | 4 => wText
  | _ => noBytes

mutual
/-- a type's text -/
def prK : KT → ByteArray
  | .mk f l ns lo => if f = 5 then ⟨#[108, 105, 115, 116, 40]⟩ ++ headB (prL l) ++ ⟨#[41]⟩ else if f = 6 then ⟨#[109, 97, 112, 40]⟩ ++ headB (prL l) ++ ⟨#[41]⟩
      else if f = 7 then ⟨#[91]⟩ ++ joinB (prL l) sComma ++ ⟨#[93]⟩ else if f = 8 then ⟨#[123]⟩ ++ joinB (flds ns lo (prL l)) sComma ++ ⟨#[125]⟩ else wordB f
def prL : List KT → List ByteArray
  | [] => []
  | t :: l => prK t :: prL l
end

theorem prL_len : ∀ (l : List KT), (prL l).length = l.length
  | [] => rfl
  | t :: l => by simp [prL, prL_len l]
theorem prL_app : ∀ (l : List KT) (x : KT), prL (l ++ [x]) = prL l ++ [prK x]
  | [], x => by simp [prL]
  | t :: l, x => by simp [prL, prL_app l x]
theorem prL_get : ∀ {l : List KT} {i : Nat} {x : KT}, l[i]? = some x → (prL l)[i]? = some (prK x)
  | t :: l, 0, x, h => by simp at h; subst h; simp [prL]
  | t :: l, i + 1, x, h => by simp only [List.getElem?_cons_succ] at h; simpa [prL] using prL_get h

def PrintC (t : KT) : Prop := APure Try.prog 19 [kp t] (fun r => r = .c (.string (prK t)))

theorem all_i (l : List KT) (hl : l.length ≤ 1000000) (hih : ∀ x ∈ l, PrintC x) : AImp Try.prog 51 [.v (.sl (kpL l))] [] [] (fun r h => r = .ms 0 ∧ h = [.arr 9 1 (nmA (prL l))]) := by
  refine aimp_keep hTS 1000 Try.func51 (by kernel_rfl) rfl rfl rfl (fun p => ?_)
  refine loop_own_t 3 9 1 rfl ?_
  refine loop_on hTS (X := Nat) (fun i => i ≤ l.length)
    (fun i => ⟨[(3, .ms 0), (6, .v (.sl (kpL l))), (7, .v (.c (.int .i64 ((kpL l).length : Int)))), (8, .v (.c (.int .i64 (i : Int))))], []⟩)
    (fun i => [.arr 9 1 (nmA (prL (l.take i)))]) (fun i => l.length - i) 0 (Nat.zero_le _) ⟨rfl, rfl, (by (repeat' (first | exact trivial | refine ⟨⟨?_, rfl⟩, ?_⟩ | fail)); all_goals (first | (show some (SV.v (AV.c (Value.int .i64 (IntKind.i64.wrap _)))) = _; rw [inc (by omega)]; try rfl) | rfl)), ⟨_, rfl⟩, rfl⟩ ?_
  intro i hi
  refine bsplit_d (fun h1 _ => ?_) (fun h1 _ => ?_)
  · rw [kpL_len] at h1
    obtain ⟨x, hx⟩ : ∃ x, l[i]? = some x := ⟨_, List.getElem?_eq_getElem (by omega)⟩
    have hmem := List.mem_of_getElem? hx
    refine elev (Int.natCast_nonneg _) [AV.ptr (kpO x)] (kpL_get _ _ _ hx) ?_
    refine call_pure (hih x hmem) rfl ?_
    rintro _ rfl
    refine side ⟨nmA_one [prK x], ?_⟩ ?_
    · rw [nmA_len, prL_len, List.length_take]; show (min i l.length + 1) * 17 ≤ 70368744177664; omega
    refine ⟨i + 1, by omega, (by dsimp only; omega), ⟨rfl, rfl, ⟨⟨rfl, rfl⟩, ⟨rfl, rfl⟩, ⟨rfl, rfl⟩, ⟨congrArg (fun x => some (SV.v (AV.c (.int .i64 x)))) (inc (k := i) (by omega)), rfl⟩, trivial⟩, ⟨_, by
      show (_ : List SO) = [.arr 9 1 (nmA (prL (l.take (i + 1))))] ++ _
      rw [take_succ hx, prL_app, nmA_app]; rfl⟩, rfl⟩⟩
  · rw [kpL_len] at h1
    have hil : i = l.length := by omega
    subst hil
    refine ⟨trivial, 1, rfl, rfl, ?_⟩
    show [SO.arr _ 1 (nmA (prL (l.take l.length)))] = _
    rw [List.take_length]

/-- how long a type's text is at most -/
def PZ (t : KT) : Nat := 1000 * 17 ^ kDeep t

end Go.AV0

/- kind: Print, Same. -/
namespace Go.AV0
open Go.Proofs

theorem sumZ_le {B : Nat} : ∀ {xs : List ByteArray}, (∀ x ∈ xs, x.size ≤ B) → sumZ xs ≤ xs.length * B
  | [], _ => by simp [sumZ]
  | x :: xs, h => by
    have h1 := h x (by simp)
    have h2 := sumZ_le (xs := xs) fun y hy => h y (by simp [hy])
    simp only [sumZ, List.length_cons]
    rw [Nat.add_mul]; omega

theorem flds_len : ∀ (ns : List ByteArray) (lo : List Bool) (ps : List ByteArray), (flds ns lo ps).length = ps.length
  | s :: ns, q :: lo, p :: ps => by simp [flds, flds_len ns lo ps]
  | [], _, ps => by simp [flds]
  | _ :: _, [], ps => by simp [flds]
  | _ :: _, _ :: _, [] => by simp [flds]

theorem fldB_le {s p : ByteArray} {q : Bool} : (fldB s q p).size ≤ s.size + 2 + p.size := by
  unfold fldB
  cases q <;> simp [ByteArray.size_append] <;> (show _ ≤ _) <;> decide +revert

theorem flds_le {A B : Nat} : ∀ {ns : List ByteArray} {lo : List Bool} {ps : List ByteArray}, (∀ x ∈ ns, x.size ≤ A) → (∀ x ∈ ps, x.size ≤ B) → ∀ x ∈ flds ns lo ps, x.size ≤ A + 2 + B
  | s :: ns, q :: lo, p :: ps, h1, h2, x, hx => by
    simp only [flds, List.mem_cons] at hx
    rcases hx with rfl | hx
    · have := @fldB_le s p q
      have := h1 s (by simp)
      have := h2 p (by simp)
      omega
    · exact flds_le (fun y hy => h1 y (by simp [hy])) (fun y hy => h2 y (by simp [hy])) x hx
  | [], lo, ps, h1, h2, x, hx => by
    have hx : x ∈ ps := by simpa [flds] using hx
    have := h2 x hx; omega
  | _ :: _, [], ps, h1, h2, x, hx => by
    have hx : x ∈ ps := by simpa [flds] using hx
    have := h2 x hx; omega
  | _ :: _, _ :: _, [], h1, h2, x, hx => by simp [flds] at hx

theorem prL_mem : ∀ {l : List KT} {p : ByteArray}, p ∈ prL l → ∃ x ∈ l, p = prK x
  | t :: l, p, h => by
    simp only [prL, List.mem_cons] at h
    rcases h with rfl | h
    · exact ⟨t, by simp, rfl⟩
    · obtain ⟨x, h1, h2⟩ := prL_mem h; exact ⟨x, by simp [h1], h2⟩

theorem flds_get {s p : ByteArray} {q : Bool} : ∀ {ns : List ByteArray} {lo : List Bool} {ps : List ByteArray} {i : Nat}, ns[i]? = some s → lo[i]? = some q → ps[i]? = some p →
    (flds (ns.take i) (lo.take i) ps)[i]? = some p ∧ flds (ns.take (i + 1)) (lo.take (i + 1)) ps = (flds (ns.take i) (lo.take i) ps).set i (fldB s q p)
  | n :: ns, o :: lo, r :: ps, 0, h1, h2, h3 => by
    simp at h1 h2 h3; subst h1; subst h2; subst h3
    simp [flds]
  | n :: ns, o :: lo, r :: ps, i + 1, h1, h2, h3 => by
    have ih := flds_get (ns := ns) (lo := lo) (ps := ps) (i := i) (by simpa using h1) (by simpa using h2) (by simpa using h3)
    simp only [List.take_succ_cons, flds, List.getElem?_cons_succ, List.set_cons_succ]
    exact ⟨ih.1, by rw [ih.2]⟩
  | [], _, _, _, h1, _, _ => by simp at h1
  | _ :: _, [], _, _, _, h2, _ => by simp at h2
  | _ :: _, _ :: _, [], _, _, _, h3 => by simp at h3

theorem nmA_set (xs : List ByteArray) (i : Nat) (x : ByteArray) : nmA (xs.set i x) = (nmA xs).set i [.c (.string x)] := by
  show (xs.set i x).map _ = (xs.map _).set i _
  rw [List.map_set]

theorem pow_ge (d : Nat) : 1000 ≤ 1000 * 17 ^ d := Nat.le_mul_of_pos_right _ (Nat.pow_pos (by omega))

/-- bounds on all parts of a type's text -/
theorem kid_le {l : List KT} (ih : ∀ x ∈ l, (prK x).size ≤ PZ x) : ∀ p ∈ prL l, p.size ≤ 1000 * 17 ^ kDeepL l := by
  intro p hp
  obtain ⟨x, h1, rfl⟩ := prL_mem hp
  have h2 := ih x h1
  have h3 := kDeepL_mem h1
  exact Nat.le_trans h2 (Nat.mul_le_mul_left _ (Nat.pow_le_pow_right (by omega) h3))

theorem pr_le : ∀ (t : KT), wfK t → (prK t).size ≤ PZ t := by
  intro t
  induction t using KT.ind with
  | _ f l ns lo ih =>
  intro hwf
  simp only [wfK] at hwf
  obtain ⟨hf8, hl16, _, hf56, hfn, _, hlo, hns, _, hwl⟩ := hwf
  have hkid := kid_le (l := l) fun x hx => ih x hx (wfL_mem hwl hx)
  have hB := pow_ge (kDeepL l)
  have hPZ : PZ (.mk f l ns lo) = 17 * (1000 * 17 ^ kDeepL l) := by
    show 1000 * 17 ^ (kDeepL l + 1) = _
    rw [Nat.pow_succ]; omega
  rw [hPZ]
  generalize 1000 * 17 ^ kDeepL l = B at hkid hB
  have hhead : (headB (prL l)).size ≤ B := by
    cases hl : prL l with
    | nil => show (noBytes).size ≤ _; show 0 ≤ _; omega
    | cons p ps => exact hkid p (by rw [hl]; simp)
  have hj1 := joinB_le (prL l) sComma
  have hj2 := joinB_le (flds ns lo (prL l)) sComma
  have hs1 := sumZ_le hkid
  have hs2 := sumZ_le (flds_le (lo := lo) hns hkid)
  rw [flds_len] at hj2 hs2
  rw [prL_len] at hj1 hs1 hj2 hs2
  have hc : sComma.size = 1 := rfl
  rw [hc] at hj1 hj2
  have hm1 : l.length * B ≤ 16 * B := Nat.mul_le_mul_right _ hl16
  have hm2 : l.length * (20 + 2 + B) ≤ 16 * (20 + 2 + B) := Nat.mul_le_mul_right _ hl16
  simp only [prK]
  split
  · simp only [ByteArray.size_append]; show 5 + (headB (prL l)).size + 1 ≤ _; omega
  split
  · simp only [ByteArray.size_append]; show 4 + (headB (prL l)).size + 1 ≤ _; omega
  split
  · simp only [ByteArray.size_append]; show 1 + (joinB (prL l) sComma).size + 1 ≤ _; omega
  split
  · simp only [ByteArray.size_append]; show 1 + (joinB (flds ns lo (prL l)) sComma).size + 1 ≤ _; omega
  · have : (wordB f).size ≤ 5 := by
      unfold wordB
      split <;> decide
    omega

end Go.AV0

/- kind: Print, Same. -/
namespace Go.AV0
open Go.Proofs

set_option maxRecDepth 20000 in
set_option maxHeartbeats 4000000 in
theorem print_t : ∀ (t : KT), wfK t → kDeep t ≤ 8 → PrintC t := by
  intro t
  induction t using KT.ind with
  | _ f l ns lo ih =>
  intro hwf hd
  have hd : kDeepL l + 1 ≤ 8 := hd
  have hwf0 := hwf
  simp only [wfK] at hwf
  obtain ⟨hf8, hl16, _, hf56, hfn, _, hlo, hns, _, hwl⟩ := hwf
  have hih : ∀ x ∈ l, PrintC x := fun x hx => ih x hx (wfL_mem hwl hx) (by have := kDeepL_mem hx; omega)
  have hB : 1000 * 17 ^ kDeepL l ≤ 410338673000 := by
    have : 17 ^ kDeepL l ≤ 17 ^ 7 := Nat.pow_le_pow_right (by omega) (by omega)
    have e : (17 : Nat) ^ 7 = 410338673 := by decide
    omega
  have hkid : ∀ p ∈ prL l, p.size ≤ 410338673000 := fun p hp => Nat.le_trans (kid_le (l := l) (fun x hx => pr_le x (wfL_mem hwl hx)) p hp) hB
  have hs1 := sumZ_le hkid
  have hfl : ∀ i, ∀ x ∈ flds (ns.take i) (lo.take i) (prL l), x.size ≤ 20 + 2 + 410338673000 := fun i => flds_le (fun x hx => hns x (List.mem_of_mem_take hx)) hkid
  have hs2 := sumZ_le (hfl l.length)
  rw [flds_len] at hs2
  rw [prL_len] at hs1 hs2
  have hcz : sComma.size = 1 := rfl
  unfold PrintC
  refine apure_of hTS Try.func19 (by kernel_rfl) rfl rfl rfl ?_
  repeat' (first | refine bsplit_t (by first | with_reducible assumption | with_reducible rfl | with_reducible exact Bool.not_true | with_reducible exact Bool.not_false) ?_ | refine bsplit_f (by first | with_reducible assumption | with_reducible rfl | with_reducible exact Bool.not_true | with_reducible exact Bool.not_false) ?_ | fail)
  refine call_obj (all_i l (by omega) hih) [] rfl rfl rfl ?_
  rintro _ _ ⟨rfl, rfl⟩
  refine bsplit_d (fun h5 _ => ?_) (fun h5 _ => ?_)
  · have h5 : f = 5 := by omega
    subst h5
    have hl1 := hf56 (.inl rfl)
    obtain ⟨x, rfl⟩ : ∃ x, l = [x] := by
      cases l with
      | nil => cases hl1
      | cons x r => cases r with
        | nil => exact ⟨x, rfl⟩
        | cons y r => simp at hl1
    have hx := hkid (prK x) (by simp [prL])
    refine elev (by decide) [AV.c (.string (prK x))] rfl ?_
    refine elev (by decide) [AV.c (.string (prK x))] rfl ?_
    refine side (by show 5 + (prK x).size ≤ _; omega) ?_
    refine side (by simp only [ByteArray.size_append]; show 5 + (prK x).size + 1 ≤ _; omega) ?_
    show AV.c _ = _
    rfl
  refine bsplit_d (fun h6 _ => ?_) (fun h6 _ => ?_)
  · have h6 : f = 6 := by omega
    subst h6
    have hl1 := hf56 (.inr rfl)
    obtain ⟨x, rfl⟩ : ∃ x, l = [x] := by
      cases l with
      | nil => cases hl1
      | cons x r => cases r with
        | nil => exact ⟨x, rfl⟩
        | cons y r => simp at hl1
    have hx := hkid (prK x) (by simp [prL])
    refine elev (by decide) [AV.c (.string (prK x))] rfl ?_
    refine elev (by decide) [AV.c (.string (prK x))] rfl ?_
    refine side (by show 4 + (prK x).size ≤ _; omega) ?_
    refine side (by simp only [ByteArray.size_append]; show 4 + (prK x).size + 1 ≤ _; omega) ?_
    show AV.c _ = _
    rfl
  refine bsplit_d (fun h7 _ => ?_) (fun h7 _ => ?_)
  · have h7 : f = 7 := by omega
    subst h7
    have hj := joinB_le (prL l) sComma
    rw [prL_len, hcz] at hj
    refine call_frz 0 rfl rfl ?_
    refine call_pure (join_v (prL l) sComma (by rw [prL_len]; omega) (by rw [prL_len, hcz]; omega)) rfl ?_
    rintro _ rfl
    refine side (by show 1 + (joinB (prL l) sComma).size ≤ _; omega) ?_
    refine side (by simp only [ByteArray.size_append]; show 1 + (joinB (prL l) sComma).size + 1 ≤ _; omega) ?_
    show AV.c _ = _
    rfl
  refine bsplit_d (fun h8 _ => ?_) (fun h8 _ => ?_)
  · have h8 : f = 8 := by omega
    subst h8
    have hnl := hfn rfl
    refine loop_on hTS (X := Nat) (fun i => i ≤ l.length)
      (fun i => ⟨[(0, .v (kp (.mk 8 l ns lo))), (3, .ms 0), (43, .v (.sl (nmA ns))), (44, .v (.c (.int .i64 ((nmA ns).length : Int)))), (45, .v (.c (.int .i64 (i : Int))))], []⟩)
      (fun i => [.arr 9 1 (nmA (flds (ns.take i) (lo.take i) (prL l)))]) (fun i => l.length - i) 0 (Nat.zero_le _) ⟨rfl, rfl, ⟨⟨rfl, rfl⟩, ⟨rfl, rfl⟩, ⟨rfl, rfl⟩, ⟨rfl, rfl⟩, ⟨rfl, rfl⟩, trivial⟩, ⟨_, by show (_ : List SO) = [.arr 9 1 (nmA (flds (ns.take 0) (lo.take 0) (prL l)))] ++ _; rw [show flds (ns.take 0) (lo.take 0) (prL l) = prL l by simp [flds]]; rfl⟩, rfl⟩ ?_
    intro i hi
    refine bsplit_d (fun h1 _ => ?_) (fun h1 _ => ?_)
    · rw [nmA_len] at h1
      obtain ⟨x, hx⟩ : ∃ x, l[i]? = some x := ⟨_, List.getElem?_eq_getElem (by omega)⟩
      obtain ⟨s, hs⟩ : ∃ x, ns[i]? = some x := ⟨_, List.getElem?_eq_getElem (by omega)⟩
      obtain ⟨q, hq⟩ : ∃ x, lo[i]? = some x := ⟨_, List.getElem?_eq_getElem (by omega)⟩
      have hp := prL_get hx
      obtain ⟨hg1, hg2⟩ := flds_get hs hq hp
      have hsz1 := hns s (List.mem_of_getElem? hs)
      have hsz2 := hkid (prK x) (List.mem_of_getElem? hp)
      have hlen : i < (nmA (flds (ns.take i) (lo.take i) (prL l))).length := by rw [nmA_len, flds_len, prL_len]; omega
      refine elev (Int.natCast_nonneg _) [AV.c (.string s)] (nmA_get _ _ _ hs) ?_
      refine elev (Int.natCast_nonneg _) [AV.c (.bool q)] (boA_get _ _ _ hq) ?_
      cases q with
      | true =>
        repeat' (first | refine bsplit_t (by first | with_reducible assumption | with_reducible rfl | with_reducible exact Bool.not_true | with_reducible exact Bool.not_false) ?_ | refine bsplit_f (by first | with_reducible assumption | with_reducible rfl | with_reducible exact Bool.not_true | with_reducible exact Bool.not_false) ?_ | fail)
        refine side (by show s.size + 2 ≤ _; omega) ?_
        refine elev (Int.natCast_nonneg _) [AV.c (.string (prK x))] (nmA_get _ _ _ hg1) ?_
        refine elev (Int.natCast_nonneg _) [AV.c (.string (prK x))] (nmA_get _ _ _ hg1) ?_
        refine side (by simp only [ByteArray.size_append]; show s.size + 2 + (prK x).size ≤ _; omega) ?_
        refine elev (Int.natCast_nonneg _) [AV.c (.string (prK x))] (nmA_get _ _ _ hg1) ?_
        refine side hlen ?_
        refine ⟨i + 1, by omega, (by dsimp only; omega), ⟨rfl, rfl, ⟨⟨rfl, rfl⟩, ⟨rfl, rfl⟩, ⟨rfl, rfl⟩, ⟨rfl, rfl⟩, ⟨congrArg (fun x => some (SV.v (AV.c (.int .i64 x)))) (inc (k := i) (by omega)), rfl⟩, trivial⟩, ⟨_, by
          show (_ : List SO) = [.arr 9 1 (nmA (flds (ns.take (i + 1)) (lo.take (i + 1)) (prL l)))] ++ _
          rw [hg2, nmA_set]; rfl⟩, rfl⟩⟩
      | false =>
        repeat' (first | refine bsplit_t (by first | with_reducible assumption | with_reducible rfl | with_reducible exact Bool.not_true | with_reducible exact Bool.not_false) ?_ | refine bsplit_f (by first | with_reducible assumption | with_reducible rfl | with_reducible exact Bool.not_true | with_reducible exact Bool.not_false) ?_ | fail)
        refine side (by show s.size + 1 ≤ _; omega) ?_
        refine elev (Int.natCast_nonneg _) [AV.c (.string (prK x))] (nmA_get _ _ _ hg1) ?_
        refine elev (Int.natCast_nonneg _) [AV.c (.string (prK x))] (nmA_get _ _ _ hg1) ?_
        refine side (by simp only [ByteArray.size_append]; show s.size + 1 + (prK x).size ≤ _; omega) ?_
        refine elev (Int.natCast_nonneg _) [AV.c (.string (prK x))] (nmA_get _ _ _ hg1) ?_
        refine side hlen ?_
        refine ⟨i + 1, by omega, (by dsimp only; omega), ⟨rfl, rfl, ⟨⟨rfl, rfl⟩, ⟨rfl, rfl⟩, ⟨rfl, rfl⟩, ⟨rfl, rfl⟩, ⟨congrArg (fun x => some (SV.v (AV.c (.int .i64 x)))) (inc (k := i) (by omega)), rfl⟩, trivial⟩, ⟨_, by
          show (_ : List SO) = [.arr 9 1 (nmA (flds (ns.take (i + 1)) (lo.take (i + 1)) (prL l)))] ++ _
          rw [hg2, nmA_set]; rfl⟩, rfl⟩⟩
    · rw [nmA_len] at h1
      have hil : i = l.length := by omega
      subst hil
      have hj := joinB_le (flds (ns.take l.length) (lo.take l.length) (prL l)) sComma
      rw [flds_len, prL_len, hcz] at hj
      refine call_frz 0 rfl rfl ?_
      refine call_pure (join_v (flds (ns.take l.length) (lo.take l.length) (prL l)) sComma (by rw [flds_len, prL_len]; omega) (by rw [flds_len, prL_len, hcz]; omega)) rfl ?_
      rintro _ rfl
      refine side (by show 1 + (joinB (flds (ns.take l.length) (lo.take l.length) (prL l)) sComma).size ≤ _; omega) ?_
      refine side (by simp only [ByteArray.size_append]; show 1 + (joinB (flds (ns.take l.length) (lo.take l.length) (prL l)) sComma).size + 1 ≤ _; omega) ?_
      show AV.c (.string (_ ++ joinB (flds (ns.take l.length) (lo.take l.length) (prL l)) sComma ++ _)) = _
      rw [show ns.take l.length = ns by rw [← hnl, List.take_length], show lo.take l.length = lo by rw [← hnl, ← hlo, List.take_length]]
      rfl
  · have hf : f < 5 := by omega
    refine draw_ev hTS (by kernel_rfl) (.pur 1 (.pur 2 (.pur 3 (.part [] [] (.take 4 (.one 0 (.pur 5 (.pur 6 .done)))))))) (by kernel_rfl) ?_
    refine call_pure words_c rfl ?_
    rintro _ rfl
    have hf : f = 0 ∨ f = 1 ∨ f = 2 ∨ f = 3 ∨ f = 4 := by omega
    rcases hf with rfl | rfl | rfl | rfl | rfl
    · refine side (by decide) ?_
      refine elev (by decide) (AV.c (.string wAny)) rfl ?_
      show AV.c _ = _
      rfl
    · refine side (by decide) ?_
      refine elev (by decide) (AV.c (.string wBool)) rfl ?_
      show AV.c _ = _
      rfl
    · refine side (by decide) ?_
      refine elev (by decide) (AV.c (.string wInt)) rfl ?_
      show AV.c _ = _
      rfl
    · refine side (by decide) ?_
      refine elev (by decide) (AV.c (.string wPoint)) rfl ?_
      show AV.c _ = _
      rfl
    · refine side (by decide) ?_
      refine elev (by decide) (AV.c (.string wText)) rfl ?_
      show AV.c _ = _
      rfl

theorem print_n : APure Try.prog 19 [.ptr none] (fun r => r = .c (.string noBytes)) := by
  refine apure_of hTS Try.func19 (by kernel_rfl) rfl rfl rfl ?_
  repeat' (first | refine bsplit_t (by first | with_reducible assumption | with_reducible rfl | with_reducible exact Bool.not_true | with_reducible exact Bool.not_false) ?_ | refine bsplit_f (by first | with_reducible assumption | with_reducible rfl | with_reducible exact Bool.not_true | with_reducible exact Bool.not_false) ?_ | fail)
  show AV.c _ = _
  rfl

/-- types, or none -/
def kpoO : Option KT → Option (List AV)
  | some t => kpO t
  | none => none

def kpo (o : Option KT) : AV := .ptr (kpoO o)

def prO : Option KT → ByteArray
  | some t => prK t
  | none => noBytes

theorem same_t (a b : Option KT) (ha : ∀ t, a = some t → wfK t ∧ kDeep t ≤ 8) (hb : ∀ t, b = some t → wfK t ∧ kDeep t ≤ 8) : APure Try.prog 8 [kpo a, kpo b] (fun r => r = .c (.bool (decide (a.isNone = b.isNone) && decide (prO a = prO b)))) := by
  cases a with
  | none =>
    cases b with
    | none =>
      refine apure_of hTS Try.func8 (by kernel_rfl) rfl rfl rfl ?_
      repeat' (first | refine bsplit_t (by decide) ?_ | fail)
      refine call_pure print_n rfl ?_
      rintro _ rfl
      repeat' (first | refine bsplit_t (by decide) ?_ | fail)
      refine call_pure print_n rfl ?_
      rintro _ rfl
      repeat' (first | refine bsplit_t (by decide) ?_ | fail)
      show AV.c _ = _
      rfl
    | some t =>
      obtain ⟨f, l, ns, lo⟩ := t
      refine apure_of hTS Try.func8 (by kernel_rfl) rfl rfl rfl ?_
      repeat' (first | refine bsplit_f (by decide) ?_ | fail)
      show AV.c _ = _
      rfl
  | some t =>
    obtain ⟨f, l, ns, lo⟩ := t
    cases b with
    | none =>
      refine apure_of hTS Try.func8 (by kernel_rfl) rfl rfl rfl ?_
      repeat' (first | refine bsplit_f (by decide) ?_ | fail)
      show AV.c _ = _
      rfl
    | some t =>
      have h1 := ha _ rfl
      have h2 := hb _ rfl
      obtain ⟨f2, l2, ns2, lo2⟩ := t
      refine apure_of hTS Try.func8 (by kernel_rfl) rfl rfl rfl ?_
      repeat' (first | refine bsplit_t (by decide) ?_ | fail)
      refine call_pure (print_t (.mk f l ns lo) h1.1 h1.2) rfl ?_
      rintro _ rfl
      repeat' (first | refine bsplit_t (by decide) ?_ | fail)
      refine call_pure (print_t (.mk f2 l2 ns2 lo2) h2.1 h2.2) rfl ?_
      rintro _ rfl
      repeat' (first | refine bsplit_t (by decide) ?_ | fail)
      show AV.c _ = _
      rfl

end Go.AV0

