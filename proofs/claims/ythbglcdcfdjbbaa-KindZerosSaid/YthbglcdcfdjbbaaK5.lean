/- kind: types read: lists, maps, tuples. -/
import Derived.Test.YthbglcdcfdjbbaaK4
namespace Go.AV0
open Go.Proofs

/-- a type: its form, its types, its names, which may be missing -/
inductive KT where
  | mk (form : Nat) (l : List KT) (names : List ByteArray) (loose : List Bool)

mutual
def kpO : KT → Option (List AV)
  | .mk f l ns lo => some [.c (.int .i64 (f : Int)), .sl (kpL l), .sl (nmA ns), .sl (boA lo)]
def kpL : List KT → List (List AV)
  | [] => []
  | t :: l => [.ptr (kpO t)] :: kpL l
end

def kp (t : KT) : AV := .ptr (kpO t)

theorem kpL_app : ∀ (l : List KT) (x : KT), kpL (l ++ [x]) = kpL l ++ [[.ptr (kpO x)]]
  | [], x => by simp [kpL]
  | t :: l, x => by simp [kpL, kpL_app l x]

theorem kpL_len : ∀ (l : List KT), (kpL l).length = l.length
  | [] => rfl
  | t :: l => by simp [kpL, kpL_len l]

theorem kpL_one : ∀ (l : List KT), ∀ z ∈ kpL l, z.length = 1
  | [], z, h => by cases h
  | t :: l, z, h => by
    simp only [kpL, List.mem_cons] at h
    rcases h with rfl | h
    · rfl
    · exact kpL_one l z h

theorem kpL_one' (l : List KT) (o : Option (List AV)) : ∀ z ∈ kpL l ++ [[AV.ptr o]], z.length = 1 := by
  intro z h
  rcases List.mem_append.1 h with h | h
  · exact kpL_one l z h
  · simp at h; subst h; rfl

/-! ### the document's texts of types -/
def pTup (P : Nat → Option (KT × Nat)) (s : ByteArray) : Nat → List KT → Nat → Option (KT × Nat)
  | 0, _, _ => none
  | k + 1, acc, n => match P n with
    | none => none
    | some (x, m) => if stands s m 93 = true then some (.mk 7 (acc ++ [x]) [] [], m + 1) else if stands s m 44 = true then pTup P s k (acc ++ [x]) (m + 1) else none

def badOrder (ns : List ByteArray) (nm : ByteArray) : Bool :=
  match ns.getLast? with
  | some x => slt nm x || decide (nm = x)
  | none => false

/-- a name, and its type -/
def pFld (P : Nat → Option (KT × Nat)) (s : ByteArray) (ns : List ByteArray) (n : Nat) : Option (KT × ByteArray × Bool × Nat) :=
  if nameLen s n = 0 ∨ 20 < nameLen s n then none
  else if badOrder ns (s.extract n (n + nameLen s n)) = true then none
  else if stands s (if stands s (n + nameLen s n) 63 = true then n + nameLen s n + 1 else n + nameLen s n) 58 = true then
    match P ((if stands s (n + nameLen s n) 63 = true then n + nameLen s n + 1 else n + nameLen s n) + 1) with
    | none => none
    | some (x, m) => some (x, s.extract n (n + nameLen s n), stands s (n + nameLen s n) 63, m)
  else none

def pObj (P : Nat → Option (KT × Nat)) (s : ByteArray) : Nat → List KT → List ByteArray → List Bool → Nat → Option (KT × Nat)
  | 0, _, _, _, _ => none
  | k + 1, l, ns, lo, n => match pFld P s ns n with
    | none => none
    | some (x, nm, q, m) => if stands s m 125 = true then some (.mk 8 (l ++ [x]) (ns ++ [nm]) (lo ++ [q]), m + 1) else if stands s m 44 = true then pObj P s k (l ++ [x]) (ns ++ [nm]) (lo ++ [q]) (m + 1) else none

def wds : List ByteArray := [wAny, wBool, wInt, wPoint, wText, wList, wMap]

def pType (s : ByteArray) : Nat → Nat → Option (KT × Nat)
  | 0, _ => none
  | f + 1, n =>
    if stands s n 91 = true then (if stands s (n + 1) 93 = true then some (.mk 7 [] [] [], n + 2) else pTup (pType s f) s 16 [] (n + 1))
    else if stands s n 123 = true then (if stands s (n + 1) 125 = true then some (.mk 8 [] [] [], n + 2) else pObj (pType s f) s 16 [] [] [] (n + 1))
    else match hitW s n wds 0 with
      | none => none
      | some (i, l) => if i < 5 then some (.mk i [] [] [], n + l) else if stands s (n + l) 40 = true then match pType s f (n + l + 1) with
          | none => none
          | some (x, m) => if stands s m 41 = true then some (.mk i [x] [] [], m + 1) else none
        else none

/-- a text's type -/
def pParse (s : ByteArray) : Option KT :=
  if 4096 < s.size then none else match pType s 8 0 with
    | none => none
    | some (t, m) => if m < s.size then none else some t

/-- what reading a type answers -/
def RdQ (s : ByteArray) (deep : Nat) (e : Int) (n : Nat) (res : Option (KT × Nat)) (r : SV) (h : List SO) : Prop :=
  ∃ o, r = .v (.ptr o) ∧ ((e ≠ 0 ∧ h = [rd s n e deep]) ∨ (e = 0 ∧ ∃ t m, res = some (t, m) ∧ m ≤ s.size ∧ o = kpO t ∧ h = [rd s m 0 deep]) ∨ (e = 0 ∧ res = none ∧ ∃ n' e', e' ≠ 0 ∧ h = [rd s n' e' deep]))

def ReadC (f : Nat) : Prop := ∀ (s : ByteArray) (n : Nat) (e : Int) (deep : Nat), s.size ≤ 4096 → (e = 0 → n ≤ s.size) → deep + f = 8 → AImp Try.prog 26 [.ref 0 0] [rd s n e deep] [] (RdQ s deep e n (pType s f n))

set_option maxHeartbeats 4000000 in
theorem single_c {f : Nat} (hr : ReadC f) (s : ByteArray) (n deep form : Nat) (hs : s.size ≤ 4096) (hn : n ≤ s.size) (hd : deep + f = 8) : AImp Try.prog 62 [.ref 0 0, .v (.c (.int .i64 (form : Int)))] [rd s n 0 deep] []
    (RdQ s deep 0 n (if stands s n 40 = true then match pType s f (n + 1) with
          | none => none
          | some (x, m) => if stands s m 41 = true then some (.mk form [x] [] [], m + 1) else none
        else none)) := by
  refine aimp_of hTS Try.func62 (by kernel_rfl) rfl rfl rfl (fun p => ?_)
  refine call_obj (must_c s n 0 deep 40 hs) [0] rfl rfl rfl ?_
  rintro _ _ ⟨rfl, ⟨_, h1, rfl⟩ | ⟨_, h1, rfl⟩ | ⟨h1, rfl⟩⟩
  · rw [if_pos h1]
    have := stands_lt h1
    refine call_obj (hr s (n + 1) 0 deep hs (fun _ => by omega) hd) [0] rfl rfl rfl ?_
    rintro _ _ ⟨o, rfl, ⟨h2, rfl⟩ | ⟨_, t, m, h2, h3, rfl, rfl⟩ | ⟨_, h2, n', e', h3, rfl⟩⟩
    · exact absurd rfl h2
    · rw [h2]
      refine call_obj (must_c s m 0 deep 41 hs) [0] rfl rfl rfl ?_
      rintro _ _ ⟨rfl, ⟨_, h4, rfl⟩ | ⟨_, h4, rfl⟩ | ⟨h4, rfl⟩⟩
      · have := stands_lt h4
        refine ⟨⟨rfl, trivial⟩, 1, rfl, _, rfl, .inr (.inl ⟨rfl, .mk form [t] [] [], m + 1, ?_, by omega, rfl, rfl⟩)⟩
        simp only [if_pos h4]
      · refine ⟨⟨rfl, trivial⟩, 1, rfl, _, rfl, .inr (.inr ⟨rfl, ?_, _, _, (by decide), rfl⟩)⟩
        simp [h4]
      · exact absurd rfl h4
    · rw [h2]
      refine call_obj (must_c s n' e' deep 41 hs) [0] rfl rfl rfl ?_
      rintro _ _ ⟨rfl, ⟨h4, _⟩ | ⟨h4, _⟩ | ⟨h4, rfl⟩⟩
      · exact absurd h4 h3
      · exact absurd h4 h3
      · exact ⟨⟨rfl, trivial⟩, 1, rfl, _, rfl, .inr (.inr ⟨rfl, rfl, _, _, h3, rfl⟩)⟩
  · rw [h1]
    refine call_obj (hr s n 4 deep hs (fun h => by cases h) hd) [0] rfl rfl rfl ?_
    rintro _ _ ⟨o, rfl, ⟨h2, rfl⟩ | ⟨h2, _⟩ | ⟨h2, _⟩⟩
    · refine call_obj (must_c s n 4 deep 41 hs) [0] rfl rfl rfl ?_
      rintro _ _ ⟨rfl, ⟨h4, _⟩ | ⟨h4, _⟩ | ⟨h4, rfl⟩⟩
      · cases h4
      · cases h4
      · exact ⟨⟨rfl, trivial⟩, 1, rfl, _, rfl, .inr (.inr ⟨rfl, rfl, _, _, h4, rfl⟩)⟩
    · cases h2
    · cases h2
  · exact absurd rfl h1

set_option maxHeartbeats 4000000 in
theorem tuple_c {f : Nat} (hr : ReadC f) (s : ByteArray) (n deep : Nat) (hs : s.size ≤ 4096) (hn : n ≤ s.size) (hd : deep + f = 8) : AImp Try.prog 59 [.ref 0 0] [rd s n 0 deep] []
    (RdQ s deep 0 n (if stands s n 93 = true then some (.mk 7 [] [] [], n + 1) else pTup (pType s f) s 16 [] n)) := by
  refine aimp_of hTS Try.func59 (by kernel_rfl) rfl rfl rfl (fun p => ?_)
  refine call_obj (is_c s n 0 deep 93 hs) [0] rfl rfl rfl ?_
  rintro _ _ (⟨_, h1, rfl, rfl⟩ | ⟨h1, rfl, rfl⟩)
  · have := stands_lt h1
    repeat' (first | refine bsplit_t (by first | with_reducible assumption | with_reducible rfl | with_reducible exact Bool.not_true | with_reducible exact Bool.not_false) ?_ | refine bsplit_f (by first | with_reducible assumption | with_reducible rfl | with_reducible exact Bool.not_true | with_reducible exact Bool.not_false) ?_ | fail)
    refine ⟨⟨rfl, trivial⟩, 1, rfl, _, rfl, .inr (.inl ⟨rfl, .mk 7 [] [] [], n + 1, ?_, by omega, rfl, rfl⟩)⟩
    rw [if_pos h1]
  · have h1 := h1 rfl
    rw [h1]
    repeat' (first | refine bsplit_t (by first | with_reducible assumption | with_reducible rfl | with_reducible exact Bool.not_true | with_reducible exact Bool.not_false) ?_ | refine bsplit_f (by first | with_reducible assumption | with_reducible rfl | with_reducible exact Bool.not_true | with_reducible exact Bool.not_false) ?_ | fail)
    refine loop_own 2 1 32 1 rfl rfl rfl ?_
    refine loop_inv hTS (X := { x : List KT × Nat × Nat // x.1.length + x.2.2 = 16 ∧ x.2.1 ≤ s.size ∧ pTup (pType s f) s 16 [] n = pTup (pType s f) s x.2.2 x.1 x.2.1 } ⊕ { y : List (List AV) × Nat × Int // y.2.2 ≠ 0 ∧ y.1.length ≤ 100 ∧ pTup (pType s f) s 16 [] n = none ∧ ∀ z ∈ y.1, z.length = 1 })
      (fun _ => ⟨[(0, .ref 0 0), (3, .ref 2 0)], []⟩) (fun x => match x with
        | .inl x => [rd s x.1.2.1 0 deep, .pin 0 (p 0), .cells [.v (.c (.int .i64 7)), .ms 3, .v (.c (.slice none 0 0)), .v (.c (.slice none 0 0))], .arr 32 1 (kpL x.1.1)]
        | .inr y => [rd s y.1.2.1 y.1.2.2 deep, .pin 0 (p 0), .cells [.v (.c (.int .i64 7)), .ms 3, .v (.c (.slice none 0 0)), .v (.c (.slice none 0 0))], .arr 32 1 y.1.1])
      (fun x => match x with
        | .inl x => x.1.2.2 + 2
        | .inr y => 0) (.inl ⟨([], n, 16), rfl, hn, rfl⟩)
      ⟨rfl, rfl, ⟨⟨rfl, rfl⟩, ⟨rfl, rfl⟩, trivial⟩, ⟨[], rfl⟩, rfl⟩ ?_
    rintro (⟨⟨acc, m, k⟩, hl, hm, hres⟩ | ⟨⟨els, m, e⟩, he, hlen, hres, hz⟩)
    · simp only at hl hm hres
      refine call_obj (bad_c s m 0 deep) [0] rfl rfl rfl ?_
      rintro _ _ ⟨⟨h2, rfl⟩ | ⟨h2, rfl⟩, rfl⟩
      · repeat' (first | refine bsplit_t (by first | with_reducible assumption | with_reducible rfl | with_reducible exact Bool.not_true | with_reducible exact Bool.not_false) ?_ | refine bsplit_f (by first | with_reducible assumption | with_reducible rfl | with_reducible exact Bool.not_true | with_reducible exact Bool.not_false) ?_ | fail)
        refine bsplit (fun h3 => ?_) (fun h3 => ?_)
        · have hk0 : k = 0 := by
            simp [kpL_len] at h3
            omega
          subst hk0
          refine draw_ev hTS (by kernel_rfl) (.pur 0 (.pur 1 (.pur 2 (.pur 3 (.pur 4 (.pur 5 (.pur 6 (.one 7 (.one 8 .done))))))))) (by kernel_rfl) ?_
          refine call_obj (fail_c s m 0 deep m 3) [0] rfl rfl rfl ?_
          rintro _ _ ⟨rfl, ⟨_, rfl⟩ | ⟨h9, rfl⟩⟩
          · refine draw_ev hTS (by kernel_rfl) (.pur 0 (.pur 1 (.pur 2 (.pur 3 (.pur 5 (.part [0] [8, 11] (.take 4 (.one 6 (.one 7 (.fin 8 (.pur 9 (.pur 10 (.one 11 .done))))))))))))) (by kernel_rfl) ?_
            refine call_obj (hr s m 3 deep hs (fun h => by cases h) hd) [0] rfl rfl rfl ?_
            rintro _ _ ⟨o, rfl, ⟨h4, rfl⟩ | ⟨h4, _⟩ | ⟨h4, _⟩⟩
            · refine side ⟨?_, ?_⟩ ?_
              · intro y hy
                simp at hy; subst hy; exact ⟨rfl, rfl⟩
              · show ((kpL acc).length + 1) * 9 ≤ _
                rw [kpL_len]; omega
              refine call_obj (is_c s m 3 deep 93 hs) [0] rfl rfl rfl ?_
              rintro _ _ (⟨h5, _⟩ | ⟨_, rfl, rfl⟩)
              · cases h5
              · refine bsplit_f rfl ?_
                refine call_obj (must_c s m 3 deep 44 hs) [0] rfl rfl rfl ?_
                rintro _ _ ⟨rfl, ⟨h6, _⟩ | ⟨h6, _⟩ | ⟨_, rfl⟩⟩
                · cases h6
                · cases h6
                · refine ⟨.inr ⟨(kpL acc ++ [[.ptr o]], m, 3), by show (3 : Int) ≠ 0; decide, ?_, ?_, ?_⟩, Nat.succ_pos _, ⟨rfl, rfl, ⟨⟨rfl, rfl⟩, ⟨rfl, rfl⟩, trivial⟩, ⟨_, rfl⟩, rfl⟩⟩
                  · simp [kpL_len]; omega
                  · rw [hres]; rfl
                  · exact kpL_one' acc o
            · cases h4
            · cases h4
          · exact absurd rfl h9
        · have hk0 : k ≠ 0 := by
            intro h
            simp [kpL_len] at h3
            omega
          obtain ⟨k, rfl⟩ : ∃ k', k = k' + 1 := ⟨k - 1, by omega⟩
          refine draw_ev hTS (by kernel_rfl) (.pur 0 (.pur 1 (.pur 2 (.pur 3 (.pur 5 (.part [0] [8, 11] (.take 4 (.one 6 (.one 7 (.fin 8 (.pur 9 (.pur 10 (.one 11 .done))))))))))))) (by kernel_rfl) ?_
          refine call_obj (hr s m 0 deep hs (fun _ => hm) hd) [0] rfl rfl rfl ?_
          rintro _ _ ⟨o, rfl, ⟨h4, rfl⟩ | ⟨_, t, m2, h4, h5, rfl, rfl⟩ | ⟨_, h4, n', e', h5, rfl⟩⟩
          · exact absurd rfl h4
          · refine side ⟨?_, ?_⟩ ?_
            · intro y hy
              simp at hy; subst hy; exact ⟨rfl, rfl⟩
            · show ((kpL acc).length + 1) * 9 ≤ _
              rw [kpL_len]; omega
            refine call_obj (is_c s m2 0 deep 93 hs) [0] rfl rfl rfl ?_
            rintro _ _ (⟨_, h6, rfl, rfl⟩ | ⟨h6, rfl, rfl⟩)
            · have := stands_lt h6
              refine bsplit_t rfl ?_
              refine ⟨⟨rfl, trivial⟩, 1, rfl, _, rfl, .inr (.inl ⟨rfl, .mk 7 (acc ++ [t]) [] [], m2 + 1, ?_, by omega, ?_, rfl⟩)⟩
              · rw [if_neg (by simp), hres]
                simp only [pTup, h4, if_pos h6]
              · simp only [kpO, kpL_app]; rfl
            · have h6 := h6 rfl
              refine bsplit_f rfl ?_
              refine call_obj (must_c s m2 0 deep 44 hs) [0] rfl rfl rfl ?_
              rintro _ _ ⟨rfl, ⟨_, h7, rfl⟩ | ⟨_, h7, rfl⟩ | ⟨h7, _⟩⟩
              · have := stands_lt h7
                refine ⟨.inl ⟨(acc ++ [t], m2 + 1, k), by simp at hl ⊢; omega, by show m2 + 1 ≤ s.size; omega, ?_⟩, by show k + 2 < k + 1 + 2; omega, ⟨rfl, rfl, ⟨⟨rfl, rfl⟩, ⟨rfl, rfl⟩, trivial⟩, ⟨_, by show (_ : List SO) = [rd s (m2 + 1) 0 deep, .pin 0 (p 0), .cells [.v (.c (.int .i64 7)), .ms 3, .v (.c (.slice none 0 0)), .v (.c (.slice none 0 0))], .arr 32 1 (kpL (acc ++ [t]))] ++ _; rw [kpL_app]; rfl⟩, rfl⟩⟩
                · rw [hres]
                  simp [pTup, h4, h6, h7]
              · refine ⟨.inr ⟨(kpL acc ++ [[.ptr (kpO t)]], m2, 4), by show (4 : Int) ≠ 0; decide, ?_, ?_, ?_⟩, Nat.succ_pos _, ⟨rfl, rfl, ⟨⟨rfl, rfl⟩, ⟨rfl, rfl⟩, trivial⟩, ⟨_, rfl⟩, rfl⟩⟩
                · simp [kpL_len]; omega
                · rw [hres]
                  simp [pTup, h4, h6, h7]
                · exact kpL_one' acc _
              · exact absurd rfl h7
          · refine side ⟨?_, ?_⟩ ?_
            · intro y hy
              simp at hy; subst hy; exact ⟨rfl, rfl⟩
            · show ((kpL acc).length + 1) * 9 ≤ _
              rw [kpL_len]; omega
            refine call_obj (is_c s n' e' deep 93 hs) [0] rfl rfl rfl ?_
            rintro _ _ (⟨h6, _⟩ | ⟨_, rfl, rfl⟩)
            · exact absurd h6 h5
            · refine bsplit_f rfl ?_
              refine call_obj (must_c s n' e' deep 44 hs) [0] rfl rfl rfl ?_
              rintro _ _ ⟨rfl, ⟨h6, _⟩ | ⟨h6, _⟩ | ⟨_, rfl⟩⟩
              · exact absurd h6 h5
              · exact absurd h6 h5
              · refine ⟨.inr ⟨(kpL acc ++ [[.ptr o]], n', e'), h5, ?_, ?_, ?_⟩, Nat.succ_pos _, ⟨rfl, rfl, ⟨⟨rfl, rfl⟩, ⟨rfl, rfl⟩, trivial⟩, ⟨_, rfl⟩, rfl⟩⟩
                · simp [kpL_len]; omega
                · rw [hres]
                  simp [pTup, h4]
                · exact kpL_one' acc o
      · exact absurd rfl h2
    · simp only at he hlen hres hz
      refine call_obj (bad_c s m e deep) [0] rfl rfl rfl ?_
      rintro _ _ ⟨⟨h2, rfl⟩ | ⟨h2, rfl⟩, rfl⟩
      · exact absurd h2 he
      · repeat' (first | refine bsplit_t (by first | with_reducible assumption | with_reducible rfl | with_reducible exact Bool.not_true | with_reducible exact Bool.not_false) ?_ | refine bsplit_f (by first | with_reducible assumption | with_reducible rfl | with_reducible exact Bool.not_true | with_reducible exact Bool.not_false) ?_ | fail)
        exact ⟨⟨rfl, trivial⟩, 1, rfl, _, rfl, .inr (.inr ⟨rfl, (if_neg (by simp)).trans hres, _, _, he, rfl⟩)⟩

end Go.AV0
