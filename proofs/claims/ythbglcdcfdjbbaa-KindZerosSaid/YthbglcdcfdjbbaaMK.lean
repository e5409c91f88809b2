/- K6, K7, K8: texts of this proof, one behind the other. -/
import Derived.Test.YthbglcdcfdjbbaaK5
/- kind: an object's fields read. -/
namespace Go.AV0
open Go.Proofs

def objH (s : ByteArray) (n : Nat) (e : Int) (deep : Nat) (L N B : List (List AV)) : List SO :=
  [rd s n e deep, .cells [.v (.c (.int .i64 8)), .ms 2, .ms 3, .ms 4], .arr 32 1 L, .arr 9 1 N, .arr 4 1 B]

def FldQ (s : ByteArray) (deep : Nat) (l : List KT) (ns : List ByteArray) (lo : List Bool) (res : Option (KT × ByteArray × Bool × Nat)) (r : SV) (h : List SO) : Prop :=
  r = .v (.tup []) ∧ ((∃ x nm q m, l.length < 16 ∧ res = some (x, nm, q, m) ∧ m ≤ s.size ∧ h = objH s m 0 deep (kpL (l ++ [x])) (nmA (ns ++ [nm])) (boA (lo ++ [q]))) ∨
    ((l.length = 16 ∨ res = none) ∧ ∃ n' e' L N B, e' ≠ 0 ∧ (L.length ≤ 20 ∧ N.length ≤ 20 ∧ B.length ≤ 20) ∧ h = objH s n' e' deep L N B))

/-- ways to where the name and the type are put -/
def FldY (f : Nat) (s : ByteArray) (n : Nat) (ns : List ByteArray) : Type := { y : Nat × Int × ByteArray × Bool // (y.2.1 ≠ 0 ∧ pFld (pType s f) s ns n = none) ∨
  (y.2.1 = 0 ∧ y.1 ≤ s.size ∧ pFld (pType s f) s ns n = match pType s f y.1 with | none => none | some (x, m) => some (x, y.2.2.1, y.2.2.2, m)) }

set_option maxHeartbeats 4000000 in
theorem field_c {f : Nat} (hr : ReadC f) (s : ByteArray) (n deep : Nat) (l : List KT) (ns : List ByteArray) (lo : List Bool) (hs : s.size ≤ 4096) (hn : n ≤ s.size) (hd : deep + f = 8) (h16 : l.length ≤ 16) (hl1 : ns.length = l.length) (hl2 : lo.length = l.length) :
    AImp Try.prog 77 [.ref 0 0, .ref 1 0] (objH s n 0 deep (kpL l) (nmA ns) (boA lo)) [2, 3, 4] (FldQ s deep l ns lo (pFld (pType s f) s ns n)) := by
  refine aimp_of hTS Try.func77 (by kernel_rfl) rfl rfl rfl (fun p => ?_)
  refine bsplit (fun h1 => ?_) (fun h1 => ?_)
  · have h1' : l.length = 16 := by
      have h1 : decide (((kpL l).length : Int) = 16) = true := h1
      simp [kpL_len] at h1; omega
    refine call_obj (fail_c s n 0 deep n 3) [0] rfl rfl rfl ?_
    rintro _ _ ⟨rfl, ⟨_, rfl⟩ | ⟨h9, rfl⟩⟩
    · exact ⟨⟨rfl, rfl, trivial, trivial, trivial, trivial⟩, 5, rfl, rfl, .inr ⟨.inl h1', _, _, _, _, _, (by decide), ⟨by rw [kpL_len]; omega, by rw [nmA_len]; omega, by rw [boA_len]; omega⟩, rfl⟩⟩
    · exact absurd rfl h9
  · have h1' : l.length < 16 := by
      have h1 : decide (((kpL l).length : Int) = 16) = false := h1
      simp [kpL_len] at h1; omega
    have hw0 : IntKind.i64.wrap (((nmA ns).length : Int) - 1) = (ns.length : Int) - 1 := by rw [nmA_len, wr] <;> omega
    apply join_draw (P := Try.prog) (us := none) (n := Try.f77.ntmps) (id := 12) (Y := FldY f s n ns) (fun y => ⟨[(0, .ref 0 0), (1, .ref 1 0), (5, .v (.c (.string y.1.2.2.1))), (8, .v (.c (.bool y.1.2.2.2)))], []⟩) (fun y => objH s y.1.1 y.1.2.1 deep (kpL l) (nmA ns) (boA lo) ++ [.pin 0 (p 0), .pin 1 (p 1), .pin 2 (p 2), .pin 3 (p 3), .pin 4 (p 4)])
    · intro tail
      refine call_obj (name_c s n deep hs hn) [0] rfl rfl rfl ?_
      rintro _ _ (⟨hnm, x, n1, e1, he1, rfl, rfl⟩ | ⟨hnm1, hnm2, hnm3, rfl, rfl⟩)
      · refine call_obj (bad_c s n1 e1 deep) [0] rfl rfl rfl ?_
        rintro _ _ ⟨⟨h2, rfl⟩ | ⟨h2, rfl⟩, rfl⟩
        · exact absurd h2 he1
        repeat' (first | refine bsplit_t (by first | with_reducible assumption | with_reducible rfl | with_reducible exact Bool.not_true | with_reducible exact Bool.not_false) ?_ | refine bsplit_f (by first | with_reducible assumption | with_reducible rfl | with_reducible exact Bool.not_true | with_reducible exact Bool.not_false) ?_ | fail)
        refine call_obj (is_c s n1 e1 deep 63 hs) [0] rfl rfl rfl ?_
        rintro _ _ (⟨h6, _⟩ | ⟨_, rfl, rfl⟩)
        · exact absurd h6 he1
        refine call_obj (must_c s n1 e1 deep 58 hs) [0] rfl rfl rfl ?_
        rintro _ _ ⟨rfl, ⟨h6, _⟩ | ⟨h6, _⟩ | ⟨_, rfl⟩⟩
        · exact absurd h6 he1
        · exact absurd h6 he1
        refine draw_sub ?_ (tail ⟨(n1, e1, x, false), .inl ⟨he1, by simp only [pFld]; rw [if_pos hnm]⟩⟩)
        exact ⟨rfl, rfl, ⟨⟨rfl, rfl⟩, ⟨rfl, rfl⟩, ⟨rfl, rfl⟩, ⟨rfl, rfl⟩, trivial⟩, ⟨[], rfl⟩, rfl⟩
      · refine call_obj (bad_c s (n + nameLen s n) 0 deep) [0] rfl rfl rfl ?_
        rintro _ _ ⟨⟨_, rfl⟩ | ⟨h2, _⟩, rfl⟩
        rotate_left
        · exact absurd rfl h2
        repeat' (first | refine bsplit_t (by first | with_reducible assumption | with_reducible rfl | with_reducible exact Bool.not_true | with_reducible exact Bool.not_false) ?_ | refine bsplit_f (by first | with_reducible assumption | with_reducible rfl | with_reducible exact Bool.not_true | with_reducible exact Bool.not_false) ?_ | fail)
        refine bsplit (fun h2 => ?_) (fun h2 => ?_)
        · have h2 : decide (0 ≤ IntKind.i64.wrap (((nmA ns).length : Int) - 1)) = true := h2
          have hne : 0 < ns.length := by rw [hw0] at h2; simp at h2; omega
          obtain ⟨y0, hy0⟩ : ∃ y, ns[ns.length - 1]? = some y := ⟨_, List.getElem?_eq_getElem (by omega)⟩
          have hlast : ns.getLast? = some y0 := by rw [List.getLast?_eq_getElem?]; exact hy0
          have hget : (nmA ns)[((ns.length : Int) - 1).toNat]? = some [.c (.string y0)] := by
            rw [show ((ns.length : Int) - 1).toNat = ns.length - 1 by omega]
            simp [nmA, hy0]
          repeat' (first | refine bsplit_t (by first | with_reducible assumption | with_reducible rfl | with_reducible exact Bool.not_true | with_reducible exact Bool.not_false) ?_ | refine bsplit_f (by first | with_reducible assumption | with_reducible rfl | with_reducible exact Bool.not_true | with_reducible exact Bool.not_false) ?_ | fail)
          refine elev (by rw [hw0]; omega) [.c (.string y0)] (by rw [hw0]; exact hget) ?_
          repeat' (first | refine bsplit_t (by first | with_reducible assumption | with_reducible rfl | with_reducible exact Bool.not_true | with_reducible exact Bool.not_false) ?_ | refine bsplit_f (by first | with_reducible assumption | with_reducible rfl | with_reducible exact Bool.not_true | with_reducible exact Bool.not_false) ?_ | fail)
          refine elev (Int.natCast_nonneg _) [.c (.string y0)] (by rw [hw0]; simpa using hget) ?_
          repeat' (first | refine bsplit_t (by first | with_reducible assumption | with_reducible rfl | with_reducible exact Bool.not_true | with_reducible exact Bool.not_false) ?_ | refine bsplit_f (by first | with_reducible assumption | with_reducible rfl | with_reducible exact Bool.not_true | with_reducible exact Bool.not_false) ?_ | fail)
          refine bsplit (fun h3 => ?_) (fun h3 => ?_)
          · repeat' (first | refine bsplit_t (by first | with_reducible assumption | with_reducible rfl | with_reducible exact Bool.not_true | with_reducible exact Bool.not_false) ?_ | refine bsplit_f (by first | with_reducible assumption | with_reducible rfl | with_reducible exact Bool.not_true | with_reducible exact Bool.not_false) ?_ | fail)
            have hbo : badOrder ns (s.extract n (n + nameLen s n)) = true := by simp only [badOrder, hlast]; exact h3
            have hres : pFld (pType s f) s ns n = none := by
              simp only [pFld]
              rw [if_neg (by omega), hbo]; simp
            refine elev (by rw [hw0]; omega) [.c (.string y0)] (by rw [hw0]; exact hget) ?_
            refine elev (Int.natCast_nonneg _) [.c (.string y0)] (by rw [hw0]; simpa using hget) ?_
            refine bsplit (fun h6 => ?_) (fun h6 => ?_)
            · refine call_obj (fail_c s (n + nameLen s n) 0 deep n 9) [0] rfl rfl rfl ?_
              rintro _ _ ⟨rfl, ⟨_, rfl⟩ | ⟨h9, rfl⟩⟩
              rotate_left
              · exact absurd rfl h9
              refine call_obj (is_c s n 9 deep 63 hs) [0] rfl rfl rfl ?_
              rintro _ _ (⟨h6, _⟩ | ⟨_, rfl, rfl⟩)
              · exact absurd h6 (by decide)
              refine call_obj (must_c s n 9 deep 58 hs) [0] rfl rfl rfl ?_
              rintro _ _ ⟨rfl, ⟨h6, _⟩ | ⟨h6, _⟩ | ⟨_, rfl⟩⟩
              · exact absurd h6 (by decide)
              · exact absurd h6 (by decide)
              refine draw_sub ?_ (tail ⟨(n, 9, s.extract n (n + nameLen s n), false), .inl ⟨by show (9 : Int) ≠ 0; decide, hres⟩⟩)
              exact ⟨rfl, rfl, ⟨⟨rfl, rfl⟩, ⟨rfl, rfl⟩, ⟨rfl, rfl⟩, ⟨rfl, rfl⟩, trivial⟩, ⟨[], rfl⟩, rfl⟩
            · refine call_obj (fail_c s (n + nameLen s n) 0 deep n 4) [0] rfl rfl rfl ?_
              rintro _ _ ⟨rfl, ⟨_, rfl⟩ | ⟨h9, rfl⟩⟩
              rotate_left
              · exact absurd rfl h9
              refine call_obj (is_c s n 4 deep 63 hs) [0] rfl rfl rfl ?_
              rintro _ _ (⟨h6, _⟩ | ⟨_, rfl, rfl⟩)
              · exact absurd h6 (by decide)
              refine call_obj (must_c s n 4 deep 58 hs) [0] rfl rfl rfl ?_
              rintro _ _ ⟨rfl, ⟨h6, _⟩ | ⟨h6, _⟩ | ⟨_, rfl⟩⟩
              · exact absurd h6 (by decide)
              · exact absurd h6 (by decide)
              refine draw_sub ?_ (tail ⟨(n, 4, s.extract n (n + nameLen s n), false), .inl ⟨by show (4 : Int) ≠ 0; decide, hres⟩⟩)
              exact ⟨rfl, rfl, ⟨⟨rfl, rfl⟩, ⟨rfl, rfl⟩, ⟨rfl, rfl⟩, ⟨rfl, rfl⟩, trivial⟩, ⟨[], rfl⟩, rfl⟩
          · have hbo : badOrder ns (s.extract n (n + nameLen s n)) = false := by simp only [badOrder, hlast]; exact h3
            repeat' (first | refine bsplit_t (by first | with_reducible assumption | with_reducible rfl | with_reducible exact Bool.not_true | with_reducible exact Bool.not_false) ?_ | refine bsplit_f (by first | with_reducible assumption | with_reducible rfl | with_reducible exact Bool.not_true | with_reducible exact Bool.not_false) ?_ | fail)
            refine call_obj (is_c s (n + nameLen s n) 0 deep 63 hs) [0] rfl rfl rfl ?_
            rintro _ _ (⟨_, h7, rfl, rfl⟩ | ⟨h7, rfl, rfl⟩)
            · have := stands_lt h7
              refine call_obj (must_c s (n + nameLen s n + 1) 0 deep 58 hs) [0] rfl rfl rfl ?_
              rintro _ _ ⟨rfl, ⟨_, h8, rfl⟩ | ⟨_, h8, rfl⟩ | ⟨h8, _⟩⟩
              · have := stands_lt h8
                refine draw_sub ?_ (tail ⟨((n + nameLen s n + 1) + 1, 0, s.extract n (n + nameLen s n), true), .inr ⟨rfl, by show (n + nameLen s n + 1) + 1 ≤ s.size; omega, by simp only [pFld]; rw [if_neg (by omega), hbo]; simp [h7, h8]; rfl⟩⟩)
                exact ⟨rfl, rfl, ⟨⟨rfl, rfl⟩, ⟨rfl, rfl⟩, ⟨rfl, rfl⟩, ⟨rfl, rfl⟩, trivial⟩, ⟨[], rfl⟩, rfl⟩
              · refine draw_sub ?_ (tail ⟨((n + nameLen s n + 1), 4, s.extract n (n + nameLen s n), true), .inl ⟨by show (4 : Int) ≠ 0; decide, by simp only [pFld]; rw [if_neg (by omega), hbo]; simp [h7, h8]⟩⟩)
                exact ⟨rfl, rfl, ⟨⟨rfl, rfl⟩, ⟨rfl, rfl⟩, ⟨rfl, rfl⟩, ⟨rfl, rfl⟩, trivial⟩, ⟨[], rfl⟩, rfl⟩
              · exact absurd rfl h8
            · have h7 := h7 rfl
              refine call_obj (must_c s (n + nameLen s n) 0 deep 58 hs) [0] rfl rfl rfl ?_
              rintro _ _ ⟨rfl, ⟨_, h8, rfl⟩ | ⟨_, h8, rfl⟩ | ⟨h8, _⟩⟩
              · have := stands_lt h8
                refine draw_sub ?_ (tail ⟨((n + nameLen s n) + 1, 0, s.extract n (n + nameLen s n), false), .inr ⟨rfl, by show (n + nameLen s n) + 1 ≤ s.size; omega, by simp only [pFld]; rw [if_neg (by omega), hbo]; simp [h7, h8]; rfl⟩⟩)
                exact ⟨rfl, rfl, ⟨⟨rfl, rfl⟩, ⟨rfl, rfl⟩, ⟨rfl, rfl⟩, ⟨rfl, rfl⟩, trivial⟩, ⟨[], rfl⟩, rfl⟩
              · refine draw_sub ?_ (tail ⟨((n + nameLen s n), 4, s.extract n (n + nameLen s n), false), .inl ⟨by show (4 : Int) ≠ 0; decide, by simp only [pFld]; rw [if_neg (by omega), hbo]; simp [h7, h8]⟩⟩)
                exact ⟨rfl, rfl, ⟨⟨rfl, rfl⟩, ⟨rfl, rfl⟩, ⟨rfl, rfl⟩, ⟨rfl, rfl⟩, trivial⟩, ⟨[], rfl⟩, rfl⟩
              · exact absurd rfl h8
        · have h2 : decide (0 ≤ IntKind.i64.wrap (((nmA ns).length : Int) - 1)) = false := h2
          have hne : ns = [] := by
            rw [hw0] at h2; simp at h2
            exact List.eq_nil_of_length_eq_zero (by omega)
          have hbo : badOrder ns (s.extract n (n + nameLen s n)) = false := by rw [hne]; rfl
          repeat' (first | refine bsplit_t (by first | with_reducible assumption | with_reducible rfl | with_reducible exact Bool.not_true | with_reducible exact Bool.not_false) ?_ | refine bsplit_f (by first | with_reducible assumption | with_reducible rfl | with_reducible exact Bool.not_true | with_reducible exact Bool.not_false) ?_ | fail)
          refine call_obj (is_c s (n + nameLen s n) 0 deep 63 hs) [0] rfl rfl rfl ?_
          rintro _ _ (⟨_, h7, rfl, rfl⟩ | ⟨h7, rfl, rfl⟩)
          · have := stands_lt h7
            refine call_obj (must_c s (n + nameLen s n + 1) 0 deep 58 hs) [0] rfl rfl rfl ?_
            rintro _ _ ⟨rfl, ⟨_, h8, rfl⟩ | ⟨_, h8, rfl⟩ | ⟨h8, _⟩⟩
            · have := stands_lt h8
              refine draw_sub ?_ (tail ⟨((n + nameLen s n + 1) + 1, 0, s.extract n (n + nameLen s n), true), .inr ⟨rfl, by show (n + nameLen s n + 1) + 1 ≤ s.size; omega, by simp only [pFld]; rw [if_neg (by omega), hbo]; simp [h7, h8]; rfl⟩⟩)
              exact ⟨rfl, rfl, ⟨⟨rfl, rfl⟩, ⟨rfl, rfl⟩, ⟨rfl, rfl⟩, ⟨rfl, rfl⟩, trivial⟩, ⟨[], rfl⟩, rfl⟩
            · refine draw_sub ?_ (tail ⟨((n + nameLen s n + 1), 4, s.extract n (n + nameLen s n), true), .inl ⟨by show (4 : Int) ≠ 0; decide, by simp only [pFld]; rw [if_neg (by omega), hbo]; simp [h7, h8]⟩⟩)
              exact ⟨rfl, rfl, ⟨⟨rfl, rfl⟩, ⟨rfl, rfl⟩, ⟨rfl, rfl⟩, ⟨rfl, rfl⟩, trivial⟩, ⟨[], rfl⟩, rfl⟩
            · exact absurd rfl h8
          · have h7 := h7 rfl
            refine call_obj (must_c s (n + nameLen s n) 0 deep 58 hs) [0] rfl rfl rfl ?_
            rintro _ _ ⟨rfl, ⟨_, h8, rfl⟩ | ⟨_, h8, rfl⟩ | ⟨h8, _⟩⟩
            · have := stands_lt h8
              refine draw_sub ?_ (tail ⟨((n + nameLen s n) + 1, 0, s.extract n (n + nameLen s n), false), .inr ⟨rfl, by show (n + nameLen s n) + 1 ≤ s.size; omega, by simp only [pFld]; rw [if_neg (by omega), hbo]; simp [h7, h8]; rfl⟩⟩)
              exact ⟨rfl, rfl, ⟨⟨rfl, rfl⟩, ⟨rfl, rfl⟩, ⟨rfl, rfl⟩, ⟨rfl, rfl⟩, trivial⟩, ⟨[], rfl⟩, rfl⟩
            · refine draw_sub ?_ (tail ⟨((n + nameLen s n), 4, s.extract n (n + nameLen s n), false), .inl ⟨by show (4 : Int) ≠ 0; decide, by simp only [pFld]; rw [if_neg (by omega), hbo]; simp [h7, h8]⟩⟩)
              exact ⟨rfl, rfl, ⟨⟨rfl, rfl⟩, ⟨rfl, rfl⟩, ⟨rfl, rfl⟩, ⟨rfl, rfl⟩, trivial⟩, ⟨[], rfl⟩, rfl⟩
            · exact absurd rfl h8
    · rintro ⟨⟨n', e', nm, qb⟩, hy⟩
      simp only at hy
      refine draw_ev hTS (by kernel_rfl) (.pur 0 (.pur 1 (.pur 2 (.pur 3 (.pur 4 (.pur 6 (.pur 9 (.pur 10 (.pur 11 (.pur 13 (.part [3, 4] [18] (.take 5 (.take 12 (.or 7 (.or 8 (.one 14 (.one 15 (.pur 16 (.pur 17 (.fin 18 (.pur 19 (.pur 20 (.one 21 .done)))))))) (.one 14 (.one 8 (.one 15 (.pur 16 (.pur 17 (.fin 18 (.pur 19 (.pur 20 (.one 21 .done)))))))))) (.one 14 (.one 7 (.one 8 (.one 15 (.pur 16 (.pur 17 (.fin 18 (.pur 19 (.pur 20 (.one 21 .done)))))))))))))))))))))))) (by kernel_rfl) ?_
      have b1 : ElOk 1 [[AV.c (.string nm)]] := by intro y hy; simp at hy; subst hy; exact ⟨rfl, rfl⟩
      have b2 : ElOk 1 [[AV.c (.bool qb)]] := by intro y hy; simp at hy; subst hy; exact ⟨rfl, rfl⟩
      have b3 : ((nmA ns).length + 1) * 17 ≤ 70368744177664 := by rw [nmA_len]; omega
      have b4 : ((boA lo).length + 1) * 2 ≤ 70368744177664 := by rw [boA_len]; omega
      have b5 : ((kpL l).length + 1) * 9 ≤ 70368744177664 := by rw [kpL_len]; omega
      have b6 : ∀ o, ElOk 1 [[AV.ptr o]] := by intro o y hy; simp at hy; subst hy; exact ⟨rfl, rfl⟩
      refine ⟨⟨side ⟨b1, b3⟩ (side ⟨b2, b4⟩ ?_), side ⟨b1, b3⟩ (side ⟨b2, b4⟩ ?_)⟩, side ⟨b1, b3⟩ (side ⟨b2, b4⟩ ?_)⟩
      all_goals
        refine draw_ev hTS (by kernel_rfl) (.pur 0 (.pur 1 (.pur 2 (.pur 3 (.pur 5 (.part [0] [8, 11] (.take 4 (.one 6 (.one 7 (.fin 8 (.pur 9 (.pur 10 (.one 11 .done))))))))))))) (by kernel_rfl) ?_
        refine call_obj (hr s n' e' deep hs (fun h => hy.elim (fun h' => absurd h h'.1) (fun h' => h'.2.1)) hd) [0] rfl rfl rfl ?_
        rintro _ _ ⟨o, rfl, ⟨h4, rfl⟩ | ⟨h4, t, m, h5, h6, rfl, rfl⟩ | ⟨h4, h5, n2, e2, h6, rfl⟩⟩
        · have hres : pFld (pType s f) s ns n = none := by
            rcases hy with ⟨_, hy⟩ | ⟨hy, _⟩
            · exact hy
            · exact absurd hy h4
          refine side ⟨b6 o, b5⟩ ?_
          exact ⟨⟨rfl, rfl, trivial, trivial, trivial, trivial⟩, 5, rfl, rfl, .inr ⟨.inr hres, _, _, _, _, _, h4, ⟨by simp [kpL_len]; omega, by simp [nmA_len]; omega, by simp [boA_len]; omega⟩, rfl⟩⟩
        · have hres : pFld (pType s f) s ns n = some (t, nm, qb, m) := by
            rcases hy with ⟨hy, _⟩ | ⟨_, _, hy⟩
            · exact absurd h4 hy
            · rw [hy, h5]
          refine side ⟨b6 _, b5⟩ ?_
          refine ⟨⟨rfl, rfl, trivial, trivial, trivial, trivial⟩, 5, rfl, rfl, .inl ⟨t, nm, qb, m, h1', hres, h6, ?_⟩⟩
          rw [kpL_app, nmA_app, boA_app]; rfl
        · have hres : pFld (pType s f) s ns n = none := by
            rcases hy with ⟨hy, _⟩ | ⟨_, _, hy⟩
            · exact absurd h4 hy
            · rw [hy, h5]
          refine side ⟨b6 o, b5⟩ ?_
          exact ⟨⟨rfl, rfl, trivial, trivial, trivial, trivial⟩, 5, rfl, rfl, .inr ⟨.inr hres, _, _, _, _, _, h6, ⟨by simp [kpL_len]; omega, by simp [nmA_len]; omega, by simp [boA_len]; omega⟩, rfl⟩⟩

end Go.AV0

/- kind: objects read. -/
namespace Go.AV0
open Go.Proofs

def tcell : SO := .cells [.v (.c (.int .i64 8)), .ms 3, .ms 4, .ms 5]

set_option maxHeartbeats 4000000 in
theorem object_c {f : Nat} (hr : ReadC f) (s : ByteArray) (n deep : Nat) (hs : s.size ≤ 4096) (hn : n ≤ s.size) (hd : deep + f = 8) : AImp Try.prog 60 [.ref 0 0] [rd s n 0 deep] []
    (RdQ s deep 0 n (if stands s n 125 = true then some (.mk 8 [] [] [], n + 1) else pObj (pType s f) s 16 [] [] [] n)) := by
  refine aimp_of hTS Try.func60 (by kernel_rfl) rfl rfl rfl (fun p => ?_)
  refine call_obj (is_c s n 0 deep 125 hs) [0] rfl rfl rfl ?_
  rintro _ _ (⟨_, h1, rfl, rfl⟩ | ⟨h1, rfl, rfl⟩)
  · have := stands_lt h1
    repeat' (first | refine bsplit_t (by first | with_reducible assumption | with_reducible rfl | with_reducible exact Bool.not_true | with_reducible exact Bool.not_false) ?_ | refine bsplit_f (by first | with_reducible assumption | with_reducible rfl | with_reducible exact Bool.not_true | with_reducible exact Bool.not_false) ?_ | fail)
    refine ⟨⟨rfl, trivial⟩, 1, rfl, _, rfl, .inr (.inl ⟨rfl, .mk 8 [] [] [], n + 1, ?_, by omega, rfl, rfl⟩)⟩
    rw [if_pos h1]
  · have h1 := h1 rfl
    rw [h1]
    repeat' (first | refine bsplit_t (by first | with_reducible assumption | with_reducible rfl | with_reducible exact Bool.not_true | with_reducible exact Bool.not_false) ?_ | refine bsplit_f (by first | with_reducible assumption | with_reducible rfl | with_reducible exact Bool.not_true | with_reducible exact Bool.not_false) ?_ | fail)
    refine loop_own 2 1 32 1 rfl rfl rfl ?_
    refine loop_own 2 2 9 1 rfl rfl rfl ?_
    refine loop_own 2 3 4 1 rfl rfl rfl ?_
    refine loop_inv hTS (X := { x : List KT × List ByteArray × List Bool × Nat × Nat // x.1.length + x.2.2.2.2 = 16 ∧ x.2.1.length = x.1.length ∧ x.2.2.1.length = x.1.length ∧ x.2.2.2.1 ≤ s.size ∧ pObj (pType s f) s 16 [] [] [] n = pObj (pType s f) s x.2.2.2.2 x.1 x.2.1 x.2.2.1 x.2.2.2.1 } ⊕
        { y : List (List AV) × List (List AV) × List (List AV) × Nat × Int // y.2.2.2.2 ≠ 0 ∧ pObj (pType s f) s 16 [] [] [] n = none })
      (fun _ => ⟨[(0, .ref 0 0), (3, .ref 2 0)], []⟩) (fun x => match x with
        | .inl x => [rd s x.1.2.2.2.1 0 deep, .pin 0 (p 0), tcell, .arr 32 1 (kpL x.1.1), .arr 9 1 (nmA x.1.2.1), .arr 4 1 (boA x.1.2.2.1)]
        | .inr y => [rd s y.1.2.2.2.1 y.1.2.2.2.2 deep, .pin 0 (p 0), tcell, .arr 32 1 y.1.1, .arr 9 1 y.1.2.1, .arr 4 1 y.1.2.2.1])
      (fun x => match x with
        | .inl x => x.1.2.2.2.2 + 2
        | .inr y => 0) (.inl ⟨([], [], [], n, 16), rfl, rfl, rfl, hn, rfl⟩)
      ⟨rfl, rfl, ⟨⟨rfl, rfl⟩, ⟨rfl, rfl⟩, trivial⟩, ⟨[], rfl⟩, rfl⟩ ?_
    rintro (⟨⟨l, ns, lo, m, k⟩, hl, hl1, hl2, hm, hres⟩ | ⟨⟨L, N, B, m, e⟩, he, hres⟩)
    · simp only at hl hl1 hl2 hm hres
      refine call_obj (bad_c s m 0 deep) [0] rfl rfl rfl ?_
      rintro _ _ ⟨⟨h2, rfl⟩ | ⟨h2, _⟩, rfl⟩
      rotate_left
      · exact absurd rfl h2
      repeat' (first | refine bsplit_t (by first | with_reducible assumption | with_reducible rfl | with_reducible exact Bool.not_true | with_reducible exact Bool.not_false) ?_ | refine bsplit_f (by first | with_reducible assumption | with_reducible rfl | with_reducible exact Bool.not_true | with_reducible exact Bool.not_false) ?_ | fail)
      refine call_obj (field_c hr s m deep l ns lo hs hm hd (by omega) hl1 hl2) [0, 2, 3, 4, 5] rfl rfl rfl ?_
      rintro _ _ ⟨rfl, ⟨x, nm, q, m2, h3, h4, h5, rfl⟩ | ⟨h3, n', e', L, N, B, h5, h6, rfl⟩⟩
      · obtain ⟨k, rfl⟩ : ∃ k', k = k' + 1 := ⟨k - 1, by omega⟩
        refine call_obj (is_c s m2 0 deep 125 hs) [0] rfl rfl rfl ?_
        rintro _ _ (⟨_, h7, rfl, rfl⟩ | ⟨h7, rfl, rfl⟩)
        · have := stands_lt h7
          refine bsplit_t rfl ?_
          refine ⟨⟨rfl, trivial⟩, 1, rfl, _, rfl, .inr (.inl ⟨rfl, .mk 8 (l ++ [x]) (ns ++ [nm]) (lo ++ [q]), m2 + 1, ?_, by omega, rfl, rfl⟩)⟩
          rw [if_neg (by simp), hres]
          simp only [pObj, h4, if_pos h7]
        · have h7 := h7 rfl
          refine bsplit_f rfl ?_
          refine call_obj (must_c s m2 0 deep 44 hs) [0] rfl rfl rfl ?_
          rintro _ _ ⟨rfl, ⟨_, h8, rfl⟩ | ⟨_, h8, rfl⟩ | ⟨h8, _⟩⟩
          · have := stands_lt h8
            refine ⟨.inl ⟨(l ++ [x], ns ++ [nm], lo ++ [q], m2 + 1, k), by simp; omega, by simp [hl1], by simp [hl2], by show m2 + 1 ≤ s.size; omega, ?_⟩, by show k + 2 < k + 1 + 2; omega, ⟨rfl, rfl, ⟨⟨rfl, rfl⟩, ⟨rfl, rfl⟩, trivial⟩, ⟨[], rfl⟩, rfl⟩⟩
            rw [hres]
            simp [pObj, h4, h7, h8]
          · refine ⟨.inr ⟨(kpL (l ++ [x]), nmA (ns ++ [nm]), boA (lo ++ [q]), m2, 4), by show (4 : Int) ≠ 0; decide, ?_⟩, Nat.succ_pos _, ⟨rfl, rfl, ⟨⟨rfl, rfl⟩, ⟨rfl, rfl⟩, trivial⟩, ⟨[], rfl⟩, rfl⟩⟩
            rw [hres]
            simp [pObj, h4, h7, h8]
          · exact absurd rfl h8
      · have hnone : pObj (pType s f) s 16 [] [] [] n = none := by
          rw [hres]
          cases k with
          | zero => rfl
          | succ k =>
            rcases h3 with h3 | h3
            · omega
            · simp [pObj, h3]
        refine call_obj (is_c s n' e' deep 125 hs) [0] rfl rfl rfl ?_
        rintro _ _ (⟨h7, _⟩ | ⟨_, rfl, rfl⟩)
        · exact absurd h7 h5
        refine bsplit_f rfl ?_
        refine call_obj (must_c s n' e' deep 44 hs) [0] rfl rfl rfl ?_
        rintro _ _ ⟨rfl, ⟨h8, _⟩ | ⟨h8, _⟩ | ⟨_, rfl⟩⟩
        · exact absurd h8 h5
        · exact absurd h8 h5
        exact ⟨.inr ⟨(L, N, B, n', e'), h5, hnone⟩, Nat.succ_pos _, ⟨rfl, rfl, ⟨⟨rfl, rfl⟩, ⟨rfl, rfl⟩, trivial⟩, ⟨[], rfl⟩, rfl⟩⟩
    · simp only at he hres
      refine call_obj (bad_c s m e deep) [0] rfl rfl rfl ?_
      rintro _ _ ⟨⟨h2, rfl⟩ | ⟨h2, rfl⟩, rfl⟩
      · exact absurd h2 he
      · repeat' (first | refine bsplit_t (by first | with_reducible assumption | with_reducible rfl | with_reducible exact Bool.not_true | with_reducible exact Bool.not_false) ?_ | refine bsplit_f (by first | with_reducible assumption | with_reducible rfl | with_reducible exact Bool.not_true | with_reducible exact Bool.not_false) ?_ | fail)
        exact ⟨⟨rfl, trivial⟩, 1, rfl, _, rfl, .inr (.inr ⟨rfl, (if_neg (by simp)).trans hres, _, _, he, rfl⟩)⟩

end Go.AV0

/- kind: types read. -/
namespace Go.AV0
open Go.Proofs

theorem undeep_c (s : ByteArray) (n : Nat) (e : Int) (deep : Nat) (hd : deep ≤ 100) : ADef Try.prog 57 [.ref 0 0] [.cells [.ref 1 0], rd s n e (deep + 1)] [] (fun _ h => h = [.cells [.ref 1 0], rd s n e deep]) := by
  refine adef_of hTS Try.func57 (by kernel_rfl) rfl rfl rfl (fun p => ?_)
  refine ⟨rfl, ⟨rfl, rfl, trivial⟩, 2, rfl, ?_⟩
  show [SO.cells [.ref 1 0], .cells [_, _, _, .v (.c (.int .i64 (IntKind.i64.wrap (((deep + 1 : Nat) : Int) - 1))))]] = _
  rw [wr (by omega) (by omega), show ((deep + 1 : Nat) : Int) - 1 = (deep : Int) by omega]; rfl

set_option maxHeartbeats 4000000 in
theorem read_c : ∀ f, ReadC f := by
  intro f
  induction f with
  | zero =>
    intro s n e deep hs hn hd
    have hd : deep = 8 := by omega
    subst hd
    refine aimp_of hTS Try.func26 (by kernel_rfl) rfl rfl rfl (fun p => ?_)
    refine call_obj (bad_c s n e 8) [0] rfl rfl rfl ?_
    rintro _ _ ⟨⟨rfl, rfl⟩ | ⟨h1, rfl⟩, rfl⟩
    · repeat' (first | refine bsplit_t (by first | with_reducible assumption | with_reducible rfl | with_reducible exact Bool.not_true | with_reducible exact Bool.not_false) ?_ | refine bsplit_f (by first | with_reducible assumption | with_reducible rfl | with_reducible exact Bool.not_true | with_reducible exact Bool.not_false) ?_ | fail)
      refine bsplit_t (by decide) ?_
      refine draw_ev hTS (by kernel_rfl) (.or 0 (.pur 1 (.pur 2 (.one 3 (.pur 4 (.pur 5 (.pur 6 (.one 7 (.one 8 .done)))))))) (.one 3 (.pur 4 (.pur 5 (.pur 6 (.or 0 (.pur 1 (.pur 2 (.one 7 (.one 8 .done)))) (.one 7 (.one 0 (.pur 1 (.pur 2 (.one 8 .done))))))))))) (by kernel_rfl) ?_
      refine ⟨?_, ⟨?_, ?_⟩⟩
      all_goals
        refine call_obj (fail_c s n 0 8 n 3) [0] rfl rfl rfl ?_
        rintro _ _ ⟨rfl, ⟨_, rfl⟩ | ⟨h9, rfl⟩⟩
        · exact ⟨⟨rfl, trivial⟩, 1, rfl, _, rfl, .inr (.inr ⟨rfl, rfl, _, _, (by decide), rfl⟩)⟩
        · exact absurd rfl h9
    · repeat' (first | refine bsplit_t (by first | with_reducible assumption | with_reducible rfl | with_reducible exact Bool.not_true | with_reducible exact Bool.not_false) ?_ | refine bsplit_f (by first | with_reducible assumption | with_reducible rfl | with_reducible exact Bool.not_true | with_reducible exact Bool.not_false) ?_ | fail)
      exact ⟨⟨rfl, trivial⟩, 1, rfl, _, rfl, .inl ⟨h1, rfl⟩⟩
  | succ f ih =>
    intro s n e deep hs hn hd
    refine aimp_of hTS Try.func26 (by kernel_rfl) rfl rfl rfl (fun p => ?_)
    refine call_obj (bad_c s n e deep) [0] rfl rfl rfl ?_
    rintro _ _ ⟨⟨rfl, rfl⟩ | ⟨h1, rfl⟩, rfl⟩
    rotate_left
    · repeat' (first | refine bsplit_t (by first | with_reducible assumption | with_reducible rfl | with_reducible exact Bool.not_true | with_reducible exact Bool.not_false) ?_ | refine bsplit_f (by first | with_reducible assumption | with_reducible rfl | with_reducible exact Bool.not_true | with_reducible exact Bool.not_false) ?_ | fail)
      exact ⟨⟨rfl, trivial⟩, 1, rfl, _, rfl, .inl ⟨h1, rfl⟩⟩
    have hn := hn rfl
    have hw : IntKind.i64.wrap ((deep : Int) + 1) = ((deep + 1 : Nat) : Int) := by rw [wr (by omega) (by omega)]; rfl
    repeat' (first | refine bsplit_t (by first | with_reducible assumption | with_reducible rfl | with_reducible exact Bool.not_true | with_reducible exact Bool.not_false) ?_ | refine bsplit_f (by first | with_reducible assumption | with_reducible rfl | with_reducible exact Bool.not_true | with_reducible exact Bool.not_false) ?_ | fail)
    refine bsplit (fun h2 => ?_) (fun h2 => ?_)
    · have h2 : decide ((deep : Int) = 8) = true := h2
      simp at h2; omega
    refine call_obj (is_c s n 0 (deep + 1) 91 hs) [0] rfl (congrArg (fun d => [some (SO.cells [.v (.c (.string s)), .v (.c (.int .i64 (n : Int))), .v (.c (.int .i64 0)), .v (.c (.int .i64 d))])]) hw) rfl ?_
    rintro _ _ (⟨_, h3, rfl, rfl⟩ | ⟨h3, rfl, rfl⟩)
    · have := stands_lt h3
      refine bsplit_t rfl ?_
      refine call_obj (tuple_c ih s (n + 1) (deep + 1) hs (by omega) (by omega)) [0] rfl rfl rfl ?_
      have hp : pType s (f + 1) n = (if stands s (n + 1) 93 = true then some (.mk 7 [] [] [], n + 1 + 1) else pTup (pType s f) s 16 [] (n + 1)) := by
        simp only [pType]; rw [if_pos h3]
      rw [hp]
      rintro _ _ ⟨o, rfl, ⟨h5, _⟩ | ⟨_, t, m, h5, h6, rfl, rfl⟩ | ⟨_, h5, n', e', h6, rfl⟩⟩
      · exact absurd rfl h5
      · refine def_obj (undeep_c s m 0 deep (by omega)) [2, 0] rfl rfl rfl ?_
        rintro _ _ rfl
        exact ⟨⟨rfl, trivial⟩, 1, rfl, _, rfl, .inr (.inl ⟨rfl, t, m, h5, h6, rfl, rfl⟩)⟩
      · refine def_obj (undeep_c s n' e' deep (by omega)) [2, 0] rfl rfl rfl ?_
        rintro _ _ rfl
        exact ⟨⟨rfl, trivial⟩, 1, rfl, _, rfl, .inr (.inr ⟨rfl, h5, _, _, h6, rfl⟩)⟩
    have h3 := h3 rfl
    refine bsplit_f rfl ?_
    refine call_obj (is_c s n 0 (deep + 1) 123 hs) [0] rfl rfl rfl ?_
    rintro _ _ (⟨_, h4, rfl, rfl⟩ | ⟨h4, rfl, rfl⟩)
    · have := stands_lt h4
      refine bsplit_t rfl ?_
      refine call_obj (object_c ih s (n + 1) (deep + 1) hs (by omega) (by omega)) [0] rfl rfl rfl ?_
      have hp : pType s (f + 1) n = (if stands s (n + 1) 125 = true then some (.mk 8 [] [] [], n + 1 + 1) else pObj (pType s f) s 16 [] [] [] (n + 1)) := by
        simp only [pType]; rw [if_neg (by simp [h3]), if_pos h4]
      rw [hp]
      rintro _ _ ⟨o, rfl, ⟨h5, _⟩ | ⟨_, t, m, h5, h6, rfl, rfl⟩ | ⟨_, h5, n', e', h6, rfl⟩⟩
      · exact absurd rfl h5
      · refine def_obj (undeep_c s m 0 deep (by omega)) [2, 0] rfl rfl rfl ?_
        rintro _ _ rfl
        exact ⟨⟨rfl, trivial⟩, 1, rfl, _, rfl, .inr (.inl ⟨rfl, t, m, h5, h6, rfl, rfl⟩)⟩
      · refine def_obj (undeep_c s n' e' deep (by omega)) [2, 0] rfl rfl rfl ?_
        rintro _ _ rfl
        exact ⟨⟨rfl, trivial⟩, 1, rfl, _, rfl, .inr (.inr ⟨rfl, h5, _, _, h6, rfl⟩)⟩
    have h4 := h4 rfl
    refine bsplit_f rfl ?_
    refine call_pure words_c rfl ?_
    rintro _ rfl
    refine draw_ev hTS (by kernel_rfl) (.part [3] [4] (.take 0 (.or 1 (.one 2 (.one 3 (.fin 4 (.pur 5 .done)))) (.one 2 (.one 1 (.one 3 (.fin 4 (.pur 5 .done)))))))) (by kernel_rfl) ?_
    refine ⟨?_, ?_⟩
    all_goals
      refine side ⟨?_, by decide⟩ ?_
      · intro y hy
        simp at hy
        rcases hy with rfl | rfl <;> exact ⟨rfl, rfl⟩
      refine call_frz 3 rfl rfl ?_
      refine call_obj (word_c s n (deep + 1) wds hs hn (by decide) (by decide)) [0] rfl rfl rfl ?_
      have hp : pType s (f + 1) n = (match hitW s n wds 0 with
        | none => none
        | some (i, l) => if i < 5 then some (.mk i [] [] [], n + l) else if stands s (n + l) 40 = true then match pType s f (n + l + 1) with
            | none => none
            | some (x, m) => if stands s m 41 = true then some (.mk i [x] [] [], m + 1) else none
          else none) := by
        simp only [pType]; rw [if_neg (by simp [h3]), if_neg (by simp [h4])]; rfl
      rw [hp]
      rintro _ _ (⟨h5, n', e', h6, rfl, rfl⟩ | ⟨i, l, h5, h6, h7, rfl, rfl⟩)
      · refine bsplit_t (by decide) ?_
        refine def_obj (undeep_c s n' e' deep (by omega)) [2, 0] rfl rfl rfl ?_
        rintro _ _ rfl
        refine ⟨⟨rfl, trivial⟩, 1, rfl, _, rfl, .inr (.inr ⟨rfl, ?_, _, _, h6, rfl⟩)⟩
        rw [h5]
      · refine bsplit (fun h8 => ?_) (fun h8 => ?_)
        · have h8' : i < 5 := by simp at h8; omega
          refine def_obj (undeep_c s (n + l) 0 deep (by omega)) [2, 0] rfl rfl rfl ?_
          rintro _ _ rfl
          refine ⟨⟨rfl, trivial⟩, 1, rfl, _, rfl, .inr (.inl ⟨rfl, .mk i [] [] [], n + l, ?_, h7, rfl, rfl⟩)⟩
          rw [h5]; simp only; rw [if_pos h8']
        · have h8' : ¬ i < 5 := by simp at h8; omega
          refine call_obj (single_c ih s (n + l) (deep + 1) i hs h7 (by omega)) [0] rfl rfl rfl ?_
          rw [h5]; simp only; rw [if_neg h8']
          rintro _ _ ⟨o, rfl, ⟨h9, _⟩ | ⟨_, t, m, h9, h10, rfl, rfl⟩ | ⟨_, h9, n', e', h10, rfl⟩⟩
          · exact absurd rfl h9
          · refine def_obj (undeep_c s m 0 deep (by omega)) [2, 0] rfl rfl rfl ?_
            rintro _ _ rfl
            exact ⟨⟨rfl, trivial⟩, 1, rfl, _, rfl, .inr (.inl ⟨rfl, t, m, h9, h10, rfl, rfl⟩)⟩
          · refine def_obj (undeep_c s n' e' deep (by omega)) [2, 0] rfl rfl rfl ?_
            rintro _ _ rfl
            exact ⟨⟨rfl, trivial⟩, 1, rfl, _, rfl, .inr (.inr ⟨rfl, h9, _, _, h10, rfl⟩)⟩

theorem parse_c (s : ByteArray) : APure Try.prog 7 [.c (.string s)] (fun v =>
    (4096 < s.size ∧ v = .tup [.ptr none, .c (.int .i64 0), .c (.int .i64 3)]) ∨
    (s.size ≤ 4096 ∧ ((∃ t, pParse s = some t ∧ v = .tup [kp t, .c (.int .i64 0), .c (.int .i64 0)]) ∨
      (pParse s = none ∧ ∃ n e, e ≠ 0 ∧ v = .tup [.ptr none, .c (.int .i64 n), .c (.int .i64 e)])))) := by
  refine apure_of hTS Try.func7 (by kernel_rfl) rfl rfl rfl ?_
  refine bsplit (fun h1 => ?_) (fun h1 => ?_)
  · have h1' : 4096 < s.size := by simp at h1; omega
    exact .inl ⟨h1', rfl⟩
  · have h1' : s.size ≤ 4096 := by simp at h1; omega
    have hP : pParse s = match pType s 8 0 with
      | none => none
      | some (t, m) => if m < s.size then none else some t := by
        simp only [pParse]; rw [if_neg (by omega)]; rfl
    refine call_obj (read_c 8 s 0 0 0 h1' (fun _ => Nat.zero_le _) rfl) [0] rfl rfl rfl ?_
    rintro _ _ ⟨o, rfl, ⟨h2, _⟩ | ⟨_, t, m, h2, h3, rfl, rfl⟩ | ⟨_, h2, n', e', h3, rfl⟩⟩
    · exact absurd rfl h2
    · refine call_obj (bad_c s m 0 0) [0] rfl rfl rfl ?_
      rintro _ _ ⟨⟨_, rfl⟩ | ⟨h9, _⟩, rfl⟩
      rotate_left
      · exact absurd rfl h9
      repeat' (first | refine bsplit_t (by first | with_reducible assumption | with_reducible rfl | with_reducible exact Bool.not_true | with_reducible exact Bool.not_false) ?_ | refine bsplit_f (by first | with_reducible assumption | with_reducible rfl | with_reducible exact Bool.not_true | with_reducible exact Bool.not_false) ?_ | fail)
      refine bsplit (fun h4 => ?_) (fun h4 => ?_)
      · have h4' : m < s.size := by simp at h4; omega
        repeat' (first | refine bsplit_t (by first | with_reducible assumption | with_reducible rfl | with_reducible exact Bool.not_true | with_reducible exact Bool.not_false) ?_ | refine bsplit_f (by first | with_reducible assumption | with_reducible rfl | with_reducible exact Bool.not_true | with_reducible exact Bool.not_false) ?_ | fail)
        refine draw_ev hTS (by kernel_rfl) (.pur 0 (.pur 1 (.pur 2 (.pur 3 (.pur 4 (.pur 5 (.pur 6 (.one 7 (.one 8 .done))))))))) (by kernel_rfl) ?_
        refine call_obj (fail_c s m 0 0 m 4) [0] rfl rfl rfl ?_
        rintro _ _ ⟨rfl, ⟨_, rfl⟩ | ⟨h9, _⟩⟩
        rotate_left
        · exact absurd rfl h9
        refine call_obj (bad_c s m 4 0) [0] rfl rfl rfl ?_
        rintro _ _ ⟨⟨h9, _⟩ | ⟨_, rfl⟩, rfl⟩
        · cases h9
        repeat' (first | refine bsplit_t (by first | with_reducible assumption | with_reducible rfl | with_reducible exact Bool.not_true | with_reducible exact Bool.not_false) ?_ | refine bsplit_f (by first | with_reducible assumption | with_reducible rfl | with_reducible exact Bool.not_true | with_reducible exact Bool.not_false) ?_ | fail)
        refine draw_ev hTS (by kernel_rfl) (.pur 0 (.pur 1 (.pur 2 (.pur 3 (.pur 5 (.pur 6 (.pur 7 (.pur 8 (.pur 10 (.or 4 (.pur 11 (.one 9 (.pur 12 .done))) (.one 9 (.one 4 (.pur 11 (.pur 12 .done)))))))))))))) (by kernel_rfl) ?_
        refine ⟨?_, ?_⟩
        all_goals
          refine .inr ⟨h1', .inr ⟨?_, m, 4, by decide, rfl⟩⟩
          rw [hP, h2]; simp only; rw [if_pos h4']
      · have h4' : ¬ m < s.size := by simp at h4; omega
        repeat' (first | refine bsplit_t (by first | with_reducible assumption | with_reducible rfl | with_reducible exact Bool.not_true | with_reducible exact Bool.not_false) ?_ | refine bsplit_f (by first | with_reducible assumption | with_reducible rfl | with_reducible exact Bool.not_true | with_reducible exact Bool.not_false) ?_ | fail)
        refine call_obj (bad_c s m 0 0) [0] rfl rfl rfl ?_
        rintro _ _ ⟨⟨_, rfl⟩ | ⟨h9, _⟩, rfl⟩
        rotate_left
        · exact absurd rfl h9
        repeat' (first | refine bsplit_t (by first | with_reducible assumption | with_reducible rfl | with_reducible exact Bool.not_true | with_reducible exact Bool.not_false) ?_ | refine bsplit_f (by first | with_reducible assumption | with_reducible rfl | with_reducible exact Bool.not_true | with_reducible exact Bool.not_false) ?_ | fail)
        refine .inr ⟨h1', .inl ⟨t, ?_, rfl⟩⟩
        rw [hP, h2]; simp only; rw [if_neg h4']
    · refine call_obj (bad_c s n' e' 0) [0] rfl rfl rfl ?_
      rintro _ _ ⟨⟨h9, _⟩ | ⟨_, rfl⟩, rfl⟩
      · exact absurd h9 h3
      repeat' (first | refine bsplit_t (by first | with_reducible assumption | with_reducible rfl | with_reducible exact Bool.not_true | with_reducible exact Bool.not_false) ?_ | refine bsplit_f (by first | with_reducible assumption | with_reducible rfl | with_reducible exact Bool.not_true | with_reducible exact Bool.not_false) ?_ | fail)
      refine call_obj (bad_c s n' e' 0) [0] rfl rfl rfl ?_
      rintro _ _ ⟨⟨h9, _⟩ | ⟨_, rfl⟩, rfl⟩
      · exact absurd h9 h3
      repeat' (first | refine bsplit_t (by first | with_reducible assumption | with_reducible rfl | with_reducible exact Bool.not_true | with_reducible exact Bool.not_false) ?_ | refine bsplit_f (by first | with_reducible assumption | with_reducible rfl | with_reducible exact Bool.not_true | with_reducible exact Bool.not_false) ?_ | fail)
      refine draw_ev hTS (by kernel_rfl) (.pur 0 (.pur 1 (.pur 2 (.pur 3 (.pur 5 (.pur 6 (.pur 7 (.pur 8 (.pur 10 (.or 4 (.pur 11 (.one 9 (.pur 12 .done))) (.one 9 (.one 4 (.pur 11 (.pur 12 .done)))))))))))))) (by kernel_rfl) ?_
      refine ⟨?_, ?_⟩
      all_goals
        refine .inr ⟨h1', .inr ⟨?_, n', e', h3, rfl⟩⟩
        rw [hP, h2]

end Go.AV0

