/- P1, P2, P3, P4, P5: texts of this proof, one behind the other. -/
import Derived.Test.YthbglcdcfdjbbaaMT
import Derived.Test.YthbglcdcfdjbbaaU1
/- the law of texts: a type that is read has that text, printed again. -/
namespace Go.AV0
open Go.Proofs

theorem ba_eq {a b : ByteArray} (h : a.data.toList = b.data.toList) : a = b := by
  cases a; cases b
  congr
  exact Array.toList_inj.1 h

theorem extract_list (s : ByteArray) (a b : Nat) : (s.extract a b).data.toList = (s.data.toList.drop a).take (b - a) := by
  rw [ByteArray.data_extract, Array.toList_extract, List.extract_eq_take_drop]

theorem app_list (a b : ByteArray) : (a ++ b).data.toList = a.data.toList ++ b.data.toList := by
  rw [ByteArray.data_append, Array.toList_append]

theorem ex_app {s : ByteArray} {a b c : Nat} (h1 : a ≤ b) (h2 : b ≤ c) : s.extract a b ++ s.extract b c = s.extract a c := by
  apply ba_eq
  rw [app_list, extract_list, extract_list, extract_list]
  obtain ⟨i, rfl⟩ := Nat.exists_eq_add_of_le h1
  obtain ⟨j, rfl⟩ := Nat.exists_eq_add_of_le h2
  rw [show a + i + j - a = i + j by omega, show a + i - a = i by omega, show a + i + j - (a + i) = j by omega, List.take_add, List.drop_drop]

theorem ex_self (s : ByteArray) (a : Nat) : s.extract a a = ⟨#[]⟩ := by
  apply ba_eq
  rw [extract_list]; simp

theorem ex_stands {s : ByteArray} {n : Nat} {c : UInt8} (h : stands s n (c.toNat : Int) = true) : s.extract n (n + 1) = ⟨#[c]⟩ := by
  unfold stands at h
  split at h
  · rename_i u hu
    have : u = c := UInt8.toNat_inj.1 (by have := of_decide_eq_true h; omega)
    subst this
    apply ba_eq
    rw [extract_one hu]
  · cases h

theorem ex_pref {s w : ByteArray} {n : Nat} (hn : n ≤ s.size) (h : prefB s n w = true) : s.extract n (n + w.size) = w := by
  simp only [prefB, Bool.and_eq_true, decide_eq_true_iff] at h
  have hs : s.data.toList.length = s.size := by simp
  have h2 : ((s.extract n s.size).extract 0 w.size).data.toList = w.data.toList := congrArg (fun b => b.data.toList) h.2
  apply ba_eq
  rw [← h2, extract_list s n (n + w.size), extract_list (s.extract n s.size) 0 w.size, extract_list s n s.size]
  have e : (s.data.toList.drop n).take (s.size - n) = s.data.toList.drop n := List.take_of_length_le (by rw [List.length_drop]; omega)
  rw [e, List.drop_zero, Nat.sub_zero, show n + w.size - n = w.size by omega]

theorem joinB_snoc (y sep : ByteArray) : ∀ (xs : List ByteArray), joinB (xs ++ [y]) sep = if xs = [] then y else joinB xs sep ++ sep ++ y
  | [] => by
    apply ba_eq
    simp [joinB, Lib.join]
  | [x] => by
    apply ba_eq
    simp [joinB, Lib.join, List.intercalate]
  | x :: x2 :: l => by
    have ih := joinB_snoc y sep (x2 :: l)
    have e : ∀ (z : ByteArray) (r : List ByteArray), joinB (x :: z :: r) sep = x ++ sep ++ joinB (z :: r) sep := by
      intro z r
      apply ba_eq
      simp [joinB, Lib.join, List.intercalate]
    rw [if_neg (by simp)] at ih ⊢
    rw [List.cons_append, List.cons_append, e, e, ← List.cons_append, ih]
    apply ba_eq
    simp

theorem flds_snoc (s : ByteArray) (q : Bool) (p : ByteArray) : ∀ (ns : List ByteArray) (lo : List Bool) (ps : List ByteArray), ns.length = ps.length → lo.length = ps.length → flds (ns ++ [s]) (lo ++ [q]) (ps ++ [p]) = flds ns lo ps ++ [fldB s q p]
  | [], [], [], _, _ => by simp [flds]
  | n :: ns, o :: lo, r :: ps, h1, h2 => by
    simp only [List.cons_append, flds]
    rw [flds_snoc s q p ns lo ps (by simpa using h1) (by simpa using h2)]
  | _ :: _, _, [], h, _ => by simp at h
  | [], _, _ :: _, h, _ => by simp at h
  | _, _ :: _, [], _, h => by simp at h
  | _, [], _ :: _, _, h => by simp at h

theorem nameLen_le (s : ByteArray) (n : Nat) (hn : n ≤ s.size) : n + nameLen s n ≤ s.size := by
  have hsz : s.data.toList.length = s.size := by simp
  have h := (nameLen_end s n).1
  rcases Nat.eq_zero_or_pos (nameLen s n) with h0 | h0
  · omega
  · obtain ⟨u, hu, _⟩ := h (nameLen s n - 1) (by omega)
    have := get_lt hu
    omega

theorem slt_iff {a b : ByteArray} : slt a b = decide (a.data.toList < b.data.toList) := by
  unfold slt
  rw [bytesLess_eq]
  simp [ByteArray.toList_eq]

theorem rises_snoc {y : ByteArray} : ∀ {l : List ByteArray}, rises l → badOrder l y = false → rises (l ++ [y])
  | [], _, _ => by simp [rises]
  | [x], _, h => by
    simp only [badOrder, List.getLast?_singleton, Bool.or_eq_false_iff, decide_eq_false_iff_not] at h
    rw [slt_iff, decide_eq_false_iff_not] at h
    simp only [List.singleton_append, rises, List.mem_singleton]
    refine ⟨?_, by simp, trivial⟩
    rintro z rfl
    by_cases h2 : x.data.toList < z.data.toList
    · exact h2
    · exact absurd (ba_eq (List.le_antisymm (List.not_lt.1 h2) (List.not_lt.1 h.1))) h.2
  | x :: z :: l, hr, h => by
    have h' : badOrder (z :: l) y = false := by
      unfold badOrder at h ⊢
      rw [List.getLast?_cons_cons] at h
      exact h
    have ih := rises_snoc hr.2 h'
    refine ⟨?_, ih⟩
    intro w hw
    have hz := hr.1 z (by simp)
    rcases List.mem_append.1 hw with hw | hw
    · exact hr.1 w hw
    · have hw := List.mem_singleton.1 hw
      rw [hw]
      have : z.data.toList < y.data.toList := ih.1 y (by simp)
      exact List.lt_trans hz this

end Go.AV0

/- the law of texts: a type that is read has that text, printed again. -/
namespace Go.AV0
open Go.Proofs

def OkT (s : ByteArray) (f n : Nat) (t : KT) (m : Nat) : Prop := n ≤ m ∧ m ≤ s.size ∧ wfK t ∧ kDeep t ≤ f ∧ prK t = s.extract n m

def JT (s : ByteArray) (ps : List ByteArray) (start n : Nat) : Prop := (ps = [] ∧ start = n) ∨ (ps ≠ [] ∧ joinB ps sComma ++ sComma = s.extract start n)

theorem JT.snoc {s : ByteArray} {ps : List ByteArray} {start n m : Nat} {p : ByteArray} (h : JT s ps start n) (h0 : start ≤ n) (h1 : n ≤ m) (hp : p = s.extract n m) : joinB (ps ++ [p]) sComma = s.extract start m := by
  rw [joinB_snoc]
  rcases h with ⟨rfl, rfl⟩ | ⟨h2, h3⟩
  · rw [if_pos rfl, hp]
  · rw [if_neg h2, h3, hp, ex_app h0 h1]

theorem pTup_ok {s : ByteArray} {P : Nat → Option (KT × Nat)} {f : Nat} (hP : ∀ n t m, n ≤ s.size → P n = some (t, m) → OkT s f n t m) : ∀ (k : Nat) (acc : List KT) (n start : Nat) (t : KT) (m : Nat), start ≤ n → n ≤ s.size → acc.length + k = 16 → wfL acc → kDeepL acc ≤ f → JT s (prL acc) start n → pTup P s k acc n = some (t, m) →
    n ≤ m ∧ m ≤ s.size ∧ ∃ l, t = .mk 7 l [] [] ∧ l.length ≤ 16 ∧ wfL l ∧ kDeepL l ≤ f ∧ joinB (prL l) sComma ++ ⟨#[93]⟩ = s.extract start m
  | 0, acc, n, start, t, m, _, _, _, _, _, _, h => by simp [pTup] at h
  | k + 1, acc, n, start, t, m, h0, hn, hk, hw, hd, hJ, h => by
    simp only [pTup] at h
    cases hx : P n with
    | none => rw [hx] at h; cases h
    | some y =>
      obtain ⟨x, m1⟩ := y
      rw [hx] at h
      simp only at h
      obtain ⟨p1, p2, p3, p4, p5⟩ := hP n x m1 hn hx
      have hj := hJ.snoc h0 p1 p5
      have hwl := wfL_app hw p3
      have hdl : kDeepL (acc ++ [x]) ≤ f := by rw [kDeepL_app]; omega
      split at h
      · rename_i h93
        cases h
        have hlt := stands_lt h93
        refine ⟨by omega, by omega, acc ++ [x], rfl, by simp; omega, hwl, hdl, ?_⟩
        rw [prL_app, hj, ← ex_stands (c := 93) h93, ex_app (by omega) (by omega)]
      · split at h
        · rename_i h44
          have hlt := stands_lt h44
          have hJ' : JT s (prL (acc ++ [x])) start (m1 + 1) := by
            refine .inr ⟨by rw [prL_app]; simp, ?_⟩
            rw [prL_app, hj]
            have e : sComma = s.extract m1 (m1 + 1) := (ex_stands (c := 44) h44).symm
            rw [e, ex_app (by omega) (by omega)]
          obtain ⟨q1, q2, q3⟩ := pTup_ok hP k (acc ++ [x]) (m1 + 1) start t m (by omega) (by omega) (by simp; omega) hwl hdl hJ' h
          exact ⟨by omega, q2, q3⟩
        · cases h

theorem pFld_ok {s : ByteArray} {P : Nat → Option (KT × Nat)} {f : Nat} (hP : ∀ n t m, n ≤ s.size → P n = some (t, m) → OkT s f n t m) {ns : List ByteArray} {n : Nat} {x : KT} {nm : ByteArray} {q : Bool} {m : Nat} (hn : n ≤ s.size) (h : pFld P s ns n = some (x, nm, q, m)) :
    n ≤ m ∧ m ≤ s.size ∧ wfK x ∧ kDeep x ≤ f ∧ nm.size ≤ 20 ∧ badOrder ns nm = false ∧ fldB nm q (prK x) = s.extract n m := by
  unfold pFld at h
  split at h
  · cases h
  rename_i hnl
  split at h
  · cases h
  rename_i hbo
  have hle := nameLen_le s n hn
  cases hq : stands s (n + nameLen s n) 63 with
  | true =>
    rw [hq] at h
    simp only [if_true] at h
    split at h
    · rename_i h58
      have hlt := stands_lt h58
      cases hx : P (n + nameLen s n + 1 + 1) with
      | none => rw [hx] at h; cases h
      | some y =>
        obtain ⟨x', m'⟩ := y
        rw [hx] at h
        cases h
        obtain ⟨p1, p2, p3, p4, p5⟩ := hP _ _ _ (by omega) hx
        have hcolon := ex_stands (c := 58) h58
        refine ⟨by omega, p2, p3, p4, ?_, by simpa using hbo, ?_⟩
        · rw [ByteArray.size_extract]; omega
        · have hquest := ex_stands (c := 63) hq
          have e : (⟨#[63, 58]⟩ : ByteArray) = ⟨#[63]⟩ ++ ⟨#[58]⟩ := rfl
          unfold fldB
          rw [if_pos rfl, e, ← hquest, ← hcolon, p5, ex_app (by omega) (by omega), ex_app (by omega) (by omega), ex_app (by omega) (by omega)]
    · cases h
  | false =>
    rw [hq] at h
    simp only [Bool.false_eq_true, if_false] at h
    split at h
    · rename_i h58
      have hlt := stands_lt h58
      cases hx : P (n + nameLen s n + 1) with
      | none => rw [hx] at h; cases h
      | some y =>
        obtain ⟨x', m'⟩ := y
        rw [hx] at h
        cases h
        obtain ⟨p1, p2, p3, p4, p5⟩ := hP _ _ _ (by omega) hx
        have hcolon := ex_stands (c := 58) h58
        refine ⟨by omega, p2, p3, p4, ?_, by simpa using hbo, ?_⟩
        · rw [ByteArray.size_extract]; omega
        · unfold fldB
          rw [if_neg (by simp), ← hcolon, p5, ex_app (by omega) (by omega), ex_app (by omega) (by omega)]
    · cases h

theorem pObj_ok {s : ByteArray} {P : Nat → Option (KT × Nat)} {f : Nat} (hP : ∀ n t m, n ≤ s.size → P n = some (t, m) → OkT s f n t m) : ∀ (k : Nat) (l : List KT) (ns : List ByteArray) (lo : List Bool) (n start : Nat) (t : KT) (m : Nat), start ≤ n → n ≤ s.size → l.length + k = 16 → ns.length = l.length → lo.length = l.length → wfL l → kDeepL l ≤ f → rises ns → (∀ y ∈ ns, y.size ≤ 20) → JT s (flds ns lo (prL l)) start n → pObj P s k l ns lo n = some (t, m) →
    n ≤ m ∧ m ≤ s.size ∧ ∃ l ns lo, t = .mk 8 l ns lo ∧ l.length ≤ 16 ∧ ns.length = l.length ∧ lo.length = l.length ∧ wfL l ∧ kDeepL l ≤ f ∧ rises ns ∧ (∀ y ∈ ns, y.size ≤ 20) ∧ joinB (flds ns lo (prL l)) sComma ++ ⟨#[125]⟩ = s.extract start m
  | 0, l, ns, lo, n, start, t, m, _, _, _, _, _, _, _, _, _, _, h => by simp [pObj] at h
  | k + 1, l, ns, lo, n, start, t, m, h0, hn, hk, e1, e2, hw, hd, hr, hz, hJ, h => by
    simp only [pObj] at h
    cases hx : pFld P s ns n with
    | none => rw [hx] at h; cases h
    | some y =>
      obtain ⟨x, nm, q, m1⟩ := y
      rw [hx] at h
      simp only at h
      obtain ⟨p1, p2, p3, p4, p5, p6, p7⟩ := pFld_ok hP hn hx
      have hfl : flds (ns ++ [nm]) (lo ++ [q]) (prL (l ++ [x])) = flds ns lo (prL l) ++ [fldB nm q (prK x)] := by
        rw [prL_app, flds_snoc _ _ _ _ _ _ (by rw [prL_len, e1]) (by rw [prL_len, e2])]
      have hj := hJ.snoc h0 p1 p7
      rw [← hfl] at hj
      have hwl := wfL_app hw p3
      have hdl : kDeepL (l ++ [x]) ≤ f := by rw [kDeepL_app]; omega
      have hr' := rises_snoc hr p6
      have hz' : ∀ y ∈ ns ++ [nm], y.size ≤ 20 := by
        intro y hy
        rcases List.mem_append.1 hy with hy | hy
        · exact hz y hy
        · rw [List.mem_singleton.1 hy]; exact p5
      split at h
      · rename_i h125
        cases h
        have hlt := stands_lt h125
        refine ⟨by omega, by omega, l ++ [x], ns ++ [nm], lo ++ [q], rfl, by simp; omega, by simp [e1], by simp [e2], hwl, hdl, hr', hz', ?_⟩
        rw [hj, ← ex_stands (c := 125) h125, ex_app (by omega) (by omega)]
      · split at h
        · rename_i h44
          have hlt := stands_lt h44
          have hJ' : JT s (flds (ns ++ [nm]) (lo ++ [q]) (prL (l ++ [x]))) start (m1 + 1) := by
            refine .inr ⟨by rw [hfl]; simp, ?_⟩
            rw [hj]
            have e : sComma = s.extract m1 (m1 + 1) := (ex_stands (c := 44) h44).symm
            rw [e, ex_app (by omega) (by omega)]
          obtain ⟨q1, q2, q3⟩ := pObj_ok hP k (l ++ [x]) (ns ++ [nm]) (lo ++ [q]) (m1 + 1) start t m (by omega) (by omega) (by simp; omega) (by simp [e1]) (by simp [e2]) hwl hdl hr' hz' hJ' h
          exact ⟨by omega, q2, q3⟩
        · cases h

end Go.AV0

/- the law of texts: a type that is read has that text, printed again. -/
namespace Go.AV0
open Go.Proofs

theorem hitW_inv {s : ByteArray} {n : Nat} : ∀ {l : List ByteArray} {k i z : Nat}, hitW s n l k = some (i, z) → k ≤ i ∧ ∃ w, l[i - k]? = some w ∧ z = w.size ∧ prefB s n w = true
  | [], k, i, z, h => by simp [hitW] at h
  | w :: l, k, i, z, h => by
    simp only [hitW] at h
    split at h
    · rename_i hp
      cases h
      exact ⟨Nat.le_refl _, w, by simp, rfl, hp⟩
    · obtain ⟨h1, v, h2, h3, h4⟩ := hitW_inv h
      refine ⟨by omega, v, ?_, h3, h4⟩
      rw [show i - k = (i - (k + 1)) + 1 by omega, List.getElem?_cons_succ]; exact h2

theorem wfL_nil : wfL [] := trivial

theorem wf_plain {i : Nat} (h : i < 5) : wfK (.mk i [] [] []) := by
  simp only [wfK]
  exact ⟨by omega, by simp, by simp, fun h' => by omega, fun h' => by omega, by simp, by simp, by simp, trivial, trivial⟩

theorem wf_single {i : Nat} {x : KT} (h : i = 5 ∨ i = 6) (hx : wfK x) : wfK (.mk i [x] [] []) := by
  simp only [wfK]
  exact ⟨by omega, by simp, fun h' => by omega, by simp, fun h' => by omega, by simp, by simp, by simp, trivial, by simp only [wfL]; exact ⟨hx, trivial⟩⟩

theorem wf_tup {l : List KT} (h : l.length ≤ 16) (hl : wfL l) : wfK (.mk 7 l [] []) := by
  simp only [wfK]
  exact ⟨by omega, h, fun h' => by omega, fun h' => by omega, fun h' => by omega, by simp, by simp, by simp, trivial, hl⟩

theorem wf_obj {l : List KT} {ns : List ByteArray} {lo : List Bool} (h : l.length ≤ 16) (hl : wfL l) (h1 : ns.length = l.length) (h2 : lo.length = l.length) (hr : rises ns) (hz : ∀ y ∈ ns, y.size ≤ 20) : wfK (.mk 8 l ns lo) := by
  simp only [wfK]
  exact ⟨by omega, h, fun h' => by omega, fun h' => by omega, fun _ => h1, fun h' => absurd rfl h', by omega, hz, hr, hl⟩

theorem pType_ok (s : ByteArray) : ∀ (f n : Nat) (t : KT) (m : Nat), n ≤ s.size → pType s f n = some (t, m) → OkT s f n t m := by
  intro f
  induction f with
  | zero => intro n t m _ h; simp [pType] at h
  | succ f ih =>
    intro n t m hn h
    simp only [pType] at h
    split at h
    · rename_i h91
      have hlt := stands_lt h91
      have e91 := ex_stands (c := 91) h91
      split at h
      · rename_i h93
        have hlt2 := stands_lt h93
        have e93 := ex_stands (c := 93) h93
        cases h
        refine ⟨by omega, by omega, wf_tup (Nat.zero_le _) wfL_nil, by show kDeepL [] + 1 ≤ _; simp only [kDeepL]; omega, ?_⟩
        show (⟨#[91]⟩ : ByteArray) ++ joinB [] sComma ++ ⟨#[93]⟩ = _
        have e0 : joinB [] sComma = ⟨#[]⟩ := rfl
        rw [e0, ← ex_self s (n + 1), ← e91, ← e93, ex_app (by omega) (by omega), ex_app (by omega) (by omega)]
      · obtain ⟨q1, q2, l, rfl, q3, q4, q5, q6⟩ := pTup_ok ih 16 [] (n + 1) (n + 1) t m (Nat.le_refl _) (by omega) rfl wfL_nil (by simp [kDeepL]) (.inl ⟨rfl, rfl⟩) h
        refine ⟨by omega, q2, wf_tup q3 q4, by show kDeepL l + 1 ≤ _; omega, ?_⟩
        show (⟨#[91]⟩ : ByteArray) ++ joinB (prL l) sComma ++ ⟨#[93]⟩ = _
        rw [ByteArray.append_assoc, q6, ← e91, ex_app (by omega) (by omega)]
    · split at h
      · rename_i h123
        have hlt := stands_lt h123
        have e123 := ex_stands (c := 123) h123
        split at h
        · rename_i h125
          have hlt2 := stands_lt h125
          have e125 := ex_stands (c := 125) h125
          cases h
          refine ⟨by omega, by omega, wf_obj (Nat.zero_le _) wfL_nil rfl rfl trivial (by simp), by show kDeepL [] + 1 ≤ _; simp only [kDeepL]; omega, ?_⟩
          show (⟨#[123]⟩ : ByteArray) ++ joinB [] sComma ++ ⟨#[125]⟩ = _
          have e0 : joinB [] sComma = ⟨#[]⟩ := rfl
          rw [e0, ← ex_self s (n + 1), ← e123, ← e125, ex_app (by omega) (by omega), ex_app (by omega) (by omega)]
        · obtain ⟨q1, q2, l, ns, lo, rfl, q3, q4, q5, q6, q7, q8, q9, q10⟩ := pObj_ok ih 16 [] [] [] (n + 1) (n + 1) t m (Nat.le_refl _) (by omega) rfl rfl rfl wfL_nil (by simp [kDeepL]) trivial (by simp) (.inl ⟨rfl, rfl⟩) h
          refine ⟨by omega, q2, wf_obj q3 q6 q4 q5 q8 q9, by show kDeepL l + 1 ≤ _; omega, ?_⟩
          show (⟨#[123]⟩ : ByteArray) ++ joinB (flds ns lo (prL l)) sComma ++ ⟨#[125]⟩ = _
          rw [ByteArray.append_assoc, q10, ← e123, ex_app (by omega) (by omega)]
      · cases hw : hitW s n wds 0 with
        | none => rw [hw] at h; cases h
        | some y =>
          obtain ⟨i, z⟩ := y
          rw [hw] at h
          simp only at h
          obtain ⟨_, w, h1, rfl, h3⟩ := hitW_inv hw
          rw [Nat.sub_zero] at h1
          have hz := prefB_size h3
          have hi := get_lt h1
          have hi7 : i < 7 := hi
          have hpre := ex_pref hn h3
          split at h
          · rename_i hi5
            cases h
            refine ⟨by omega, by omega, wf_plain hi5, by show kDeepL [] + 1 ≤ _; simp only [kDeepL]; omega, ?_⟩
            rw [hpre]
            have hi5' : i = 0 ∨ i = 1 ∨ i = 2 ∨ i = 3 ∨ i = 4 := by omega
            rcases hi5' with rfl | rfl | rfl | rfl | rfl <;> (cases h1; rfl)
          · rename_i hi5
            split at h
            · rename_i h40
              have hlt := stands_lt h40
              have e40 := ex_stands (c := 40) h40
              cases hx : pType s f (n + w.size + 1) with
              | none => rw [hx] at h; cases h
              | some y =>
                obtain ⟨x, m'⟩ := y
                rw [hx] at h
                simp only at h
                split at h
                · rename_i h41
                  have hlt2 := stands_lt h41
                  have e41 := ex_stands (c := 41) h41
                  cases h
                  obtain ⟨p1, p2, p3, p4, p5⟩ := ih _ _ _ (by omega) hx
                  have hi56 : i = 5 ∨ i = 6 := by omega
                  refine ⟨by omega, by omega, wf_single hi56 p3, by show kDeepL [x] + 1 ≤ _; simp only [kDeepL]; omega, ?_⟩
                  have key : w ++ ⟨#[40]⟩ ++ prK x ++ ⟨#[41]⟩ = s.extract n (m' + 1) := by
                    rw [← hpre, ← e40, p5, ← e41, ex_app (by omega) (by omega), ex_app (by omega) (by omega), ex_app (by omega) (by omega)]
                  rw [← key]
                  rcases hi56 with rfl | rfl <;> (cases h1; rfl)
                · cases h
            · cases h

theorem pParse_ok {s : ByteArray} {t : KT} (h : pParse s = some t) : wfK t ∧ kDeep t ≤ 8 ∧ prK t = s := by
  unfold pParse at h
  split at h
  · cases h
  · cases hx : pType s 8 0 with
    | none => rw [hx] at h; cases h
    | some y =>
      obtain ⟨x, m⟩ := y
      rw [hx] at h
      simp only at h
      split at h
      · cases h
      · rename_i hm
        cases h
        obtain ⟨p1, p2, p3, p4, p5⟩ := pType_ok s 8 0 t m (Nat.zero_le _) hx
        have : m = s.size := by omega
        subst this
        refine ⟨p3, p4, ?_⟩
        rw [p5]
        apply ba_eq
        rw [extract_list, List.drop_zero, Nat.sub_zero]
        exact List.take_of_length_le (by simp)

end Go.AV0

/- the law of zeros. -/
namespace Go.AV0
open Go.Proofs

theorem rises_sorted : ∀ {l : List ByteArray}, rises l → l.Pairwise (fun a b => bleq a b = true)
  | [], _ => List.Pairwise.nil
  | x :: l, h => by
    refine List.Pairwise.cons (fun y hy => ?_) (rises_sorted h.2)
    have := h.1 y hy
    simp only [bleq, decide_eq_true_iff]
    exact List.le_of_lt this

theorem skeys_rises {α : Type} {es : List (ByteArray × α)} (h : rises (es.map (·.1))) : skeys es = es.map (·.1) := by
  unfold skeys
  exact List.mergeSort_of_pairwise (rises_sorted h)

theorem vget_rises : ∀ {es : List (ByteArray × VT)}, (es.map (·.1)).Nodup → (es.map (·.1)).map (fun k => optV (vget es k)) = es.map (·.2)
  | [], _ => rfl
  | (k, v) :: es, h => by
    simp only [List.map_cons, List.nodup_cons] at h
    simp only [List.map_cons, vget, if_true]
    congr 1
    rw [← vget_rises h.2]
    apply List.map_congr_left
    intro x hx
    show optV (if k = x then some v else vget es x) = _
    rw [if_neg (fun e : k = x => h.1 (e ▸ hx))]

theorem vitems_rises {es : List (ByteArray × VT)} (h : rises (es.map (·.1))) : vitems (.map es) = es.map (·.2) := by
  show (skeys es).map _ = _
  rw [skeys_rises h]; exact vget_rises (rises_nodup h)

theorem rises_sub : ∀ {a b : List ByteArray}, a.Sublist b → rises b → rises a
  | _, _, .slnil, _ => trivial
  | _, _ :: _, .cons _ s, h => rises_sub s h.2
  | _, _, .cons_cons _ s, h => ⟨fun y hy => h.1 y (s.subset hy), rises_sub s h.2⟩

theorem zeroRK_eq : ∀ (l : List KT) (ns : List ByteArray) (lo : List Bool), l.length = ns.length → zeroRK ns lo = (zeroM l ns lo).map (·.1)
  | t :: l, n :: ns, o :: lo, h => by
    have ih := zeroRK_eq l ns lo (by simpa using h)
    simp only [zeroRK, zeroM]; split
    · exact ih
    · simp [ih]
  | [], [], _, _ => by simp [zeroRK, zeroM]
  | _ :: _, _ :: _, [], _ => by simp [zeroRK, zeroM]
  | [], _ :: _, _, h => by simp at h
  | _ :: _, [], _, h => by simp at h

theorem agrL_zero : ∀ {l : List KT}, (∀ x ∈ l, Agr (zeroR x) (zeroK x)) → AgrL (zeroRL l) (zeroL l)
  | [], _ => by simp [zeroRL, zeroL, AgrL]
  | t :: l, h => by
    simp only [zeroRL, zeroL, AgrL]
    exact ⟨h t (by simp), agrL_zero fun x hx => h x (by simp [hx])⟩

theorem agrM_zero : ∀ {l : List KT} {ns : List ByteArray} {lo : List Bool}, (∀ x ∈ l, Agr (zeroR x) (zeroK x)) → AgrL (zeroRM l ns lo) ((zeroM l ns lo).map (·.2))
  | t :: l, n :: ns, o :: lo, h => by
    have ih := agrM_zero (l := l) (ns := ns) (lo := lo) fun x hx => h x (by simp [hx])
    simp only [zeroRM, zeroM]; split
    · exact ih
    · simp only [List.map_cons, AgrL]; exact ⟨h t (by simp), ih⟩
  | [], _, _, _ => by simp [zeroRM, zeroM, AgrL]
  | _ :: _, [], _, _ => by simp [zeroRM, zeroM, AgrL]
  | _ :: _, _ :: _, [], _ => by simp [zeroRM, zeroM, AgrL]

theorem agr_zero : ∀ (t : KT), wfK t → Agr (zeroR t) (zeroK t) := by
  intro t
  induction t using KT.ind with
  | _ f l ns lo ih =>
  intro hwf
  simp only [wfK] at hwf
  obtain ⟨hf8, _, _, _, hfn, _, hlo, _, hr, hwl⟩ := hwf
  have ih' : ∀ x ∈ l, Agr (zeroR x) (zeroK x) := fun x hx => ih x hx (wfL_mem hwl hx)
  have hf : f = 0 ∨ f = 1 ∨ f = 2 ∨ f = 3 ∨ f = 4 ∨ f = 5 ∨ f = 6 ∨ f = 7 ∨ f = 8 := by omega
  rcases hf with rfl | rfl | rfl | rfl | rfl | rfl | rfl | rfl | rfl
  · exact ⟨rfl, rfl, rfl, rfl, rfl, trivial, rfl, trivial⟩
  · exact ⟨rfl, rfl, rfl, rfl, rfl, trivial, rfl, trivial⟩
  · exact ⟨rfl, rfl, rfl, rfl, rfl, trivial, rfl, trivial⟩
  · exact ⟨rfl, rfl, rfl, rfl, rfl, ⟨rfl, rfl⟩, rfl, trivial⟩
  · exact ⟨rfl, rfl, rfl, rfl, rfl, trivial, rfl, trivial⟩
  · exact ⟨rfl, rfl, rfl, rfl, rfl, trivial, rfl, trivial⟩
  · refine ⟨rfl, rfl, rfl, rfl, rfl, trivial, ?_, ?_⟩
    · show [] = skeys ([] : List (ByteArray × VT))
      rw [skeys_rises (es := ([] : List (ByteArray × VT))) trivial]; rfl
    · show AgrL [] (vitems (.map []))
      rw [vitems_rises (es := []) trivial]; trivial
  · exact ⟨rfl, rfl, rfl, rfl, rfl, trivial, rfl, agrL_zero ih'⟩
  · have hnl := hfn rfl
    have hr' : rises ((zeroM l ns lo).map (·.1)) := rises_sub (zeroM_sub l ns lo) hr
    refine ⟨rfl, rfl, rfl, rfl, rfl, trivial, ?_, ?_⟩
    · show zeroRK ns lo = skeys (zeroM l ns lo)
      rw [skeys_rises hr', zeroRK_eq l ns lo hnl.symm]
    · show AgrL (zeroRM l ns lo) (vitems (.map (zeroM l ns lo)))
      rw [vitems_rises hr']
      exact agrM_zero ih'

theorem okM_of : ∀ {l : List KT} {ns : List ByteArray} {lo : List Bool}, (∀ x ∈ l, okV (zeroK x)) → (∀ y ∈ ns, y.size ≤ 20) → okM (zeroM l ns lo)
  | t :: l, n :: ns, o :: lo, h, hz => by
    have ih := okM_of (l := l) (ns := ns) (lo := lo) (fun x hx => h x (by simp [hx])) (fun y hy => hz y (by simp [hy]))
    simp only [zeroM]; split
    · exact ih
    · simp only [okM]; exact ⟨by have := hz n (by simp); omega, h t (by simp), ih⟩
  | [], _, _, _, _ => by simp [zeroM, okM]
  | _ :: _, [], _, _, _ => by simp [zeroM, okM]
  | _ :: _, _ :: _, [], _, _ => by simp [zeroM, okM]

theorem okL_of : ∀ {l : List KT}, (∀ x ∈ l, okV (zeroK x)) → okL (zeroL l)
  | [], _ => by simp [zeroL, okL]
  | t :: l, h => by simp only [zeroL, okL]; exact ⟨h t (by simp), okL_of fun x hx => h x (by simp [hx])⟩

theorem ok_zero : ∀ (t : KT), wfK t → okV (zeroK t) := by
  intro t
  induction t using KT.ind with
  | _ f l ns lo ih =>
  intro hwf
  simp only [wfK] at hwf
  obtain ⟨hf8, hl16, _, _, hfn, _, hlo, hz, hr, hwl⟩ := hwf
  have ih' : ∀ x ∈ l, okV (zeroK x) := fun x hx => ih x hx (wfL_mem hwl hx)
  have hf : f = 0 ∨ f = 1 ∨ f = 2 ∨ f = 3 ∨ f = 4 ∨ f = 5 ∨ f = 6 ∨ f = 7 ∨ f = 8 := by omega
  rcases hf with rfl | rfl | rfl | rfl | rfl | rfl | rfl | rfl | rfl
  · trivial
  · trivial
  · trivial
  · trivial
  · show (noBytes).size ≤ 1000000; decide
  · exact ⟨Nat.zero_le _, trivial⟩
  · exact ⟨Nat.zero_le _, List.nodup_nil, trivial⟩
  · exact ⟨by rw [zeroL_len]; omega, okL_of ih'⟩
  · have hr' : rises ((zeroM l ns lo).map (·.1)) := rises_sub (zeroM_sub l ns lo) hr
    exact ⟨by have := zeroM_len l ns lo; omega, rises_nodup hr', okM_of ih' hz⟩

theorem inner_none {l : List KT} (h : ∀ x ∈ l, wrongK x (zeroK x) = none) : ∀ (k i : Nat) (ss : List StepV), i + k = l.length → innerF (wrongF l) i ((zeroL l).drop i) ss = none := by
  intro k
  induction k with
  | zero =>
    intro i ss hi
    have : (zeroL l).drop i = [] := by rw [List.drop_eq_nil_iff, zeroL_len]; omega
    rw [this]; cases ss <;> rfl
  | succ k ih =>
    intro i ss hi
    have hlt : i < l.length := by omega
    have hlt2 : i < (zeroL l).length := by rw [zeroL_len]; exact hlt
    obtain ⟨x, hx⟩ : ∃ x, l[i]? = some x := ⟨_, List.getElem?_eq_getElem hlt⟩
    have hz : ∀ {l : List KT} {i : Nat}, l[i]? = some x → (zeroL l)[i]? = some (zeroK x) := by
      intro l
      induction l with
      | nil => intro i h; simp at h
      | cons t l ih =>
        intro i h
        cases i with
        | zero => simp at h; subst h; simp [zeroL]
        | succ i => simp only [List.getElem?_cons_succ] at h; simpa [zeroL] using ih h
    have hzx := hz hx
    have hd : (zeroL l).drop i = zeroK x :: (zeroL l).drop (i + 1) := by
      rw [List.drop_eq_getElem_cons hlt2]; congr
      rw [List.getElem?_eq_getElem hlt2] at hzx; exact Option.some.inj hzx
    rw [hd]
    cases ss with
    | nil => rfl
    | cons s ss =>
      simp only [innerF, wrongF_len]
      rw [show min i (l.length - 1) = i by omega, wrongF_get hx]
      simp only [h x (List.mem_of_getElem? hx)]
      exact ih (i + 1) ss (by omega)

end Go.AV0

/- the law of zeros: a type takes its zero. -/
namespace Go.AV0
open Go.Proofs

theorem idxB_nodup : ∀ {ns : List ByteArray} {j k : Nat} {s : ByteArray}, ns.Nodup → ns[j]? = some s → idxB ns s k = some (k + j)
  | n :: ns, 0, k, s, _, h => by simp at h; subst h; simp [idxB]
  | n :: ns, j + 1, k, s, hn, h => by
    simp only [List.getElem?_cons_succ] at h
    rw [List.nodup_cons] at hn
    have hne : ¬ s = n := fun e => hn.1 (e ▸ List.mem_of_getElem? h)
    simp only [idxB]
    rw [if_neg hne, idxB_nodup hn.2 h]
    congr 1; omega
  | [], _, _, _, _, h => by simp at h

theorem zeroM_mem : ∀ {l : List KT} {ns : List ByteArray} {lo : List Bool} {k : ByteArray} {v : VT}, (k, v) ∈ zeroM l ns lo → ∃ (j : Nat) (t : KT), ns[j]? = some k ∧ l[j]? = some t ∧ v = zeroK t
  | t :: l, n :: ns, o :: lo, k, v, h => by
    simp only [zeroM] at h
    split at h
    · obtain ⟨j, x, h1, h2, h3⟩ := zeroM_mem h
      exact ⟨j + 1, x, by simpa using h1, by simpa using h2, h3⟩
    · rcases List.mem_cons.1 h with h | h
      · cases h; exact ⟨0, t, rfl, rfl, rfl⟩
      · obtain ⟨j, x, h1, h2, h3⟩ := zeroM_mem h
        exact ⟨j + 1, x, by simpa using h1, by simpa using h2, h3⟩
  | [], _, _, _, _, h => by simp [zeroM] at h
  | _ :: _, [], _, _, _, h => by simp [zeroM] at h
  | _ :: _, _ :: _, [], _, _, h => by simp [zeroM] at h

theorem obj_none {l : List KT} {ns : List ByteArray} (hn : ns.Nodup) (h : ∀ x ∈ l, wrongK x (zeroK x) = none) : ∀ (es : List (ByteArray × VT)), (∀ e ∈ es, ∃ (j : Nat) (t : KT), ns[j]? = some e.1 ∧ l[j]? = some t ∧ e.2 = zeroK t) → objF (wrongF l) ns (es.map (·.1)) (es.map (·.2)) = none
  | [], _ => rfl
  | e :: es, he => by
    obtain ⟨j, t, h1, h2, h3⟩ := he e (by simp)
    have ih := obj_none hn h es fun x hx => he x (by simp [hx])
    simp only [List.map_cons, objF]
    rw [idxB_nodup hn h1]
    simp only [Nat.zero_add, Option.bind_some, wrongF_get h2]
    rw [h3, h t (List.mem_of_getElem? h2)]
    exact ih

theorem vget_mem : ∀ {es : List (ByteArray × VT)} {k : ByteArray}, k ∈ es.map (·.1) → (vget es k).isSome = true := by
  intro es k h
  cases hg : vget es k with
  | some x => rfl
  | none => exact absurd h (vget_none.1 hg)

theorem miss_none (v : VT) : ∀ (ns : List ByteArray) (lo : List Bool), (∀ (j : Nat) s, ns[j]? = some s → lo[j]? = some false → (vAt v s).isSome = true) → missK v ns lo = []
  | s :: ns, q :: lo, h => by
    have ih := miss_none v ns lo fun j s h1 h2 => h (j + 1) s (by simpa using h1) (by simpa using h2)
    simp only [missK]
    cases q with
    | true => rw [if_pos (.inr rfl)]; exact ih
    | false => rw [if_pos (.inl (h 0 s rfl rfl))]; exact ih
  | [], _, _ => by simp [missK]
  | _ :: _, [], _ => by simp [missK]

theorem zeroM_has : ∀ {l : List KT} {ns : List ByteArray} {lo : List Bool}, ns.length = l.length → ∀ (j : Nat) s, ns[j]? = some s → lo[j]? = some false → s ∈ (zeroM l ns lo).map (·.1)
  | t :: l, n :: ns, o :: lo, hl, 0, s, h1, h2 => by
    simp at h1 h2; subst h1; subst h2
    simp [zeroM]
  | t :: l, n :: ns, o :: lo, hl, j + 1, s, h1, h2 => by
    have ih := zeroM_has (l := l) (ns := ns) (lo := lo) (by simpa using hl) j s (by simpa using h1) (by simpa using h2)
    simp only [zeroM]; split
    · exact ih
    · simp only [List.map_cons, List.mem_cons]; exact .inr ih
  | [], n :: ns, _, hl, _, _, _, _ => by simp at hl
  | _, [], _, _, _, _, h1, _ => by simp at h1
  | _, _, [], _, _, _, _, h2 => by simp at h2

theorem wrong_zero : ∀ (t : KT), wfK t → wrongK t (zeroK t) = none := by
  intro t
  induction t using KT.ind with
  | _ f l ns lo ih =>
  intro hwf
  simp only [wfK] at hwf
  obtain ⟨hf8, _, _, _, hfn, _, hlo, _, hr, hwl⟩ := hwf
  have ih' : ∀ x ∈ l, wrongK x (zeroK x) = none := fun x hx => ih x hx (wfL_mem hwl hx)
  have hf : f = 0 ∨ f = 1 ∨ f = 2 ∨ f = 3 ∨ f = 4 ∨ f = 5 ∨ f = 6 ∨ f = 7 ∨ f = 8 := by omega
  rcases hf with rfl | rfl | rfl | rfl | rfl | rfl | rfl | rfl | rfl
  · rfl
  · rfl
  · rfl
  · rfl
  · rfl
  · show innerF (wrongF l) 0 [] [] = none
    rfl
  · show innerF (wrongF l) 0 (vitems (.map [])) ((skeys ([] : List (ByteArray × VT))).map keyS) = none
    rw [vitems_rises (es := []) trivial]; rfl
  · have h7 : ¬ (7 = 7 ∧ (vitems (zeroK (KT.mk 7 l ns lo))).length ≠ l.length) := fun h => h.2 (zeroL_len l)
    have := inner_none ih' l.length 0 ((List.range (zeroL l).length).map placeS) (by omega)
    rw [List.drop_zero] at this
    exact (if_neg h7).trans this
  · have hr' : rises ((zeroM l ns lo).map (·.1)) := rises_sub (zeroM_sub l ns lo) hr
    have ho := obj_none (rises_nodup hr) ih' (zeroM l ns lo) fun e he => zeroM_mem (k := e.1) (v := e.2) he
    have hm := miss_none (.map (zeroM l ns lo)) ns lo fun j s h1 h2 => vget_mem (zeroM_has (hfn rfl) j s h1 h2)
    show (match objF (wrongF l) ns (skeys (zeroM l ns lo)) (vitems (.map (zeroM l ns lo))) with
      | some p => some p
      | none => match missK (.map (zeroM l ns lo)) ns lo with
        | s :: _ => some [keyS s]
        | [] => none) = none
    rw [skeys_rises hr', vitems_rises hr', ho, hm]

end Go.AV0

