/- KindPartsUptoSaid: of any type what it holds, for each text, value, number and key of bulk at most 1048576. This text: T10, P1, P2, P3, R1, R2, R6, U1, K6, K7, K8, R3, R4, R5, P4, P5, L1, L3. -/
import Derived.Test.YthbglcdcfdjbbaaGreatMe
import Derived.Test.YthbglcdcfdjbbaaGreatRows
import Derived.HandedShaped
import Derived.ProofKit
/- kind: Print, Same. -/
namespace Go.AV0
open Go.Proofs

set_option maxRecDepth 20000 in
set_option maxHeartbeats 4000000 in
theorem print_t : ∀ (t : KT), wfK t → kDeep t ≤ 8 → PrintC t := by
  intro t
  induction t using KT.ind with
  | _ f l ns lo ih =>
  intro hwf hd
  have hd : kDeepL l + 1 ≤ 8 := hd
  have hwf0 := hwf
  simp only [wfK] at hwf
  obtain ⟨hf8, hl16, _, hf56, hfn, _, hlo, hns, _, hwl⟩ := hwf
  have hih : ∀ x ∈ l, PrintC x := fun x hx => ih x hx (wfL_mem hwl hx) (by have := kDeepL_mem hx; omega)
  have hB : 1000 * 17 ^ kDeepL l ≤ 410338673000 := by
    have : 17 ^ kDeepL l ≤ 17 ^ 7 := Nat.pow_le_pow_right (by omega) (by omega)
    have e : (17 : Nat) ^ 7 = 410338673 := by decide
    omega
  have hkid : ∀ p ∈ prL l, p.size ≤ 410338673000 := fun p hp => Nat.le_trans (kid_le (l := l) (fun x hx => pr_le x (wfL_mem hwl hx)) p hp) hB
  have hs1 := sumZ_le hkid
  have hfl : ∀ i, ∀ x ∈ flds (ns.take i) (lo.take i) (prL l), x.size ≤ 20 + 2 + 410338673000 := fun i => flds_le (fun x hx => hns x (List.mem_of_mem_take hx)) hkid
  have hs2 := sumZ_le (hfl l.length)
  rw [flds_len] at hs2
  rw [prL_len] at hs1 hs2
  have hcz : sComma.size = 1 := rfl
  unfold PrintC
  refine apure_of hTS Tryz.func24 (by kernel_rfl) rfl rfl rfl ?_
  repeat' (first | refine bsplit_t (by first | with_reducible assumption | with_reducible rfl | with_reducible exact Bool.not_true | with_reducible exact Bool.not_false) ?_ | refine bsplit_f (by first | with_reducible assumption | with_reducible rfl | with_reducible exact Bool.not_true | with_reducible exact Bool.not_false) ?_ | fail)
  refine call_obj (all_i l (by omega) hih) [] rfl rfl rfl ?_
  rintro _ _ ⟨rfl, rfl⟩
  refine bsplit_d (fun h5 _ => ?_) (fun h5 _ => ?_)
  · have h5 : f = 5 := by omega
    subst h5
    have hl1 := hf56 (.inl rfl)
    obtain ⟨x, rfl⟩ : ∃ x, l = [x] := by
      cases l with
      | nil => cases hl1
      | cons x r => cases r with
        | nil => exact ⟨x, rfl⟩
        | cons y r => simp at hl1
    have hx := hkid (prK x) (by simp [prL])
    refine elev (by decide) [AV.c (.string (prK x))] rfl ?_
    refine elev (by decide) [AV.c (.string (prK x))] rfl ?_
    refine side (by show 5 + (prK x).size ≤ _; omega) ?_
    refine side (by simp only [ByteArray.size_append]; show 5 + (prK x).size + 1 ≤ _; omega) ?_
    show AV.c _ = _
    rfl
  refine bsplit_d (fun h6 _ => ?_) (fun h6 _ => ?_)
  · have h6 : f = 6 := by omega
    subst h6
    have hl1 := hf56 (.inr rfl)
    obtain ⟨x, rfl⟩ : ∃ x, l = [x] := by
      cases l with
      | nil => cases hl1
      | cons x r => cases r with
        | nil => exact ⟨x, rfl⟩
        | cons y r => simp at hl1
    have hx := hkid (prK x) (by simp [prL])
    refine elev (by decide) [AV.c (.string (prK x))] rfl ?_
    refine elev (by decide) [AV.c (.string (prK x))] rfl ?_
    refine side (by show 4 + (prK x).size ≤ _; omega) ?_
    refine side (by simp only [ByteArray.size_append]; show 4 + (prK x).size + 1 ≤ _; omega) ?_
    show AV.c _ = _
    rfl
  refine bsplit_d (fun h7 _ => ?_) (fun h7 _ => ?_)
  · have h7 : f = 7 := by omega
    subst h7
    have hj := joinB_le (prL l) sComma
    rw [prL_len, hcz] at hj
    refine call_frz 0 rfl rfl ?_
    refine call_pure (join_v (prL l) sComma (by rw [prL_len]; omega) (by rw [prL_len, hcz]; omega)) rfl ?_
    rintro _ rfl
    refine side (by show 1 + (joinB (prL l) sComma).size ≤ _; omega) ?_
    refine side (by simp only [ByteArray.size_append]; show 1 + (joinB (prL l) sComma).size + 1 ≤ _; omega) ?_
    show AV.c _ = _
    rfl
  refine bsplit_d (fun h8 _ => ?_) (fun h8 _ => ?_)
  · have h8 : f = 8 := by omega
    subst h8
    have hnl := hfn rfl
    refine loop_on hTS (X := Nat) (fun i => i ≤ l.length)
      (fun i => ⟨[(0, .v (kp (.mk 8 l ns lo))), (3, .ms 0), (43, .v (.sl (nmA ns))), (44, .v (.c (.int .i64 ((nmA ns).length : Int)))), (45, .v (.c (.int .i64 (i : Int))))], []⟩)
      (fun i => [.arr 9 1 (nmA (flds (ns.take i) (lo.take i) (prL l)))]) (fun i => l.length - i) 0 (Nat.zero_le _) ⟨rfl, rfl, ⟨⟨rfl, rfl⟩, ⟨rfl, rfl⟩, ⟨rfl, rfl⟩, ⟨rfl, rfl⟩, ⟨rfl, rfl⟩, trivial⟩, ⟨_, by show (_ : List SO) = [.arr 9 1 (nmA (flds (ns.take 0) (lo.take 0) (prL l)))] ++ _; rw [show flds (ns.take 0) (lo.take 0) (prL l) = prL l by simp [flds]]; rfl⟩, rfl⟩ ?_
    intro i hi
    refine bsplit_d (fun h1 _ => ?_) (fun h1 _ => ?_)
    · rw [nmA_len] at h1
      obtain ⟨x, hx⟩ : ∃ x, l[i]? = some x := ⟨_, List.getElem?_eq_getElem (by omega)⟩
      obtain ⟨s, hs⟩ : ∃ x, ns[i]? = some x := ⟨_, List.getElem?_eq_getElem (by omega)⟩
      obtain ⟨q, hq⟩ : ∃ x, lo[i]? = some x := ⟨_, List.getElem?_eq_getElem (by omega)⟩
      have hp := prL_get hx
      obtain ⟨hg1, hg2⟩ := flds_get hs hq hp
      have hsz1 := hns s (List.mem_of_getElem? hs)
      have hsz2 := hkid (prK x) (List.mem_of_getElem? hp)
      have hlen : i < (nmA (flds (ns.take i) (lo.take i) (prL l))).length := by rw [nmA_len, flds_len, prL_len]; omega
      refine elev (Int.natCast_nonneg _) [AV.c (.string s)] (nmA_get _ _ _ hs) ?_
      refine elev (Int.natCast_nonneg _) [AV.c (.bool q)] (boA_get _ _ _ hq) ?_
      cases q with
      | true =>
        repeat' (first | refine bsplit_t (by first | with_reducible assumption | with_reducible rfl | with_reducible exact Bool.not_true | with_reducible exact Bool.not_false) ?_ | refine bsplit_f (by first | with_reducible assumption | with_reducible rfl | with_reducible exact Bool.not_true | with_reducible exact Bool.not_false) ?_ | fail)
        refine side (by show s.size + 2 ≤ _; omega) ?_
        refine elev (Int.natCast_nonneg _) [AV.c (.string (prK x))] (nmA_get _ _ _ hg1) ?_
        refine elev (Int.natCast_nonneg _) [AV.c (.string (prK x))] (nmA_get _ _ _ hg1) ?_
        refine side (by simp only [ByteArray.size_append]; show s.size + 2 + (prK x).size ≤ _; omega) ?_
        refine elev (Int.natCast_nonneg _) [AV.c (.string (prK x))] (nmA_get _ _ _ hg1) ?_
        refine side hlen ?_
        refine ⟨i + 1, by omega, (by dsimp only; omega), ⟨rfl, rfl, ⟨⟨rfl, rfl⟩, ⟨rfl, rfl⟩, ⟨rfl, rfl⟩, ⟨rfl, rfl⟩, ⟨congrArg (fun x => some (SV.v (AV.c (.int .i64 x)))) (inc (k := i) (by omega)), rfl⟩, trivial⟩, ⟨_, by
          show (_ : List SO) = [.arr 9 1 (nmA (flds (ns.take (i + 1)) (lo.take (i + 1)) (prL l)))] ++ _
          rw [hg2, nmA_set]; rfl⟩, rfl⟩⟩
      | false =>
        repeat' (first | refine bsplit_t (by first | with_reducible assumption | with_reducible rfl | with_reducible exact Bool.not_true | with_reducible exact Bool.not_false) ?_ | refine bsplit_f (by first | with_reducible assumption | with_reducible rfl | with_reducible exact Bool.not_true | with_reducible exact Bool.not_false) ?_ | fail)
        refine side (by show s.size + 1 ≤ _; omega) ?_
        refine elev (Int.natCast_nonneg _) [AV.c (.string (prK x))] (nmA_get _ _ _ hg1) ?_
        refine elev (Int.natCast_nonneg _) [AV.c (.string (prK x))] (nmA_get _ _ _ hg1) ?_
        refine side (by simp only [ByteArray.size_append]; show s.size + 1 + (prK x).size ≤ _; omega) ?_
        refine elev (Int.natCast_nonneg _) [AV.c (.string (prK x))] (nmA_get _ _ _ hg1) ?_
        refine side hlen ?_
        refine ⟨i + 1, by omega, (by dsimp only; omega), ⟨rfl, rfl, ⟨⟨rfl, rfl⟩, ⟨rfl, rfl⟩, ⟨rfl, rfl⟩, ⟨rfl, rfl⟩, ⟨congrArg (fun x => some (SV.v (AV.c (.int .i64 x)))) (inc (k := i) (by omega)), rfl⟩, trivial⟩, ⟨_, by
          show (_ : List SO) = [.arr 9 1 (nmA (flds (ns.take (i + 1)) (lo.take (i + 1)) (prL l)))] ++ _
          rw [hg2, nmA_set]; rfl⟩, rfl⟩⟩
    · rw [nmA_len] at h1
      have hil : i = l.length := by omega
      subst hil
      have hj := joinB_le (flds (ns.take l.length) (lo.take l.length) (prL l)) sComma
      rw [flds_len, prL_len, hcz] at hj
      refine call_frz 0 rfl rfl ?_
      refine call_pure (join_v (flds (ns.take l.length) (lo.take l.length) (prL l)) sComma (by rw [flds_len, prL_len]; omega) (by rw [flds_len, prL_len, hcz]; omega)) rfl ?_
      rintro _ rfl
      refine side (by show 1 + (joinB (flds (ns.take l.length) (lo.take l.length) (prL l)) sComma).size ≤ _; omega) ?_
      refine side (by simp only [ByteArray.size_append]; show 1 + (joinB (flds (ns.take l.length) (lo.take l.length) (prL l)) sComma).size + 1 ≤ _; omega) ?_
      show AV.c (.string (_ ++ joinB (flds (ns.take l.length) (lo.take l.length) (prL l)) sComma ++ _)) = _
      rw [show ns.take l.length = ns by rw [← hnl, List.take_length], show lo.take l.length = lo by rw [← hnl, ← hlo, List.take_length]]
      rfl
  · have hf : f < 5 := by omega
    refine draw_ev hTS (by kernel_rfl) (.pur 1 (.pur 2 (.pur 3 (.part [] [] (.take 4 (.one 0 (.pur 5 (.pur 6 .done)))))))) (by kernel_rfl) ?_
    refine call_pure words_c rfl ?_
    rintro _ rfl
    have hf : f = 0 ∨ f = 1 ∨ f = 2 ∨ f = 3 ∨ f = 4 := by omega
    rcases hf with rfl | rfl | rfl | rfl | rfl
    · refine side (by decide) ?_
      refine elev (by decide) (AV.c (.string wAny)) rfl ?_
      show AV.c _ = _
      rfl
    · refine side (by decide) ?_
      refine elev (by decide) (AV.c (.string wBool)) rfl ?_
      show AV.c _ = _
      rfl
    · refine side (by decide) ?_
      refine elev (by decide) (AV.c (.string wInt)) rfl ?_
      show AV.c _ = _
      rfl
    · refine side (by decide) ?_
      refine elev (by decide) (AV.c (.string wPoint)) rfl ?_
      show AV.c _ = _
      rfl
    · refine side (by decide) ?_
      refine elev (by decide) (AV.c (.string wText)) rfl ?_
      show AV.c _ = _
      rfl

end Go.AV0
/- the law of texts: a type that is read has that text, printed again. -/
namespace Go.AV0
open Go.Proofs

theorem ba_eq {a b : ByteArray} (h : a.data.toList = b.data.toList) : a = b := by
  cases a; cases b
  congr
  exact Array.toList_inj.1 h

theorem extract_list (s : ByteArray) (a b : Nat) : (s.extract a b).data.toList = (s.data.toList.drop a).take (b - a) := by
  rw [ByteArray.data_extract, Array.toList_extract, List.extract_eq_take_drop]

theorem app_list (a b : ByteArray) : (a ++ b).data.toList = a.data.toList ++ b.data.toList := by
  rw [ByteArray.data_append, Array.toList_append]

theorem ex_app {s : ByteArray} {a b c : Nat} (h1 : a ≤ b) (h2 : b ≤ c) : s.extract a b ++ s.extract b c = s.extract a c := by
  apply ba_eq
  rw [app_list, extract_list, extract_list, extract_list]
  obtain ⟨i, rfl⟩ := Nat.exists_eq_add_of_le h1
  obtain ⟨j, rfl⟩ := Nat.exists_eq_add_of_le h2
  rw [show a + i + j - a = i + j by omega, show a + i - a = i by omega, show a + i + j - (a + i) = j by omega, List.take_add, List.drop_drop]

theorem ex_self (s : ByteArray) (a : Nat) : s.extract a a = ⟨#[]⟩ := by
  apply ba_eq
  rw [extract_list]; simp

theorem ex_stands {s : ByteArray} {n : Nat} {c : UInt8} (h : stands s n (c.toNat : Int) = true) : s.extract n (n + 1) = ⟨#[c]⟩ := by
  unfold stands at h
  split at h
  · rename_i u hu
    have : u = c := UInt8.toNat_inj.1 (by have := of_decide_eq_true h; omega)
    subst this
    apply ba_eq
    rw [extract_one hu]
  · cases h

theorem ex_pref {s w : ByteArray} {n : Nat} (hn : n ≤ s.size) (h : prefB s n w = true) : s.extract n (n + w.size) = w := by
  simp only [prefB, Bool.and_eq_true, decide_eq_true_iff] at h
  have hs : s.data.toList.length = s.size := by simp
  have h2 : ((s.extract n s.size).extract 0 w.size).data.toList = w.data.toList := congrArg (fun b => b.data.toList) h.2
  apply ba_eq
  rw [← h2, extract_list s n (n + w.size), extract_list (s.extract n s.size) 0 w.size, extract_list s n s.size]
  have e : (s.data.toList.drop n).take (s.size - n) = s.data.toList.drop n := List.take_of_length_le (by rw [List.length_drop]; omega)
  rw [e, List.drop_zero, Nat.sub_zero, show n + w.size - n = w.size by omega]

theorem joinB_snoc (y sep : ByteArray) : ∀ (xs : List ByteArray), joinB (xs ++ [y]) sep = if xs = [] then y else joinB xs sep ++ sep ++ y
  | [] => by
    apply ba_eq
    simp [joinB, Lib.join]
  | [x] => by
    apply ba_eq
    simp [joinB, Lib.join, List.intercalate]
  | x :: x2 :: l => by
    have ih := joinB_snoc y sep (x2 :: l)
    have e : ∀ (z : ByteArray) (r : List ByteArray), joinB (x :: z :: r) sep = x ++ sep ++ joinB (z :: r) sep := by
      intro z r
      apply ba_eq
      simp [joinB, Lib.join, List.intercalate]
    rw [if_neg (by simp)] at ih ⊢
    rw [List.cons_append, List.cons_append, e, e, ← List.cons_append, ih]
    apply ba_eq
    simp

theorem flds_snoc (s : ByteArray) (q : Bool) (p : ByteArray) : ∀ (ns : List ByteArray) (lo : List Bool) (ps : List ByteArray), ns.length = ps.length → lo.length = ps.length → flds (ns ++ [s]) (lo ++ [q]) (ps ++ [p]) = flds ns lo ps ++ [fldB s q p]
  | [], [], [], _, _ => by simp [flds]
  | n :: ns, o :: lo, r :: ps, h1, h2 => by
    simp only [List.cons_append, flds]
    rw [flds_snoc s q p ns lo ps (by simpa using h1) (by simpa using h2)]
  | _ :: _, _, [], h, _ => by simp at h
  | [], _, _ :: _, h, _ => by simp at h
  | _, _ :: _, [], _, h => by simp at h
  | _, [], _ :: _, _, h => by simp at h

theorem nameLen_le (s : ByteArray) (n : Nat) (hn : n ≤ s.size) : n + nameLen s n ≤ s.size := by
  have hsz : s.data.toList.length = s.size := by simp
  have h := (nameLen_end s n).1
  rcases Nat.eq_zero_or_pos (nameLen s n) with h0 | h0
  · omega
  · obtain ⟨u, hu, _⟩ := h (nameLen s n - 1) (by omega)
    have := get_lt hu
    omega

theorem slt_iff {a b : ByteArray} : slt a b = decide (a.data.toList < b.data.toList) := by
  unfold slt
  rw [bytesLess_eq]
  simp [ByteArray.toList_eq]

theorem rises_snoc {y : ByteArray} : ∀ {l : List ByteArray}, rises l → badOrder l y = false → rises (l ++ [y])
  | [], _, _ => by simp [rises]
  | [x], _, h => by
    simp only [badOrder, List.getLast?_singleton, Bool.or_eq_false_iff, decide_eq_false_iff_not] at h
    rw [slt_iff, decide_eq_false_iff_not] at h
    simp only [List.singleton_append, rises, List.mem_singleton]
    refine ⟨?_, by simp, trivial⟩
    rintro z rfl
    by_cases h2 : x.data.toList < z.data.toList
    · exact h2
    · exact absurd (ba_eq (List.le_antisymm (List.not_lt.1 h2) (List.not_lt.1 h.1))) h.2
  | x :: z :: l, hr, h => by
    have h' : badOrder (z :: l) y = false := by
      unfold badOrder at h ⊢
      rw [List.getLast?_cons_cons] at h
      exact h
    have ih := rises_snoc hr.2 h'
    refine ⟨?_, ih⟩
    intro w hw
    have hz := hr.1 z (by simp)
    rcases List.mem_append.1 hw with hw | hw
    · exact hr.1 w hw
    · have hw := List.mem_singleton.1 hw
      rw [hw]
      have : z.data.toList < y.data.toList := ih.1 y (by simp)
      exact List.lt_trans hz this

end Go.AV0
/- the law of texts: a type that is read has that text, printed again. -/
namespace Go.AV0
open Go.Proofs

def OkT (s : ByteArray) (f n : Nat) (t : KT) (m : Nat) : Prop := n ≤ m ∧ m ≤ s.size ∧ wfK t ∧ kDeep t ≤ f ∧ prK t = s.extract n m

def JT (s : ByteArray) (ps : List ByteArray) (start n : Nat) : Prop := (ps = [] ∧ start = n) ∨ (ps ≠ [] ∧ joinB ps sComma ++ sComma = s.extract start n)

theorem JT.snoc {s : ByteArray} {ps : List ByteArray} {start n m : Nat} {p : ByteArray} (h : JT s ps start n) (h0 : start ≤ n) (h1 : n ≤ m) (hp : p = s.extract n m) : joinB (ps ++ [p]) sComma = s.extract start m := by
  rw [joinB_snoc]
  rcases h with ⟨rfl, rfl⟩ | ⟨h2, h3⟩
  · rw [if_pos rfl, hp]
  · rw [if_neg h2, h3, hp, ex_app h0 h1]

theorem pTup_ok {s : ByteArray} {P : Nat → Option (KT × Nat)} {f : Nat} (hP : ∀ n t m, n ≤ s.size → P n = some (t, m) → OkT s f n t m) : ∀ (k : Nat) (acc : List KT) (n start : Nat) (t : KT) (m : Nat), start ≤ n → n ≤ s.size → acc.length + k = 16 → wfL acc → kDeepL acc ≤ f → JT s (prL acc) start n → pTup P s k acc n = some (t, m) →
    n ≤ m ∧ m ≤ s.size ∧ ∃ l, t = .mk 7 l [] [] ∧ l.length ≤ 16 ∧ wfL l ∧ kDeepL l ≤ f ∧ joinB (prL l) sComma ++ ⟨#[93]⟩ = s.extract start m
  | 0, acc, n, start, t, m, _, _, _, _, _, _, h => by simp [pTup] at h
  | k + 1, acc, n, start, t, m, h0, hn, hk, hw, hd, hJ, h => by
    simp only [pTup] at h
    cases hx : P n with
    | none => rw [hx] at h; cases h
    | some y =>
      obtain ⟨x, m1⟩ := y
      rw [hx] at h
      simp only at h
      obtain ⟨p1, p2, p3, p4, p5⟩ := hP n x m1 hn hx
      have hj := hJ.snoc h0 p1 p5
      have hwl := wfL_app hw p3
      have hdl : kDeepL (acc ++ [x]) ≤ f := by rw [kDeepL_app]; omega
      split at h
      · rename_i h93
        cases h
        have hlt := stands_lt h93
        refine ⟨by omega, by omega, acc ++ [x], rfl, by simp; omega, hwl, hdl, ?_⟩
        rw [prL_app, hj, ← ex_stands (c := 93) h93, ex_app (by omega) (by omega)]
      · split at h
        · rename_i h44
          have hlt := stands_lt h44
          have hJ' : JT s (prL (acc ++ [x])) start (m1 + 1) := by
            refine .inr ⟨by rw [prL_app]; simp, ?_⟩
            rw [prL_app, hj]
            have e : sComma = s.extract m1 (m1 + 1) := (ex_stands (c := 44) h44).symm
            rw [e, ex_app (by omega) (by omega)]
          obtain ⟨q1, q2, q3⟩ := pTup_ok hP k (acc ++ [x]) (m1 + 1) start t m (by omega) (by omega) (by simp; omega) hwl hdl hJ' h
          exact ⟨by omega, q2, q3⟩
        · cases h

theorem pFld_ok {s : ByteArray} {P : Nat → Option (KT × Nat)} {f : Nat} (hP : ∀ n t m, n ≤ s.size → P n = some (t, m) → OkT s f n t m) {ns : List ByteArray} {n : Nat} {x : KT} {nm : ByteArray} {q : Bool} {m : Nat} (hn : n ≤ s.size) (h : pFld P s ns n = some (x, nm, q, m)) :
    n ≤ m ∧ m ≤ s.size ∧ wfK x ∧ kDeep x ≤ f ∧ nm.size ≤ 20 ∧ badOrder ns nm = false ∧ fldB nm q (prK x) = s.extract n m := by
  unfold pFld at h
  split at h
  · cases h
  rename_i hnl
  split at h
  · cases h
  rename_i hbo
  have hle := nameLen_le s n hn
  cases hq : stands s (n + nameLen s n) 63 with
  | true =>
    rw [hq] at h
    simp only [if_true] at h
    split at h
    · rename_i h58
      have hlt := stands_lt h58
      cases hx : P (n + nameLen s n + 1 + 1) with
      | none => rw [hx] at h; cases h
      | some y =>
        obtain ⟨x', m'⟩ := y
        rw [hx] at h
        cases h
        obtain ⟨p1, p2, p3, p4, p5⟩ := hP _ _ _ (by omega) hx
        have hcolon := ex_stands (c := 58) h58
        refine ⟨by omega, p2, p3, p4, ?_, by simpa using hbo, ?_⟩
        · rw [ByteArray.size_extract]; omega
        · have hquest := ex_stands (c := 63) hq
          have e : (⟨#[63, 58]⟩ : ByteArray) = ⟨#[63]⟩ ++ ⟨#[58]⟩ := rfl
          unfold fldB
          rw [if_pos rfl, e, ← hquest, ← hcolon, p5, ex_app (by omega) (by omega), ex_app (by omega) (by omega), ex_app (by omega) (by omega)]
    · cases h
  | false =>
    rw [hq] at h
    simp only [Bool.false_eq_true, if_false] at h
    split at h
    · rename_i h58
      have hlt := stands_lt h58
      cases hx : P (n + nameLen s n + 1) with
      | none => rw [hx] at h; cases h
      | some y =>
        obtain ⟨x', m'⟩ := y
        rw [hx] at h
        cases h
        obtain ⟨p1, p2, p3, p4, p5⟩ := hP _ _ _ (by omega) hx
        have hcolon := ex_stands (c := 58) h58
        refine ⟨by omega, p2, p3, p4, ?_, by simpa using hbo, ?_⟩
        · rw [ByteArray.size_extract]; omega
        · unfold fldB
          rw [if_neg (by simp), ← hcolon, p5, ex_app (by omega) (by omega), ex_app (by omega) (by omega)]
    · cases h

theorem pObj_ok {s : ByteArray} {P : Nat → Option (KT × Nat)} {f : Nat} (hP : ∀ n t m, n ≤ s.size → P n = some (t, m) → OkT s f n t m) : ∀ (k : Nat) (l : List KT) (ns : List ByteArray) (lo : List Bool) (n start : Nat) (t : KT) (m : Nat), start ≤ n → n ≤ s.size → l.length + k = 16 → ns.length = l.length → lo.length = l.length → wfL l → kDeepL l ≤ f → rises ns → (∀ y ∈ ns, y.size ≤ 20) → JT s (flds ns lo (prL l)) start n → pObj P s k l ns lo n = some (t, m) →
    n ≤ m ∧ m ≤ s.size ∧ ∃ l ns lo, t = .mk 8 l ns lo ∧ l.length ≤ 16 ∧ ns.length = l.length ∧ lo.length = l.length ∧ wfL l ∧ kDeepL l ≤ f ∧ rises ns ∧ (∀ y ∈ ns, y.size ≤ 20) ∧ joinB (flds ns lo (prL l)) sComma ++ ⟨#[125]⟩ = s.extract start m
  | 0, l, ns, lo, n, start, t, m, _, _, _, _, _, _, _, _, _, _, h => by simp [pObj] at h
  | k + 1, l, ns, lo, n, start, t, m, h0, hn, hk, e1, e2, hw, hd, hr, hz, hJ, h => by
    simp only [pObj] at h
    cases hx : pFld P s ns n with
    | none => rw [hx] at h; cases h
    | some y =>
      obtain ⟨x, nm, q, m1⟩ := y
      rw [hx] at h
      simp only at h
      obtain ⟨p1, p2, p3, p4, p5, p6, p7⟩ := pFld_ok hP hn hx
      have hfl : flds (ns ++ [nm]) (lo ++ [q]) (prL (l ++ [x])) = flds ns lo (prL l) ++ [fldB nm q (prK x)] := by
        rw [prL_app, flds_snoc _ _ _ _ _ _ (by rw [prL_len, e1]) (by rw [prL_len, e2])]
      have hj := hJ.snoc h0 p1 p7
      rw [← hfl] at hj
      have hwl := wfL_app hw p3
      have hdl : kDeepL (l ++ [x]) ≤ f := by rw [kDeepL_app]; omega
      have hr' := rises_snoc hr p6
      have hz' : ∀ y ∈ ns ++ [nm], y.size ≤ 20 := by
        intro y hy
        rcases List.mem_append.1 hy with hy | hy
        · exact hz y hy
        · rw [List.mem_singleton.1 hy]; exact p5
      split at h
      · rename_i h125
        cases h
        have hlt := stands_lt h125
        refine ⟨by omega, by omega, l ++ [x], ns ++ [nm], lo ++ [q], rfl, by simp; omega, by simp [e1], by simp [e2], hwl, hdl, hr', hz', ?_⟩
        rw [hj, ← ex_stands (c := 125) h125, ex_app (by omega) (by omega)]
      · split at h
        · rename_i h44
          have hlt := stands_lt h44
          have hJ' : JT s (flds (ns ++ [nm]) (lo ++ [q]) (prL (l ++ [x]))) start (m1 + 1) := by
            refine .inr ⟨by rw [hfl]; simp, ?_⟩
            rw [hj]
            have e : sComma = s.extract m1 (m1 + 1) := (ex_stands (c := 44) h44).symm
            rw [e, ex_app (by omega) (by omega)]
          obtain ⟨q1, q2, q3⟩ := pObj_ok hP k (l ++ [x]) (ns ++ [nm]) (lo ++ [q]) (m1 + 1) start t m (by omega) (by omega) (by simp; omega) (by simp [e1]) (by simp [e2]) hwl hdl hr' hz' hJ' h
          exact ⟨by omega, q2, q3⟩
        · cases h

end Go.AV0
/- the law of texts: a type that is read has that text, printed again. -/
namespace Go.AV0
open Go.Proofs

theorem hitW_inv {s : ByteArray} {n : Nat} : ∀ {l : List ByteArray} {k i z : Nat}, hitW s n l k = some (i, z) → k ≤ i ∧ ∃ w, l[i - k]? = some w ∧ z = w.size ∧ prefB s n w = true
  | [], k, i, z, h => by simp [hitW] at h
  | w :: l, k, i, z, h => by
    simp only [hitW] at h
    split at h
    · rename_i hp
      cases h
      exact ⟨Nat.le_refl _, w, by simp, rfl, hp⟩
    · obtain ⟨h1, v, h2, h3, h4⟩ := hitW_inv h
      refine ⟨by omega, v, ?_, h3, h4⟩
      rw [show i - k = (i - (k + 1)) + 1 by omega, List.getElem?_cons_succ]; exact h2

theorem wfL_nil : wfL [] := trivial

theorem wf_plain {i : Nat} (h : i < 5) : wfK (.mk i [] [] []) := by
  simp only [wfK]
  exact ⟨by omega, by simp, by simp, fun h' => by omega, fun h' => by omega, by simp, by simp, by simp, trivial, trivial⟩

theorem wf_single {i : Nat} {x : KT} (h : i = 5 ∨ i = 6) (hx : wfK x) : wfK (.mk i [x] [] []) := by
  simp only [wfK]
  exact ⟨by omega, by simp, fun h' => by omega, by simp, fun h' => by omega, by simp, by simp, by simp, trivial, by simp only [wfL]; exact ⟨hx, trivial⟩⟩

theorem wf_tup {l : List KT} (h : l.length ≤ 16) (hl : wfL l) : wfK (.mk 7 l [] []) := by
  simp only [wfK]
  exact ⟨by omega, h, fun h' => by omega, fun h' => by omega, fun h' => by omega, by simp, by simp, by simp, trivial, hl⟩

theorem wf_obj {l : List KT} {ns : List ByteArray} {lo : List Bool} (h : l.length ≤ 16) (hl : wfL l) (h1 : ns.length = l.length) (h2 : lo.length = l.length) (hr : rises ns) (hz : ∀ y ∈ ns, y.size ≤ 20) : wfK (.mk 8 l ns lo) := by
  simp only [wfK]
  exact ⟨by omega, h, fun h' => by omega, fun h' => by omega, fun _ => h1, fun h' => absurd rfl h', by omega, hz, hr, hl⟩

theorem pType_ok (s : ByteArray) : ∀ (f n : Nat) (t : KT) (m : Nat), n ≤ s.size → pType s f n = some (t, m) → OkT s f n t m := by
  intro f
  induction f with
  | zero => intro n t m _ h; simp [pType] at h
  | succ f ih =>
    intro n t m hn h
    simp only [pType] at h
    split at h
    · rename_i h91
      have hlt := stands_lt h91
      have e91 := ex_stands (c := 91) h91
      split at h
      · rename_i h93
        have hlt2 := stands_lt h93
        have e93 := ex_stands (c := 93) h93
        cases h
        refine ⟨by omega, by omega, wf_tup (Nat.zero_le _) wfL_nil, by show kDeepL [] + 1 ≤ _; simp only [kDeepL]; omega, ?_⟩
        show (⟨#[91]⟩ : ByteArray) ++ joinB [] sComma ++ ⟨#[93]⟩ = _
        have e0 : joinB [] sComma = ⟨#[]⟩ := rfl
        rw [e0, ← ex_self s (n + 1), ← e91, ← e93, ex_app (by omega) (by omega), ex_app (by omega) (by omega)]
      · obtain ⟨q1, q2, l, rfl, q3, q4, q5, q6⟩ := pTup_ok ih 16 [] (n + 1) (n + 1) t m (Nat.le_refl _) (by omega) rfl wfL_nil (by simp [kDeepL]) (.inl ⟨rfl, rfl⟩) h
        refine ⟨by omega, q2, wf_tup q3 q4, by show kDeepL l + 1 ≤ _; omega, ?_⟩
        show (⟨#[91]⟩ : ByteArray) ++ joinB (prL l) sComma ++ ⟨#[93]⟩ = _
        rw [ByteArray.append_assoc, q6, ← e91, ex_app (by omega) (by omega)]
    · split at h
      · rename_i h123
        have hlt := stands_lt h123
        have e123 := ex_stands (c := 123) h123
        split at h
        · rename_i h125
          have hlt2 := stands_lt h125
          have e125 := ex_stands (c := 125) h125
          cases h
          refine ⟨by omega, by omega, wf_obj (Nat.zero_le _) wfL_nil rfl rfl trivial (by simp), by show kDeepL [] + 1 ≤ _; simp only [kDeepL]; omega, ?_⟩
          show (⟨#[123]⟩ : ByteArray) ++ joinB [] sComma ++ ⟨#[125]⟩ = _
          have e0 : joinB [] sComma = ⟨#[]⟩ := rfl
          rw [e0, ← ex_self s (n + 1), ← e123, ← e125, ex_app (by omega) (by omega), ex_app (by omega) (by omega)]
        · obtain ⟨q1, q2, l, ns, lo, rfl, q3, q4, q5, q6, q7, q8, q9, q10⟩ := pObj_ok ih 16 [] [] [] (n + 1) (n + 1) t m (Nat.le_refl _) (by omega) rfl rfl rfl wfL_nil (by simp [kDeepL]) trivial (by simp) (.inl ⟨rfl, rfl⟩) h
          refine ⟨by omega, q2, wf_obj q3 q6 q4 q5 q8 q9, by show kDeepL l + 1 ≤ _; omega, ?_⟩
          show (⟨#[123]⟩ : ByteArray) ++ joinB (flds ns lo (prL l)) sComma ++ ⟨#[125]⟩ = _
          rw [ByteArray.append_assoc, q10, ← e123, ex_app (by omega) (by omega)]
      · cases hw : hitW s n wds 0 with
        | none => rw [hw] at h; cases h
        | some y =>
          obtain ⟨i, z⟩ := y
          rw [hw] at h
          simp only at h
          obtain ⟨_, w, h1, rfl, h3⟩ := hitW_inv hw
          rw [Nat.sub_zero] at h1
          have hz := prefB_size h3
          have hi := get_lt h1
          have hi7 : i < 7 := hi
          have hpre := ex_pref hn h3
          split at h
          · rename_i hi5
            cases h
            refine ⟨by omega, by omega, wf_plain hi5, by show kDeepL [] + 1 ≤ _; simp only [kDeepL]; omega, ?_⟩
            rw [hpre]
            have hi5' : i = 0 ∨ i = 1 ∨ i = 2 ∨ i = 3 ∨ i = 4 := by omega
            rcases hi5' with rfl | rfl | rfl | rfl | rfl <;> (cases h1; rfl)
          · rename_i hi5
            split at h
            · rename_i h40
              have hlt := stands_lt h40
              have e40 := ex_stands (c := 40) h40
              cases hx : pType s f (n + w.size + 1) with
              | none => rw [hx] at h; cases h
              | some y =>
                obtain ⟨x, m'⟩ := y
                rw [hx] at h
                simp only at h
                split at h
                · rename_i h41
                  have hlt2 := stands_lt h41
                  have e41 := ex_stands (c := 41) h41
                  cases h
                  obtain ⟨p1, p2, p3, p4, p5⟩ := ih _ _ _ (by omega) hx
                  have hi56 : i = 5 ∨ i = 6 := by omega
                  refine ⟨by omega, by omega, wf_single hi56 p3, by show kDeepL [x] + 1 ≤ _; simp only [kDeepL]; omega, ?_⟩
                  have key : w ++ ⟨#[40]⟩ ++ prK x ++ ⟨#[41]⟩ = s.extract n (m' + 1) := by
                    rw [← hpre, ← e40, p5, ← e41, ex_app (by omega) (by omega), ex_app (by omega) (by omega), ex_app (by omega) (by omega)]
                  rw [← key]
                  rcases hi56 with rfl | rfl <;> (cases h1; rfl)
                · cases h
            · cases h

theorem pParse_ok {s : ByteArray} {t : KT} (h : pParse s = some t) : wfK t ∧ kDeep t ≤ 8 ∧ prK t = s := by
  unfold pParse at h
  split at h
  · cases h
  · cases hx : pType s 8 0 with
    | none => rw [hx] at h; cases h
    | some y =>
      obtain ⟨x, m⟩ := y
      rw [hx] at h
      simp only at h
      split at h
      · cases h
      · rename_i hm
        cases h
        obtain ⟨p1, p2, p3, p4, p5⟩ := pType_ok s 8 0 t m (Nat.zero_le _) hx
        have : m = s.size := by omega
        subst this
        refine ⟨p3, p4, ?_⟩
        rw [p5]
        apply ba_eq
        rw [extract_list, List.drop_zero, Nat.sub_zero]
        exact List.take_of_length_le (by simp)

end Go.AV0
/- the document's types: a byte, a name. -/
namespace Go.AV0
open Go.Proofs

/-- the byte that stands there; -1 where there is none -/
def atI (s : ByteArray) (i : Nat) : Int :=
  match s.data.toList[i]? with
  | some u => (u.toNat : Int)
  | none => -1

theorem atI_stands {s : ByteArray} {i : Nat} {c : Int} (h : 0 ≤ c) : atI s i = c ↔ stands s i c = true := by
  unfold atI stands
  cases s.data.toList[i]? with
  | none => simp; omega
  | some u => simp

theorem at_r (s : ByteArray) (i : Nat) : APure Tryz.prog 41 [.c (.string s), .c (.int .i64 (i : Int))] (fun v => v = .c (.int .i64 (atI s i))) := by
  have hsz : s.data.toList.length = s.size := by simp
  refine apure_of hTS Tryz.func41 (by kernel_rfl) rfl rfl rfl ?_
  refine bsplit_d (fun h1 _ => ?_) (fun h1 _ => ?_)
  · have : s.data.toList[i]? = none := List.getElem?_eq_none (by omega)
    show AV.c _ = _
    simp [atI, this]
  · obtain ⟨u, hu⟩ : ∃ u, s.data.toList[i]? = some u := ⟨_, List.getElem?_eq_getElem (by omega)⟩
    refine elev (by omega) u (by rw [show ((i : Nat) : Int).toNat = i by omega]; exact hu) ?_
    have := u.toNat_lt
    show AV.c (.int .i64 (IntKind.i64.wrap _)) = _
    rw [wr (by omega) (by omega)]
    simp [atI, hu]

theorem nameCh_iff {k : Nat} {u : UInt8} : nameCh k u = true ↔ ((97 ≤ u.toNat ∧ u.toNat ≤ 122) ∨ (0 < k ∧ 48 ≤ u.toNat ∧ u.toNat ≤ 57)) := by
  simp [nameCh, letB, digB]

theorem name_r (s : ByteArray) (n : Nat) (hs : s.size ≤ 4096) (hn : n ≤ s.size) : APure Tryz.prog 63 [.c (.string s), .c (.int .i64 (n : Int))] (fun v =>
    ((nameLen s n = 0 ∨ 20 < nameLen s n) ∧ ∃ a e, e ≠ 0 ∧ v = .agg [.c (.int .i64 a), .c (.int .i64 e)]) ∨
      (0 < nameLen s n ∧ nameLen s n ≤ 20 ∧ n + nameLen s n ≤ s.size ∧ v = .agg [.c (.int .i64 ((n + nameLen s n : Nat) : Int)), .c (.int .i64 0)])) := by
  have hsz : s.data.toList.length = s.size := by simp
  refine apure_of hTS Tryz.func63 (by kernel_rfl) rfl rfl rfl ?_
  refine loop_on hTS (fun k => n + k ≤ s.size ∧ ∀ j, j < k → ∃ u, s.data.toList[n + j]? = some u ∧ nameCh j u = true) (fun k => ⟨[(0, .v (.c (.string s))), (1, .v (.c (.int .i64 (n : Int)))), (4, .ref 0 0), (5, .v (.c (.int .i64 ((n + k : Nat) : Int))))], []⟩) (fun _ => [.cells [.v (.c (.int .i64 0)), .v (.c (.int .i64 0))]]) (fun k => s.size - k) 0 ⟨by omega, fun i h => absurd h (Nat.not_lt_zero _)⟩
    ⟨rfl, rfl, (by (repeat' (first | exact trivial | refine ⟨⟨?_, rfl⟩, ?_⟩ | fail)); all_goals (first | (show some (SV.v (AV.c (Value.int .i64 (IntKind.i64.wrap _)))) = _; rw [inc (by omega)]; try rfl) | rfl)), ⟨_, rfl⟩, rfl⟩ ?_
  rintro k ⟨hk, hall⟩
  have hw : IntKind.i64.wrap (((n + k : Nat) : Int) - (n : Int)) = (k : Int) := by rw [wr (by omega) (by omega)]; omega
  have hend : ∀ {k' : Nat}, NameEnd s n k' → nameLen s n = k' := fun h => (nameLen_end s n).unique h
  refine bsplit_d (fun h1 _ => ?_) (fun h1 _ => ?_)
  case' refine_1 =>
    obtain ⟨u, hu⟩ : ∃ u, s.data.toList[n + k]? = some u := ⟨_, List.getElem?_eq_getElem (by omega)⟩
    have hu' : s.data.toList[((n + k : Nat) : Int).toNat]? = some u := hu
    by_cases hc : nameCh k u = true
    case' pos =>
      have hc' := nameCh_iff.1 hc
      clear hend
      repeat' (first | refine bsplit_t (by first | with_reducible assumption | with_reducible rfl) ?_ | refine bsplit_f (by first | with_reducible assumption | with_reducible rfl) ?_ | refine bsplit_t (decide_eq_true (by omega)) ?_ | refine bsplit_f (decide_eq_false (by omega)) ?_ | refine elev (Int.natCast_nonneg _) u hu' ?_ | refine bsplit_d (fun _ _ => ?_) (fun _ _ => ?_) | fail)
      all_goals
        refine ⟨k + 1, ⟨by omega, ?_⟩, (by dsimp only; omega), ⟨rfl, rfl, (by (repeat' (first | exact trivial | refine ⟨⟨?_, rfl⟩, ?_⟩ | fail)); all_goals (first | (show some (SV.v (AV.c (Value.int .i64 (IntKind.i64.wrap _)))) = _; rw [inc (by omega)]; try rfl) | rfl)), ⟨_, rfl⟩, rfl⟩⟩
        intro j hj
        rcases Nat.lt_or_ge j k with h9 | h9
        · exact hall j h9
        · have : j = k := by omega
          subst this
          exact ⟨u, hu, hc⟩
    case' neg =>
      have hE := hend (k' := k) ⟨hall, fun u' h => by rw [hu] at h; cases h; simpa using hc⟩
      have hc' := mt nameCh_iff.2 hc
      repeat' (first | refine bsplit_t (by first | with_reducible assumption | with_reducible rfl) ?_ | refine bsplit_f (by first | with_reducible assumption | with_reducible rfl) ?_ | refine bsplit_t (decide_eq_true (by omega)) ?_ | refine bsplit_f (decide_eq_false (by omega)) ?_ | refine elev (Int.natCast_nonneg _) u hu' ?_ | refine bsplit_d (fun _ _ => ?_) (fun _ _ => ?_) | fail)
  case' refine_2 =>
    have hE := hend (k' := k) ⟨hall, fun u hu => by
      have := get_lt hu
      omega⟩
    repeat' (first | refine bsplit_t (by first | with_reducible assumption | with_reducible rfl) ?_ | refine bsplit_f (by first | with_reducible assumption | with_reducible rfl) ?_ | refine bsplit_d (fun _ _ => ?_) (fun _ _ => ?_) | fail)
  all_goals
    first
    | exact .inl ⟨.inl (by omega), _, _, by decide, rfl⟩
    | exact .inl ⟨.inr (by omega), _, _, by decide, rfl⟩
    | exact .inr ⟨by omega, by omega, by omega, by rw [hE]; rfl⟩

end Go.AV0
/- the document's types: tuples, objects. -/
namespace Go.AV0
open Go.Proofs

mutual
def ktR : KT → List AV
  | .mk f l ns lo => [.c (.int .i64 (f : Int)), .sl (ktRL l), .sl (nmA ns), .sl (boA lo)]
def ktRL : List KT → List (List AV)
  | [] => []
  | t :: l => ktR t :: ktRL l
end

theorem ktRL_app : ∀ (l : List KT) (x : KT), ktRL (l ++ [x]) = ktRL l ++ [ktR x]
  | [], x => by simp [ktRL]
  | t :: l, x => by simp [ktRL, ktRL_app l x]

theorem ktRL_len : ∀ (l : List KT), (ktRL l).length = l.length
  | [] => rfl
  | t :: l => by simp [ktRL, ktRL_len l]

def TQ (s : ByteArray) (res : Option (KT × Nat)) (v : AV) : Prop :=
  (∃ t m, res = some (t, m) ∧ m ≤ s.size ∧ v = .tup [.agg (ktR t), .agg [.c (.int .i64 (m : Int)), .c (.int .i64 0)]]) ∨
  (res = none ∧ ∃ i L N B x e, e ≠ 0 ∧ v = .tup [.agg [.c (.int .i64 i), .sl L, .sl N, .sl B], .agg [.c (.int .i64 x), .c (.int .i64 e)]])

def TypeC (f : Nat) : Prop := ∀ (s : ByteArray) (n deep : Nat), s.size ≤ 4096 → n ≤ s.size → deep + f = 8 → APure Tryz.prog 25 [.c (.string s), .c (.int .i64 (n : Int)), .c (.int .i64 (deep : Int))] (TQ s (pType s f n))

def zT : SO := .cells [.v (.c (.int .i64 0)), .v (.c (.slice none 0 0)), .v (.c (.slice none 0 0)), .v (.c (.slice none 0 0))]
def zE : SO := .cells [.v (.c (.int .i64 0)), .v (.c (.int .i64 0))]

set_option maxRecDepth 20000 in
set_option maxHeartbeats 4000000 in
theorem manyT_r {f : Nat} (hr : TypeC f) (s : ByteArray) (n deep : Nat) (hs : s.size ≤ 4096) (hn : n < s.size) (hd : deep + 1 + f = 8) : APure Tryz.prog 42 [.c (.string s), .c (.int .i64 (n : Int)), .c (.int .i64 (deep : Int)), .c (.bool false)]
    (TQ s (if stands s (n + 1) 93 = true then some (.mk 7 [] [] [], n + 2) else pTup (pType s f) s 16 [] (n + 1))) := by
  have hw1 : IntKind.i64.wrap ((n : Int) + 1) = ((n + 1 : Nat) : Int) := inc (by omega)
  have hwd : IntKind.i64.wrap ((deep : Int) + 1) = ((deep + 1 : Nat) : Int) := inc (by omega)
  refine apure_of hTS Tryz.func42 (by kernel_rfl) rfl rfl rfl ?_
  repeat' (first | refine bsplit_t (by first | with_reducible assumption | with_reducible rfl | with_reducible exact Bool.not_true | with_reducible exact Bool.not_false) ?_ | refine bsplit_f (by first | with_reducible assumption | with_reducible rfl | with_reducible exact Bool.not_true | with_reducible exact Bool.not_false) ?_ | fail)
  refine call_pure (at_r s (n + 1)) (congrArg (fun x => some [AV.c (.string s), .c (.int .i64 x)]) hw1) ?_
  rintro _ rfl
  refine bsplit (fun h1 => ?_) (fun h1 => ?_)
  · have h1 : decide (atI s (n + 1) = 93) = true := h1
    have h1 := (atI_stands (by omega)).1 (of_decide_eq_true h1)
    have := stands_lt h1
    refine .inl ⟨.mk 7 [] [] [], n + 2, by rw [if_pos h1], by omega, ?_⟩
    show AV.tup [_, .agg [.c (.int .i64 (IntKind.i64.wrap (IntKind.i64.wrap ((n : Int) + 1) + 1))), _]] = _
    rw [hw1, inc (by omega)]; rfl
  · have h1 : decide (atI s (n + 1) = 93) = false := h1
    have h1 := mt (atI_stands (by omega)).2 (of_decide_eq_false h1)
    rw [if_neg h1]
    refine loop_own 2 1 31 4 rfl rfl rfl ?_
    refine loop_on hTS (X := List KT × Nat × Nat) (fun x => x.1.length + x.2.2 = 16 ∧ x.2.1 ≤ s.size ∧ pTup (pType s f) s 16 [] (n + 1) = pTup (pType s f) s x.2.2 x.1 x.2.1)
      (fun x => ⟨[(0, .v (.c (.string s))), (1, .v (.c (.int .i64 (x.2.1 : Int)))), (2, .v (.c (.int .i64 (deep : Int)))), (3, .v (.c (.bool false))), (8, .ref 0 0), (9, .ref 1 0), (10, .ref 2 0), (11, .v (.c (.int .i32 93)))], []⟩)
      (fun x => [zT, zE, .cells [.v (.c (.int .i64 7)), .ms 3, .v (.c (.slice none 0 0)), .v (.c (.slice none 0 0))], .arr 31 4 (ktRL x.1)]) (fun x => x.2.2) ([], n + 1, 16) ⟨rfl, by simp only; omega, rfl⟩ ⟨rfl, rfl, (by (repeat' (first | exact trivial | refine ⟨⟨?_, rfl⟩, ?_⟩ | fail)); all_goals (first | (show some (SV.v (AV.c (Value.int .i64 (IntKind.i64.wrap _)))) = _; rw [inc (by omega)]; try rfl) | rfl)), ⟨_, rfl⟩, rfl⟩ ?_
    rintro ⟨acc, m, k⟩ ⟨hl, hm, hres⟩
    simp only at hl hm hres
    rw [hres]
    refine bsplit_d (fun h2 _ => ?_) (fun h2 _ => ?_)
    · have h2 : ((ktRL acc).length : Int) = 16 := h2
      have hk0 : k = 0 := by rw [ktRL_len] at h2; omega
      subst hk0
      show TQ _ _ _
      exact .inr ⟨rfl, _, _, _, _, _, _, by decide, rfl⟩
    · have h2 : ¬ ((ktRL acc).length : Int) = 16 := h2
      obtain ⟨k, rfl⟩ : ∃ k', k = k' + 1 := ⟨k - 1, by rw [ktRL_len] at h2; omega⟩
      have b1 : ((ktRL acc).length + 1) * 57 ≤ 70368744177664 := by rw [ktRL_len]; omega
      repeat' (first | refine bsplit_t (by first | with_reducible assumption | with_reducible rfl | with_reducible exact Bool.not_true | with_reducible exact Bool.not_false) ?_ | refine bsplit_f (by first | with_reducible assumption | with_reducible rfl | with_reducible exact Bool.not_true | with_reducible exact Bool.not_false) ?_ | fail)
      refine call_pure (hr s m (deep + 1) hs hm hd) (congrArg (fun x => some [AV.c (.string s), .c (.int .i64 (m : Int)), .c (.int .i64 x)]) hwd) ?_
      rintro _ (⟨⟨tf, tl, tn, tlo⟩, m2, h4, h5, rfl⟩ | ⟨h4, i, L, N, B, x, e, h5, rfl⟩)
      · refine bsplit_f (by decide) ?_
        refine side ⟨?_, ?_⟩ ?_
        · intro y hy
          simp at hy; subst hy; exact ⟨rfl, rfl⟩
        · show ((ktRL acc).length + 1) * 81 ≤ _
          rw [ktRL_len]; omega
        refine call_pure (at_r s m2) rfl ?_
        rintro _ rfl
        refine bsplit (fun h6 => ?_) (fun h6 => ?_)
        · have h6 : decide (atI s m2 = 93) = true := h6
          have h6 := (atI_stands (by omega)).1 (of_decide_eq_true h6)
          have := stands_lt h6
          refine .inl ⟨.mk 7 (acc ++ [.mk tf tl tn tlo]) [] [], m2 + 1, by simp only [pTup, h4, if_pos h6], by omega, ?_⟩
          show AV.tup [.agg [_, .sl (ktRL acc ++ [ktR (.mk tf tl tn tlo)]), _, _], .agg [.c (.int .i64 (IntKind.i64.wrap ((m2 : Int) + 1))), _]] = AV.tup [.agg [_, .sl (ktRL (acc ++ [.mk tf tl tn tlo])), _, _], .agg [.c (.int .i64 ((m2 + 1 : Nat) : Int)), _]]
          rw [ktRL_app, inc (by omega)]; rfl
        · have h6 : decide (atI s m2 = 93) = false := h6
          have h6 := mt (atI_stands (by omega)).2 (of_decide_eq_false h6)
          refine call_pure (at_r s m2) rfl ?_
          rintro _ rfl
          refine bsplit_d (fun h7 _ => ?_) (fun h7 _ => ?_)
          · have h7 : ¬ stands s m2 44 = true := fun h => h7 ((atI_stands (by omega)).2 h)
            refine .inr ⟨by simp [pTup, h4, h6, h7], _, _, _, _, _, _, by decide, rfl⟩
          · have h7 := (atI_stands (by omega)).1 (Decidable.not_not.1 h7)
            have := stands_lt h7
            refine ⟨(acc ++ [.mk tf tl tn tlo], m2 + 1, k), ⟨by simp at hl ⊢; omega, by simp only; omega, ?_⟩, (by dsimp only; omega), ⟨rfl, rfl, ⟨⟨rfl, rfl⟩, ⟨?_, rfl⟩, ⟨rfl, rfl⟩, ⟨rfl, rfl⟩, ⟨rfl, rfl⟩, ⟨rfl, rfl⟩, ⟨rfl, rfl⟩, ⟨rfl, rfl⟩, trivial⟩, ⟨_, by show (_ : List SO) = [zT, zE, .cells [.v (.c (.int .i64 7)), .ms 3, .v (.c (.slice none 0 0)), .v (.c (.slice none 0 0))], .arr 31 4 (ktRL (acc ++ [.mk tf tl tn tlo]))] ++ _; rw [ktRL_app]; rfl⟩, rfl⟩⟩
            · simp [pTup, h4, h6, h7]
            · show some (SV.v (AV.c (.int .i64 (IntKind.i64.wrap ((m2 : Int) + 1))))) = _
              rw [inc (by omega)]
      · refine bsplit_t (decide_eq_true h5) ?_
        refine draw_ev hTS (by kernel_rfl) (.part [0, 1] [3] (.take 0 (.take 1 (.one 2 (.fin 3 .done))))) (by kernel_rfl) ?_
        exact .inr ⟨by simp [pTup, h4], _, _, _, _, _, _, h5, rfl⟩

end Go.AV0
/- the document's values; a type's zero. -/
namespace Go.AV0
open Go.Proofs

/-- the document's value: its kind, a Bool's, two numbers, a text, its values, its keys -/
inductive RV where
  | mk (k : Int) (b : Bool) (n m : Int) (s : ByteArray) (l : List RV) (keys : List ByteArray)

mutual
def rvA : RV → List AV
  | .mk k b n m s l ks => [.c (.int .i64 k), .c (.bool b), .c (.int .i64 n), .c (.int .i64 m), .c (.string s), .sl (rvL l), .sl (nmA ks)]
def rvL : List RV → List (List AV)
  | [] => []
  | r :: l => rvA r :: rvL l
end

theorem rvL_app : ∀ (l : List RV) (x : RV), rvL (l ++ [x]) = rvL l ++ [rvA x]
  | [], x => by simp [rvL]
  | t :: l, x => by simp [rvL, rvL_app l x]
theorem rvL_len : ∀ (l : List RV), (rvL l).length = l.length
  | [] => rfl
  | t :: l => by simp [rvL, rvL_len l]
theorem rvL_get : ∀ (l : List RV) (i : Nat) (x : RV), l[i]? = some x → (rvL l)[i]? = some (rvA x)
  | [], i, x, h => by simp at h
  | t :: l, 0, x, h => by simp at h; subst h; simp [rvL]
  | t :: l, i + 1, x, h => by simp only [List.getElem?_cons_succ] at h; simpa [rvL] using rvL_get l i x h
theorem rvA_one (x : RV) : ElOk 7 [rvA x] := by
  obtain ⟨k, b, n, m, s, l, ks⟩ := x
  intro y hy
  simp at hy; subst hy
  exact ⟨rfl, rfl⟩

theorem ktRL_get : ∀ (l : List KT) (i : Nat) (x : KT), l[i]? = some x → (ktRL l)[i]? = some (ktR x)
  | [], i, x, h => by simp at h
  | t :: l, 0, x, h => by simp at h; subst h; simp [ktRL]
  | t :: l, i + 1, x, h => by simp only [List.getElem?_cons_succ] at h; simpa [ktRL] using ktRL_get l i x h

def rv0 (k : Int) : RV := .mk k false 0 0 noBytes [] []

def zVR : SO := .cells [.v (.c (.int .i64 0)), .v (.c (.bool false)), .v (.c (.int .i64 0)), .v (.c (.int .i64 0)), .v (.c (.string ⟨#[]⟩)), .v (.c (.slice none 0 0)), .v (.c (.slice none 0 0))]

end Go.AV0
/- a value against the document's. -/
namespace Go.AV0
open Go.Proofs

theorem RV.ind {P : RV → Prop} (h : ∀ k b n m s l ks, (∀ x ∈ l, P x) → P (.mk k b n m s l ks)) : ∀ t, P t := by
  intro t
  have key : ∀ n, ∀ t : RV, SizeOf.sizeOf t ≤ n → P t := by
    intro n
    induction n with
    | zero => intro t ht; cases t; simp at ht
    | succ n ih =>
      intro t ht
      cases t with
      | mk k b n' m s l ks => exact h k b n' m s l ks fun x hx => ih x (by have := List.sizeOf_lt_of_mem hx; simp at ht; omega)
  exact key _ t (Nat.le_refl _)

end Go.AV0
/- kind: an object's fields read. -/
namespace Go.AV0
open Go.Proofs

def objH (s : ByteArray) (n : Nat) (e : Int) (deep : Nat) (L N B : List (List AV)) : List SO :=
  [rd s n e deep, .cells [.v (.c (.int .i64 8)), .ms 2, .ms 3, .ms 4], .arr 36 1 L, .arr 9 1 N, .arr 4 1 B]

def FldQ (s : ByteArray) (deep : Nat) (l : List KT) (ns : List ByteArray) (lo : List Bool) (res : Option (KT × ByteArray × Bool × Nat)) (r : SV) (h : List SO) : Prop :=
  r = .v (.tup []) ∧ ((∃ x nm q m, l.length < 16 ∧ res = some (x, nm, q, m) ∧ m ≤ s.size ∧ h = objH s m 0 deep (kpL (l ++ [x])) (nmA (ns ++ [nm])) (boA (lo ++ [q]))) ∨
    ((l.length = 16 ∨ res = none) ∧ ∃ n' e' L N B, e' ≠ 0 ∧ (L.length ≤ 20 ∧ N.length ≤ 20 ∧ B.length ≤ 20) ∧ h = objH s n' e' deep L N B))

/-- ways to where the name and the type are put -/
def FldY (f : Nat) (s : ByteArray) (n : Nat) (ns : List ByteArray) : Type := { y : Nat × Int × ByteArray × Bool // (y.2.1 ≠ 0 ∧ pFld (pType s f) s ns n = none) ∨
  (y.2.1 = 0 ∧ y.1 ≤ s.size ∧ pFld (pType s f) s ns n = match pType s f y.1 with | none => none | some (x, m) => some (x, y.2.2.1, y.2.2.2, m)) }

set_option maxHeartbeats 4000000 in
theorem field_c {f : Nat} (hr : ReadC f) (s : ByteArray) (n deep : Nat) (l : List KT) (ns : List ByteArray) (lo : List Bool) (hs : s.size ≤ 4096) (hn : n ≤ s.size) (hd : deep + f = 8) (h16 : l.length ≤ 16) (hl1 : ns.length = l.length) (hl2 : lo.length = l.length) :
    AImp Tryz.prog 65 [.ref 0 0, .ref 1 0] (objH s n 0 deep (kpL l) (nmA ns) (boA lo)) [2, 3, 4] (FldQ s deep l ns lo (pFld (pType s f) s ns n)) := by
  refine aimp_of hTS Tryz.func65 (by kernel_rfl) rfl rfl rfl (fun p => ?_)
  refine bsplit (fun h1 => ?_) (fun h1 => ?_)
  · have h1' : l.length = 16 := by
      have h1 : decide (((kpL l).length : Int) = 16) = true := h1
      simp [kpL_len] at h1; omega
    refine call_obj (fail_c s n 0 deep n 3) [0] rfl rfl rfl ?_
    rintro _ _ ⟨rfl, ⟨_, rfl⟩ | ⟨h9, rfl⟩⟩
    · exact ⟨⟨rfl, rfl, trivial, trivial, trivial, trivial⟩, 5, rfl, rfl, .inr ⟨.inl h1', _, _, _, _, _, (by decide), ⟨by rw [kpL_len]; omega, by rw [nmA_len]; omega, by rw [boA_len]; omega⟩, rfl⟩⟩
    · exact absurd rfl h9
  · have h1' : l.length < 16 := by
      have h1 : decide (((kpL l).length : Int) = 16) = false := h1
      simp [kpL_len] at h1; omega
    have hw0 : IntKind.i64.wrap (((nmA ns).length : Int) - 1) = (ns.length : Int) - 1 := by rw [nmA_len, wr] <;> omega
    apply join_draw (P := Tryz.prog) (us := none) (n := Tryz.f65.ntmps) (id := 12) (Y := FldY f s n ns) (fun y => ⟨[(0, .ref 0 0), (1, .ref 1 0), (5, .v (.c (.string y.1.2.2.1))), (8, .v (.c (.bool y.1.2.2.2)))], []⟩) (fun y => objH s y.1.1 y.1.2.1 deep (kpL l) (nmA ns) (boA lo) ++ [.pin 0 (p 0), .pin 1 (p 1), .pin 2 (p 2), .pin 3 (p 3), .pin 4 (p 4)])
    · intro tail
      refine call_obj (name_c s n deep hs hn) [0] rfl rfl rfl ?_
      rintro _ _ (⟨hnm, x, n1, e1, he1, rfl, rfl⟩ | ⟨hnm1, hnm2, hnm3, rfl, rfl⟩)
      · refine call_obj (bad_c s n1 e1 deep) [0] rfl rfl rfl ?_
        rintro _ _ ⟨⟨h2, rfl⟩ | ⟨h2, rfl⟩, rfl⟩
        · exact absurd h2 he1
        repeat' (first | refine bsplit_t (by first | with_reducible assumption | with_reducible rfl | with_reducible exact Bool.not_true | with_reducible exact Bool.not_false) ?_ | refine bsplit_f (by first | with_reducible assumption | with_reducible rfl | with_reducible exact Bool.not_true | with_reducible exact Bool.not_false) ?_ | fail)
        refine call_obj (is_c s n1 e1 deep 63 hs) [0] rfl rfl rfl ?_
        rintro _ _ (⟨h6, _⟩ | ⟨_, rfl, rfl⟩)
        · exact absurd h6 he1
        refine call_obj (must_c s n1 e1 deep 58 hs) [0] rfl rfl rfl ?_
        rintro _ _ ⟨rfl, ⟨h6, _⟩ | ⟨h6, _⟩ | ⟨_, rfl⟩⟩
        · exact absurd h6 he1
        · exact absurd h6 he1
        refine draw_sub ?_ (tail ⟨(n1, e1, x, false), .inl ⟨he1, by simp only [pFld]; rw [if_pos hnm]⟩⟩)
        exact ⟨rfl, rfl, ⟨⟨rfl, rfl⟩, ⟨rfl, rfl⟩, ⟨rfl, rfl⟩, ⟨rfl, rfl⟩, trivial⟩, ⟨[], rfl⟩, rfl⟩
      · refine call_obj (bad_c s (n + nameLen s n) 0 deep) [0] rfl rfl rfl ?_
        rintro _ _ ⟨⟨_, rfl⟩ | ⟨h2, _⟩, rfl⟩
        rotate_left
        · exact absurd rfl h2
        repeat' (first | refine bsplit_t (by first | with_reducible assumption | with_reducible rfl | with_reducible exact Bool.not_true | with_reducible exact Bool.not_false) ?_ | refine bsplit_f (by first | with_reducible assumption | with_reducible rfl | with_reducible exact Bool.not_true | with_reducible exact Bool.not_false) ?_ | fail)
        refine bsplit (fun h2 => ?_) (fun h2 => ?_)
        · have h2 : decide (0 ≤ IntKind.i64.wrap (((nmA ns).length : Int) - 1)) = true := h2
          have hne : 0 < ns.length := by rw [hw0] at h2; simp at h2; omega
          obtain ⟨y0, hy0⟩ : ∃ y, ns[ns.length - 1]? = some y := ⟨_, List.getElem?_eq_getElem (by omega)⟩
          have hlast : ns.getLast? = some y0 := by rw [List.getLast?_eq_getElem?]; exact hy0
          have hget : (nmA ns)[((ns.length : Int) - 1).toNat]? = some [.c (.string y0)] := by
            rw [show ((ns.length : Int) - 1).toNat = ns.length - 1 by omega]
            simp [nmA, hy0]
          repeat' (first | refine bsplit_t (by first | with_reducible assumption | with_reducible rfl | with_reducible exact Bool.not_true | with_reducible exact Bool.not_false) ?_ | refine bsplit_f (by first | with_reducible assumption | with_reducible rfl | with_reducible exact Bool.not_true | with_reducible exact Bool.not_false) ?_ | fail)
          refine elev (by rw [hw0]; omega) [.c (.string y0)] (by rw [hw0]; exact hget) ?_
          repeat' (first | refine bsplit_t (by first | with_reducible assumption | with_reducible rfl | with_reducible exact Bool.not_true | with_reducible exact Bool.not_false) ?_ | refine bsplit_f (by first | with_reducible assumption | with_reducible rfl | with_reducible exact Bool.not_true | with_reducible exact Bool.not_false) ?_ | fail)
          refine elev (Int.natCast_nonneg _) [.c (.string y0)] (by rw [hw0]; simpa using hget) ?_
          repeat' (first | refine bsplit_t (by first | with_reducible assumption | with_reducible rfl | with_reducible exact Bool.not_true | with_reducible exact Bool.not_false) ?_ | refine bsplit_f (by first | with_reducible assumption | with_reducible rfl | with_reducible exact Bool.not_true | with_reducible exact Bool.not_false) ?_ | fail)
          refine bsplit (fun h3 => ?_) (fun h3 => ?_)
          · repeat' (first | refine bsplit_t (by first | with_reducible assumption | with_reducible rfl | with_reducible exact Bool.not_true | with_reducible exact Bool.not_false) ?_ | refine bsplit_f (by first | with_reducible assumption | with_reducible rfl | with_reducible exact Bool.not_true | with_reducible exact Bool.not_false) ?_ | fail)
            have hbo : badOrder ns (s.extract n (n + nameLen s n)) = true := by simp only [badOrder, hlast]; exact h3
            have hres : pFld (pType s f) s ns n = none := by
              simp only [pFld]
              rw [if_neg (by omega), hbo]; simp
            refine elev (by rw [hw0]; omega) [.c (.string y0)] (by rw [hw0]; exact hget) ?_
            refine elev (Int.natCast_nonneg _) [.c (.string y0)] (by rw [hw0]; simpa using hget) ?_
            refine bsplit (fun h6 => ?_) (fun h6 => ?_)
            · refine call_obj (fail_c s (n + nameLen s n) 0 deep n 9) [0] rfl rfl rfl ?_
              rintro _ _ ⟨rfl, ⟨_, rfl⟩ | ⟨h9, rfl⟩⟩
              rotate_left
              · exact absurd rfl h9
              refine call_obj (is_c s n 9 deep 63 hs) [0] rfl rfl rfl ?_
              rintro _ _ (⟨h6, _⟩ | ⟨_, rfl, rfl⟩)
              · exact absurd h6 (by decide)
              refine call_obj (must_c s n 9 deep 58 hs) [0] rfl rfl rfl ?_
              rintro _ _ ⟨rfl, ⟨h6, _⟩ | ⟨h6, _⟩ | ⟨_, rfl⟩⟩
              · exact absurd h6 (by decide)
              · exact absurd h6 (by decide)
              refine draw_sub ?_ (tail ⟨(n, 9, s.extract n (n + nameLen s n), false), .inl ⟨by show (9 : Int) ≠ 0; decide, hres⟩⟩)
              exact ⟨rfl, rfl, ⟨⟨rfl, rfl⟩, ⟨rfl, rfl⟩, ⟨rfl, rfl⟩, ⟨rfl, rfl⟩, trivial⟩, ⟨[], rfl⟩, rfl⟩
            · refine call_obj (fail_c s (n + nameLen s n) 0 deep n 4) [0] rfl rfl rfl ?_
              rintro _ _ ⟨rfl, ⟨_, rfl⟩ | ⟨h9, rfl⟩⟩
              rotate_left
              · exact absurd rfl h9
              refine call_obj (is_c s n 4 deep 63 hs) [0] rfl rfl rfl ?_
              rintro _ _ (⟨h6, _⟩ | ⟨_, rfl, rfl⟩)
              · exact absurd h6 (by decide)
              refine call_obj (must_c s n 4 deep 58 hs) [0] rfl rfl rfl ?_
              rintro _ _ ⟨rfl, ⟨h6, _⟩ | ⟨h6, _⟩ | ⟨_, rfl⟩⟩
              · exact absurd h6 (by decide)
              · exact absurd h6 (by decide)
              refine draw_sub ?_ (tail ⟨(n, 4, s.extract n (n + nameLen s n), false), .inl ⟨by show (4 : Int) ≠ 0; decide, hres⟩⟩)
              exact ⟨rfl, rfl, ⟨⟨rfl, rfl⟩, ⟨rfl, rfl⟩, ⟨rfl, rfl⟩, ⟨rfl, rfl⟩, trivial⟩, ⟨[], rfl⟩, rfl⟩
          · have hbo : badOrder ns (s.extract n (n + nameLen s n)) = false := by simp only [badOrder, hlast]; exact h3
            repeat' (first | refine bsplit_t (by first | with_reducible assumption | with_reducible rfl | with_reducible exact Bool.not_true | with_reducible exact Bool.not_false) ?_ | refine bsplit_f (by first | with_reducible assumption | with_reducible rfl | with_reducible exact Bool.not_true | with_reducible exact Bool.not_false) ?_ | fail)
            refine call_obj (is_c s (n + nameLen s n) 0 deep 63 hs) [0] rfl rfl rfl ?_
            rintro _ _ (⟨_, h7, rfl, rfl⟩ | ⟨h7, rfl, rfl⟩)
            · have := stands_lt h7
              refine call_obj (must_c s (n + nameLen s n + 1) 0 deep 58 hs) [0] rfl rfl rfl ?_
              rintro _ _ ⟨rfl, ⟨_, h8, rfl⟩ | ⟨_, h8, rfl⟩ | ⟨h8, _⟩⟩
              · have := stands_lt h8
                refine draw_sub ?_ (tail ⟨((n + nameLen s n + 1) + 1, 0, s.extract n (n + nameLen s n), true), .inr ⟨rfl, by show (n + nameLen s n + 1) + 1 ≤ s.size; omega, by simp only [pFld]; rw [if_neg (by omega), hbo]; simp [h7, h8]; rfl⟩⟩)
                exact ⟨rfl, rfl, ⟨⟨rfl, rfl⟩, ⟨rfl, rfl⟩, ⟨rfl, rfl⟩, ⟨rfl, rfl⟩, trivial⟩, ⟨[], rfl⟩, rfl⟩
              · refine draw_sub ?_ (tail ⟨((n + nameLen s n + 1), 4, s.extract n (n + nameLen s n), true), .inl ⟨by show (4 : Int) ≠ 0; decide, by simp only [pFld]; rw [if_neg (by omega), hbo]; simp [h7, h8]⟩⟩)
                exact ⟨rfl, rfl, ⟨⟨rfl, rfl⟩, ⟨rfl, rfl⟩, ⟨rfl, rfl⟩, ⟨rfl, rfl⟩, trivial⟩, ⟨[], rfl⟩, rfl⟩
              · exact absurd rfl h8
            · have h7 := h7 rfl
              refine call_obj (must_c s (n + nameLen s n) 0 deep 58 hs) [0] rfl rfl rfl ?_
              rintro _ _ ⟨rfl, ⟨_, h8, rfl⟩ | ⟨_, h8, rfl⟩ | ⟨h8, _⟩⟩
              · have := stands_lt h8
                refine draw_sub ?_ (tail ⟨((n + nameLen s n) + 1, 0, s.extract n (n + nameLen s n), false), .inr ⟨rfl, by show (n + nameLen s n) + 1 ≤ s.size; omega, by simp only [pFld]; rw [if_neg (by omega), hbo]; simp [h7, h8]; rfl⟩⟩)
                exact ⟨rfl, rfl, ⟨⟨rfl, rfl⟩, ⟨rfl, rfl⟩, ⟨rfl, rfl⟩, ⟨rfl, rfl⟩, trivial⟩, ⟨[], rfl⟩, rfl⟩
              · refine draw_sub ?_ (tail ⟨((n + nameLen s n), 4, s.extract n (n + nameLen s n), false), .inl ⟨by show (4 : Int) ≠ 0; decide, by simp only [pFld]; rw [if_neg (by omega), hbo]; simp [h7, h8]⟩⟩)
                exact ⟨rfl, rfl, ⟨⟨rfl, rfl⟩, ⟨rfl, rfl⟩, ⟨rfl, rfl⟩, ⟨rfl, rfl⟩, trivial⟩, ⟨[], rfl⟩, rfl⟩
              · exact absurd rfl h8
        · have h2 : decide (0 ≤ IntKind.i64.wrap (((nmA ns).length : Int) - 1)) = false := h2
          have hne : ns = [] := by
            rw [hw0] at h2; simp at h2
            exact List.eq_nil_of_length_eq_zero (by omega)
          have hbo : badOrder ns (s.extract n (n + nameLen s n)) = false := by rw [hne]; rfl
          repeat' (first | refine bsplit_t (by first | with_reducible assumption | with_reducible rfl | with_reducible exact Bool.not_true | with_reducible exact Bool.not_false) ?_ | refine bsplit_f (by first | with_reducible assumption | with_reducible rfl | with_reducible exact Bool.not_true | with_reducible exact Bool.not_false) ?_ | fail)
          refine call_obj (is_c s (n + nameLen s n) 0 deep 63 hs) [0] rfl rfl rfl ?_
          rintro _ _ (⟨_, h7, rfl, rfl⟩ | ⟨h7, rfl, rfl⟩)
          · have := stands_lt h7
            refine call_obj (must_c s (n + nameLen s n + 1) 0 deep 58 hs) [0] rfl rfl rfl ?_
            rintro _ _ ⟨rfl, ⟨_, h8, rfl⟩ | ⟨_, h8, rfl⟩ | ⟨h8, _⟩⟩
            · have := stands_lt h8
              refine draw_sub ?_ (tail ⟨((n + nameLen s n + 1) + 1, 0, s.extract n (n + nameLen s n), true), .inr ⟨rfl, by show (n + nameLen s n + 1) + 1 ≤ s.size; omega, by simp only [pFld]; rw [if_neg (by omega), hbo]; simp [h7, h8]; rfl⟩⟩)
              exact ⟨rfl, rfl, ⟨⟨rfl, rfl⟩, ⟨rfl, rfl⟩, ⟨rfl, rfl⟩, ⟨rfl, rfl⟩, trivial⟩, ⟨[], rfl⟩, rfl⟩
            · refine draw_sub ?_ (tail ⟨((n + nameLen s n + 1), 4, s.extract n (n + nameLen s n), true), .inl ⟨by show (4 : Int) ≠ 0; decide, by simp only [pFld]; rw [if_neg (by omega), hbo]; simp [h7, h8]⟩⟩)
              exact ⟨rfl, rfl, ⟨⟨rfl, rfl⟩, ⟨rfl, rfl⟩, ⟨rfl, rfl⟩, ⟨rfl, rfl⟩, trivial⟩, ⟨[], rfl⟩, rfl⟩
            · exact absurd rfl h8
          · have h7 := h7 rfl
            refine call_obj (must_c s (n + nameLen s n) 0 deep 58 hs) [0] rfl rfl rfl ?_
            rintro _ _ ⟨rfl, ⟨_, h8, rfl⟩ | ⟨_, h8, rfl⟩ | ⟨h8, _⟩⟩
            · have := stands_lt h8
              refine draw_sub ?_ (tail ⟨((n + nameLen s n) + 1, 0, s.extract n (n + nameLen s n), false), .inr ⟨rfl, by show (n + nameLen s n) + 1 ≤ s.size; omega, by simp only [pFld]; rw [if_neg (by omega), hbo]; simp [h7, h8]; rfl⟩⟩)
              exact ⟨rfl, rfl, ⟨⟨rfl, rfl⟩, ⟨rfl, rfl⟩, ⟨rfl, rfl⟩, ⟨rfl, rfl⟩, trivial⟩, ⟨[], rfl⟩, rfl⟩
            · refine draw_sub ?_ (tail ⟨((n + nameLen s n), 4, s.extract n (n + nameLen s n), false), .inl ⟨by show (4 : Int) ≠ 0; decide, by simp only [pFld]; rw [if_neg (by omega), hbo]; simp [h7, h8]⟩⟩)
              exact ⟨rfl, rfl, ⟨⟨rfl, rfl⟩, ⟨rfl, rfl⟩, ⟨rfl, rfl⟩, ⟨rfl, rfl⟩, trivial⟩, ⟨[], rfl⟩, rfl⟩
            · exact absurd rfl h8
    · rintro ⟨⟨n', e', nm, qb⟩, hy⟩
      simp only at hy
      refine draw_ev hTS (by kernel_rfl) (.pur 0 (.pur 1 (.pur 2 (.pur 3 (.pur 4 (.pur 6 (.pur 9 (.pur 10 (.pur 11 (.pur 13 (.part [3, 4] [18] (.take 5 (.take 12 (.or 7 (.or 8 (.one 14 (.one 15 (.pur 16 (.pur 17 (.fin 18 (.pur 19 (.pur 20 (.one 21 .done)))))))) (.one 14 (.one 8 (.one 15 (.pur 16 (.pur 17 (.fin 18 (.pur 19 (.pur 20 (.one 21 .done)))))))))) (.one 14 (.one 7 (.one 8 (.one 15 (.pur 16 (.pur 17 (.fin 18 (.pur 19 (.pur 20 (.one 21 .done)))))))))))))))))))))))) (by kernel_rfl) ?_
      have b1 : ElOk 1 [[AV.c (.string nm)]] := by intro y hy; simp at hy; subst hy; exact ⟨rfl, rfl⟩
      have b2 : ElOk 1 [[AV.c (.bool qb)]] := by intro y hy; simp at hy; subst hy; exact ⟨rfl, rfl⟩
      have b3 : ((nmA ns).length + 1) * 17 ≤ 70368744177664 := by rw [nmA_len]; omega
      have b4 : ((boA lo).length + 1) * 2 ≤ 70368744177664 := by rw [boA_len]; omega
      have b5 : ((kpL l).length + 1) * 9 ≤ 70368744177664 := by rw [kpL_len]; omega
      have b6 : ∀ o, ElOk 1 [[AV.ptr o]] := by intro o y hy; simp at hy; subst hy; exact ⟨rfl, rfl⟩
      refine ⟨⟨side ⟨b1, b3⟩ (side ⟨b2, b4⟩ ?_), side ⟨b1, b3⟩ (side ⟨b2, b4⟩ ?_)⟩, side ⟨b1, b3⟩ (side ⟨b2, b4⟩ ?_)⟩
      all_goals
        refine draw_ev hTS (by kernel_rfl) (.pur 0 (.pur 1 (.pur 2 (.pur 3 (.pur 5 (.part [0] [8, 11] (.take 4 (.one 6 (.one 7 (.fin 8 (.pur 9 (.pur 10 (.one 11 .done))))))))))))) (by kernel_rfl) ?_
        refine call_obj (hr s n' e' deep hs (fun h => hy.elim (fun h' => absurd h h'.1) (fun h' => h'.2.1)) hd) [0] rfl rfl rfl ?_
        rintro _ _ ⟨o, rfl, ⟨h4, rfl⟩ | ⟨h4, t, m, h5, h6, rfl, rfl⟩ | ⟨h4, h5, n2, e2, h6, rfl⟩⟩
        · have hres : pFld (pType s f) s ns n = none := by
            rcases hy with ⟨_, hy⟩ | ⟨hy, _⟩
            · exact hy
            · exact absurd hy h4
          refine side ⟨b6 o, b5⟩ ?_
          exact ⟨⟨rfl, rfl, trivial, trivial, trivial, trivial⟩, 5, rfl, rfl, .inr ⟨.inr hres, _, _, _, _, _, h4, ⟨by simp [kpL_len]; omega, by simp [nmA_len]; omega, by simp [boA_len]; omega⟩, rfl⟩⟩
        · have hres : pFld (pType s f) s ns n = some (t, nm, qb, m) := by
            rcases hy with ⟨hy, _⟩ | ⟨_, _, hy⟩
            · exact absurd h4 hy
            · rw [hy, h5]
          refine side ⟨b6 _, b5⟩ ?_
          refine ⟨⟨rfl, rfl, trivial, trivial, trivial, trivial⟩, 5, rfl, rfl, .inl ⟨t, nm, qb, m, h1', hres, h6, ?_⟩⟩
          rw [kpL_app, nmA_app, boA_app]; rfl
        · have hres : pFld (pType s f) s ns n = none := by
            rcases hy with ⟨hy, _⟩ | ⟨_, _, hy⟩
            · exact absurd h4 hy
            · rw [hy, h5]
          refine side ⟨b6 o, b5⟩ ?_
          exact ⟨⟨rfl, rfl, trivial, trivial, trivial, trivial⟩, 5, rfl, rfl, .inr ⟨.inr hres, _, _, _, _, _, h6, ⟨by simp [kpL_len]; omega, by simp [nmA_len]; omega, by simp [boA_len]; omega⟩, rfl⟩⟩

end Go.AV0
/- kind: objects read. -/
namespace Go.AV0
open Go.Proofs

def tcell : SO := .cells [.v (.c (.int .i64 8)), .ms 3, .ms 4, .ms 5]

set_option maxHeartbeats 4000000 in
theorem object_c {f : Nat} (hr : ReadC f) (s : ByteArray) (n deep : Nat) (hs : s.size ≤ 4096) (hn : n ≤ s.size) (hd : deep + f = 8) : AImp Tryz.prog 46 [.ref 0 0] [rd s n 0 deep] []
    (RdQ s deep 0 n (if stands s n 125 = true then some (.mk 8 [] [] [], n + 1) else pObj (pType s f) s 16 [] [] [] n)) := by
  refine aimp_of hTS Tryz.func46 (by kernel_rfl) rfl rfl rfl (fun p => ?_)
  refine call_obj (is_c s n 0 deep 125 hs) [0] rfl rfl rfl ?_
  rintro _ _ (⟨_, h1, rfl, rfl⟩ | ⟨h1, rfl, rfl⟩)
  · have := stands_lt h1
    repeat' (first | refine bsplit_t (by first | with_reducible assumption | with_reducible rfl | with_reducible exact Bool.not_true | with_reducible exact Bool.not_false) ?_ | refine bsplit_f (by first | with_reducible assumption | with_reducible rfl | with_reducible exact Bool.not_true | with_reducible exact Bool.not_false) ?_ | fail)
    refine ⟨⟨rfl, trivial⟩, 1, rfl, _, rfl, .inr (.inl ⟨rfl, .mk 8 [] [] [], n + 1, ?_, by omega, rfl, rfl⟩)⟩
    rw [if_pos h1]
  · have h1 := h1 rfl
    rw [h1]
    repeat' (first | refine bsplit_t (by first | with_reducible assumption | with_reducible rfl | with_reducible exact Bool.not_true | with_reducible exact Bool.not_false) ?_ | refine bsplit_f (by first | with_reducible assumption | with_reducible rfl | with_reducible exact Bool.not_true | with_reducible exact Bool.not_false) ?_ | fail)
    refine loop_own 2 1 36 1 rfl rfl rfl ?_
    refine loop_own 2 2 9 1 rfl rfl rfl ?_
    refine loop_own 2 3 4 1 rfl rfl rfl ?_
    refine loop_inv hTS (X := { x : List KT × List ByteArray × List Bool × Nat × Nat // x.1.length + x.2.2.2.2 = 16 ∧ x.2.1.length = x.1.length ∧ x.2.2.1.length = x.1.length ∧ x.2.2.2.1 ≤ s.size ∧ pObj (pType s f) s 16 [] [] [] n = pObj (pType s f) s x.2.2.2.2 x.1 x.2.1 x.2.2.1 x.2.2.2.1 } ⊕
        { y : List (List AV) × List (List AV) × List (List AV) × Nat × Int // y.2.2.2.2 ≠ 0 ∧ pObj (pType s f) s 16 [] [] [] n = none })
      (fun _ => ⟨[(0, .ref 0 0), (3, .ref 2 0)], []⟩) (fun x => match x with
        | .inl x => [rd s x.1.2.2.2.1 0 deep, .pin 0 (p 0), tcell, .arr 36 1 (kpL x.1.1), .arr 9 1 (nmA x.1.2.1), .arr 4 1 (boA x.1.2.2.1)]
        | .inr y => [rd s y.1.2.2.2.1 y.1.2.2.2.2 deep, .pin 0 (p 0), tcell, .arr 36 1 y.1.1, .arr 9 1 y.1.2.1, .arr 4 1 y.1.2.2.1])
      (fun x => match x with
        | .inl x => x.1.2.2.2.2 + 2
        | .inr y => 0) (.inl ⟨([], [], [], n, 16), rfl, rfl, rfl, hn, rfl⟩)
      ⟨rfl, rfl, ⟨⟨rfl, rfl⟩, ⟨rfl, rfl⟩, trivial⟩, ⟨[], rfl⟩, rfl⟩ ?_
    rintro (⟨⟨l, ns, lo, m, k⟩, hl, hl1, hl2, hm, hres⟩ | ⟨⟨L, N, B, m, e⟩, he, hres⟩)
    · simp only at hl hl1 hl2 hm hres
      refine call_obj (bad_c s m 0 deep) [0] rfl rfl rfl ?_
      rintro _ _ ⟨⟨h2, rfl⟩ | ⟨h2, _⟩, rfl⟩
      rotate_left
      · exact absurd rfl h2
      repeat' (first | refine bsplit_t (by first | with_reducible assumption | with_reducible rfl | with_reducible exact Bool.not_true | with_reducible exact Bool.not_false) ?_ | refine bsplit_f (by first | with_reducible assumption | with_reducible rfl | with_reducible exact Bool.not_true | with_reducible exact Bool.not_false) ?_ | fail)
      refine call_obj (field_c hr s m deep l ns lo hs hm hd (by omega) hl1 hl2) [0, 2, 3, 4, 5] rfl rfl rfl ?_
      rintro _ _ ⟨rfl, ⟨x, nm, q, m2, h3, h4, h5, rfl⟩ | ⟨h3, n', e', L, N, B, h5, h6, rfl⟩⟩
      · obtain ⟨k, rfl⟩ : ∃ k', k = k' + 1 := ⟨k - 1, by omega⟩
        refine call_obj (is_c s m2 0 deep 125 hs) [0] rfl rfl rfl ?_
        rintro _ _ (⟨_, h7, rfl, rfl⟩ | ⟨h7, rfl, rfl⟩)
        · have := stands_lt h7
          refine bsplit_t rfl ?_
          refine ⟨⟨rfl, trivial⟩, 1, rfl, _, rfl, .inr (.inl ⟨rfl, .mk 8 (l ++ [x]) (ns ++ [nm]) (lo ++ [q]), m2 + 1, ?_, by omega, rfl, rfl⟩)⟩
          rw [if_neg (by simp), hres]
          simp only [pObj, h4, if_pos h7]
        · have h7 := h7 rfl
          refine bsplit_f rfl ?_
          refine call_obj (must_c s m2 0 deep 44 hs) [0] rfl rfl rfl ?_
          rintro _ _ ⟨rfl, ⟨_, h8, rfl⟩ | ⟨_, h8, rfl⟩ | ⟨h8, _⟩⟩
          · have := stands_lt h8
            refine ⟨.inl ⟨(l ++ [x], ns ++ [nm], lo ++ [q], m2 + 1, k), by simp; omega, by simp [hl1], by simp [hl2], by show m2 + 1 ≤ s.size; omega, ?_⟩, by show k + 2 < k + 1 + 2; omega, ⟨rfl, rfl, ⟨⟨rfl, rfl⟩, ⟨rfl, rfl⟩, trivial⟩, ⟨[], rfl⟩, rfl⟩⟩
            rw [hres]
            simp [pObj, h4, h7, h8]
          · refine ⟨.inr ⟨(kpL (l ++ [x]), nmA (ns ++ [nm]), boA (lo ++ [q]), m2, 4), by show (4 : Int) ≠ 0; decide, ?_⟩, Nat.succ_pos _, ⟨rfl, rfl, ⟨⟨rfl, rfl⟩, ⟨rfl, rfl⟩, trivial⟩, ⟨[], rfl⟩, rfl⟩⟩
            rw [hres]
            simp [pObj, h4, h7, h8]
          · exact absurd rfl h8
      · have hnone : pObj (pType s f) s 16 [] [] [] n = none := by
          rw [hres]
          cases k with
          | zero => rfl
          | succ k =>
            rcases h3 with h3 | h3
            · omega
            · simp [pObj, h3]
        refine call_obj (is_c s n' e' deep 125 hs) [0] rfl rfl rfl ?_
        rintro _ _ (⟨h7, _⟩ | ⟨_, rfl, rfl⟩)
        · exact absurd h7 h5
        refine bsplit_f rfl ?_
        refine call_obj (must_c s n' e' deep 44 hs) [0] rfl rfl rfl ?_
        rintro _ _ ⟨rfl, ⟨h8, _⟩ | ⟨h8, _⟩ | ⟨_, rfl⟩⟩
        · exact absurd h8 h5
        · exact absurd h8 h5
        exact ⟨.inr ⟨(L, N, B, n', e'), h5, hnone⟩, Nat.succ_pos _, ⟨rfl, rfl, ⟨⟨rfl, rfl⟩, ⟨rfl, rfl⟩, trivial⟩, ⟨[], rfl⟩, rfl⟩⟩
    · simp only at he hres
      refine call_obj (bad_c s m e deep) [0] rfl rfl rfl ?_
      rintro _ _ ⟨⟨h2, rfl⟩ | ⟨h2, rfl⟩, rfl⟩
      · exact absurd h2 he
      · repeat' (first | refine bsplit_t (by first | with_reducible assumption | with_reducible rfl | with_reducible exact Bool.not_true | with_reducible exact Bool.not_false) ?_ | refine bsplit_f (by first | with_reducible assumption | with_reducible rfl | with_reducible exact Bool.not_true | with_reducible exact Bool.not_false) ?_ | fail)
        exact ⟨⟨rfl, trivial⟩, 1, rfl, _, rfl, .inr (.inr ⟨rfl, (if_neg (by simp)).trans hres, _, _, he, rfl⟩)⟩

end Go.AV0
/- kind: types read. -/
namespace Go.AV0
open Go.Proofs

theorem undeep_c (s : ByteArray) (n : Nat) (e : Int) (deep : Nat) (hd : deep ≤ 100) : ADef Tryz.prog 43 [.ref 0 0] [.cells [.ref 1 0], rd s n e (deep + 1)] [] (fun _ h => h = [.cells [.ref 1 0], rd s n e deep]) := by
  refine adef_of hTS Tryz.func43 (by kernel_rfl) rfl rfl rfl (fun p => ?_)
  refine ⟨rfl, ⟨rfl, rfl, trivial⟩, 2, rfl, ?_⟩
  show [SO.cells [.ref 1 0], .cells [_, _, _, .v (.c (.int .i64 (IntKind.i64.wrap (((deep + 1 : Nat) : Int) - 1))))]] = _
  rw [wr (by omega) (by omega), show ((deep + 1 : Nat) : Int) - 1 = (deep : Int) by omega]; rfl

set_option maxHeartbeats 4000000 in
theorem read_c : ∀ f, ReadC f := by
  intro f
  induction f with
  | zero =>
    intro s n e deep hs hn hd
    have hd : deep = 8 := by omega
    subst hd
    refine aimp_of hTS Tryz.func26 (by kernel_rfl) rfl rfl rfl (fun p => ?_)
    refine call_obj (bad_c s n e 8) [0] rfl rfl rfl ?_
    rintro _ _ ⟨⟨rfl, rfl⟩ | ⟨h1, rfl⟩, rfl⟩
    · repeat' (first | refine bsplit_t (by first | with_reducible assumption | with_reducible rfl | with_reducible exact Bool.not_true | with_reducible exact Bool.not_false) ?_ | refine bsplit_f (by first | with_reducible assumption | with_reducible rfl | with_reducible exact Bool.not_true | with_reducible exact Bool.not_false) ?_ | fail)
      refine bsplit_t (by decide) ?_
      refine draw_ev hTS (by kernel_rfl) (.or 0 (.pur 1 (.pur 2 (.one 3 (.pur 4 (.pur 5 (.pur 6 (.one 7 (.one 8 .done)))))))) (.one 3 (.pur 4 (.pur 5 (.pur 6 (.or 0 (.pur 1 (.pur 2 (.one 7 (.one 8 .done)))) (.one 7 (.one 0 (.pur 1 (.pur 2 (.one 8 .done))))))))))) (by kernel_rfl) ?_
      refine ⟨?_, ⟨?_, ?_⟩⟩
      all_goals
        refine call_obj (fail_c s n 0 8 n 3) [0] rfl rfl rfl ?_
        rintro _ _ ⟨rfl, ⟨_, rfl⟩ | ⟨h9, rfl⟩⟩
        · exact ⟨⟨rfl, trivial⟩, 1, rfl, _, rfl, .inr (.inr ⟨rfl, rfl, _, _, (by decide), rfl⟩)⟩
        · exact absurd rfl h9
    · repeat' (first | refine bsplit_t (by first | with_reducible assumption | with_reducible rfl | with_reducible exact Bool.not_true | with_reducible exact Bool.not_false) ?_ | refine bsplit_f (by first | with_reducible assumption | with_reducible rfl | with_reducible exact Bool.not_true | with_reducible exact Bool.not_false) ?_ | fail)
      exact ⟨⟨rfl, trivial⟩, 1, rfl, _, rfl, .inl ⟨h1, rfl⟩⟩
  | succ f ih =>
    intro s n e deep hs hn hd
    refine aimp_of hTS Tryz.func26 (by kernel_rfl) rfl rfl rfl (fun p => ?_)
    refine call_obj (bad_c s n e deep) [0] rfl rfl rfl ?_
    rintro _ _ ⟨⟨rfl, rfl⟩ | ⟨h1, rfl⟩, rfl⟩
    rotate_left
    · repeat' (first | refine bsplit_t (by first | with_reducible assumption | with_reducible rfl | with_reducible exact Bool.not_true | with_reducible exact Bool.not_false) ?_ | refine bsplit_f (by first | with_reducible assumption | with_reducible rfl | with_reducible exact Bool.not_true | with_reducible exact Bool.not_false) ?_ | fail)
      exact ⟨⟨rfl, trivial⟩, 1, rfl, _, rfl, .inl ⟨h1, rfl⟩⟩
    have hn := hn rfl
    have hw : IntKind.i64.wrap ((deep : Int) + 1) = ((deep + 1 : Nat) : Int) := by rw [wr (by omega) (by omega)]; rfl
    repeat' (first | refine bsplit_t (by first | with_reducible assumption | with_reducible rfl | with_reducible exact Bool.not_true | with_reducible exact Bool.not_false) ?_ | refine bsplit_f (by first | with_reducible assumption | with_reducible rfl | with_reducible exact Bool.not_true | with_reducible exact Bool.not_false) ?_ | fail)
    refine bsplit (fun h2 => ?_) (fun h2 => ?_)
    · have h2 : decide ((deep : Int) = 8) = true := h2
      simp at h2; omega
    refine call_obj (is_c s n 0 (deep + 1) 91 hs) [0] rfl (congrArg (fun d => [some (SO.cells [.v (.c (.string s)), .v (.c (.int .i64 (n : Int))), .v (.c (.int .i64 0)), .v (.c (.int .i64 d))])]) hw) rfl ?_
    rintro _ _ (⟨_, h3, rfl, rfl⟩ | ⟨h3, rfl, rfl⟩)
    · have := stands_lt h3
      refine bsplit_t rfl ?_
      refine call_obj (tuple_c ih s (n + 1) (deep + 1) hs (by omega) (by omega)) [0] rfl rfl rfl ?_
      have hp : pType s (f + 1) n = (if stands s (n + 1) 93 = true then some (.mk 7 [] [] [], n + 1 + 1) else pTup (pType s f) s 16 [] (n + 1)) := by
        simp only [pType]; rw [if_pos h3]
      rw [hp]
      rintro _ _ ⟨o, rfl, ⟨h5, _⟩ | ⟨_, t, m, h5, h6, rfl, rfl⟩ | ⟨_, h5, n', e', h6, rfl⟩⟩
      · exact absurd rfl h5
      · refine def_obj (undeep_c s m 0 deep (by omega)) [2, 0] rfl rfl rfl ?_
        rintro _ _ rfl
        exact ⟨⟨rfl, trivial⟩, 1, rfl, _, rfl, .inr (.inl ⟨rfl, t, m, h5, h6, rfl, rfl⟩)⟩
      · refine def_obj (undeep_c s n' e' deep (by omega)) [2, 0] rfl rfl rfl ?_
        rintro _ _ rfl
        exact ⟨⟨rfl, trivial⟩, 1, rfl, _, rfl, .inr (.inr ⟨rfl, h5, _, _, h6, rfl⟩)⟩
    have h3 := h3 rfl
    refine bsplit_f rfl ?_
    refine call_obj (is_c s n 0 (deep + 1) 123 hs) [0] rfl rfl rfl ?_
    rintro _ _ (⟨_, h4, rfl, rfl⟩ | ⟨h4, rfl, rfl⟩)
    · have := stands_lt h4
      refine bsplit_t rfl ?_
      refine call_obj (object_c ih s (n + 1) (deep + 1) hs (by omega) (by omega)) [0] rfl rfl rfl ?_
      have hp : pType s (f + 1) n = (if stands s (n + 1) 125 = true then some (.mk 8 [] [] [], n + 1 + 1) else pObj (pType s f) s 16 [] [] [] (n + 1)) := by
        simp only [pType]; rw [if_neg (by simp [h3]), if_pos h4]
      rw [hp]
      rintro _ _ ⟨o, rfl, ⟨h5, _⟩ | ⟨_, t, m, h5, h6, rfl, rfl⟩ | ⟨_, h5, n', e', h6, rfl⟩⟩
      · exact absurd rfl h5
      · refine def_obj (undeep_c s m 0 deep (by omega)) [2, 0] rfl rfl rfl ?_
        rintro _ _ rfl
        exact ⟨⟨rfl, trivial⟩, 1, rfl, _, rfl, .inr (.inl ⟨rfl, t, m, h5, h6, rfl, rfl⟩)⟩
      · refine def_obj (undeep_c s n' e' deep (by omega)) [2, 0] rfl rfl rfl ?_
        rintro _ _ rfl
        exact ⟨⟨rfl, trivial⟩, 1, rfl, _, rfl, .inr (.inr ⟨rfl, h5, _, _, h6, rfl⟩)⟩
    have h4 := h4 rfl
    refine bsplit_f rfl ?_
    refine call_pure words_c rfl ?_
    rintro _ rfl
    refine draw_ev hTS (by kernel_rfl) (.part [3] [4] (.take 0 (.or 1 (.one 2 (.one 3 (.fin 4 (.pur 5 .done)))) (.one 2 (.one 1 (.one 3 (.fin 4 (.pur 5 .done)))))))) (by kernel_rfl) ?_
    refine ⟨?_, ?_⟩
    all_goals
      refine side ⟨?_, by decide⟩ ?_
      · intro y hy
        simp at hy
        rcases hy with rfl | rfl <;> exact ⟨rfl, rfl⟩
      refine call_frz 3 rfl rfl ?_
      refine call_obj (word_c s n (deep + 1) wds hs hn (by decide) (by decide)) [0] rfl rfl rfl ?_
      have hp : pType s (f + 1) n = (match hitW s n wds 0 with
        | none => none
        | some (i, l) => if i < 5 then some (.mk i [] [] [], n + l) else if stands s (n + l) 40 = true then match pType s f (n + l + 1) with
            | none => none
            | some (x, m) => if stands s m 41 = true then some (.mk i [x] [] [], m + 1) else none
          else none) := by
        simp only [pType]; rw [if_neg (by simp [h3]), if_neg (by simp [h4])]; rfl
      rw [hp]
      rintro _ _ (⟨h5, n', e', h6, rfl, rfl⟩ | ⟨i, l, h5, h6, h7, rfl, rfl⟩)
      · refine bsplit_t (by decide) ?_
        refine def_obj (undeep_c s n' e' deep (by omega)) [2, 0] rfl rfl rfl ?_
        rintro _ _ rfl
        refine ⟨⟨rfl, trivial⟩, 1, rfl, _, rfl, .inr (.inr ⟨rfl, ?_, _, _, h6, rfl⟩)⟩
        rw [h5]
      · refine bsplit (fun h8 => ?_) (fun h8 => ?_)
        · have h8' : i < 5 := by simp at h8; omega
          refine def_obj (undeep_c s (n + l) 0 deep (by omega)) [2, 0] rfl rfl rfl ?_
          rintro _ _ rfl
          refine ⟨⟨rfl, trivial⟩, 1, rfl, _, rfl, .inr (.inl ⟨rfl, .mk i [] [] [], n + l, ?_, h7, rfl, rfl⟩)⟩
          rw [h5]; simp only; rw [if_pos h8']
        · have h8' : ¬ i < 5 := by simp at h8; omega
          refine call_obj (single_c ih s (n + l) (deep + 1) i hs h7 (by omega)) [0] rfl rfl rfl ?_
          rw [h5]; simp only; rw [if_neg h8']
          rintro _ _ ⟨o, rfl, ⟨h9, _⟩ | ⟨_, t, m, h9, h10, rfl, rfl⟩ | ⟨_, h9, n', e', h10, rfl⟩⟩
          · exact absurd rfl h9
          · refine def_obj (undeep_c s m 0 deep (by omega)) [2, 0] rfl rfl rfl ?_
            rintro _ _ rfl
            exact ⟨⟨rfl, trivial⟩, 1, rfl, _, rfl, .inr (.inl ⟨rfl, t, m, h9, h10, rfl, rfl⟩)⟩
          · refine def_obj (undeep_c s n' e' deep (by omega)) [2, 0] rfl rfl rfl ?_
            rintro _ _ rfl
            exact ⟨⟨rfl, trivial⟩, 1, rfl, _, rfl, .inr (.inr ⟨rfl, h9, _, _, h10, rfl⟩)⟩

theorem parse_c (s : ByteArray) : APure Tryz.prog 7 [.c (.string s)] (fun v =>
    (4096 < s.size ∧ v = .tup [.ptr none, .c (.int .i64 0), .c (.int .i64 3)]) ∨
    (s.size ≤ 4096 ∧ ((∃ t, pParse s = some t ∧ v = .tup [kp t, .c (.int .i64 0), .c (.int .i64 0)]) ∨
      (pParse s = none ∧ ∃ n e, e ≠ 0 ∧ v = .tup [.ptr none, .c (.int .i64 n), .c (.int .i64 e)])))) := by
  refine apure_of hTS Tryz.func7 (by kernel_rfl) rfl rfl rfl ?_
  refine bsplit (fun h1 => ?_) (fun h1 => ?_)
  · have h1' : 4096 < s.size := by simp at h1; omega
    exact .inl ⟨h1', rfl⟩
  · have h1' : s.size ≤ 4096 := by simp at h1; omega
    have hP : pParse s = match pType s 8 0 with
      | none => none
      | some (t, m) => if m < s.size then none else some t := by
        simp only [pParse]; rw [if_neg (by omega)]; rfl
    refine call_obj (read_c 8 s 0 0 0 h1' (fun _ => Nat.zero_le _) rfl) [0] rfl rfl rfl ?_
    rintro _ _ ⟨o, rfl, ⟨h2, _⟩ | ⟨_, t, m, h2, h3, rfl, rfl⟩ | ⟨_, h2, n', e', h3, rfl⟩⟩
    · exact absurd rfl h2
    · refine call_obj (bad_c s m 0 0) [0] rfl rfl rfl ?_
      rintro _ _ ⟨⟨_, rfl⟩ | ⟨h9, _⟩, rfl⟩
      rotate_left
      · exact absurd rfl h9
      repeat' (first | refine bsplit_t (by first | with_reducible assumption | with_reducible rfl | with_reducible exact Bool.not_true | with_reducible exact Bool.not_false) ?_ | refine bsplit_f (by first | with_reducible assumption | with_reducible rfl | with_reducible exact Bool.not_true | with_reducible exact Bool.not_false) ?_ | fail)
      refine bsplit (fun h4 => ?_) (fun h4 => ?_)
      · have h4' : m < s.size := by simp at h4; omega
        repeat' (first | refine bsplit_t (by first | with_reducible assumption | with_reducible rfl | with_reducible exact Bool.not_true | with_reducible exact Bool.not_false) ?_ | refine bsplit_f (by first | with_reducible assumption | with_reducible rfl | with_reducible exact Bool.not_true | with_reducible exact Bool.not_false) ?_ | fail)
        refine draw_ev hTS (by kernel_rfl) (.pur 0 (.pur 1 (.pur 2 (.pur 3 (.pur 4 (.pur 5 (.pur 6 (.one 7 (.one 8 .done))))))))) (by kernel_rfl) ?_
        refine call_obj (fail_c s m 0 0 m 4) [0] rfl rfl rfl ?_
        rintro _ _ ⟨rfl, ⟨_, rfl⟩ | ⟨h9, _⟩⟩
        rotate_left
        · exact absurd rfl h9
        refine call_obj (bad_c s m 4 0) [0] rfl rfl rfl ?_
        rintro _ _ ⟨⟨h9, _⟩ | ⟨_, rfl⟩, rfl⟩
        · cases h9
        repeat' (first | refine bsplit_t (by first | with_reducible assumption | with_reducible rfl | with_reducible exact Bool.not_true | with_reducible exact Bool.not_false) ?_ | refine bsplit_f (by first | with_reducible assumption | with_reducible rfl | with_reducible exact Bool.not_true | with_reducible exact Bool.not_false) ?_ | fail)
        refine draw_ev hTS (by kernel_rfl) (.pur 0 (.pur 1 (.pur 2 (.pur 3 (.pur 5 (.pur 6 (.pur 7 (.pur 8 (.pur 10 (.or 4 (.pur 11 (.one 9 (.pur 12 .done))) (.one 9 (.one 4 (.pur 11 (.pur 12 .done)))))))))))))) (by kernel_rfl) ?_
        refine ⟨?_, ?_⟩
        all_goals
          refine .inr ⟨h1', .inr ⟨?_, m, 4, by decide, rfl⟩⟩
          rw [hP, h2]; simp only; rw [if_pos h4']
      · have h4' : ¬ m < s.size := by simp at h4; omega
        repeat' (first | refine bsplit_t (by first | with_reducible assumption | with_reducible rfl | with_reducible exact Bool.not_true | with_reducible exact Bool.not_false) ?_ | refine bsplit_f (by first | with_reducible assumption | with_reducible rfl | with_reducible exact Bool.not_true | with_reducible exact Bool.not_false) ?_ | fail)
        refine call_obj (bad_c s m 0 0) [0] rfl rfl rfl ?_
        rintro _ _ ⟨⟨_, rfl⟩ | ⟨h9, _⟩, rfl⟩
        rotate_left
        · exact absurd rfl h9
        repeat' (first | refine bsplit_t (by first | with_reducible assumption | with_reducible rfl | with_reducible exact Bool.not_true | with_reducible exact Bool.not_false) ?_ | refine bsplit_f (by first | with_reducible assumption | with_reducible rfl | with_reducible exact Bool.not_true | with_reducible exact Bool.not_false) ?_ | fail)
        refine .inr ⟨h1', .inl ⟨t, ?_, rfl⟩⟩
        rw [hP, h2]; simp only; rw [if_neg h4']
    · refine call_obj (bad_c s n' e' 0) [0] rfl rfl rfl ?_
      rintro _ _ ⟨⟨h9, _⟩ | ⟨_, rfl⟩, rfl⟩
      · exact absurd h9 h3
      repeat' (first | refine bsplit_t (by first | with_reducible assumption | with_reducible rfl | with_reducible exact Bool.not_true | with_reducible exact Bool.not_false) ?_ | refine bsplit_f (by first | with_reducible assumption | with_reducible rfl | with_reducible exact Bool.not_true | with_reducible exact Bool.not_false) ?_ | fail)
      refine call_obj (bad_c s n' e' 0) [0] rfl rfl rfl ?_
      rintro _ _ ⟨⟨h9, _⟩ | ⟨_, rfl⟩, rfl⟩
      · exact absurd h9 h3
      repeat' (first | refine bsplit_t (by first | with_reducible assumption | with_reducible rfl | with_reducible exact Bool.not_true | with_reducible exact Bool.not_false) ?_ | refine bsplit_f (by first | with_reducible assumption | with_reducible rfl | with_reducible exact Bool.not_true | with_reducible exact Bool.not_false) ?_ | fail)
      refine draw_ev hTS (by kernel_rfl) (.pur 0 (.pur 1 (.pur 2 (.pur 3 (.pur 5 (.pur 6 (.pur 7 (.pur 8 (.pur 10 (.or 4 (.pur 11 (.one 9 (.pur 12 .done))) (.one 9 (.one 4 (.pur 11 (.pur 12 .done)))))))))))))) (by kernel_rfl) ?_
      refine ⟨?_, ?_⟩
      all_goals
        refine .inr ⟨h1', .inr ⟨?_, n', e', h3, rfl⟩⟩
        rw [hP, h2]

end Go.AV0
/- the document's types: objects. -/
namespace Go.AV0
open Go.Proofs

theorem atI_dec {s : ByteArray} {i : Nat} {c : Int} (h : 0 ≤ c) : decide (atI s i = c) = stands s i c := by
  rw [Bool.eq_iff_iff, decide_eq_true_iff]; exact atI_stands h

abbrev LO := List KT × List ByteArray × List Bool × Nat × Nat

set_option maxRecDepth 20000 in
set_option maxHeartbeats 4000000 in
theorem manyO_r {f : Nat} (hr : TypeC f) (s : ByteArray) (n deep : Nat) (hs : s.size ≤ 4096) (hn : n < s.size) (hd : deep + 1 + f = 8) : APure Tryz.prog 42 [.c (.string s), .c (.int .i64 (n : Int)), .c (.int .i64 (deep : Int)), .c (.bool true)]
    (TQ s (if stands s (n + 1) 125 = true then some (.mk 8 [] [] [], n + 2) else pObj (pType s f) s 16 [] [] [] (n + 1))) := by
  have hw1 : IntKind.i64.wrap ((n : Int) + 1) = ((n + 1 : Nat) : Int) := inc (by omega)
  have hwd : IntKind.i64.wrap ((deep : Int) + 1) = ((deep + 1 : Nat) : Int) := inc (by omega)
  refine apure_of hTS Tryz.func42 (by kernel_rfl) rfl rfl rfl ?_
  repeat' (first | refine bsplit_t (by first | with_reducible assumption | with_reducible rfl | with_reducible exact Bool.not_true | with_reducible exact Bool.not_false) ?_ | refine bsplit_f (by first | with_reducible assumption | with_reducible rfl | with_reducible exact Bool.not_true | with_reducible exact Bool.not_false) ?_ | fail)
  refine call_pure (at_r s (n + 1)) (congrArg (fun x => some [AV.c (.string s), .c (.int .i64 x)]) hw1) ?_
  rintro _ rfl
  refine bsplit (fun h1 => ?_) (fun h1 => ?_)
  · have h1 : decide (atI s (n + 1) = 125) = true := h1
    have h1 := (atI_stands (by omega)).1 (of_decide_eq_true h1)
    have := stands_lt h1
    refine .inl ⟨.mk 8 [] [] [], n + 2, by rw [if_pos h1], by omega, ?_⟩
    show AV.tup [_, .agg [.c (.int .i64 (IntKind.i64.wrap (IntKind.i64.wrap ((n : Int) + 1) + 1))), _]] = _
    rw [hw1, inc (by omega)]; rfl
  · have h1 : decide (atI s (n + 1) = 125) = false := h1
    have h1 := mt (atI_stands (by omega)).2 (of_decide_eq_false h1)
    rw [if_neg h1]
    refine loop_own 2 1 31 4 rfl rfl rfl ?_
    refine loop_own 2 2 9 1 rfl rfl rfl ?_
    refine loop_own 2 3 4 1 rfl rfl rfl ?_
    refine loop_on hTS (X := LO) (fun (l, ns, lo, m, k) => l.length + k = 16 ∧ ns.length = l.length ∧ lo.length = l.length ∧ m ≤ s.size ∧ pObj (pType s f) s 16 [] [] [] (n + 1) = pObj (pType s f) s k l ns lo m)
      (fun (_, _, _, m, _) => ⟨[(0, .v (.c (.string s))), (1, .v (.c (.int .i64 (m : Int)))), (2, .v (.c (.int .i64 (deep : Int)))), (3, .v (.c (.bool true))), (8, .ref 0 0), (9, .ref 1 0), (10, .ref 2 0), (11, .v (.c (.int .i32 125)))], []⟩)
      (fun (l, ns, lo, _, _) => [zT, zE, .cells [.v (.c (.int .i64 8)), .ms 3, .ms 4, .ms 5], .arr 31 4 (ktRL l), .arr 9 1 (nmA ns), .arr 4 1 (boA lo)]) (fun (_, _, _, _, k) => k) ([], [], [], n + 1, 16) ⟨rfl, rfl, rfl, by omega, rfl⟩ ⟨rfl, rfl, (by (repeat' (first | exact trivial | refine ⟨⟨?_, rfl⟩, ?_⟩ | fail)); all_goals (first | (show some (SV.v (AV.c (Value.int .i64 (IntKind.i64.wrap _)))) = _; rw [inc (by omega)]; try rfl) | rfl)), ⟨_, rfl⟩, rfl⟩ ?_
    rintro ⟨l, ns, lo, m, k⟩ ⟨hl, hl1, hl2, hm, hres⟩
    rw [hres]
    refine bsplit_d (fun h2 _ => ?_) (fun h2 _ => ?_)
    · have h2 : ((ktRL l).length : Int) = 16 := h2
      have hk0 : k = 0 := by rw [ktRL_len] at h2; omega
      subst hk0
      show TQ _ _ _
      exact .inr ⟨rfl, _, _, _, _, _, _, by decide, rfl⟩
    · have h2 : ¬ ((ktRL l).length : Int) = 16 := h2
      obtain ⟨k, rfl⟩ : ∃ k', k = k' + 1 := ⟨k - 1, by rw [ktRL_len] at h2; omega⟩
      have b1 : ((nmA ns).length + 1) * 17 ≤ 70368744177664 := by rw [nmA_len]; omega
      have b2 : ((boA lo).length + 1) * 2 ≤ 70368744177664 := by rw [boA_len]; omega
      have b3 : ((ktRL l).length + 1) * 81 ≤ 70368744177664 := by rw [ktRL_len]; omega
      repeat' (first | refine bsplit_t (by first | with_reducible assumption | with_reducible rfl | with_reducible exact Bool.not_true | with_reducible exact Bool.not_false) ?_ | refine bsplit_f (by first | with_reducible assumption | with_reducible rfl | with_reducible exact Bool.not_true | with_reducible exact Bool.not_false) ?_ | fail)
      refine call_pure (name_r s m hs hm) rfl ?_
      rintro _ (⟨hnm, a, e, he, rfl⟩ | ⟨hn1, hn2, hn3, rfl⟩)
      · refine bsplit_t (decide_eq_true he) ?_
        refine draw_ev hTS (by kernel_rfl) (.part [0, 1] [3] (.take 0 (.take 1 (.one 2 (.fin 3 .done))))) (by kernel_rfl) ?_
        exact .inr ⟨by simp only [pObj, pFld]; rw [if_pos hnm], _, _, _, _, _, _, he, rfl⟩
      refine bsplit_f (by decide) ?_
      refine side ⟨Int.natCast_nonneg _, Int.ofNat_le.2 (Nat.le_add_right _ _), Int.ofNat_le.2 hn3⟩ ?_
      have hbase : pFld (pType s f) s ns m = if badOrder ns (s.extract m (m + nameLen s m)) = true then none
          else if stands s (if stands s (m + nameLen s m) 63 = true then m + nameLen s m + 1 else m + nameLen s m) 58 = true then
            match pType s f ((if stands s (m + nameLen s m) 63 = true then m + nameLen s m + 1 else m + nameLen s m) + 1) with
            | none => none
            | some (x, m2) => some (x, s.extract m (m + nameLen s m), stands s (m + nameLen s m) 63, m2)
          else none := by
        simp only [pFld]; rw [if_neg (by omega)]; rfl
      have hbad : badOrder ns (s.extract m (m + nameLen s m)) = true → pObj (pType s f) s (k + 1) l ns lo m = none := by
        intro h
        simp only [pObj, hbase]; rw [if_pos h]
      refine bsplit_d (fun h3 _ => ?_) (fun h3 _ => ?_)
      case' refine_1 =>
        have h3 : (0 : Int) < ((nmA ns).length : Int) := h3
        have hne : 0 < ns.length := by rw [nmA_len] at h3; omega
        have hw0 : IntKind.i64.wrap (((nmA ns).length : Int) - 1) = (ns.length : Int) - 1 := by rw [nmA_len, wr] <;> omega
        obtain ⟨y0, hy0⟩ : ∃ y, ns[ns.length - 1]? = some y := ⟨_, List.getElem?_eq_getElem (by omega)⟩
        have hlast : ns.getLast? = some y0 := by rw [List.getLast?_eq_getElem?]; exact hy0
        have hget : (nmA ns)[((ns.length : Int) - 1).toNat]? = some [.c (.string y0)] := by
          rw [show ((ns.length : Int) - 1).toNat = ns.length - 1 by omega]
          simp [nmA, hy0]
        repeat' (first | refine bsplit_t (by first | with_reducible assumption | with_reducible rfl | with_reducible exact Bool.not_true | with_reducible exact Bool.not_false) ?_ | refine bsplit_f (by first | with_reducible assumption | with_reducible rfl | with_reducible exact Bool.not_true | with_reducible exact Bool.not_false) ?_ | fail)
        refine elev (l := nmA ns) (i := IntKind.i64.wrap (((nmA ns).length : Int) - 1)) (by rw [hw0]; omega) [AV.c (.string y0)] (by rw [hw0]; exact hget) ?_
        repeat' (first | refine bsplit_t (by first | with_reducible assumption | with_reducible rfl | with_reducible exact Bool.not_true | with_reducible exact Bool.not_false) ?_ | refine bsplit_f (by first | with_reducible assumption | with_reducible rfl | with_reducible exact Bool.not_true | with_reducible exact Bool.not_false) ?_ | fail)
        refine elev (Int.natCast_nonneg _) [AV.c (.string y0)] (by rw [hw0]; simpa using hget) ?_
        repeat' (first | refine bsplit_t (by first | with_reducible assumption | with_reducible rfl | with_reducible exact Bool.not_true | with_reducible exact Bool.not_false) ?_ | refine bsplit_f (by first | with_reducible assumption | with_reducible rfl | with_reducible exact Bool.not_true | with_reducible exact Bool.not_false) ?_ | fail)
        refine bsplit_d (fun h4 _ => ?_) (fun h4 _ => ?_)
        · have h4 : s.extract m (m + nameLen s m) = y0 := h4
          have hb := hbad (by simp only [badOrder, hlast]; rw [decide_eq_true h4]; simp)
          exact .inr ⟨hb, _, _, _, _, _, _, by decide, rfl⟩
        repeat' (first | refine bsplit_t (by first | with_reducible assumption | with_reducible rfl | with_reducible exact Bool.not_true | with_reducible exact Bool.not_false) ?_ | refine bsplit_f (by first | with_reducible assumption | with_reducible rfl | with_reducible exact Bool.not_true | with_reducible exact Bool.not_false) ?_ | fail)
        refine elev (l := nmA ns) (i := IntKind.i64.wrap (((nmA ns).length : Int) - 1)) (by rw [hw0]; omega) [AV.c (.string y0)] (by rw [hw0]; exact hget) ?_
        repeat' (first | refine bsplit_t (by first | with_reducible assumption | with_reducible rfl | with_reducible exact Bool.not_true | with_reducible exact Bool.not_false) ?_ | refine bsplit_f (by first | with_reducible assumption | with_reducible rfl | with_reducible exact Bool.not_true | with_reducible exact Bool.not_false) ?_ | fail)
        refine elev (Int.natCast_nonneg _) [AV.c (.string y0)] (by rw [hw0]; simpa using hget) ?_
        repeat' (first | refine bsplit_t (by first | with_reducible assumption | with_reducible rfl | with_reducible exact Bool.not_true | with_reducible exact Bool.not_false) ?_ | refine bsplit_f (by first | with_reducible assumption | with_reducible rfl | with_reducible exact Bool.not_true | with_reducible exact Bool.not_false) ?_ | fail)
        refine bsplit (fun h5 => ?_) (fun h5 => ?_)
        · have h5 : slt (s.extract m (m + nameLen s m)) y0 = true := h5
          have hb := hbad (by simp only [badOrder, hlast]; rw [h5]; rfl)
          exact .inr ⟨hb, _, _, _, _, _, _, by decide, rfl⟩
        have h4 : ¬ s.extract m (m + nameLen s m) = y0 := h4
        have h5 : slt (s.extract m (m + nameLen s m)) y0 = false := h5
        have hbo : badOrder ns (s.extract m (m + nameLen s m)) = false := by
          simp only [badOrder, hlast]; rw [decide_eq_false h4, h5]; rfl
      case' refine_2 =>
        have h3 : ¬ (0 : Int) < ((nmA ns).length : Int) := h3
        have hne : ns = [] := List.eq_nil_of_length_eq_zero (by rw [nmA_len] at h3; omega)
        have hbo : badOrder ns (s.extract m (m + nameLen s m)) = false := by rw [hne]; rfl
        repeat' (first | refine bsplit_t (by first | with_reducible assumption | with_reducible rfl | with_reducible exact Bool.not_true | with_reducible exact Bool.not_false) ?_ | refine bsplit_f (by first | with_reducible assumption | with_reducible rfl | with_reducible exact Bool.not_true | with_reducible exact Bool.not_false) ?_ | fail)
      all_goals
        have hbase2 := hbase
        rw [hbo] at hbase2
        obtain ⟨nm, hnm2⟩ : ∃ nm, nm = s.extract m (m + nameLen s m) := ⟨_, rfl⟩
        rw [← hnm2] at hbase2
        refine call_pure (at_r s (m + nameLen s m)) rfl ?_
        rintro _ rfl
        refine bsplit (fun h6 => ?_) (fun h6 => ?_)
        case' refine_1 =>
          have h6 : decide (atI s (m + nameLen s m) = 63) = true := h6
          have h6b := atI_dec (s := s) (i := m + nameLen s m) (c := 63) (by omega)
          have h6c : stands s (m + nameLen s m) 63 = true := h6b ▸ h6
          have := stands_lt h6c
          have hs1 : IntKind.i64.wrap (((m + nameLen s m : Nat) : Int) + 1) = ((m + nameLen s m + 1 : Nat) : Int) := inc (by omega)
          rw [h6c] at hbase2
          obtain ⟨M, hM⟩ : ∃ M, M = m + nameLen s m + 1 := ⟨_, rfl⟩
          have hMs : M ≤ s.size := by omega
          rw [← hM] at hs1
          simp only [Bool.false_eq_true, if_true, if_false, ← hM] at hbase2
        case' refine_2 =>
          have h6 : decide (atI s (m + nameLen s m) = 63) = false := h6
          have h6b := atI_dec (s := s) (i := m + nameLen s m) (c := 63) (by omega)
          have h6c : stands s (m + nameLen s m) 63 = false := h6b ▸ h6
          rw [h6c] at hbase2
          obtain ⟨M, hM⟩ : ∃ M, M = m + nameLen s m := ⟨_, rfl⟩
          have hMs : M ≤ s.size := by omega
          have hs1 : ((m + nameLen s m : Nat) : Int) = (M : Int) := by rw [hM]
          simp only [Bool.false_eq_true, if_false, ← hM] at hbase2
        all_goals
          refine call_pure (at_r s M) (congrArg (fun x => some [AV.c (.string s), .c (.int .i64 x)]) hs1) ?_
          rintro _ rfl
          refine bsplit_d (fun h7 _ => ?_) (fun h7 _ => ?_)
          · have h7 : ¬ stands s M 58 = true := fun h => h7 ((atI_stands (by omega)).2 h)
            rw [if_neg h7] at hbase2
            exact .inr ⟨by simp only [pObj, hbase2], _, _, _, _, _, _, by decide, rfl⟩
          have h7 := (atI_stands (by omega)).1 (Decidable.not_not.1 h7)
          have hlt := stands_lt h7
          rw [if_pos h7] at hbase2
          have hs2 : IntKind.i64.wrap (_ + 1) = ((M + 1 : Nat) : Int) := (congrArg (fun x => IntKind.i64.wrap (x + 1)) hs1).trans (inc (by omega))
          refine side ⟨?_, b1⟩ ?_
          · intro y hy
            simp at hy; subst hy; exact ⟨rfl, rfl⟩
          refine side ⟨?_, b2⟩ ?_
          · intro y hy
            simp at hy; subst hy; exact ⟨rfl, rfl⟩
          refine call_pure (hr s (M + 1) (deep + 1) hs (by omega) hd) (congr (congrArg (fun x y => some [AV.c (.string s), .c (.int .i64 x), .c (.int .i64 y)]) hs2) hwd) ?_
          rintro _ (⟨⟨tf, tl, tn, tlo⟩, m2, h8, h9, rfl⟩ | ⟨h8, i, L, N, B, x, e, h9, rfl⟩)
          · have hF : pFld (pType s f) s ns m = some (.mk tf tl tn tlo, s.extract m (m + nameLen s m), decide (atI s (m + nameLen s m) = 63), m2) := by
              rw [hbase2, h8, h6, hnm2]
            refine bsplit_f (by decide) ?_
            refine side ⟨?_, b3⟩ ?_
            · intro y hy
              simp at hy; subst hy; exact ⟨rfl, rfl⟩
            refine call_pure (at_r s m2) rfl ?_
            rintro _ rfl
            refine bsplit (fun h10 => ?_) (fun h10 => ?_)
            · have h10 : decide (atI s m2 = 125) = true := h10
              have h10 := (atI_stands (by omega)).1 (of_decide_eq_true h10)
              have := stands_lt h10
              refine .inl ⟨.mk 8 (l ++ [.mk tf tl tn tlo]) (ns ++ [s.extract m (m + nameLen s m)]) (lo ++ [decide (atI s (m + nameLen s m) = 63)]), m2 + 1, by simp only [pObj, hF, if_pos h10], by omega, ?_⟩
              show AV.tup [.agg [_, .sl (ktRL l ++ [ktR (.mk tf tl tn tlo)]), .sl (nmA ns ++ [[AV.c (.string (s.extract m (m + nameLen s m)))]]), .sl (boA lo ++ [[AV.c (.bool (decide (atI s (m + nameLen s m) = 63)))]])], .agg [.c (.int .i64 (IntKind.i64.wrap ((m2 : Int) + 1))), _]] = AV.tup [.agg [_, .sl (ktRL (l ++ [.mk tf tl tn tlo])), .sl (nmA (ns ++ [s.extract m (m + nameLen s m)])), .sl (boA (lo ++ [decide (atI s (m + nameLen s m) = 63)]))], .agg [.c (.int .i64 ((m2 + 1 : Nat) : Int)), _]]
              rw [ktRL_app, nmA_app, boA_app, inc (by omega)]; rfl
            · have h10 : decide (atI s m2 = 125) = false := h10
              have h10 := mt (atI_stands (by omega)).2 (of_decide_eq_false h10)
              refine call_pure (at_r s m2) rfl ?_
              rintro _ rfl
              refine bsplit_d (fun h11 _ => ?_) (fun h11 _ => ?_)
              · have h11 : ¬ stands s m2 44 = true := fun h => h11 ((atI_stands (by omega)).2 h)
                exact .inr ⟨by simp only [pObj, hF, if_neg h10, if_neg h11], _, _, _, _, _, _, by decide, rfl⟩
              · have h11 := (atI_stands (by omega)).1 (Decidable.not_not.1 h11)
                have := stands_lt h11
                refine ⟨(l ++ [.mk tf tl tn tlo], ns ++ [s.extract m (m + nameLen s m)], lo ++ [decide (atI s (m + nameLen s m) = 63)], m2 + 1, k), ⟨by simp at hl ⊢; omega, by simp [hl1], by simp [hl2], by omega, ?_⟩, (by dsimp only; omega), ⟨rfl, rfl, ⟨⟨rfl, rfl⟩, ⟨?_, rfl⟩, ⟨rfl, rfl⟩, ⟨rfl, rfl⟩, ⟨rfl, rfl⟩, ⟨rfl, rfl⟩, ⟨rfl, rfl⟩, ⟨rfl, rfl⟩, trivial⟩, ⟨_, by show (_ : List SO) = [zT, zE, .cells [.v (.c (.int .i64 8)), .ms 3, .ms 4, .ms 5], .arr 31 4 (ktRL (l ++ [.mk tf tl tn tlo])), .arr 9 1 (nmA (ns ++ [s.extract m (m + nameLen s m)])), .arr 4 1 (boA (lo ++ [decide (atI s (m + nameLen s m) = 63)]))] ++ _; rw [ktRL_app, nmA_app, boA_app]; rfl⟩, rfl⟩⟩
                · simp only [pObj, hF, if_neg h10, if_pos h11]
                · show some (SV.v (AV.c (.int .i64 (IntKind.i64.wrap ((m2 : Int) + 1))))) = _
                  rw [inc (by omega)]
          · have hF : pFld (pType s f) s ns m = none := by rw [hbase2, h8]
            refine bsplit_t (decide_eq_true h9) ?_
            refine draw_ev hTS (by kernel_rfl) (.part [0, 1] [3] (.take 0 (.take 1 (.one 2 (.fin 3 .done))))) (by kernel_rfl) ?_
            exact .inr ⟨by simp only [pObj, hF], _, _, _, _, _, _, h9, rfl⟩

end Go.AV0
/- the document's types: any type. -/
namespace Go.AV0
open Go.Proofs

theorem ba_ext {a b : ByteArray} (h : a.data.toList = b.data.toList) : a = b := by
  cases a; cases b
  congr
  exact Array.toList_inj.1 h

theorem prefB_iff {s w : ByteArray} {n : Nat} (hn : n ≤ s.size) : prefB s n w = true ↔ ∀ i u, w.data.toList[i]? = some u → s.data.toList[n + i]? = some u := by
  have hs : s.data.toList.length = s.size := by simp
  have hw : w.data.toList.length = w.size := by simp
  have e1 : ((s.extract n s.size).extract 0 w.size).data.toList = (s.data.toList.drop n).take w.size := by
    rw [ByteArray.data_extract, ByteArray.data_extract, Array.toList_extract, Array.toList_extract, List.extract_eq_take_drop, List.extract_eq_take_drop]
    rw [List.drop_zero, Nat.sub_zero, List.take_of_length_le (l := s.data.toList.drop n)]
    rw [List.length_drop]; omega
  have e2 : (s.extract n s.size).size = s.size - n := by rw [ByteArray.size_extract]; omega
  simp only [prefB, Bool.and_eq_true, decide_eq_true_iff, e2]
  constructor
  · rintro ⟨h1, h2⟩ i u hu
    have hi := get_lt hu
    have : w.data.toList = (s.data.toList.drop n).take w.size := by rw [← e1, h2]
    rw [this, List.getElem?_take, if_pos (by omega), List.getElem?_drop] at hu
    exact hu
  · intro h
    have h1 : w.size ≤ s.size - n := by
      rcases Nat.eq_zero_or_pos w.size with h0 | h0
      · omega
      · have := get_lt (h (w.size - 1) _ (List.getElem?_eq_getElem (by omega)))
        omega
    refine ⟨h1, ba_ext ?_⟩
    rw [e1]
    apply List.ext_getElem?
    intro i
    rw [List.getElem?_take, List.getElem?_drop]
    split
    · rw [List.getElem?_eq_getElem (l := w.data.toList) (i := i) (by omega)]
      exact h i _ (List.getElem?_eq_getElem (by omega))
    · exact (List.getElem?_eq_none (by omega)).symm

theorem atI_byte {s : ByteArray} {i : Nat} {u : UInt8} : atI s i = (u.toNat : Int) ↔ s.data.toList[i]? = some u := by
  unfold atI
  cases s.data.toList[i]? with
  | none => simp
  | some v =>
    simp only [Option.some.injEq]
    constructor
    · intro h; exact UInt8.toNat_inj.1 (by omega)
    · intro h; rw [h]

theorem wds_get {k : Nat} (h : k < 7) : ∃ w, wds[k]? = some w ∧ 1 ≤ w.size ∧ w.size ≤ 5 := by
  match k, h with
  | 0, _ => exact ⟨_, rfl, by decide, by decide⟩
  | 1, _ => exact ⟨_, rfl, by decide, by decide⟩
  | 2, _ => exact ⟨_, rfl, by decide, by decide⟩
  | 3, _ => exact ⟨_, rfl, by decide, by decide⟩
  | 4, _ => exact ⟨_, rfl, by decide, by decide⟩
  | 5, _ => exact ⟨_, rfl, by decide, by decide⟩
  | 6, _ => exact ⟨_, rfl, by decide, by decide⟩

set_option maxRecDepth 20000 in
set_option maxHeartbeats 4000000 in
theorem type_r : ∀ f, TypeC f := by
  intro f
  induction f with
  | zero =>
    intro s n deep hs hn hd
    have hd : deep = 8 := by omega
    subst hd
    refine apure_of hTS Tryz.func25 (by kernel_rfl) rfl rfl rfl ?_
    refine bsplit_t (by decide) ?_
    exact .inr ⟨rfl, _, _, _, _, _, _, by decide, rfl⟩
  | succ f ih =>
    intro s n deep hs hn hd
    refine apure_of hTS Tryz.func25 (by kernel_rfl) rfl rfl rfl ?_
    have hwd : IntKind.i64.wrap ((deep : Int) + 1) = ((deep + 1 : Nat) : Int) := inc (by omega)
    refine bsplit_d (fun h1 _ => ?_) (fun h1 _ => ?_)
    · omega
    refine call_pure (at_r s n) rfl ?_
    rintro _ rfl
    refine bsplit_d (fun h2 _ => ?_) (fun h2 _ => ?_)
    · have h2' := (atI_stands (by omega)).1 h2
      have hlt := stands_lt h2'
      repeat' (first | refine bsplit_t (by first | with_reducible assumption | with_reducible rfl | with_reducible exact Bool.not_true | with_reducible exact Bool.not_false) ?_ | refine bsplit_f (by first | with_reducible assumption | with_reducible rfl | with_reducible exact Bool.not_true | with_reducible exact Bool.not_false) ?_ | fail)
      refine call_pure (at_r s n) rfl ?_
      rintro _ rfl
      refine call_pure (manyT_r ih s n deep hs hlt (by omega)) (by show some [_, _, _, AV.c (.bool (decide (atI s n = 123)))] = _; rw [h2]; rfl) ?_
      have hp : pType s (f + 1) n = (if stands s (n + 1) 93 = true then some (.mk 7 [] [] [], n + 2) else pTup (pType s f) s 16 [] (n + 1)) := by
        simp only [pType]; rw [if_pos h2']
      rw [hp]
      rintro _ (⟨⟨tf, tl, tn, tlo⟩, m, h3, h4, rfl⟩ | ⟨h3, i, L, N, B, x, e, h4, rfl⟩)
      · exact .inl ⟨.mk tf tl tn tlo, m, h3, h4, rfl⟩
      · exact .inr ⟨h3, _, _, _, _, _, _, h4, rfl⟩
    have h2' := mt (atI_stands (by omega)).2 h2
    repeat' (first | refine bsplit_t (by first | with_reducible assumption | with_reducible rfl | with_reducible exact Bool.not_true | with_reducible exact Bool.not_false) ?_ | refine bsplit_f (by first | with_reducible assumption | with_reducible rfl | with_reducible exact Bool.not_true | with_reducible exact Bool.not_false) ?_ | fail)
    refine call_pure (at_r s n) rfl ?_
    rintro _ rfl
    repeat' (first | refine bsplit_t (by first | with_reducible assumption | with_reducible rfl | with_reducible exact Bool.not_true | with_reducible exact Bool.not_false) ?_ | refine bsplit_f (by first | with_reducible assumption | with_reducible rfl | with_reducible exact Bool.not_true | with_reducible exact Bool.not_false) ?_ | fail)
    refine bsplit_d (fun h3 e3 => ?_) (fun h3 _ => ?_)
    · have h3' := (atI_stands (by omega)).1 h3
      have hlt := stands_lt h3'
      refine call_pure (at_r s n) rfl ?_
      rintro _ rfl
      refine call_pure (manyO_r ih s n deep hs hlt (by omega)) (by show some [_, _, _, AV.c (.bool (decide (atI s n = 123)))] = _; rw [e3]; rfl) ?_
      have hp : pType s (f + 1) n = (if stands s (n + 1) 125 = true then some (.mk 8 [] [] [], n + 2) else pObj (pType s f) s 16 [] [] [] (n + 1)) := by
        simp only [pType]; rw [if_neg h2', if_pos h3']
      rw [hp]
      rintro _ (⟨⟨tf, tl, tn, tlo⟩, m, h3, h4, rfl⟩ | ⟨h3, i, L, N, B, x, e, h4, rfl⟩)
      · exact .inl ⟨.mk tf tl tn tlo, m, h3, h4, rfl⟩
      · exact .inr ⟨h3, _, _, _, _, _, _, h4, rfl⟩
    have h3' := mt (atI_stands (by omega)).2 h3
    have hp : pType s (f + 1) n = (match hitW s n wds 0 with
        | none => none
        | some (i, l) => if i < 5 then some (.mk i [] [] [], n + l) else if stands s (n + l) 40 = true then match pType s f (n + l + 1) with
            | none => none
            | some (x, m) => if stands s m 41 = true then some (.mk i [x] [] [], m + 1) else none
          else none) := by
      simp only [pType]; rw [if_neg h2', if_neg h3']; rfl
    rw [hp]
    refine loop_on hTS (X := Nat × Nat) (fun (k, far) => k ≤ 7 ∧ far ≤ 5 ∧ ∀ j v, j < k → wds[j]? = some v → prefB s n v = false)
      (fun (k, far) => ⟨[(0, .v (.c (.string s))), (1, .v (.c (.int .i64 (n : Int)))), (2, .v (.c (.int .i64 (deep : Int)))), (6, .ref 0 0), (7, .ref 1 0), (8, .ms 2), (9, .v (.c (.int .i64 (far : Int)))), (10, .v (.c (.int .i64 (k : Int))))], []⟩)
      (fun _ => [zT, zE, .arr 9 1 (nmA wds)]) (fun (k, _) => 7 - k) (0, 0) ⟨by decide, by decide, fun j v h => absurd h (Nat.not_lt_zero _)⟩ ⟨rfl, rfl, (by (repeat' (first | exact trivial | refine ⟨⟨?_, rfl⟩, ?_⟩ | fail)); all_goals (first | (show some (SV.v (AV.c (Value.int .i64 (IntKind.i64.wrap _)))) = _; rw [inc (by omega)]; try rfl) | rfl)), ⟨_, rfl⟩, rfl⟩ ?_
    rintro ⟨k, far⟩ ⟨hk, hfar, hall⟩
    refine bsplit_d (fun h4 _ => ?_) (fun h4 _ => ?_)
    · have h4' : k < 7 := by have h4 : (k : Int) < 7 := h4; omega
      obtain ⟨w, hw, hw1, hw5⟩ := wds_get h4'
      have hwn : (nmA wds)[((k : Nat) : Int).toNat]? = some [AV.c (.string w)] := by show (wds.map fun s => [AV.c (.string s)])[k]? = _; rw [List.getElem?_map, hw]; rfl
      have hwl : w.data.toList.length = w.size := by simp
      repeat' (first | refine bsplit_t (by first | with_reducible assumption | with_reducible rfl | with_reducible exact Bool.not_true | with_reducible exact Bool.not_false) ?_ | refine bsplit_f (by first | with_reducible assumption | with_reducible rfl | with_reducible exact Bool.not_true | with_reducible exact Bool.not_false) ?_ | fail)
      refine loop_on hTS (X := Nat) (fun j => j ≤ w.size ∧ ∀ i u, i < j → w.data.toList[i]? = some u → s.data.toList[n + i]? = some u)
        (fun j => ⟨[(0, .v (.c (.string s))), (1, .v (.c (.int .i64 (n : Int)))), (2, .v (.c (.int .i64 (deep : Int)))), (6, .ref 0 0), (7, .ref 1 0), (8, .ms 2), (9, .v (.c (.int .i64 (far : Int)))), (10, .v (.c (.int .i64 (k : Int)))), (11, .v (.c (.int .i64 (j : Int))))], []⟩)
        (fun _ => [zT, zE, .arr 9 1 (nmA wds)]) (fun j => w.size - j) 0 ⟨Nat.zero_le _, fun i u h => absurd h (Nat.not_lt_zero _)⟩ ⟨rfl, rfl, (by (repeat' (first | exact trivial | refine ⟨⟨?_, rfl⟩, ?_⟩ | fail)); all_goals (first | (show some (SV.v (AV.c (Value.int .i64 (IntKind.i64.wrap _)))) = _; rw [inc (by omega)]; try rfl) | rfl)), ⟨_, rfl⟩, rfl⟩ ?_
      rintro j ⟨hj, hpre⟩
      have hwnj : IntKind.i64.wrap ((n : Int) + (j : Int)) = ((n + j : Nat) : Int) := by rw [wr (by omega) (by omega)]; omega
      refine draw_ev hTS (by kernel_rfl) (.pur 0 (.pur 1 (.pur 2 (.pur 3 (.one 4 (.one 5 (.pur 6 (.pur 7 (.pur 8 (.pur 9 (.pur 10 (.pur 11 (.pur 13 (.pur 14 (.pur 15 (.pur 17 (.part [] [] (.take 16 (.pur 18 (.pur 19 (.one 12 (.pur 20 (.pur 21 .done))))))))))))))))))))))) (by kernel_rfl) ?_
      repeat' (first | refine bsplit_t (by first | with_reducible assumption | with_reducible rfl | with_reducible exact Bool.not_true | with_reducible exact Bool.not_false) ?_ | refine bsplit_f (by first | with_reducible assumption | with_reducible rfl | with_reducible exact Bool.not_true | with_reducible exact Bool.not_false) ?_ | refine elev (Int.natCast_nonneg _) [AV.c (.string w)] hwn ?_ | fail)
      have hmax : max (far : Int) (j : Int) = ((max far j : Nat) : Int) := by omega
      refine bsplit_d (fun h5 e5 => ?_) (fun h5 e5 => ?_)
      case' refine_1 =>
        have h5' : j < w.size := by omega
        obtain ⟨u, hu⟩ : ∃ u, w.data.toList[j]? = some u := ⟨_, List.getElem?_eq_getElem (by omega)⟩
        repeat' (first | refine bsplit_t (by first | with_reducible assumption | with_reducible rfl | with_reducible exact Bool.not_true | with_reducible exact Bool.not_false) ?_ | refine bsplit_f (by first | with_reducible assumption | with_reducible rfl | with_reducible exact Bool.not_true | with_reducible exact Bool.not_false) ?_ | refine elev (Int.natCast_nonneg _) [AV.c (.string w)] hwn ?_ | refine elev (Int.natCast_nonneg _) u hu ?_ | fail)
        refine call_pure (at_r s (n + j)) (congrArg (fun x => some [AV.c (.string s), .c (.int .i64 x)]) hwnj) ?_
        rintro _ rfl
        repeat' (first | refine bsplit_t (by first | with_reducible assumption | with_reducible rfl | with_reducible exact Bool.not_true | with_reducible exact Bool.not_false) ?_ | refine bsplit_f (by first | with_reducible assumption | with_reducible rfl | with_reducible exact Bool.not_true | with_reducible exact Bool.not_false) ?_ | fail)
        refine bsplit (fun h6 => ?_) (fun h6 => ?_)
        · have h6 : decide (atI s (n + j) = IntKind.i64.wrap (u.toNat : Int)) = true := h6
          have := u.toNat_lt
          rw [wr (by omega) (by omega)] at h6
          have h6 := atI_byte.1 (of_decide_eq_true h6)
          refine ⟨j + 1, ⟨by omega, ?_⟩, (by dsimp only; omega), ⟨rfl, rfl, (by (repeat' (first | exact trivial | refine ⟨⟨?_, rfl⟩, ?_⟩ | fail)); all_goals (first | (show some (SV.v (AV.c (Value.int .i64 (IntKind.i64.wrap _)))) = _; rw [inc (by omega)]; try rfl) | rfl)), ⟨_, rfl⟩, rfl⟩⟩
          intro i v hi hv
          rcases Nat.lt_or_ge i j with h9 | h9
          · exact hpre i v h9 hv
          · have : i = j := by omega
            subst this
            rw [hu] at hv; cases hv; exact h6
        have h6 : decide (atI s (n + j) = IntKind.i64.wrap (u.toNat : Int)) = false := h6
        have hp9 : prefB s n w = false := by
          have := u.toNat_lt
          rw [wr (by omega) (by omega)] at h6
          have h6 := mt atI_byte.2 (of_decide_eq_false h6)
          rw [← Bool.not_eq_true, prefB_iff hn]
          intro h
          exact h6 (h j u hu)
        repeat' (first | refine bsplit_t (by first | with_reducible assumption | with_reducible rfl | with_reducible exact Bool.not_true | with_reducible exact Bool.not_false) ?_ | refine bsplit_f (by first | with_reducible assumption | with_reducible rfl | with_reducible exact Bool.not_true | with_reducible exact Bool.not_false) ?_ | refine elev (Int.natCast_nonneg _) [AV.c (.string w)] hwn ?_ | fail)
        refine ⟨(k + 1, max far j), ⟨by omega, by omega, ?_⟩, (by dsimp only; omega), ⟨rfl, rfl, ⟨⟨rfl, rfl⟩, ⟨rfl, rfl⟩, ⟨rfl, rfl⟩, ⟨rfl, rfl⟩, ⟨rfl, rfl⟩, ⟨rfl, rfl⟩, ⟨congrArg (fun x => some (SV.v (AV.c (.int .i64 x)))) hmax, rfl⟩, ⟨congrArg (fun x => some (SV.v (AV.c (.int .i64 x)))) (inc (k := k) (by omega)), rfl⟩, trivial⟩, ⟨[], rfl⟩, rfl⟩⟩
        intro i v hi hv
        rcases Nat.lt_or_ge i k with h9 | h9
        · exact hall i v h9 hv
        · have : i = k := by omega
          subst this
          rw [hw] at hv; cases hv; exact hp9
      have hjw : j = w.size := by omega
      subst hjw
      have hp9 : prefB s n w = true := (prefB_iff hn).2 fun i u hu => hpre i u (by have := get_lt hu; omega) hu
      have hsz := prefB_size hp9
      have hh := hitW_some (i := 0) hw hp9 hall
      rw [Nat.zero_add] at hh
      rw [hh]
      simp only
      repeat' (first | refine bsplit_t (by first | with_reducible assumption | with_reducible rfl | with_reducible exact Bool.not_true | with_reducible exact Bool.not_false) ?_ | refine bsplit_f (by first | with_reducible assumption | with_reducible rfl | with_reducible exact Bool.not_true | with_reducible exact Bool.not_false) ?_ | refine elev (Int.natCast_nonneg _) [AV.c (.string w)] hwn ?_ | fail)
      refine bsplit_d (fun h6 _ => ?_) (fun h6 _ => ?_)
      · have h6' : k < 5 := by omega
        refine .inl ⟨.mk k [] [] [], n + w.size, by rw [if_pos h6'], by omega, ?_⟩
        show AV.tup [_, .agg [.c (.int .i64 (IntKind.i64.wrap ((n : Int) + (w.size : Int)))), _]] = _
        rw [hwnj]; rfl
      have h6' : ¬ k < 5 := by omega
      rw [if_neg h6']
      refine call_pure (at_r s (n + w.size)) (congrArg (fun x => some [AV.c (.string s), .c (.int .i64 x)]) hwnj) ?_
      rintro _ rfl
      refine bsplit_d (fun h7 _ => ?_) (fun h7 _ => ?_)
      · have h7 : ¬ stands s (n + w.size) 40 = true := fun h => h7 ((atI_stands (by omega)).2 h)
        rw [if_neg h7]
        exact .inr ⟨rfl, _, _, _, _, _, _, by decide, rfl⟩
      have h7 := (atI_stands (by omega)).1 (Decidable.not_not.1 h7)
      have hlt := stands_lt h7
      rw [if_pos h7]
      have hs2 : IntKind.i64.wrap (IntKind.i64.wrap ((n : Int) + (w.size : Int)) + 1) = ((n + w.size + 1 : Nat) : Int) := by rw [hwnj, inc (by omega)]
      refine call_pure (ih s (n + w.size + 1) (deep + 1) hs (by omega) (by omega)) (congr (congrArg (fun x y => some [AV.c (.string s), .c (.int .i64 x), .c (.int .i64 y)]) hs2) hwd) ?_
      rintro _ (⟨⟨tf, tl, tn, tlo⟩, m, h8, h9, rfl⟩ | ⟨h8, i, L, N, B, x, e, h9, rfl⟩)
      · rw [h8]
        simp only
        refine bsplit_f (by decide) ?_
        refine call_pure (at_r s m) rfl ?_
        rintro _ rfl
        refine bsplit_d (fun h10 _ => ?_) (fun h10 _ => ?_)
        · have h10 : ¬ stands s m 41 = true := fun h => h10 ((atI_stands (by omega)).2 h)
          rw [if_neg h10]
          refine draw_ev hTS (by kernel_rfl) (.pur 0 (.pur 1 (.part [0, 1] [5] (.take 2 (.pur 3 (.one 4 (.fin 5 .done))))))) (by kernel_rfl) ?_
          exact .inr ⟨rfl, _, _, _, _, _, _, by decide, rfl⟩
        · have h10 := (atI_stands (by omega)).1 (Decidable.not_not.1 h10)
          have := stands_lt h10
          rw [if_pos h10]
          refine draw_ev hTS (by kernel_rfl) (.pur 0 (.pur 4 (.part [0, 1] [9] (.take 1 (.take 5 (.pur 6 (.pur 7 (.one 2 (.pur 3 (.one 8 (.fin 9 .done))))))))))) (by kernel_rfl) ?_
          refine .inl ⟨.mk k [.mk tf tl tn tlo] [] [], m + 1, rfl, by omega, ?_⟩
          show AV.tup [_, .agg [.c (.int .i64 (IntKind.i64.wrap ((m : Int) + 1))), _]] = _
          rw [inc (by omega)]; rfl
      · rw [h8]
        refine bsplit_t (decide_eq_true h9) ?_
        refine draw_ev hTS (by kernel_rfl) (.pur 0 (.part [0, 1] [3] (.take 1 (.one 2 (.fin 3 .done))))) (by kernel_rfl) ?_
        exact .inr ⟨rfl, _, _, _, _, _, _, h9, rfl⟩
    · have hk7 : k = 7 := by
        have h4 : ¬ (k : Int) < 7 := h4
        omega
      subst hk7
      have hh : hitW s n wds 0 = none := hitW_none fun v hv => by
        obtain ⟨i, hi⟩ := List.mem_iff_getElem?.1 hv
        exact hall i v (by have := get_lt hi; exact this) hi
      rw [hh]
      exact .inr ⟨rfl, _, _, _, _, _, _, by decide, rfl⟩

end Go.AV0
/- the document's types: a text's type. -/
namespace Go.AV0
open Go.Proofs

theorem parse_r (s : ByteArray) : APure Tryz.prog 6 [.c (.string s)] (fun v =>
    (∃ t m, pParse s = some t ∧ v = .tup [.agg (ktR t), .agg [.c (.int .i64 m), .c (.int .i64 0)]]) ∨
    (pParse s = none ∧ ∃ i L N B x e, e ≠ 0 ∧ v = .tup [.agg [.c (.int .i64 i), .sl L, .sl N, .sl B], .agg [.c (.int .i64 x), .c (.int .i64 e)]])) := by
  refine apure_of hTS Tryz.func6 (by kernel_rfl) rfl rfl rfl ?_
  refine bsplit_d (fun h1 _ => ?_) (fun h1 _ => ?_)
  · have h1' : 4096 < s.size := by omega
    exact .inr ⟨by simp only [pParse]; rw [if_pos h1'], _, _, _, _, _, _, by decide, rfl⟩
  · have h1' : s.size ≤ 4096 := by omega
    have hP : pParse s = match pType s 8 0 with
      | none => none
      | some (t, m) => if m < s.size then none else some t := by
        simp only [pParse]; rw [if_neg (by omega)]; rfl
    refine call_pure (type_r 8 s 0 0 h1' (Nat.zero_le _) rfl) rfl ?_
    rintro _ (⟨⟨tf, tl, tn, tlo⟩, m, h8, h9, rfl⟩ | ⟨h8, i, L, N, B, x, e, h9, rfl⟩)
    · refine bsplit_t rfl ?_
      refine bsplit_t rfl ?_
      refine bsplit_t rfl ?_
      refine bsplit_t rfl ?_
      refine bsplit_t rfl ?_
      refine bsplit_t rfl ?_
      refine bsplit_d (fun h2 _ => ?_) (fun h2 _ => ?_)
      · have h2' : m < s.size := by omega
        refine draw_ev hTS (by kernel_rfl) (.pur 0 (.pur 1 (.part [0, 1] [5] (.take 2 (.pur 3 (.one 4 (.fin 5 .done))))))) (by kernel_rfl) ?_
        exact .inr ⟨by rw [hP, h8]; simp only; rw [if_pos h2'], _, _, _, _, _, _, by decide, rfl⟩
      · have h2' : ¬ m < s.size := by omega
        refine draw_ev hTS (by kernel_rfl) (.part [0, 1] [3] (.take 0 (.take 1 (.one 2 (.fin 3 .done))))) (by kernel_rfl) ?_
        exact .inl ⟨.mk tf tl tn tlo, _, by rw [hP, h8]; simp only; rw [if_neg h2'], rfl⟩
    · have h10 := decide_eq_false h9
      repeat' (first | refine bsplit_t (by first | with_reducible assumption | with_reducible rfl | with_reducible exact Bool.not_true | with_reducible exact Bool.not_false) ?_ | refine bsplit_f (by first | with_reducible assumption | with_reducible rfl | with_reducible exact Bool.not_true | with_reducible exact Bool.not_false) ?_ | fail)
      refine draw_ev hTS (by kernel_rfl) (.part [0, 1] [3] (.take 0 (.take 1 (.one 2 (.fin 3 .done))))) (by kernel_rfl) ?_
      exact .inr ⟨by rw [hP, h8], _, _, _, _, _, _, h9, rfl⟩

end Go.AV0
/- the law of zeros. -/
namespace Go.AV0
open Go.Proofs

theorem rises_sorted : ∀ {l : List ByteArray}, rises l → l.Pairwise (fun a b => bleq a b = true)
  | [], _ => List.Pairwise.nil
  | x :: l, h => by
    refine List.Pairwise.cons (fun y hy => ?_) (rises_sorted h.2)
    have := h.1 y hy
    simp only [bleq, decide_eq_true_iff]
    exact List.le_of_lt this

theorem skeys_rises {α : Type} {es : List (ByteArray × α)} (h : rises (es.map (·.1))) : skeys es = es.map (·.1) := by
  unfold skeys
  exact List.mergeSort_of_pairwise (rises_sorted h)

theorem vget_rises : ∀ {es : List (ByteArray × VT)}, (es.map (·.1)).Nodup → (es.map (·.1)).map (fun k => optV (vget es k)) = es.map (·.2)
  | [], _ => rfl
  | (k, v) :: es, h => by
    simp only [List.map_cons, List.nodup_cons] at h
    simp only [List.map_cons, vget, if_true]
    congr 1
    rw [← vget_rises h.2]
    apply List.map_congr_left
    intro x hx
    show optV (if k = x then some v else vget es x) = _
    rw [if_neg (fun e : k = x => h.1 (e ▸ hx))]

theorem vitems_rises {es : List (ByteArray × VT)} (h : rises (es.map (·.1))) : vitems (.map es) = es.map (·.2) := by
  show (skeys es).map _ = _
  rw [skeys_rises h]; exact vget_rises (rises_nodup h)

end Go.AV0
/- the law of zeros: a type takes its zero. -/
namespace Go.AV0
open Go.Proofs

theorem idxB_nodup : ∀ {ns : List ByteArray} {j k : Nat} {s : ByteArray}, ns.Nodup → ns[j]? = some s → idxB ns s k = some (k + j)
  | n :: ns, 0, k, s, _, h => by simp at h; subst h; simp [idxB]
  | n :: ns, j + 1, k, s, hn, h => by
    simp only [List.getElem?_cons_succ] at h
    rw [List.nodup_cons] at hn
    have hne : ¬ s = n := fun e => hn.1 (e ▸ List.mem_of_getElem? h)
    simp only [idxB]
    rw [if_neg hne, idxB_nodup hn.2 h]
    congr 1; omega
  | [], _, _, _, _, h => by simp at h

end Go.AV0
/- the law KindZeros: awake. -/
namespace Go.AV0
open Go.Proofs

def exS : ByteArray := ⟨#[123, 97, 58, 105, 110, 116, 44, 98, 63, 58, 108, 105, 115, 116, 40, 116, 101, 120, 116, 41, 125]⟩
def exT : KT := .mk 8 [.mk 2 [] [] [], .mk 5 [.mk 4 [] [] []] [] []] [⟨#[97]⟩, ⟨#[98]⟩] [false, true]

theorem exParse : pParse exS = some exT := by kernel_rfl

def exV : VT := .map [(⟨#[97]⟩, .int 1)]

theorem exTakes : wrongK exT exV = none := by
  have hr : rises (([(⟨#[97]⟩, .int 1)] : List (ByteArray × VT)).map (·.1)) := ⟨by simp, trivial⟩
  have h1 : vkeys exV = [⟨#[97]⟩] := (skeys_rises hr)
  have h2 : vitems exV = [.int 1] := vitems_rises hr
  have h3 : objF (wrongF exT.l) exT.names [⟨#[97]⟩] [.int 1] = none := rfl
  have h4 : missK exV exT.names exT.loose = [] := rfl
  have h5 : wrongK exT exV = match objF (wrongF exT.l) exT.names (vkeys exV) (vitems exV) with
      | some p => some p
      | none => match missK exV exT.names exT.loose with
        | s :: _ => some [keyS s]
        | [] => none := by
    unfold exT
    simp only [wrongK]
    rw [if_neg (by decide), if_neg (by decide), if_neg (by decide), if_pos trivial]
    rfl
  rw [h5, h1, h2, h3, h4]

theorem exNot : wrongK exT (.int 1) = some [] := rfl

theorem awake_l : APure Tryz.prog 5 [] (fun r => r = .c (.bool true)) := by
  obtain ⟨hw, hd, hp⟩ := pParse_ok exParse
  refine apure_of hTS Tryz.func5 (by kernel_rfl) rfl rfl rfl ?_
  refine call_pure (parse_c exS) rfl ?_
  rintro _ (⟨h, _⟩ | ⟨_, ⟨t, h, rfl⟩ | ⟨h, _⟩⟩)
  · exact absurd h (by decide)
  rotate_left
  · rw [exParse] at h; cases h
  rw [exParse] at h; cases h
  have hv : okV exV := ⟨by decide, by simp, by decide, trivial, trivial⟩
  have hz : ([⟨#[97]⟩] : List ByteArray).zip [VT.int 1] = [(⟨#[97]⟩, .int 1)] := rfl
  refine call_pure (int_v 1) rfl ?_
  rintro _ rfl
  refine call_frz 0 rfl rfl ?_
  refine call_frz 1 rfl rfl ?_
  refine call_pure (map_v [⟨#[97]⟩] [.int 1] (by decide)) rfl ?_
  rintro _ (⟨_, _, rfl⟩ | ⟨h, _⟩)
  rotate_left
  · exact absurd ⟨rfl, by simp⟩ h
  have ht := takes_t exT exV hw (by omega) hv
  rw [exTakes] at ht
  have hpr := print_t exT hw hd
  unfold PrintC at hpr
  rw [hp] at hpr
  have hn := takes_t exT (.int 1) hw (by omega) trivial
  rw [exNot] at hn
  have e1 : (decide (exS = exS)) = true := by simp
  repeat' (first | refine bsplit_t (by decide) ?_ | fail)
  refine call_pure ht rfl ?_
  rintro _ rfl
  repeat' (first | refine bsplit_t (by decide) ?_ | fail)
  refine call_pure hpr rfl ?_
  rintro _ rfl
  repeat' (first | refine bsplit_t (by decide) ?_ | refine bsplit_t e1 ?_ | fail)
  refine call_pure (int_v 1) rfl ?_
  rintro _ rfl
  repeat' (first | refine bsplit_t (by decide) ?_ | refine bsplit_t e1 ?_ | fail)
  refine call_pure hn rfl ?_
  rintro _ rfl
  repeat' (first | refine bsplit_t (by decide) ?_ | refine bsplit_t e1 ?_ | fail)
  show AV.c _ = _
  rfl

end Go.AV0
/- KindZeros: of any type its zero, that it takes; whether two types are the same: true for every two texts, without any condition. -/
namespace Go.Proofs.YthbglcdcfdjbbaaGreat
open Go.ChangeShapes Go.WideShapes Go.ChangeAt Go.RowKit
open Go.ChangeMaps (open_string shut_string)

theorem own : ownKnob Tryz.prog.godebug = none := by kernel_rfl

end Go.Proofs.YthbglcdcfdjbbaaGreat
