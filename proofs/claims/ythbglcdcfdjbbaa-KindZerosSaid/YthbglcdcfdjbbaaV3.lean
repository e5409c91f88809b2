/- values made: maps. -/
import Derived.Test.YthbglcdcfdjbbaaV2
namespace Go.AV0
open Go.Proofs

def zV : SO := .cells [.v (.ifc none)]

theorem vget_none {es : List (ByteArray × VT)} {k : ByteArray} : vget es k = none ↔ k ∉ es.map (·.1) := by
  induction es with
  | nil => simp [vget]
  | cons e es ih =>
    obtain ⟨k', v⟩ := e
    simp only [vget, List.map_cons, List.mem_cons, not_or]
    split
    · rename_i h; simp [h]
    · rename_i h; rw [ih]; exact ⟨fun h2 => ⟨fun h3 => h h3.symm, h2⟩, fun h2 => h2.2⟩

theorem zip_take_succ {α β : Type} {a : List α} {b : List β} {i : Nat} {x : α} {y : β} (ha : a[i]? = some x) (hb : b[i]? = some y) : (a.take (i + 1)).zip (b.take (i + 1)) = (a.take i).zip (b.take i) ++ [(x, y)] := by
  rw [List.take_add_one, List.take_add_one, ha, hb]
  rw [List.zip_append]
  · rfl
  · simp
    have := get_lt ha
    have := get_lt hb
    omega

set_option maxRecDepth 20000 in
theorem map_v (ks : List ByteArray) (l : List VT) (hl : ks.length ≤ 1000000) : APure Try.prog 23 [.sl (nmA ks), .sl (vtL l)] (fun r =>
    (ks.length = l.length ∧ ks.Nodup ∧ r = .tup [vtA (.map (ks.zip l)), .c (.int .i64 0)]) ∨ (¬ (ks.length = l.length ∧ ks.Nodup) ∧ ∃ e, e ≠ 0 ∧ r = .tup [vtA .null, .c (.int .i64 e)])) := by
  refine apure_of hTS Try.func23 (by kernel_rfl) rfl rfl rfl ?_
  refine bsplit_d (fun h1 _ => ?_) (fun h1 _ => ?_)
  · rw [nmA_len, vtL_len] at h1
    exact .inr ⟨fun h => h1 (by rw [h.1]), _, by decide, rfl⟩
  rw [nmA_len, vtL_len] at h1
  have h1 : ks.length = l.length := by omega
  refine loop_on hTS (X := Nat) (fun i => i ≤ ks.length ∧ (ks.take i).Nodup)
    (fun i => ⟨[(0, .v (.sl (nmA ks))), (1, .v (.sl (vtL l))), (4, .ref 0 0), (5, .v (.c (.int .i64 0))), (6, .mm 1), (18, .v (.sl (nmA ks))), (19, .v (.c (.int .i64 ((nmA ks).length : Int)))), (20, .v (.c (.int .i64 (i : Int))))], []⟩)
    (fun i => [zV, .map (vtM ((ks.take i).zip (l.take i)))]) (fun i => ks.length - i) 0 ⟨Nat.zero_le _, by simp⟩ ⟨rfl, rfl, (by (repeat' (first | exact trivial | refine ⟨⟨?_, rfl⟩, ?_⟩ | fail)); all_goals (first | (show some (SV.v (AV.c (Value.int .i64 (IntKind.i64.wrap _)))) = _; rw [inc (by omega)]; try rfl) | rfl)), ⟨[], rfl⟩, rfl⟩ ?_
  rintro i ⟨hi, hnd⟩
  refine bsplit_d (fun h2 _ => ?_) (fun h2 _ => ?_)
  · have h2 : i < ks.length := by rw [nmA_len] at h2; omega
    obtain ⟨k, hk⟩ : ∃ k, ks[i]? = some k := ⟨_, List.getElem?_eq_getElem h2⟩
    obtain ⟨x, hx⟩ : ∃ x, l[i]? = some x := ⟨_, List.getElem?_eq_getElem (by omega)⟩
    refine elev (Int.natCast_nonneg _) [AV.c (.string k)] (nmA_get _ _ _ hk) ?_
    have hm := mget_vtM ((ks.take i).zip (l.take i)) k
    have hkeys : ((ks.take i).zip (l.take i)).map (·.1) = ks.take i := by
      rw [List.map_fst_zip]; simp; omega
    have htk : ks.take (i + 1) = ks.take i ++ [k] := by rw [List.take_add_one, hk]; rfl
    cases hg : vget ((ks.take i).zip (l.take i)) k with
    | some y =>
      rw [hg] at hm
      refine optev_s (vtA y) hm ?_
      have hin : k ∈ ks.take i := by
        rw [← hkeys]
        exact Classical.byContradiction fun h => by rw [vget_none.2 h] at hg; cases hg
      repeat' (first | refine bsplit_t (by first | with_reducible assumption | with_reducible rfl | with_reducible exact Bool.not_true | with_reducible exact Bool.not_false) ?_ | refine bsplit_f (by first | with_reducible assumption | with_reducible rfl | with_reducible exact Bool.not_true | with_reducible exact Bool.not_false) ?_ | fail)
      refine .inr ⟨fun h => ?_, _, by decide, rfl⟩
      have h3 : (ks.take (i + 1)).Nodup := h.2.sublist (List.take_sublist _ _)
      rw [htk, List.nodup_append] at h3
      exact h3.2.2 k hin k (by simp) rfl
    | none =>
      rw [hg] at hm
      have hnin : k ∉ ks.take i := by rw [← hkeys]; exact vget_none.1 hg
      refine optev_n hm ?_
      repeat' (first | refine bsplit_t (by first | with_reducible assumption | with_reducible rfl | with_reducible exact Bool.not_true | with_reducible exact Bool.not_false) ?_ | refine bsplit_f (by first | with_reducible assumption | with_reducible rfl | with_reducible exact Bool.not_true | with_reducible exact Bool.not_false) ?_ | fail)
      refine elev (Int.natCast_nonneg _) [AV.ifc (vtO x)] (vtL_get _ _ _ hx) ?_
      refine ⟨i + 1, ⟨by omega, ?_⟩, (by dsimp only; omega), ⟨rfl, rfl, ⟨⟨rfl, rfl⟩, ⟨rfl, rfl⟩, ⟨rfl, rfl⟩, ⟨rfl, rfl⟩, ⟨rfl, rfl⟩, ⟨rfl, rfl⟩, ⟨rfl, rfl⟩, ⟨congrArg (fun x => some (SV.v (AV.c (.int .i64 x)))) (inc (k := i) (by omega)), rfl⟩, trivial⟩, ⟨_, by
        show (_ : List SO) = [zV, .map (vtM ((ks.take (i + 1)).zip (l.take (i + 1))))] ++ _
        rw [zip_take_succ hk hx, vtM_app, ← mput_none hm]; rfl⟩, rfl⟩⟩
      rw [htk, List.nodup_append]
      refine ⟨hnd, by simp, ?_⟩
      intro a ha b hb e
      simp at hb
      subst hb; subst e
      exact hnin ha
  · have h2 : i = ks.length := by rw [nmA_len] at h2; omega
    subst h2
    rw [List.take_length] at hnd
    refine .inl ⟨h1, hnd, ?_⟩
    show AV.tup [.agg [.ifc (some (_, .map (some (vtM ((ks.take ks.length).zip (l.take ks.length))))))], _] = _
    rw [List.take_length, h1, List.take_length]; rfl

end Go.AV0
