/- Stores, maps that are written, slices that grow, lengths, conversions. -/
import Derived.Test.YthbglcdcfdjbbaaFwI
namespace Go.AV0

theorem run_storeVar {P : Program} {T : TT} (hT : T.all P = true) {t : Nat} {i : TI} (hi : T.find t = some i) {w : World} {b off : Nat} {cs : Array Value} {e : TypeId} {c : Value}
    (hb : w.heap[b]? = some (.cells cs e (0, 0))) (hz : c.cells.size = i.size) (hf : off + c.cells.size ≤ cs.size) (h1 : ∀ v ∈ c.cells.toList, v.oneCell' = true) :
    (Instr.storeAt t (.pointer (some ⟨b, off, none⟩)) c).run P w = .ok () (w.setRow b (cs.toList.take off ++ c.cells.toList ++ cs.toList.drop (off + c.cells.size)).toArray) := by
  have hst := run_storeCells_at P b off e c.cells.toList 0 cs w hb (by simpa using hf) h1
  simp only [Nat.add_zero, Array.length_toList] at hst
  simp only [Instr.storeAt, Instr.sureAddr, storeVar, Sem.run_bind, Sem.run_pure, Result.andThen_ok, run_sizeOf (TT.ok hT t i hi)]
  rw [if_neg (by simp [hz])]
  exact hst

def vstore (T : TT) (us : Us) (t : Nat) (s x : SV) (α : AF) (h : List SO) (K : SV → AF → List SO → Prop) : Prop :=
  onO (T.find t) fun i => onO (cellsO x) fun vs => bif Nat.beq vs.length i.size && allOne vs then
    match s with
    | .ref id off => onO (nth h id) fun o => match o with
      | .cells xs => bif inU us id then onO (setAt xs off vs) fun xs' => K .any α (h.set id (.cells xs')) else False
      | _ => False
    | .eref id j off => onO (nth h id) fun o => match o with
      | .arr e z els => bif Nat.beq z i.size && Nat.beq off 0 && inU us id then onO (closedL vs) fun ys => Side (j < els.length) (K .any α (h.set id (.arr e z (els.set j ys)))) else False
      | _ => False
    | _ => False
  else False

theorem flat_set {z : Nat} : ∀ {els : List (List AV)} {i : Nat} {ys : List AV}, (∀ x ∈ els, x.length = z) → i < els.length → (els.set i ys).flatten = els.flatten.take (i * z) ++ ys ++ els.flatten.drop (i * z + z)
  | [], i, ys, _, hi => by simp at hi
  | x :: els, 0, ys, hz, _ => by
    have := hz x (by simp)
    simp [← this]
  | x :: els, i + 1, ys, hz, hi => by
    have hx := hz x (by simp)
    simp only [List.set_cons_succ, List.flatten_cons]
    rw [flat_set (fun y hy => hz y (by simp [hy])) (by simpa using hi)]
    rw [show (i + 1) * z = x.length + i * z by rw [Nat.add_mul, hx]; omega]
    rw [List.take_length_add_append, Nat.add_assoc, List.drop_length_add_append]
    simp only [List.append_assoc]

theorem vstore_ok {P : Program} {T : TT} (hT : T.all P = true) {t : Nat} {s x : SV} {c d : Value} {ι w M h us n a α} {K : SV → AF → List SO → Prop} (hv : vstore T us t s x α h K)
    (H : St ι w M h) (F : FR ι h.length w M n α a) (hs : RepS ι h.length w M s c) (hx : RepS ι h.length w M x d) :
    ∃ w', (Instr.storeAt t c d).run P w = .ok () w' ∧ ∃ α' h' ι' M', K .any α' h' ∧ St ι' w' M' h' ∧ FR ι' h'.length w' M' n α' a ∧ Grow ι w M h us ι' w' M' h' := by
  obtain ⟨i, hi, hv⟩ := onO_some hv
  obtain ⟨vs, hvs, hv⟩ := onO_some hv
  cases hb : (Nat.beq vs.length i.size && allOne vs) with
  | false => rw [hb] at hv; exact hv.elim
  | true =>
    rw [hb] at hv; simp only [cond_true] at hv
    simp only [Bool.and_eq_true] at hb
    have hz := Nat.eq_of_beq_eq_true hb.1
    have hr := cellsO_ok hvs hx
    have hln := hr.length
    simp only [Array.length_toList] at hln
    have hone := repSL_one hr hb.2
    cases s with
    | ref id off =>
      obtain ⟨o, ho, hv⟩ := onO_some hv
      rw [nth_eq] at ho
      cases o with
      | cells xs =>
        cases hu : inU us id with
        | false => simp only [hu, cond_false] at hv
        | true =>
        simp only [hu, cond_true] at hv
        obtain ⟨xs', hx', hv⟩ := onO_some hv
        have h0 := H.objs id _ ho
        simp only [StO] at h0
        obtain ⟨b, k, cs, e, g1, g2, g3, g4⟩ := h0
        simp only [RepS] at hs
        obtain ⟨hid, b', k', g5, rfl⟩ := hs
        rw [g1] at g5; cases g5
        obtain ⟨k1, k2⟩ := setAt_ok hx' g4 hr
        have hcl := g4.length
        simp only [Array.length_toList] at hcl k2
        have hrun := run_storeVar (P := P) hT hi (off := off) (c := d) g3 (by omega) (by omega) (repSL_one hr hb.2)
        refine ⟨_, hrun, α, _, ι, M, hv, ?_⟩
        obtain ⟨m1, m2, m3⟩ := H.modify us hu ho rfl g1 (.cells xs') (w.setRow b (cs.toList.take off ++ d.cells.toList ++ cs.toList.drop (off + d.cells.size)).toArray) (fun j hj => setRow_other w b j _ hj) (by simp) rfl rfl rfl (by
          simp only [StO]
          refine ⟨b, k, _, e, g1, g2, setRow_heap w b cs _ e _ g3, ?_⟩
          have hkp : Keep w M (w.setRow b (cs.toList.take off ++ d.cells.toList ++ cs.toList.drop (off + d.cells.size)).toArray) M := fun b' _ hm => ⟨hm, setRow_other w b b' _ (fun e => hm (e ▸ g2))⟩
          exact RepSL.keep ⟨Nat.le_refl _, fun _ _ => rfl⟩ hkp _ _ k2)
        exact ⟨m1, by simpa using F.keep ⟨Nat.le_refl _, fun _ _ => rfl⟩ m2, m3⟩
      | _ => exact hv.elim
    | eref id j off =>
      have hv1 := onO_some hv
      clear hv
      obtain ⟨o, ho, hv2⟩ := hv1
      rw [nth_eq] at ho
      cases o with
      | arr e z els =>
        cases hb2 : (Nat.beq z i.size && Nat.beq off 0 && inU us id) with
        | false => simp only [hb2, cond_false] at hv2
        | true =>
          simp only [hb2, cond_true] at hv2
          simp only [Bool.and_eq_true] at hb2
          have hzi := Nat.eq_of_beq_eq_true hb2.1.1
          have hoff := Nat.eq_of_beq_eq_true hb2.1.2
          have hu := hb2.2
          have hv3 := onO_some hv2
          clear hv2
          obtain ⟨ys, hys, hv4⟩ := hv3
          obtain ⟨hj, hK⟩ := hv4.elim
          clear hv4
          subst hoff
          rw [closedL_map hys] at hr
          have hr := hr.toL
          have hyl := hr.length
          simp only [Array.length_toList] at hyl
          have h0 := H.objs id _ ho
          simp only [StO] at h0
          obtain ⟨he, h0⟩ := h0
          rcases h0 with h0 | ⟨b, k, cs, el', g1, g2, g3, g4, g5, g6, g7⟩
          · rw [h0.1] at hj; simp at hj
          · simp only [RepS] at hs
            obtain ⟨hid, b', k', z', n', g8, rfl⟩ := hs
            rw [g1] at g8; cases g8
            have hfit : j * z + z ≤ els.length * z := by
              have : (j + 1) * z ≤ els.length * z := Nat.mul_le_mul_right _ hj
              rwa [Nat.add_mul, Nat.one_mul] at this
            have hfit2 : els.length * z ≤ k * z := Nat.mul_le_mul_right _ g5
            have hrun := run_storeVar (P := P) hT hi (c := d) (off := j * z + 0) g3 (by omega) (by omega) hone
            refine ⟨_, hrun, α, _, ι, M, hK, ?_⟩
            simp only [Nat.add_zero]
            obtain ⟨m1, m2, m3⟩ := H.modify us hu ho rfl g1 (.arr e z (els.set j ys)) (w.setRow b (cs.toList.take (j * z) ++ d.cells.toList ++ cs.toList.drop (j * z + d.cells.size)).toArray) (fun j hj => setRow_other w b j _ hj) (by simp) rfl rfl rfl (by
              simp only [StO]
              have hyz : ys.length = z := by omega
              refine ⟨?_, .inr ⟨b, k, _, el', by simpa using g1, g2, setRow_heap w b cs _ el' _ g3, ?_, by simpa using g5, by simpa using g6, ?_⟩⟩
              · intro y hy
                rcases List.mem_or_eq_of_mem_set hy with hy | rfl
                · exact he y hy
                · exact hyz
              · simp; omega
              · have hkp : Keep w M (w.setRow b (cs.toList.take (j * z) ++ d.cells.toList ++ cs.toList.drop (j * z + d.cells.size)).toArray) M := fun b' _ hm => ⟨hm, setRow_other w b b' _ (fun e => hm (e ▸ g2))⟩
                refine RepL.keep hkp _ _ ?_
                rw [flat_set he hj]
                have e1 : ((cs.toList.take (j * z) ++ d.cells.toList ++ cs.toList.drop (j * z + d.cells.size)).toArray.toList.take ((els.set j ys).length * z)) =
                    (cs.toList.take (els.length * z)).take (j * z) ++ d.cells.toList ++ (cs.toList.take (els.length * z)).drop (j * z + z) := by
                  have hd : d.cells.size = z := by omega
                  simp only [List.length_set, hd]
                  rw [List.take_take, Nat.min_eq_left (by omega), List.append_assoc, List.take_append, List.take_append]
                  simp only [List.length_take, Array.length_toList, hd]
                  rw [Nat.min_eq_left (by omega), List.take_of_length_le (by simp; omega), List.take_of_length_le (l := d.cells.toList) (by simp; omega), List.drop_take, List.append_assoc]
                  congr 3
                  omega
                rw [e1]
                exact RepL.append (RepL.append (g7.take _) hr) (g7.drop _))
            exact ⟨m1, by simpa using F.keep ⟨Nat.le_refl _, fun _ _ => rfl⟩ m2, m3⟩
      | _ => exact hv2.elim
    | _ => exact hv.elim

/-! ### maps that are written -/
def mput : List (ByteArray × AV) → ByteArray → AV → List (ByteArray × AV)
  | [], k, v => [(k, v)]
  | (k', v') :: r, k, v => if k' = k then (k, v) :: r else (k', v') :: mput r k v

theorem mput_none : ∀ {es : List (ByteArray × AV)} {k : ByteArray} {v : AV}, mget es k = none → mput es k v = es ++ [(k, v)]
  | [], _, _, _ => rfl
  | (k', v') :: r, k, v, h => by
    simp only [mget] at h
    split at h
    · cases h
    · rename_i hne; simp only [mput, if_neg hne, mput_none h, List.cons_append]

theorem mput_some : ∀ {es : List (ByteArray × AV)} {k : ByteArray} {v v0 : AV}, mget es k = some v0 → (es.map (·.1)).Nodup → (mput es k v).map (·.1) = es.map (·.1) ∧ ∀ e ∈ mput es k v, e = (k, v) ∨ (e ∈ es ∧ e.1 ≠ k)
  | [], k, v, v0, h, _ => by simp [mget] at h
  | (k', v') :: r, k, v, v0, h, hn => by
    simp only [List.map_cons, List.nodup_cons, List.mem_map, not_exists, not_and] at hn
    simp only [mget] at h
    split at h
    · rename_i e; subst e
      simp only [mput, if_true]
      refine ⟨by simp, ?_⟩
      intro x hx
      rcases List.mem_cons.1 hx with rfl | hx
      · exact .inl rfl
      · exact .inr ⟨List.mem_cons_of_mem _ hx, hn.1 x hx⟩
    · rename_i hne
      obtain ⟨g1, g2⟩ := mput_some (v := v) h hn.2
      simp only [mput, if_neg hne]
      refine ⟨by simp [g1], ?_⟩
      intro x hx
      rcases List.mem_cons.1 hx with rfl | hx
      · exact .inr ⟨by simp, hne⟩
      · rcases g2 x hx with h | ⟨h1, h2⟩
        · exact .inl h
        · exact .inr ⟨List.mem_cons_of_mem _ h1, h2⟩

end Go.AV0
