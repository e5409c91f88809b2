/- Maps that are written, slices that grow. -/
import Derived.Test.YthbglcdcfdjbbaaFwJ
namespace Go.AV0

def vmapUpdate (T : TT) (us : Us) (t : Nat) (s x v : SV) (α : AF) (h : List SO) (K : SV → AF → List SO → Prop) : Prop :=
  onO (mpOf T t) fun _ => onO (strOf x) fun k => match s, v with
    | .mm id, .v y => onO (nth h id) fun o => match o with
      | .map es => bif inU us id then K .any α (h.set id (.map (mput es k y))) else False
      | _ => False
    | _, _ => False

theorem run_stays {P : Program} {w : World} (k : ByteArray) : (Instr.keyThatStays (.string k) (.string k)).run P w = .ok (.string k) w := by
  have : Instr.sameBits 10000 (.string k) (.string k) = true := by
    show (k == k) = true
    rw [MapKept.bytes_beq]
  simp [Instr.keyThatStays, this]

theorem arr_modify_mem {en : Array MapEntry} {j : Nat} {f : MapEntry → MapEntry} {x : MapEntry} (hx : x ∈ en.toList) : (∃ e, en.toList[j]? = some e ∧ e = x) ∨ x ∈ (en.modify j f).toList := by
  obtain ⟨i, hi⟩ := List.mem_iff_getElem?.1 hx
  by_cases h : j = i
  · subst h; exact .inl ⟨x, hi, rfl⟩
  · right
    apply List.mem_iff_getElem?.2
    refine ⟨i, ?_⟩
    rw [Array.getElem?_toList, Array.getElem?_modify, if_neg h, ← Array.getElem?_toList, hi]

theorem vmapUpdate_ok {P : Program} {T : TT} (hT : T.all P = true) {t : Nat} {s x v : SV} {c d u : Value} {ι w M h us n a α} {K : SV → AF → List SO → Prop} (hv : vmapUpdate T us t s x v α h K)
    (H : St ι w M h) (F : FR ι h.length w M n α a) (hs : RepS ι h.length w M s c) (hx : RepS ι h.length w M x d) (hu : RepS ι h.length w M v u) :
    ∃ w', (Instr.mapUpdate t c d u).run P w = .ok () w' ∧ ∃ α' h' ι' M', K .any α' h' ∧ St ι' w' M' h' ∧ FR ι' h'.length w' M' n α' a ∧ Grow ι w M h us ι' w' M' h' := by
  have hv0 := onO_some hv; clear hv
  obtain ⟨⟨kt, et⟩, hp, hv1⟩ := hv0
  obtain ⟨k, hk, hv2⟩ := onO_some hv1; clear hv1
  obtain ⟨p1, p2⟩ := mpOf_ok hT hp
  have hd := strOf_ok hk hx; subst hd
  split at hv2
  · rename_i id y
    have hv3 := onO_some hv2; clear hv2
    obtain ⟨o, ho, hv4⟩ := hv3
    rw [nth_eq] at ho
    cases o with
    | map es =>
      have hv5 : (bif inU us id then K .any α (h.set id (.map (mput es k y))) else False) := hv4
      cases huu : inU us id with
      | false => rw [huu] at hv5; exact hv5.elim
      | true =>
      rw [huu] at hv5
      have hK : K .any α (h.set id (.map (mput es k y))) := hv5
      have h0 := H.objs id _ ho
      simp only [StO] at h0
      obtain ⟨b, kk, en, clock, g1, g2, g3, g4, g5, g6, g7⟩ := h0
      simp only [RepS] at hs
      obtain ⟨hid, b', k', g8, rfl⟩ := hs
      rw [g1] at g8; cases g8
      simp only [RepS] at hu
      have hf := find_ok (P := P) (M := M) (w := w) p2 g5 g6 g7 k
      have hblt := lt_of_some g3
      have write : ∀ (en' : Array MapEntry) (clock' : Nat), stamped en' clock' → (en'.toList.map (·.key)).Perm ((mput es k y).map fun e => Value.string e.1) → ((mput es k y).map (·.1)).Nodup → RepMap w M en' (mput es k y) →
          (Instr.mapUpdate t (.map (some b)) (.string k) u).run P w = .ok () { w with heap := w.heap.setIfInBounds b (.map en' clock') } →
          ∃ w', (Instr.mapUpdate t (.map (some b)) (.string k) u).run P w = .ok () w' ∧ ∃ α' h' ι' M', K .any α' h' ∧ St ι' w' M' h' ∧ FR ι' h'.length w' M' n α' a ∧ Grow ι w M h us ι' w' M' h' := by
        intro en' clock' q1 q2 q3 q4 hrun
        refine ⟨_, hrun, α, _, ι, M, hK, ?_⟩
        have hoth : ∀ j, j ≠ b → (w.heap.setIfInBounds b (.map en' clock'))[j]? = w.heap[j]? := fun j hj => by simp [Ne.symm hj]
        obtain ⟨m1, m2, m3⟩ := H.modify us huu ho rfl g1 (.map (mput es k y)) { w with heap := w.heap.setIfInBounds b (.map en' clock') } hoth (by simp) rfl rfl rfl (by
          simp only [StO]
          have hkp : Keep w M { w with heap := w.heap.setIfInBounds b (.map en' clock') } M := fun b' _ hm => ⟨hm, hoth b' (fun e => hm (e ▸ g2))⟩
          exact ⟨b, kk, en', clock', g1, g2, by simp [hblt], q1, q2, q3, RepMap.keep hkp _ _ q4⟩)
        exact ⟨m1, by simpa using F.keep ⟨Nat.le_refl _, fun _ _ => rfl⟩ m2, m3⟩
      have hg : (getObj b).run P w = .ok (.map en clock) w := by simp [getObj, Sem.run, g3]
      have hset : ∀ o, (setObj b o).run P w = .ok () { w with heap := w.heap.setIfInBounds b o } := by intro o; simp [setObj, Sem.run, g3]
      cases hm : mget es k with
      | none =>
        rw [hm] at hf
        have hmp := mput_none (v := y) hm
        have hnk : k ∉ es.map (·.1) := by
          intro hk'
          obtain ⟨e, he, rfl⟩ := List.mem_map.1 hk'
          exact mget_none hm e.2 he
        refine write (en.push { key := .string k, val := u, born := clock }) (clock + 1) ?_ ?_ ?_ ?_ ?_
        · refine ⟨?_, ?_⟩
          · intro e he
            simp at he
            rcases he with he | rfl
            · have := g4.1 e (by simpa using he); omega
            · simp
          · simp only [Array.toList_push, List.map_append, List.map_cons, List.map_nil]
            rw [List.nodup_append]
            refine ⟨g4.2, by simp, ?_⟩
            intro a ha b' hb'
            simp at hb'; subst hb'
            obtain ⟨e, he, rfl⟩ := List.mem_map.1 ha
            have := g4.1 e he; omega
        · rw [hmp]; simp only [Array.toList_push, List.map_append, List.map_cons, List.map_nil]
          exact List.Perm.append g5 (List.Perm.refl _)
        · rw [hmp]; simp only [List.map_append, List.map_cons, List.map_nil]
          rw [List.nodup_append]
          refine ⟨g6, by simp, ?_⟩
          intro a ha b' hb'
          simp at hb'; subst hb'
          intro e; subst e; exact hnk ha
        · rw [hmp]
          have hmem : ∀ e, RepEnt w M en e → RepEnt w M (en.push { key := .string k, val := u, born := clock }) e := by
            rintro ⟨k', v'⟩ he
            simp only [RepEnt] at he ⊢
            obtain ⟨x, h1, h2, h3⟩ := he
            exact ⟨x, by simp at h1 ⊢; exact .inl h1, h2, h3⟩
          have hall : ∀ l : List (ByteArray × AV), RepMap w M en l → RepMap w M (en.push { key := .string k, val := u, born := clock }) (l ++ [(k, y)]) := by
            intro l
            induction l with
            | nil => intro _; simp only [List.nil_append, RepMap, RepEnt]; exact ⟨⟨_, by simp; exact .inr rfl, rfl, hu⟩, trivial⟩
            | cons e l ih => intro hl; simp only [RepMap] at hl; simp only [List.cons_append, RepMap]; exact ⟨hmem e hl.1, ih hl.2⟩
          exact hall es g7
        · simp only [Instr.mapUpdate, Sem.run_bind, run_underlying p1, Result.andThen_ok, hg, run_checkString _ _ p2, hf, hset]
      | some v0 =>
        rw [hm] at hf
        obtain ⟨j, e, h1, h2, h3, h4⟩ := hf
        obtain ⟨mp1, mp2⟩ := mput_some (v := y) hm g6
        have hje : en[j]? = some e := by simpa using h2
        refine write (en.modify j fun e => { e with key := .string k, val := u }) clock ?_ ?_ ?_ ?_ ?_
        · have hb : (en.modify j fun e => { e with key := .string k, val := u }).toList.map (·.born) = en.toList.map (·.born) := by
            apply List.ext_getElem?
            intro i
            simp only [List.getElem?_map, Array.getElem?_toList, Array.getElem?_modify]
            split
            · cases en[i]? <;> simp
            · rfl
          refine ⟨?_, by rw [hb]; exact g4.2⟩
          intro x hx
          have : x.born ∈ (en.modify j fun e => { e with key := .string k, val := u }).toList.map (·.born) := List.mem_map_of_mem hx
          rw [hb] at this
          obtain ⟨x', hx', hxe⟩ := List.mem_map.1 this
          have := g4.1 x' hx'; omega
        · have hb : (en.modify j fun e => { e with key := .string k, val := u }).toList.map (·.key) = en.toList.map (·.key) := by
            apply List.ext_getElem?
            intro i
            simp only [List.getElem?_map, Array.getElem?_toList, Array.getElem?_modify]
            split
            · rename_i hji; subst hji; rw [hje]; simp [h3]
            · rfl
          rw [hb]
          have : (mput es k y).map (fun e => Value.string e.1) = es.map (fun e => Value.string e.1) := by
            have := congrArg (List.map Value.string) mp1
            simpa [Function.comp_def] using this
          rw [this]; exact g5
        · rw [mp1]; exact g6
        · have hall : ∀ l : List (ByteArray × AV), (∀ x ∈ l, RepEnt w M (en.modify j fun e => { e with key := .string k, val := u }) x) → RepMap w M (en.modify j fun e => { e with key := .string k, val := u }) l := by
            intro l
            induction l with
            | nil => intro _; simp [RepMap]
            | cons x l ih => intro hl; simp only [RepMap]; exact ⟨hl x (by simp), ih (fun y hy => hl y (by simp [hy]))⟩
          apply hall
          rintro ⟨k', v'⟩ hx
          rcases mp2 _ hx with he | ⟨he, hne⟩
          · cases he
            simp only [RepEnt]
            refine ⟨{ e with key := .string k, val := u }, ?_, rfl, hu⟩
            apply List.mem_iff_getElem?.2
            exact ⟨j, by rw [Array.getElem?_toList, Array.getElem?_modify, if_pos rfl, hje]; rfl⟩
          · have := RepMap.get g7 _ he
            simp only [RepEnt] at this ⊢
            obtain ⟨x, q1, q2, q3⟩ := this
            rcases arr_modify_mem (j := j) (f := fun e => { e with key := .string k, val := u }) q1 with ⟨e', q4, rfl⟩ | q4
            · rw [h2] at q4; cases q4
              rw [h3] at q2; cases q2
              exact (hne rfl).elim
            · exact ⟨x, q4, q2, q3⟩
        · simp only [Instr.mapUpdate, Sem.run_bind, run_underlying p1, Result.andThen_ok, hg, run_checkString _ _ p2, h1, hje, Option.map_some, Option.getD_some, h3, run_stays, hset]
    | _ => exact hv4.elim
  · exact hv2.elim

/-! ### append -/
def allOneA : List AV → Bool
  | [] => true
  | x :: l => one (.v x) && allOneA l

def ElOk (z : Nat) (els : List (List AV)) : Prop := ∀ y ∈ els, y.length = z ∧ allOneA y = true

theorem ElOk.flat {z : Nat} {els : List (List AV)} (h : ElOk z els) : (∀ x ∈ els, x.length = z) ∧ allOne (els.flatten.map .v) = true := by
  refine ⟨fun x hx => (h x hx).1, ?_⟩
  have h1 : ∀ l : List AV, allOneA l = true → allOne (l.map .v) = true := by
    intro l
    induction l with
    | nil => intro _; rfl
    | cons a l ih => intro hl; simp only [allOneA, Bool.and_eq_true] at hl; simp only [List.map_cons, allOne, Bool.and_eq_true]; exact ⟨hl.1, ih hl.2⟩
  have h2 : ∀ l m : List SV, allOne l = true → allOne m = true → allOne (l ++ m) = true := by
    intro l
    induction l with
    | nil => intro m _ hm; exact hm
    | cons a l ih => intro m hl hm; simp only [allOne, Bool.and_eq_true] at hl; simp only [List.cons_append, allOne, Bool.and_eq_true]; exact ⟨hl.1, ih m hl.2 hm⟩
  induction els with
  | nil => rfl
  | cons x els ih =>
    simp only [List.flatten_cons, List.map_append]
    exact h2 _ _ (h1 x (h x (by simp)).2) (ih (fun y hy => h y (by simp [hy])))

/-- what is appended, as it stands -/
def srcOf (h : List SO) (x : SV) : Option (List (List AV)) :=
  match x with
  | .v (.sl els) => some els
  | .v (.c (.slice none 0 0)) => some []
  | .ms id => match nth h id with
    | some (.arr _ _ els) => some els
    | _ => none
  | _ => none

/-- the appended slice as values in memory -/
theorem srcOf_ok {ι w M h x d els z} (H : St ι w M h) (hx : srcOf h x = some els) (hr : RepS ι h.length w M x d) (hz : ∀ y ∈ els, y.length = z) :
    ∃ ao cap news, d = .slice ao els.length cap ∧ RepL w M els.flatten news ∧ news.length = els.length * z ∧ (els = [] ∨ ∃ a, ao = some a ∧ ∀ (j : Nat) (u : Value), news[j]? = some u → w.cell? (a.add j) = some u) := by
  unfold srcOf at hx
  split at hx
  · cases hx
    simp only [RepS, Rep] at hr
    obtain ⟨ao, cap, rfl, h1, h2⟩ := hr
    rcases h2 with rfl | ⟨b, off, n, rfl, h2⟩
    · exact ⟨ao, cap, [], rfl, by simp [RepL], by simp, .inl rfl⟩
    · have key : ∀ (els : List (List AV)) (off : Nat), (∀ y ∈ els, y.length = z) → RepEls w M b n els off → ∃ news, RepL w M els.flatten news ∧ news.length = els.length * z ∧ ∀ (j : Nat) (u : Value), news[j]? = some u → w.cell? ⟨b, off + j, none⟩ = some u := by
        intro els
        induction els with
        | nil => intro off _ _; exact ⟨[], by simp [RepL], by simp, by simp⟩
        | cons y els ih =>
          intro off hz hr
          simp only [RepEls] at hr
          obtain ⟨cs, g1, g2⟩ := repAt_list hr.1.2
          obtain ⟨news, g3, g4, g5⟩ := ih (off + n) (fun x hx => hz x (by simp [hx])) hr.2
          have hl := g1.length
          have hy := hz y (by simp)
          have hn := hr.1.1
          refine ⟨cs ++ news, by simp only [List.flatten_cons]; exact g1.append g3, by simp [g4, Nat.add_mul]; omega, ?_⟩
          intro j u hj
          rw [List.getElem?_append] at hj
          split at hj
          · exact g2 j u hj
          · rename_i hge
            have := g5 _ u hj
            rwa [show off + n + (j - cs.length) = off + j by omega] at this
      obtain ⟨news, g1, g2, g3⟩ := key els off hz h2
      exact ⟨_, cap, news, rfl, g1, g2, .inr ⟨_, rfl, fun j u hj => by rw [Addr.add_lit]; exact g3 j u hj⟩⟩
  · cases hx
    simp only [RepS, Rep] at hr
    exact ⟨none, 0, [], hr, by simp [RepL], by simp, .inl rfl⟩
  · rename_i id
    split at hx <;> cases hx
    rename_i e z' he
    rw [nth_eq] at he
    have h0 := H.objs id _ he
    simp only [StO] at h0
    simp only [RepS] at hr
    obtain ⟨hz', h0⟩ := h0
    rcases h0 with ⟨rfl, h0⟩ | ⟨b, k, cs, el', g1, g2, g3, g4, g5, g6, g7⟩
    · rcases hr.2 with ⟨_, rfl⟩ | ⟨b, k, z2, n, hb, _⟩
      · exact ⟨none, 0, [], rfl, by simp [RepL], by simp, .inl rfl⟩
      · rw [h0] at hb; cases hb
    · rcases hr.2 with ⟨hb, _⟩ | ⟨b', k', z2, n, hb, rfl⟩
      · rw [g1] at hb; cases hb
      · rw [g1] at hb; cases hb
        have hl := g7.length
        rw [flat_len hz] at hl
        refine ⟨_, k, cs.toList.take (els.length * z'), rfl, g7, ?_, ?_⟩
        · have hzz : els = [] ∨ z' = z := by
            cases els with
            | nil => exact .inl rfl
            | cons y ys => right; rw [← hz' y (by simp)]; exact hz y (by simp)
          rcases hzz with rfl | rfl
          · simp
          · exact hl
        · right
          refine ⟨_, rfl, ?_⟩
          intro j u hj
          rw [Addr.add_lit, cell_of_block g3]
          rw [List.getElem?_take] at hj
          split at hj
          · simpa using hj
          · cases hj
  · cases hx

/-- nothing is appended -/
theorem run_append_zero {P : Program} {w : World} {t ty e : Nat} {i : TypeInfo} (ht : P.underlying t = some (.slice e)) (hi : P.info? e = some i)
    (base : Option Addr) (n k : Nat) (hn : n ≤ k) (ao : Option Addr) (c : Nat) : (Builtin.append_ #[t, t] ty #[.slice base n k, .slice ao 0 c]).run P w = .ok (.slice base n k) w := by
  have hf : (Builtin.firstCells i.size 0 (.slice ao 0 c)).run P w = .ok #[] w := by
    cases ao with
    | none => rfl
    | some a => simp [Builtin.firstCells, loadCells, loadCellsFrom]
  cases base with
  | none => simp [Builtin.append_, run_underlying ht, sizeOf, typeInfo, hi, Builtin.lenOf, hn, hf]
  | some a => simp [Builtin.append_, run_underlying ht, sizeOf, typeInfo, hi, Builtin.lenOf, hn, hf, storeCells]

/-- the object grows; what spoke of it before is forgotten -/
def vappend (T : TT) (us : Us) (ts : List TypeId) (s x : SV) (α : AF) (h : List SO) (K : SV → AF → List SO → Prop) : Prop :=
  match ts with
  | [t, t'] => bif Nat.beq t t' then onO (slOf T t) fun q => onO (srcOf h x) fun src =>
      bif Nat.ble 1 q.2.size && Nat.beq q.2.zero.length q.2.size then
      match s with
      | .v (.c (.slice none 0 0)) => Side (ElOk q.2.size src ∧ src.length * (q.2.bytes + 1) ≤ 70368744177664)
          (forceN h.length fun id => K (.ms id) α (h ++ [.arr q.1 q.2.size src]))
      | .ms id => onO (nth h id) fun o => match o with
        | .arr e z els => bif Nat.beq e q.1 && Nat.beq z q.2.size && inU us id then Side (ElOk q.2.size src ∧ (els.length + src.length) * (q.2.bytes + 1) ≤ 70368744177664)
            (K (.ms id) (killA id α) ((killH id h).set id (.arr e z (els ++ src)))) else False
        | _ => False
      | _ => False
      else False
    else False
  | _ => False

theorem St.push0 {ι w M h} (us : Us) (H : St ι w M h) (so : SO) (hs : StO (upd ι h.length none) (h.length + 1) w M h.length so) :
    St (upd ι h.length none) w M (h ++ [so]) ∧ Agree ι h.length (upd ι h.length none) (h.length + 1) ∧ Grow ι w M h us (upd ι h.length none) w M (h ++ [so]) := by
  have hag : Agree ι h.length (upd ι h.length none) (h.length + 1) := ⟨by omega, fun i hi => upd_ne ι _ (by omega)⟩
  have hkp : Keep w M w M := fun b _ hm => ⟨hm, rfl⟩
  have hget : ∀ i x, (h ++ [so])[i]? = some x → (i < h.length ∧ h[i]? = some x) ∨ (i = h.length ∧ x = so) := by
    intro i x hx
    rcases Nat.lt_or_ge i h.length with hi | hi
    · rw [List.getElem?_append_left hi] at hx; exact .inl ⟨hi, hx⟩
    · have : i = h.length := by
        have := get_lt hx; simp at this; omega
      subst this; simp at hx; exact .inr ⟨rfl, hx.symm⟩
  refine ⟨⟨?_, ?_, H.mlt⟩, hag, ⟨rfl, rfl, rfl, Nat.le_refl _, fun _ _ _ => rfl, fun _ _ x => x, fun _ x _ => x, ?_, ?_⟩⟩
  · intro i x hx
    simp only [List.length_append, List.length_singleton]
    rcases hget i x hx with ⟨hi, hx⟩ | ⟨rfl, rfl⟩
    · exact StO.keep hag hkp (upd_ne ι _ (by omega)) (fun b k l e => ⟨rfl, (H.objs i x hx).ownM l e⟩) (H.objs i x hx)
    · exact hs
  · intro i j oi oj b k1 k2 hi hj li lj ei ej
    rcases hget i oi hi with ⟨hi1, hi2⟩ | ⟨rfl, rfl⟩ <;> rcases hget j oj hj with ⟨hj1, hj2⟩ | ⟨rfl, rfl⟩
    · rw [upd_ne ι _ (by omega)] at ei ej
      exact H.dist i j oi oj b k1 k2 hi2 hj2 li lj ei ej
    · rw [upd_same] at ej; cases ej
    · rw [upd_same] at ei; cases ei
    · rfl
  · rintro b hb ⟨i, x, k', h1, h2, h3⟩
    rcases hget i x h1 with ⟨hi, hx⟩ | ⟨rfl, rfl⟩
    · rw [upd_ne ι _ (by omega)] at h3; exact ⟨i, x, k', hx, h2, h3⟩
    · rw [upd_same] at h3; cases h3
  · rintro b hb ⟨i, x, k', h0, h1, h2, h3⟩
    rcases hget i x h1 with ⟨hi, hx⟩ | ⟨rfl, rfl⟩
    · rw [upd_ne ι _ (by omega)] at h3; exact ⟨i, x, k', h0, hx, h2, h3⟩
    · rw [upd_same] at h3; cases h3

theorem vappend_ok {P : Program} {T : TT} (hT : T.all P = true) {ts : List TypeId} {ty : Nat} {s x : SV} {c d : Value} {ι w M h us n a α} {K : SV → AF → List SO → Prop} (hv : vappend T us ts s x α h K)
    (H : St ι w M h) (F : FR ι h.length w M n α a) (hs : RepS ι h.length w M s c) (hx : RepS ι h.length w M x d) :
    Out ι w M h us n a K ((Builtin.append_ ts.toArray ty #[c, d]).run P w) := by
  unfold vappend at hv
  split at hv
  · rename_i t t'
    rcases nbeq (a := t) (b := t') with ⟨e1, rfl⟩ | ⟨e1, _⟩
    rotate_left
    · rw [e1] at hv; exact hv.elim
    rw [e1] at hv; simp only [cond_true] at hv
    have hv0 := onO_some hv; clear hv
    obtain ⟨⟨e, j⟩, hq, hv1⟩ := hv0
    obtain ⟨src, hsrc, hv2⟩ := onO_some hv1; clear hv1
    obtain ⟨ht, hj⟩ := slOf_ok hT hq
    simp only at hv2
    cases hb : (Nat.ble 1 j.size && Nat.beq j.zero.length j.size) with
    | false => rw [hb] at hv2; exact hv2.elim
    | true =>
    rw [hb] at hv2; simp only [cond_true] at hv2
    simp only [Bool.and_eq_true] at hb
    have hsz := Nat.le_of_ble_eq_true hb.1
    have hzl := Nat.eq_of_beq_eq_true hb.2
    obtain ⟨f, dd, z, i1, i2, i3, i4, i5, i6, i7, i8⟩ := hj.ex
    have hzs : z.cells.size = f.size := by rw [i3, ← hzl, ← i7]; simp
    split at hv2
    · -- out of nothing
      obtain ⟨⟨q1, q2⟩, hv3⟩ := hv2.elim; clear hv2
      rw [forceN_eq] at hv3
      simp only [RepS, Rep] at hs; subst hs
      obtain ⟨ao, cap, news, rfl, g1, g2, g3⟩ := srcOf_ok H hsrc hx q1.flat.1
      by_cases hm : src.length = 0
      · have hse : src = [] := List.eq_nil_of_length_eq_zero hm
        subst hse
        have hrun := run_append_zero (P := P) (w := w) (ty := ty) ht i1 none 0 0 (Nat.le_refl _) ao cap
        obtain ⟨m1, m2, m3⟩ := H.push0 us (.arr e j.size []) (by simp only [StO]; exact ⟨by simp, .inl ⟨trivial, upd_same _ _ _⟩⟩)
        refine ⟨_, _, α, _, _, _, _, hrun, hv3, m1, ?_, ?_, m3⟩
        · simpa using F.keep m2 (fun b _ hm => ⟨hm, rfl⟩)
        · simp only [RepS, List.length_append, List.length_singleton]
          exact ⟨by omega, .inl ⟨upd_same _ _ _, trivial⟩⟩
      · rcases g3 with rfl | ⟨ad, rfl, g3⟩
        · exact absurd rfl hm
        have hbd : src.length * j.bytes ≤ 70368744177664 ∧ src.length ≤ 70368744177664 := by
          rw [Nat.mul_add] at q2; omega
        have hrun := run_append_nil (P := P) w t ty e f z ht i1 i6 ad src.length cap news (by rw [g2, i3]) g3 (by omega) (by omega) (by rw [i4]; omega)
        have hge := grownCap_ge w src.length 0 e
        have hcm : grownCap w src.length 0 e ≤ maxLen := grownCap_le_maxLen w src.length 0 e (by unfold maxLen; omega)
        have hkp : Keep w M (w.drew.alloc (.cells (news.toArray ++ Builtin.zeroCells z.cells (grownCap w src.length 0 e - src.length)) e)) (fun b => M b ∨ b = w.heap.size) := fun b hb hm =>
          ⟨by rintro (h | h); exact hm h; omega, by show (w.heap.push _)[b]? = _; rw [Array.getElem?_push, if_neg (by omega)]⟩
        obtain ⟨m1, m2, m3, m4⟩ := H.alloc us (.arr e j.size src) (.cells (news.toArray ++ Builtin.zeroCells z.cells (grownCap w src.length 0 e - src.length)) e) (grownCap w src.length 0 e, j.size, src.length) (w.drew.alloc (.cells (news.toArray ++ Builtin.zeroCells z.cells (grownCap w src.length 0 e - src.length)) e)) rfl rfl rfl rfl (by
          simp only [StO]
          refine ⟨q1.flat.1, .inr ⟨w.heap.size, _, _, _, upd_same _ _ _, .inr rfl, heap_alloc_new w.drew _, ?_, hge, ⟨hcm, .inr rfl⟩, ?_⟩⟩
          · simp only [Array.size_append, List.size_toArray, size_zeroCells, hzs, g2, i3, ← Nat.add_mul]
            congr 1; omega
          · have : (news.toArray ++ Builtin.zeroCells z.cells (grownCap w src.length 0 e - src.length)).toList.take (src.length * j.size) = news := by
              rw [← g2]; simp
            rw [this]; exact RepL.keep hkp _ _ g1)
        refine ⟨_, _, α, _, _, _, _, hrun, hv3, m1, by simpa using F.keep m2 m3, ?_, m4⟩
        simp only [RepS, List.length_append, List.length_singleton]
        exact ⟨by omega, .inr ⟨w.heap.size, _, _, _, upd_same _ _ _, rfl⟩⟩
    · -- to an object of one's own
      rename_i id
      have hv3 := onO_some hv2; clear hv2
      obtain ⟨o, ho, hv4⟩ := hv3
      rw [nth_eq] at ho
      cases o with
      | arr e' z' els =>
        rcases nbeq (a := e') (b := e) with ⟨e2, rfl⟩ | ⟨e2, _⟩
        rotate_left
        · simp only [e2, Bool.false_and, cond_false] at hv4
        rcases nbeq (a := z') (b := j.size) with ⟨e3, rfl⟩ | ⟨e3, _⟩
        rotate_left
        · simp only [e3, Bool.and_false, Bool.false_and, cond_false] at hv4
        cases hu : inU us id with
        | false => simp only [hu, Bool.and_false, cond_false] at hv4
        | true =>
        simp only [e2, e3, hu, Bool.and_self, cond_true] at hv4
        obtain ⟨⟨q1, q2⟩, hv5⟩ := hv4.elim; clear hv4
        obtain ⟨ao, cap, news, rfl, g1, g2, g3⟩ := srcOf_ok H hsrc hx q1.flat.1
        have h0 := H.objs id _ ho
        simp only [StO] at h0
        obtain ⟨hz0, h0⟩ := h0
        simp only [RepS] at hs
        obtain ⟨hid, hs⟩ := hs
        have hzall : ∀ x ∈ els ++ src, x.length = j.size := by
          intro x hx
          rcases List.mem_append.1 hx with hx | hx
          · exact hz0 x hx
          · exact q1.flat.1 x hx
        have hbd : (els.length + src.length) * j.bytes ≤ 70368744177664 ∧ els.length + src.length ≤ 70368744177664 := by
          rw [Nat.mul_add] at q2; omega
        have hoN := repSL_one (RepSL.ofL (ι := ι) (N := h.length) g1) q1.flat.2
        by_cases hm : src.length = 0
        · have hse : src = [] := List.eq_nil_of_length_eq_zero hm
          subst hse
          have hag1 : Agree1 id ι h.length (upd ι id (ι id)) h.length := ⟨Nat.le_refl _, fun i _ hne => upd_ne ι _ hne⟩
          have hup : upd ι id (ι id) = ι := by funext i; simp only [upd]; split <;> simp_all
          obtain ⟨m1, m2, m3, m4⟩ := H.move us hu ho (.arr e' j.size (els ++ [])) (ι id) w M (fun b hb => .inl hb) (fun b hb => hb) (Nat.le_refl _) (fun _ _ _ => rfl) (fun b k hk => .inr ⟨rfl, k, hk⟩) rfl rfl rfl (by
            rw [hup]; simp only [List.append_nil]; exact H.objs id _ ho)
          rcases hs with ⟨hs1, rfl⟩ | ⟨b, k, z2, n2, hs1, rfl⟩
          · have hrun := run_append_zero (P := P) (w := w) (ty := ty) ht i1 none 0 0 (Nat.le_refl _) ao cap
            refine ⟨_, _, _, _, _, _, _, hrun, hv5, m1, by simpa [killH_length] using F.kill m2 m3, ?_, m4⟩
            simp only [RepS, List.length_set, killH_length]
            exact ⟨hid, .inl ⟨by rw [hup]; exact hs1, trivial⟩⟩
          · have hle : n2 ≤ k := by
              rcases h0 with h0 | ⟨b', k', cs, el', h1, h2, h3, h4, h5, h6, h7⟩
              · rw [h0.2] at hs1; cases hs1
              · rw [h1] at hs1; cases hs1; exact h5
            have hrun := run_append_zero (P := P) (w := w) (ty := ty) ht i1 (some ⟨b, 0, none⟩) n2 k hle ao cap
            refine ⟨_, _, _, _, _, _, _, hrun, hv5, m1, by simpa [killH_length] using F.kill m2 m3, ?_, m4⟩
            simp only [RepS, List.length_set, killH_length]
            exact ⟨hid, .inr ⟨b, k, z2, n2, by rw [hup]; exact hs1, rfl⟩⟩
        · rcases g3 with rfl | ⟨ad, rfl, g3⟩
          · exact absurd rfl hm
          rcases h0 with ⟨rfl, h0⟩ | ⟨b, k, cs, el', h1, h2, h3, h4, h5, h6, h7⟩
          · -- it was nil
            rcases hs with ⟨_, rfl⟩ | ⟨b, k, z2, n2, hs1, _⟩
            rotate_left
            · rw [h0] at hs1; cases hs1
            simp only [List.length_nil, Nat.zero_add] at hbd
            have hrun := run_append_nil (P := P) w t ty e' f z ht i1 i6 ad src.length cap news (by rw [g2, i3]) g3 (by omega) (by omega) (by rw [i4]; omega)
            have hge := grownCap_ge w src.length 0 e'
            have hcm : grownCap w src.length 0 e' ≤ maxLen := grownCap_le_maxLen w src.length 0 e' (by unfold maxLen; omega)
            have hkp : Keep w M (w.drew.alloc (.cells (news.toArray ++ Builtin.zeroCells z.cells (grownCap w src.length 0 e' - src.length)) e')) (fun b => M b ∨ b = w.heap.size) := fun b hb hm =>
              ⟨by rintro (h | h); exact hm h; omega, by show (w.heap.push _)[b]? = _; rw [Array.getElem?_push, if_neg (by omega)]⟩
            obtain ⟨m1, m2, m3, m4⟩ := H.move us hu ho (.arr e' j.size ([] ++ src)) (some (w.heap.size, grownCap w src.length 0 e', j.size, src.length)) (w.drew.alloc (.cells (news.toArray ++ Builtin.zeroCells z.cells (grownCap w src.length 0 e' - src.length)) e')) (fun b => M b ∨ b = w.heap.size)
              (by rintro b (hb | rfl); exact .inl hb; exact .inr ⟨Nat.le_refl _, by simp⟩) (fun b hb => .inl hb) (by simp) (fun j' hj' _ => by show (w.heap.push _)[j']? = _; rw [Array.getElem?_push, if_neg (by omega)]) (fun b k hk => by cases hk; exact .inl (Nat.le_refl _)) rfl rfl rfl (by
                simp only [StO, List.nil_append]
                refine ⟨q1.flat.1, .inr ⟨w.heap.size, _, _, _, upd_same _ _ _, .inr rfl, heap_alloc_new w.drew _, ?_, hge, ⟨hcm, .inr rfl⟩, ?_⟩⟩
                · simp only [Array.size_append, List.size_toArray, size_zeroCells, hzs, g2, i3, ← Nat.add_mul]
                  congr 1; omega
                · have : (news.toArray ++ Builtin.zeroCells z.cells (grownCap w src.length 0 e' - src.length)).toList.take (src.length * j.size) = news := by
                    rw [← g2]; simp
                  rw [this]; exact RepL.keep hkp _ _ g1)
            refine ⟨_, _, _, _, _, _, _, hrun, hv5, m1, by simpa [killH_length] using F.kill m2 m3, ?_, m4⟩
            simp only [RepS, List.length_set, killH_length]
            exact ⟨hid, .inr ⟨w.heap.size, _, _, _, upd_same _ _ _, rfl⟩⟩
          · rcases hs with ⟨hs1, _⟩ | ⟨b', k', z2, n2, hs1, rfl⟩
            · rw [h1] at hs1; cases hs1
            rw [h1] at hs1; cases hs1
            have holdl : (cs.toList.take (els.length * j.size)).length = els.length * j.size := by
              have := Nat.mul_le_mul_right j.size h5
              simp; omega
            have hcells : ∀ (p : Nat) (u : Value), (cs.toList.take (els.length * j.size))[p]? = some u → w.cell? ((⟨b, 0, none⟩ : Addr).add p) = some u := by
              intro p u hp
              rw [Addr.add_lit, cell_of_block h3]
              rw [List.getElem?_take] at hp
              split at hp
              · simpa using hp
              · cases hp
            by_cases hroom : els.length + src.length ≤ k
            · -- in place
              have hfit : els.length * f.size + news.length ≤ cs.size := by rw [g2, h4, i3, ← Nat.add_mul]; exact Nat.mul_le_mul_right _ hroom
              have hel : e' = el' := (h6.2.resolve_left (by omega)).symm
              subst hel
              have hrun := run_append_room (P := P) w t ty e' f ht i1 b els.length k cs h3 ad src.length cap news (by rw [g2, i3]) g3 hoN hroom hfit
              have hkp : Keep w M (w.setRow b (cs.toList.take (els.length * f.size) ++ news ++ cs.toList.drop (els.length * f.size + news.length)).toArray) M := fun b' _ hm => ⟨hm, setRow_other w b b' _ (fun e => hm (e ▸ h2))⟩
              obtain ⟨m1, m2, m3, m4⟩ := H.move us hu ho (.arr e' j.size (els ++ src)) (some (b, k, j.size, els.length + src.length)) (w.setRow b (cs.toList.take (els.length * f.size) ++ news ++ cs.toList.drop (els.length * f.size + news.length)).toArray) M
                (fun b hb => .inl hb) (fun b hb => hb) (by simp) (fun j' hj' hne => setRow_other w b j' _ (hne rfl b _ h1)) (fun b'' k'' hk => by cases hk; exact .inr ⟨rfl, _, h1⟩) rfl rfl rfl (by
                  simp only [StO]
                  refine ⟨hzall, .inr ⟨b, k, _, e', by rw [upd_same]; simp, h2, setRow_heap w b cs _ e' _ h3, ?_, by simpa using hroom, ⟨h6.1, .inr rfl⟩, ?_⟩⟩
                  · rw [i3] at hfit ⊢; simp; omega
                  · have : (cs.toList.take (els.length * f.size) ++ news ++ cs.toList.drop (els.length * f.size + news.length)).toArray.toList.take ((els ++ src).length * j.size) = cs.toList.take (els.length * j.size) ++ news := by
                      simp only [List.length_append, Nat.add_mul, i3]
                      rw [← g2, ← holdl]
                      simp only [List.append_assoc]
                      rw [← List.length_append, ← List.append_assoc, List.take_left']
                      rw [holdl]
                    rw [this, List.flatten_append]
                    exact RepL.keep hkp _ _ (h7.append g1))
              refine ⟨_, _, _, _, _, _, _, hrun, hv5, m1, by simpa [killH_length] using F.kill m2 m3, ?_, m4⟩
              simp only [RepS, List.length_set, killH_length]
              exact ⟨hid, .inr ⟨b, _, _, _, upd_same _ _ _, rfl⟩⟩
            · -- in a new place
              have hrun := run_append_grow (P := P) w t ty e' f z ht i1 i6 ⟨b, 0, none⟩ els.length k (cs.toList.take (els.length * j.size)) (by rw [holdl, i3]) hcells ad src.length cap news (by rw [g2, i3]) g3 (by omega) (by omega) (by
                have := growslice_fits (need := els.length + src.length) (old := k) (bytes := f.bytes) (by omega) (by rw [i4]; omega)
                exact this)
              have hge := grownCap_ge w (els.length + src.length) k e'
              have hcm : grownCap w (els.length + src.length) k e' ≤ maxLen := grownCap_le_maxLen w _ k e' (by unfold maxLen; omega)
              have hkp : Keep w M (w.drew.alloc (.cells ((cs.toList.take (els.length * j.size)).toArray ++ news.toArray ++ Builtin.zeroCells z.cells (grownCap w (els.length + src.length) k e' - (els.length + src.length))) e')) (fun b => M b ∨ b = w.heap.size) := fun b hb hm =>
                ⟨by rintro (h | h); exact hm h; omega, by show (w.heap.push _)[b]? = _; rw [Array.getElem?_push, if_neg (by omega)]⟩
              obtain ⟨m1, m2, m3, m4⟩ := H.move us hu ho (.arr e' j.size (els ++ src)) (some (w.heap.size, grownCap w (els.length + src.length) k e', j.size, els.length + src.length)) (w.drew.alloc (.cells ((cs.toList.take (els.length * j.size)).toArray ++ news.toArray ++ Builtin.zeroCells z.cells (grownCap w (els.length + src.length) k e' - (els.length + src.length))) e')) (fun b => M b ∨ b = w.heap.size)
                (by rintro b (hb | rfl); exact .inl hb; exact .inr ⟨Nat.le_refl _, by simp⟩) (fun b hb => .inl hb) (by simp) (fun j' hj' _ => by show (w.heap.push _)[j']? = _; rw [Array.getElem?_push, if_neg (by omega)]) (fun b k hk => by cases hk; exact .inl (Nat.le_refl _)) rfl rfl rfl (by
                  simp only [StO]
                  refine ⟨hzall, .inr ⟨w.heap.size, _, _, _, by rw [upd_same]; simp, .inr rfl, heap_alloc_new w.drew _, ?_, by simpa using hge, ⟨hcm, .inr rfl⟩, ?_⟩⟩
                  · simp only [Array.size_append, List.size_toArray, size_zeroCells, hzs, g2, holdl, i3, ← Nat.add_mul]
                    congr 1; omega
                  · have : ((cs.toList.take (els.length * j.size)).toArray ++ news.toArray ++ Builtin.zeroCells z.cells (grownCap w (els.length + src.length) k e' - (els.length + src.length))).toList.take ((els ++ src).length * j.size) = cs.toList.take (els.length * j.size) ++ news := by
                      simp only [List.length_append, Nat.add_mul, Array.toList_append]
                      rw [← g2, List.take_left']
                      simp only [List.length_append]
                      rw [holdl]
                    rw [this, List.flatten_append]
                    exact RepL.keep hkp _ _ (h7.append g1))
              refine ⟨_, _, _, _, _, _, _, hrun, hv5, m1, by simpa [killH_length] using F.kill m2 m3, ?_, m4⟩
              simp only [RepS, List.length_set, killH_length]
              exact ⟨hid, .inr ⟨w.heap.size, _, _, _, upd_same _ _ _, rfl⟩⟩
      | _ => exact hv4.elim
    · exact hv2.elim
  · exact hv.elim

end Go.AV0
