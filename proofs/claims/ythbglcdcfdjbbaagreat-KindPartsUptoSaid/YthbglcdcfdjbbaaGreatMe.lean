/- KindPartsUptoSaid: of any type what it holds, for each text, value, number and key of bulk at most 1048576. This text: V4, V5, V6, K1, K2, K3, K4, K5, T1, T2, T3, T4, T5, T7, T8, T9. -/
import Derived.Test.YthbglcdcfdjbbaaGreatMd
import Derived.Test.YthbglcdcfdjbbaaGreatLib
/- values: the keys of a map, in order. -/
namespace Go.AV0
open Go.Proofs Go.RowKit Go.Maps Go.Sort Go.Shelf Go.WideShapes Go.ChangeMaps Go.MapKept

theorem ipost_below {ι w M h} {Q : SV → List SO → Prop} {e : Ending} {w' : World} (H : St ι w M h) (hb : Below w.heap.size w w') {c : Value} {v : AV} (he : e = .returned c) (hv : Rep w' M v c) (hq : Q (.v v) h) : IPost ι w M h [] Q e w' := by
  have hkp := keep_below (M := M) hb
  refine ⟨c, .v v, h, ι, M, he, hq, Nat.le_refl _, ⟨?_, H.dist, fun b hm => Nat.lt_of_lt_of_le (H.mlt b hm) hb.size, H.gl.keep hkp⟩, by simpa [RepS] using hv, ?_, fun _ _ _ => rfl⟩
  · intro i o ho
    exact StO.keep ⟨Nat.le_refl _, fun _ _ => rfl⟩ hkp rfl (fun b k l e => ⟨hb.block b (H.mlt b ((H.objs i o ho).ownM l e)), (H.objs i o ho).ownM l e⟩) (H.objs i o ho)
  · exact ⟨hb.os, hb.tape, hb.output, hb.size, fun b hb' _ => hb.block b hb', fun _ _ x => x, fun _ x _ => x, fun _ _ x => x, fun _ _ x => x⟩

def bleq (a b : ByteArray) : Bool := decide (a.data.toList ≤ b.data.toList)

/-- a map's keys, rising -/
def skeys {α : Type} (es : List (ByteArray × α)) : List ByteArray := (es.map (·.1)).mergeSort bleq

def anyR : Value → Option (DataW Unit × List MemPlace) := fun _ => some (.nil, [])

theorem sorted_any (w : World) (Bm b nn : Nat) (D0 : DataW Unit) (hBm : Bm < w.heap.size) (hm : w.cell? ⟨Bm, 0, none⟩ = some (.map (some b))) (hown : w.ownsMap Tryz.prog 9 anyR b nn D0) (hmax : Maps.size D0 ≤ maxLen) (hbytes : Maps.size D0 * 16 ≤ 140737488355328) :
    Calls Tryz.prog 70 #[.func (.func 80) #[] #[.pointer (some ⟨Bm, 0, none⟩)]] w fun e w' => ∃ (v : Value) (ss : List (List UInt8)), e = .returned v ∧ ss.Perm (strKeys D0) ∧
      w'.ownsRow w.heap.size 9 1 v ss.length ((ss.mergeSort (fun x y => decide (x ≤ y))).map encStr) ∧ (v = .slice none 0 0 ↔ ss = []) ∧ Below w.heap.size w w' := by
  have hseq : SeqGives Fence.wide 2 Tryz.prog 80 #[.pointer (some ⟨Bm, 0, none⟩)] encStr (fun ss => ss.Perm (strKeys D0)) (Maps.size D0) w :=
    AnyZ.keys_gives (ρ := Tryz.keys71_ren) { Tryz.keys71 with } Fence.wide _ trivial rfl (by omega) Bm b nn D0 w hBm hm hown
  exact callsIn_wide.1 (AnyZ.sorted_in Tryz.sorted70 Fence.wide 5 trivial trivial trivial trivial rfl (by omega) (Tryz.sorts70 _) (enters_of Tryz.func79 (by kernel_rfl) rfl) 80 #[.pointer (some ⟨Bm, 0, none⟩)] trivial (enters_of Tryz.func80 (by kernel_rfl) rfl) _ _ hmax hbytes w hseq)

theorem str_type : Tryz.prog.underlying 9 = some .string := by kernel_rfl

theorem ownsMap_of {w : World} {b : Nat} {en : Array MapEntry} {clock : Nat} {es : List (ByteArray × AV)} (h1 : w.heap[b]? = some (.map en clock)) (h2 : stamped en clock) (h3 : (en.toList.map (·.key)).Perm (es.map fun e => Value.string e.1)) (h4 : (es.map (·.1)).Nodup)
    (hk : ∀ e ∈ es, e.1.size ≤ 4000000) (hn : es.length ≤ 4000000) :
    ∃ D0 : DataW Unit, w.ownsMap Tryz.prog 9 anyR b en.size D0 ∧ (strKeys D0).Perm (es.map fun e => e.1.data.toList) ∧ Maps.size D0 = es.length := by
  have hm : maxLen = 9223372036854775807 := rfl
  have hlen : en.toList.length = es.length := by have := h3.length_eq; simpa using this
  have hsz : en.size = es.length := by rw [← hlen]; simp
  have hkey : ∀ x ∈ en.toList, ∃ s : ByteArray, x.key = .string s ∧ s.size ≤ 4000000 := by
    intro x hx
    have : x.key ∈ es.map fun e => Value.string e.1 := h3.mem_iff.1 (List.mem_map_of_mem hx)
    obtain ⟨e, he, hx'⟩ := List.mem_map.1 this
    exact ⟨e.1, hx'.symm, hk e he⟩
  have hrd : ∀ x ∈ en.toList, ∃ s : ByteArray, x.key = .string s ∧ WideElems.rd Tryz.prog 9 anyR x = some (.string s.data.toList, .nil) := by
    intro x hx
    obtain ⟨s, hs, hs2⟩ := hkey x hx
    refine ⟨s, hs, ?_⟩
    unfold WideElems.rd
    rw [hs, Go.WideMaps.keyOf_string_mk str_type (by omega)]
    rfl
  refine ⟨_, ⟨en, clock, h1, ⟨by omega, ⟨h2.1, h2.2, ?_⟩, fun x hx => let ⟨_, _, h⟩ := hrd x hx; ⟨_, h⟩⟩, Nat.le_refl _, rfl⟩, ?_, ?_⟩
  · refine h3.nodup_iff.2 ?_
    have : (es.map fun e => Value.string e.1) = (es.map (·.1)).map Value.string := by simp
    rw [this]
    exact List.Pairwise.map _ (fun a b hab e => hab (by injection e)) h4
  · have e1 : strKeys (.map ((en.toList.map (WideElems.rg Tryz.prog 9 anyR)).foldr DataW.insert [])) = ((en.toList.map (WideElems.rg Tryz.prog 9 anyR)).foldr DataW.insert []).map fun p => Go.strOf p.1 := rfl
    rw [e1]
    refine ((sorted_perm _).map _).trans ?_
    rw [List.map_map]
    let g : Value → List UInt8 := fun v => match v with | .string s => s.data.toList | _ => []
    have e2 : en.toList.map ((fun p => Go.strOf p.1) ∘ WideElems.rg Tryz.prog 9 anyR) = (en.toList.map (·.key)).map g := by
      rw [List.map_map]
      apply List.map_congr_left
      intro x hx
      obtain ⟨s, h5, h6⟩ := hrd x hx
      simp only [Function.comp, WideElems.rg_of h6, h5]
      rfl
    rw [e2]
    refine (h3.map g).trans ?_
    rw [List.map_map]
    exact List.Perm.refl _
  · show ((en.toList.map (WideElems.rg Tryz.prog 9 anyR)).foldr DataW.insert []).length = _
    rw [(sorted_perm _).length_eq]; simp [hsz]

theorem repEls_strs {w : World} {M : Nat → Prop} {g : Nat} {cur : Array Value} {el : TypeId} (hg : w.heap[g]? = some (.cells cur el (0, 0))) (hM : ¬ M g) :
    ∀ (ks : List ByteArray) (off : Nat), (∀ i k, ks[i]? = some k → cur[off + i]? = some (.string k)) → RepEls w M g 1 (nmA ks) off
  | [], off, _ => by simp [nmA, RepEls]
  | k :: ks, off, h => by
    show (([AV.c (.string k)].length = 1 ∧ RepAt w M g [AV.c (.string k)] off) ∧ RepEls w M g 1 (nmA ks) (off + 1))
    refine ⟨⟨rfl, ?_⟩, repEls_strs hg hM ks (off + 1) fun i k' hk => ?_⟩
    · simp only [RepAt, Rep]
      exact ⟨⟨hM, .string k, by rw [cell_of_block hg]; exact h 0 k rfl, rfl⟩, trivial⟩
    · have := h (i + 1) k' (by simpa using hk)
      rwa [show off + (i + 1) = off + 1 + i by omega] at this

theorem skeys_list {es : List (ByteArray × AV)} {ss : List (List UInt8)} (h : ss.Perm (es.map fun e => e.1.data.toList)) : ss.mergeSort (fun x y => decide (x ≤ y)) = (skeys es).map (·.data.toList) := by
  have e1 : (skeys es).map (·.data.toList) = ((es.map (·.1)).map (·.data.toList)).mergeSort leB := by
    unfold skeys
    exact List.map_mergeSort (fun a _ b _ => rfl)
  rw [e1, List.map_map]
  exact mergeSort_of_perm h

theorem sorted_i (es : List (ByteArray × AV)) (hk : ∀ e ∈ es, e.1.size ≤ 4000000) (hn : es.length ≤ 4000000) :
    AImp Tryz.prog 70 [.clo (.func 80) [] [.ref 0 0]] [.cells [.v (.map (some es))]] [] (fun r h => r = .v (.sl (nmA (skeys es))) ∧ h = [.cells [.v (.map (some es))]]) := by
  refine ⟨⟨_, Tryz.func70, by kernel_rfl, rfl⟩, ?_⟩
  intro ι w M cs H ha
  simp only [RepSL, RepS] at ha
  obtain ⟨_, _, rfl, ⟨fs, cap, rfl, hf, _, _, hc, ⟨_, b0, k0, h0, rfl⟩, rfl⟩, rfl⟩ := ha
  have hf : fs = #[] := by cases fs; simp at hf; subst hf; rfl
  have hc : cap = #[.pointer (some ⟨b0, 0, none⟩)] := by cases cap; simp at hc; subst hc; rfl
  subst hf; subst hc
  have ho := H.objs 0 _ rfl
  simp only [StO] at ho
  obtain ⟨b1, k1, cells, el, g1, g2, g3, g4⟩ := ho
  rw [h0] at g1; cases g1
  simp only [RepSL, RepS, Rep] at g4
  obtain ⟨_, _, g4, ⟨b, en, clock, rfl, m1, m2, m3, m4, m5, _⟩, rfl⟩ := g4
  obtain ⟨D0, d1, d2, d3⟩ := ownsMap_of m2 m3 m4 m5 hk hn
  have hb0 : b0 < w.heap.size := H.mlt _ g2
  have hcell : w.cell? ⟨b0, 0, none⟩ = some (.map (some b)) := by
    rw [cell_of_block g3, ← Array.getElem?_toList, g4]; rfl
  have hmx : maxLen = 9223372036854775807 := rfl
  refine (sorted_any w b0 b en.size D0 hb0 hcell d1 (by omega) (by omega)).mono ?_
  rintro e w' ⟨v, ss, rfl, p1, p2, p3, p4⟩
  have hss := skeys_list (p1.trans d2)
  rw [hss] at p2
  refine ipost_below H p4 rfl (v := .sl (nmA (skeys es))) ?_ ⟨rfl, rfl⟩
  have hlen : ss.length = (skeys es).length := by
    have := congrArg List.length hss
    simpa using this
  simp only [Rep]
  rw [nmA_len]
  obtain ⟨q1, ⟨rfl, q2⟩ | ⟨g, cp, cur, rfl, q2, q3, q4, q5, q6, q7⟩⟩ := p2
  · refine ⟨none, 0, ?_, ?_, .inl ?_⟩
    · rw [← hlen, q2]
    · omega
    · have : skeys es = [] := List.eq_nil_of_length_eq_zero (by omega)
      rw [this]; rfl
  · refine ⟨some ⟨g, 0, none⟩, cp, by rw [hlen], by omega, .inr ⟨g, 0, 1, rfl, ?_⟩⟩
    refine repEls_strs q3 (fun hM => by have := H.mlt _ hM; omega) _ 0 ?_
    intro i k hk'
    have hi := get_lt hk'
    have e1 : (cur.toList.take (ss.length * 1))[i]? = some (.string k) := by
      rw [q7, List.map_map, List.getElem?_map, hk']
      rfl
    rw [List.getElem?_take, if_pos (by omega)] at e1
    rw [Nat.zero_add, ← Array.getElem?_toList]
    exact e1

end Go.AV0
/- values: keys, items. -/
namespace Go.AV0
open Go.Proofs Go.RowKit Go.Maps Go.Sort Go.Shelf

theorem sorted_none (w : World) (Bm : Nat) (hBm : Bm < w.heap.size) (hm : w.cell? ⟨Bm, 0, none⟩ = some (.map none)) :
    Calls Tryz.prog 70 #[.func (.func 80) #[] #[.pointer (some ⟨Bm, 0, none⟩)]] w fun e w' => ∃ (v : Value) (ss : List (List UInt8)), e = .returned v ∧ ss = [] ∧
      w'.ownsRow w.heap.size 9 1 v ss.length ((ss.mergeSort (fun x y => decide (x ≤ y))).map encStr) ∧ (v = .slice none 0 0 ↔ ss = []) ∧ Below w.heap.size w w' := by
  have hseq : SeqGives Fence.wide 2 Tryz.prog 80 #[.pointer (some ⟨Bm, 0, none⟩)] encStr (fun ss : List (List UInt8) => ss = []) 0 w :=
    AnyZ.keys_gives_nil (ρ := Tryz.keys71_ren) { Tryz.keys71 with } Fence.wide _ trivial rfl Bm w hBm hm
  exact callsIn_wide.1 (AnyZ.sorted_in Tryz.sorted70 Fence.wide 5 trivial trivial trivial trivial rfl (by omega) (Tryz.sorts70 _) (enters_of Tryz.func79 (by kernel_rfl) rfl) 80 #[.pointer (some ⟨Bm, 0, none⟩)] trivial (enters_of Tryz.func80 (by kernel_rfl) rfl) _ 0 (Nat.zero_le _) (by omega) w hseq)

theorem sorted_n : AImp Tryz.prog 70 [.clo (.func 80) [] [.ref 0 0]] [.cells [.v (.map none)]] [] (fun r h => r = .v (.sl []) ∧ h = [.cells [.v (.map none)]]) := by
  refine ⟨⟨_, Tryz.func70, by kernel_rfl, rfl⟩, ?_⟩
  intro ι w M cs H ha
  simp only [RepSL, RepS] at ha
  obtain ⟨_, _, rfl, ⟨fs, cap, rfl, hf, _, _, hc, ⟨_, b0, k0, h0, rfl⟩, rfl⟩, rfl⟩ := ha
  have hf : fs = #[] := by cases fs; simp at hf; subst hf; rfl
  have hc : cap = #[.pointer (some ⟨b0, 0, none⟩)] := by cases cap; simp at hc; subst hc; rfl
  subst hf; subst hc
  have ho := H.objs 0 _ rfl
  simp only [StO] at ho
  obtain ⟨b1, k1, cells, el, g1, g2, g3, g4⟩ := ho
  rw [h0] at g1; cases g1
  simp only [RepSL, RepS, Rep] at g4
  obtain ⟨_, _, g4, rfl, rfl⟩ := g4
  have hb0 : b0 < w.heap.size := H.mlt _ g2
  have hcell : w.cell? ⟨b0, 0, none⟩ = some (.map none) := by
    rw [cell_of_block g3, ← Array.getElem?_toList, g4]; rfl
  refine (sorted_none w b0 hb0 hcell).mono ?_
  rintro e w' ⟨v, ss, rfl, rfl, p2, p3, p4⟩
  refine ipost_below H p4 rfl (v := .sl []) ?_ ⟨rfl, rfl⟩
  rw [p3.2 rfl]
  simp only [Rep]
  exact ⟨none, 0, rfl, Nat.le_refl _, .inl trivial⟩

theorem keysM_i (o : Option (List (ByteArray × AV))) : AImp Tryz.prog 71 [.v (.map o)] [] [] (fun r h => r = .clo (.func 80) [] [.ref 0 0] ∧ h = [.cells [.v (.map o)]]) := by
  refine aimp_keep hTS 1000 Tryz.func71 (by kernel_rfl) rfl rfl rfl (fun p => ?_)
  exact ⟨trivial, 1, rfl, rfl, rfl⟩

mutual
/-- sizes that a value may have -/
def okV : VT → Prop
  | .list l => l.length ≤ 4000000 ∧ okL l
  | .map es => es.length ≤ 4000000 ∧ (es.map (·.1)).Nodup ∧ okM es
  | .text s => s.size ≤ 4000000
  | _ => True
def okL : List VT → Prop
  | [] => True
  | v :: l => okV v ∧ okL l
def okM : List (ByteArray × VT) → Prop
  | [] => True
  | (k, v) :: l => k.size ≤ 4000000 ∧ okV v ∧ okM l
end

theorem vtM_map : ∀ (es : List (ByteArray × VT)), vtM es = es.map fun e => (e.1, .agg [.ifc (vtO e.2)])
  | [] => rfl
  | (k, v) :: l => by simp [vtM, vtM_map l]

theorem okM_key : ∀ {es : List (ByteArray × VT)}, okM es → ∀ e ∈ vtM es, e.1.size ≤ 4000000
  | [], _, e, he => by cases he
  | (k, v) :: l, h, e, he => by
    simp only [okM] at h
    simp only [vtM, List.mem_cons] at he
    rcases he with rfl | he
    · exact h.1
    · exact okM_key h.2.2 e he

def vkeys : VT → List ByteArray
  | .map es => skeys es
  | _ => []

theorem skeys_vtM (es : List (ByteArray × VT)) : skeys (vtM es) = skeys es := by
  unfold skeys
  rw [vtM_map, List.map_map]; rfl

theorem keys_v (v : VT) (hv : okV v) : APure Tryz.prog 58 [vtA v] (fun r => r = .sl (nmA (vkeys v))) := by
  cases v
  case map es =>
    simp only [okV] at hv
    refine apure_of hTS Tryz.func58 (by kernel_rfl) rfl rfl rfl ?_
    refine call_obj (keysM_i (some (vtM es))) [] rfl rfl rfl ?_
    rintro _ _ ⟨rfl, rfl⟩
    refine call_obj (sorted_i (vtM es) (okM_key hv.2.2) (by rw [vtM_map]; simpa using hv.1)) [1] rfl rfl rfl ?_
    rintro _ _ ⟨rfl, rfl⟩
    show AV.sl _ = _
    rw [skeys_vtM]; rfl
  all_goals
    refine apure_of hTS Tryz.func58 (by kernel_rfl) rfl rfl rfl ?_
    refine call_obj (keysM_i none) [] rfl rfl rfl ?_
    rintro _ _ ⟨rfl, rfl⟩
    refine call_obj sorted_n [1] rfl rfl rfl ?_
    rintro _ _ ⟨rfl, rfl⟩
    show AV.sl _ = _
    rfl

end Go.AV0
/- values: items. -/
namespace Go.AV0
open Go.Proofs

theorem skeys_perm {α : Type} (es : List (ByteArray × α)) : (skeys es).Perm (es.map (·.1)) := List.mergeSort_perm _ _

theorem skeys_mem {es : List (ByteArray × VT)} {k : ByteArray} (h : k ∈ skeys es) : ∃ x, vget es k = some x := by
  have h := (skeys_perm es).mem_iff.1 h
  cases hg : vget es k with
  | some x => exact ⟨x, rfl⟩
  | none => exact absurd h (vget_none.1 hg)

def vitems : VT → List VT
  | .list l => l
  | .map es => (skeys es).map fun k => optV (vget es k)
  | _ => []

theorem take_succ {α : Type} {l : List α} {i : Nat} {x : α} (h : l[i]? = some x) : l.take (i + 1) = l.take i ++ [x] := by
  rw [List.take_add_one, h]; rfl

set_option maxRecDepth 20000 in
theorem items_v (v : VT) (hv : okV v) : APure Tryz.prog 54 [vtA v] (fun r => r = .sl (vtL (vitems v))) := by
  have hv0 := hv
  cases v
  case list l =>
    simp only [okV] at hv
    refine apure_of hTS Tryz.func54 (by kernel_rfl) rfl rfl rfl ?_
    repeat' (first | refine bsplit_t (by first | with_reducible assumption | with_reducible rfl | with_reducible exact Bool.not_true | with_reducible exact Bool.not_false) ?_ | refine bsplit_f (by first | with_reducible assumption | with_reducible rfl | with_reducible exact Bool.not_true | with_reducible exact Bool.not_false) ?_ | fail)
    refine call_pure (clonel_v l hv.1) rfl ?_
    rintro _ rfl
    show AV.sl _ = _
    rfl
  case map es =>
    have hlen : (skeys es).length ≤ 4000000 := by
      simp only [okV] at hv
      rw [(skeys_perm es).length_eq]; simpa using hv.1
    refine apure_of hTS Tryz.func54 (by kernel_rfl) rfl rfl rfl ?_
    repeat' (first | refine bsplit_t (by first | with_reducible assumption | with_reducible rfl | with_reducible exact Bool.not_true | with_reducible exact Bool.not_false) ?_ | refine bsplit_f (by first | with_reducible assumption | with_reducible rfl | with_reducible exact Bool.not_true | with_reducible exact Bool.not_false) ?_ | fail)
    refine call_pure (keys_v (.map es) hv0) rfl ?_
    rintro _ rfl
    refine loop_own_t 5 46 1 rfl ?_
    refine loop_on hTS (X := Nat) (fun i => i ≤ (skeys es).length)
      (fun i => ⟨[(5, .ms 1), (6, .v (.map (some (vtM es)))), (26, .v (.sl (nmA (skeys es)))), (27, .v (.c (.int .i64 ((nmA (skeys es)).length : Int)))), (28, .v (.c (.int .i64 (i : Int))))], []⟩)
      (fun i => [.cells [.v (.ifc (vtO (.map es)))], .arr 46 1 (vtL (((skeys es).take i).map fun k => optV (vget es k)))]) (fun i => (skeys es).length - i) 0 (Nat.zero_le _) ⟨rfl, rfl, (by (repeat' (first | exact trivial | refine ⟨⟨?_, rfl⟩, ?_⟩ | fail)); all_goals (first | (show some (SV.v (AV.c (Value.int .i64 (IntKind.i64.wrap _)))) = _; rw [inc (by omega)]; try rfl) | rfl)), ⟨_, rfl⟩, rfl⟩ ?_
    intro i hi
    refine bsplit_d (fun h1 _ => ?_) (fun h1 _ => ?_)
    · rw [nmA_len] at h1
      obtain ⟨k, hk⟩ : ∃ k, (skeys es)[i]? = some k := ⟨_, List.getElem?_eq_getElem (by omega)⟩
      obtain ⟨x, hx⟩ := skeys_mem (List.mem_of_getElem? hk)
      have hm := mget_vtM es k
      rw [hx] at hm
      refine elev (Int.natCast_nonneg _) [AV.c (.string k)] (nmA_get _ _ _ hk) ?_
      refine optev_s (vtA x) hm ?_
      refine side ⟨vtL_one [x], ?_⟩ ?_
      · rw [vtL_len]; simp only [List.length_map, List.length_take]; show (min i (skeys es).length + 1) * 17 ≤ 70368744177664; omega
      refine ⟨i + 1, by omega, (by dsimp only; omega), ⟨rfl, rfl, ⟨⟨rfl, rfl⟩, ⟨rfl, rfl⟩, ⟨rfl, rfl⟩, ⟨rfl, rfl⟩, ⟨congrArg (fun x => some (SV.v (AV.c (.int .i64 x)))) (inc (k := i) (by omega)), rfl⟩, trivial⟩, ⟨_, by
        show (_ : List SO) = [.cells [.v (.ifc (vtO (.map es)))], .arr 46 1 (vtL (((skeys es).take (i + 1)).map fun k => optV (vget es k)))] ++ _
        rw [take_succ hk, List.map_append, List.map_singleton, hx, vtL_app]; rfl⟩, rfl⟩⟩
    · rw [nmA_len] at h1
      have hil : i = (skeys es).length := by omega
      subst hil
      show AV.sl (vtL (((skeys es).take (skeys es).length).map fun k => optV (vget es k))) = _
      rw [List.take_length]; rfl
  all_goals
    refine apure_of hTS Tryz.func54 (by kernel_rfl) rfl rfl rfl ?_
    repeat' (first | refine bsplit_t (by first | with_reducible assumption | with_reducible rfl | with_reducible exact Bool.not_true | with_reducible exact Bool.not_false) ?_ | refine bsplit_f (by first | with_reducible assumption | with_reducible rfl | with_reducible exact Bool.not_true | with_reducible exact Bool.not_false) ?_ | fail)
    refine call_pure (keys_v _ hv0) rfl ?_
    rintro _ rfl
    refine loop_on hTS (X := Nat) (fun i => i = 0)
      (fun i => ⟨[(5, .v (.c (.slice none 0 0))), (6, .v (.map none)), (26, .v (.sl [])), (27, .v (.c (.int .i64 0))), (28, .v (.c (.int .i64 (i : Int))))], []⟩)
      (fun i => []) (fun i => 0) 0 rfl ⟨rfl, rfl, ⟨⟨rfl, rfl⟩, ⟨rfl, rfl⟩, ⟨rfl, rfl⟩, ⟨rfl, rfl⟩, ⟨rfl, rfl⟩, trivial⟩, ⟨_, rfl⟩, rfl⟩ ?_
    rintro i rfl
    refine bsplit_f (by decide) ?_
    show nrm (AV.c _) = _
    rfl

end Go.AV0
/- kind: a reader's place. -/
namespace Go.AV0
open Go.Proofs

/-- a reader: where it stands, what is wrong, how deep it is -/
def rd (s : ByteArray) (at' : Nat) (e : Int) (deep : Nat) : SO := .cells [.v (.c (.string s)), .v (.c (.int .i64 (at' : Int))), .v (.c (.int .i64 e)), .v (.c (.int .i64 (deep : Int)))]

theorem bad_c (s : ByteArray) (at' : Nat) (e : Int) (deep : Nat) : AImp Tryz.prog 27 [.ref 0 0] [rd s at' e deep] [] (fun r h => (e = 0 ∧ r = .v (.c (.bool false)) ∨ e ≠ 0 ∧ r = .v (.c (.bool true))) ∧ h = [rd s at' e deep]) := by
  refine aimp_of hTS Tryz.func27 (by kernel_rfl) rfl rfl rfl (fun p => ?_)
  refine ⟨⟨rfl, trivial⟩, 1, rfl, ?_, rfl⟩
  show e = 0 ∧ SV.v (AV.c _) = _ ∨ e ≠ 0 ∧ SV.v (AV.c _) = _
  by_cases h : e = 0 <;> simp [h]

theorem fail_c (s : ByteArray) (at' : Nat) (e : Int) (deep a2 : Nat) (e2 : Int) : AImp Tryz.prog 28 [.ref 0 0, .v (.c (.int .i64 (a2 : Int))), .v (.c (.int .i64 e2))] [rd s at' e deep] []
    (fun r h => r = .v (.tup []) ∧ ((e = 0 ∧ h = [rd s a2 e2 deep]) ∨ (e ≠ 0 ∧ h = [rd s at' e deep]))) := by
  refine aimp_of hTS Tryz.func28 (by kernel_rfl) rfl rfl rfl (fun p => ?_)
  refine bsplit (fun h1 => ?_) (fun h1 => ?_)
  · exact ⟨⟨rfl, trivial⟩, 1, rfl, rfl, .inl ⟨by simpa using h1, rfl⟩⟩
  · exact ⟨⟨rfl, trivial⟩, 1, rfl, rfl, .inr ⟨by simpa using h1, rfl⟩⟩

/-- this byte stands there -/
def stands (s : ByteArray) (n : Nat) (c : Int) : Bool :=
  match s.data.toList[n]? with
  | some u => decide ((u.toNat : Int) = c)
  | none => false

theorem stands_lt {s n c} (h : stands s n c = true) : n < s.size := by
  unfold stands at h
  split at h
  · rename_i u hu
    have := get_lt hu
    simpa using this
  · cases h

theorem is_c (s : ByteArray) (at' : Nat) (e : Int) (deep : Nat) (c : Int) (h0 : s.size ≤ 4096) : AImp Tryz.prog 44 [.ref 0 0, .v (.c (.int .u8 c))] [rd s at' e deep] []
    (fun r h => (e = 0 ∧ stands s at' c = true ∧ r = .v (.c (.bool true)) ∧ h = [rd s (at' + 1) e deep]) ∨ ((e = 0 → stands s at' c = false) ∧ r = .v (.c (.bool false)) ∧ h = [rd s at' e deep])) := by
  have hsz : s.data.toList.length = s.size := by simp
  refine aimp_of hTS Tryz.func44 (by kernel_rfl) rfl rfl rfl (fun p => ?_)
  refine draw_ev hTS (by kernel_rfl) (.pur 0 (.one 1 (.pur 2 (.pur 3 (.pur 4 (.pur 5 (.pur 7 (.pur 8 (.pur 9 (.part [] [] (.take 6 (.one 10 (.one 11 (.pur 12 (.pur 13 (.pur 14 (.pur 15 (.pur 16 (.pur 17 (.pur 19 (.pur 20 (.pur 21 (.pur 24 (.take 18 (.one 22 (.pur 23 (.pur 25 (.pur 26 .done)))))))))))))))))))))))))))) (by kernel_rfl) ?_
  refine call_obj (bad_c s at' e deep) [0] rfl rfl rfl ?_
  rintro _ _ ⟨⟨h1, rfl⟩ | ⟨h1, rfl⟩, rfl⟩
  · repeat' (first | refine bsplit_t (by first | with_reducible assumption | with_reducible rfl | with_reducible exact Bool.not_true | with_reducible exact Bool.not_false) ?_ | refine bsplit_f (by first | with_reducible assumption | with_reducible rfl | with_reducible exact Bool.not_true | with_reducible exact Bool.not_false) ?_ | fail)
    refine bsplit (fun h3 => ?_) (fun h3 => ?_)
    · repeat' (first | refine bsplit_t (by first | with_reducible assumption | with_reducible rfl | with_reducible exact Bool.not_true | with_reducible exact Bool.not_false) ?_ | refine bsplit_f (by first | with_reducible assumption | with_reducible rfl | with_reducible exact Bool.not_true | with_reducible exact Bool.not_false) ?_ | fail)
      have : s.data.toList[at']? = none := List.getElem?_eq_none (by simp at h3 hsz ⊢; omega)
      exact ⟨⟨rfl, trivial⟩, 1, rfl, .inr ⟨fun _ => by simp [stands, this], rfl, rfl⟩⟩
    · repeat' (first | refine bsplit_t (by first | with_reducible assumption | with_reducible rfl | with_reducible exact Bool.not_true | with_reducible exact Bool.not_false) ?_ | refine bsplit_f (by first | with_reducible assumption | with_reducible rfl | with_reducible exact Bool.not_true | with_reducible exact Bool.not_false) ?_ | fail)
      have hlt : at' < s.data.toList.length := by simp at h3 hsz ⊢; omega
      refine elev (Int.natCast_nonneg _) s.data.toList[at'] (by simp) ?_
      repeat' (first | refine bsplit_t (by first | with_reducible assumption | with_reducible rfl | with_reducible exact Bool.not_true | with_reducible exact Bool.not_false) ?_ | refine bsplit_f (by first | with_reducible assumption | with_reducible rfl | with_reducible exact Bool.not_true | with_reducible exact Bool.not_false) ?_ | fail)
      refine bsplit (fun h4 => ?_) (fun h4 => ?_)
      · refine ⟨⟨rfl, trivial⟩, 1, rfl, .inr ⟨fun _ => ?_, rfl, rfl⟩⟩
        simp at h4
        simp [stands, List.getElem?_eq_getElem hlt]
        exact h4
      · refine ⟨⟨rfl, trivial⟩, 1, rfl, .inl ⟨h1, ?_, rfl, ?_⟩⟩
        · simp at h4
          simp [stands, List.getElem?_eq_getElem hlt, h4]
        · show [SO.cells _] = [SO.cells _]
          have : IntKind.i64.wrap ((at' : Int) + 1) = ((at' + 1 : Nat) : Int) := by rw [wr] <;> omega
          simp only [this]
  · repeat' (first | refine bsplit_t (by first | with_reducible assumption | with_reducible rfl | with_reducible exact Bool.not_true | with_reducible exact Bool.not_false) ?_ | refine bsplit_f (by first | with_reducible assumption | with_reducible rfl | with_reducible exact Bool.not_true | with_reducible exact Bool.not_false) ?_ | fail)
    exact ⟨⟨rfl, trivial⟩, 1, rfl, .inr ⟨fun h => absurd h h1, rfl, rfl⟩⟩

theorem must_c (s : ByteArray) (at' : Nat) (e : Int) (deep : Nat) (c : Int) (h0 : s.size ≤ 4096) : AImp Tryz.prog 64 [.ref 0 0, .v (.c (.int .u8 c))] [rd s at' e deep] []
    (fun r h => r = .v (.tup []) ∧ ((e = 0 ∧ stands s at' c = true ∧ h = [rd s (at' + 1) 0 deep]) ∨ (e = 0 ∧ stands s at' c = false ∧ h = [rd s at' 4 deep]) ∨ (e ≠ 0 ∧ h = [rd s at' e deep]))) := by
  refine aimp_of hTS Tryz.func64 (by kernel_rfl) rfl rfl rfl (fun p => ?_)
  refine call_obj (bad_c s at' e deep) [0] rfl rfl rfl ?_
  rintro _ _ ⟨⟨h1, rfl⟩ | ⟨h1, rfl⟩, rfl⟩
  · repeat' (first | refine bsplit_t (by first | with_reducible assumption | with_reducible rfl | with_reducible exact Bool.not_true | with_reducible exact Bool.not_false) ?_ | refine bsplit_f (by first | with_reducible assumption | with_reducible rfl | with_reducible exact Bool.not_true | with_reducible exact Bool.not_false) ?_ | fail)
    refine call_obj (is_c s at' e deep c h0) [0] rfl rfl rfl ?_
    rintro _ _ (⟨_, h2, rfl, rfl⟩ | ⟨h2, rfl, rfl⟩)
    · repeat' (first | refine bsplit_t (by first | with_reducible assumption | with_reducible rfl | with_reducible exact Bool.not_true | with_reducible exact Bool.not_false) ?_ | refine bsplit_f (by first | with_reducible assumption | with_reducible rfl | with_reducible exact Bool.not_true | with_reducible exact Bool.not_false) ?_ | fail)
      refine ⟨⟨rfl, trivial⟩, 1, rfl, rfl, .inl ⟨h1, h2, ?_⟩⟩
      subst h1; rfl
    · repeat' (first | refine bsplit_t (by first | with_reducible assumption | with_reducible rfl | with_reducible exact Bool.not_true | with_reducible exact Bool.not_false) ?_ | refine bsplit_f (by first | with_reducible assumption | with_reducible rfl | with_reducible exact Bool.not_true | with_reducible exact Bool.not_false) ?_ | fail)
      refine call_obj (fail_c s at' e deep at' 4) [0] rfl rfl rfl ?_
      rintro _ _ ⟨rfl, ⟨_, rfl⟩ | ⟨h3, rfl⟩⟩
      · exact ⟨⟨rfl, trivial⟩, 1, rfl, rfl, .inr (.inl ⟨h1, h2 h1, rfl⟩)⟩
      · exact absurd h1 h3
  · repeat' (first | refine bsplit_t (by first | with_reducible assumption | with_reducible rfl | with_reducible exact Bool.not_true | with_reducible exact Bool.not_false) ?_ | refine bsplit_f (by first | with_reducible assumption | with_reducible rfl | with_reducible exact Bool.not_true | with_reducible exact Bool.not_false) ?_ | fail)
    exact ⟨⟨rfl, trivial⟩, 1, rfl, rfl, .inr (.inr ⟨h1, rfl⟩)⟩

end Go.AV0
/- kind: names, words. -/
namespace Go.AV0
open Go.Proofs

def letB (u : UInt8) : Bool := decide (97 ≤ u.toNat) && decide (u.toNat ≤ 122)
def digB (u : UInt8) : Bool := decide (48 ≤ u.toNat) && decide (u.toNat ≤ 57)

theorem lettered_c (u : UInt8) : APure Tryz.prog 84 [.c (.int .u8 (u.toNat : Int))] (fun v => v = .c (.bool (letB u || digB u))) := by
  refine apure_of hTS Tryz.func84 (by kernel_rfl) rfl rfl rfl ?_
  repeat' (first | refine bsplit_t (by first | rfl | assumption) ?_ | refine bsplit_f (by first | rfl | assumption) ?_ | refine bsplit (fun _ => ?_) (fun _ => ?_))
  all_goals
    show AV.c (.bool _) = _
    congr 2
    rw [Bool.eq_iff_iff]
    simp [letB, digB] at *
    omega

/-- a name's byte -/
def nameCh (i : Nat) (u : UInt8) : Bool := letB u || (decide (0 < i) && digB u)

theorem named_c (s : ByteArray) (hs : s.size ≤ 4096) : APure Tryz.prog 83 [.c (.string s)] (fun v => ∃ b, v = .c (.bool b) ∧ (b = true ↔ (∀ i u, s.data.toList[i]? = some u → nameCh i u = true) ∧ s.size ≠ 0 ∧ s.size ≤ 20)) := by
  have hsz : s.data.toList.length = s.size := by simp
  refine apure_of hTS Tryz.func83 (by kernel_rfl) rfl rfl rfl ?_
  refine loop_inv hTS (X := { k : Nat // k ≤ s.size ∧ ∀ i u, i < k → s.data.toList[i]? = some u → nameCh i u = true }) (fun x => ⟨[(0, .v (.c (.string s))), (6, .v (.c (.int .i64 (s.size : Int)))), (7, .v (.c (.int .i64 (x.1 : Int))))], []⟩) (fun _ => []) (fun x => s.size - x.1) ⟨0, Nat.zero_le _, fun i u h => absurd h (Nat.not_lt_zero _)⟩
    ⟨rfl, rfl, ⟨⟨rfl, rfl⟩, ⟨rfl, rfl⟩, ⟨rfl, rfl⟩, trivial⟩, ⟨[], rfl⟩, rfl⟩ ?_
  rintro ⟨k, hk, hall⟩
  refine bsplit (fun h1 => ?_) (fun h1 => ?_)
  · have h1' : k < s.data.toList.length := by simp at h1 hsz ⊢; omega
    refine elev (Int.natCast_nonneg _) s.data.toList[k] (by simp) ?_
    refine bsplit (fun h2 => ?_) (fun h2 => ?_) <;> repeat' (first | refine bsplit_t (by first | rfl | assumption) ?_ | refine bsplit_f (by first | rfl | assumption) ?_ | refine bsplit (fun _ => ?_) (fun _ => ?_))
    all_goals first
      | (refine ⟨false, rfl, ?_⟩
         refine ⟨fun h => (by cases h), fun h => ?_⟩
         have h9 := h.1 k s.data.toList[k] (by simp)
         simp [nameCh, letB, digB] at h9
         simp at *
         omega)
      | (refine ⟨⟨k + 1, by simp at h1; omega, ?_⟩, by show s.size - (k + 1) < s.size - k; simp at h1; omega, ⟨rfl, rfl, ⟨⟨rfl, rfl⟩, ⟨rfl, rfl⟩, ⟨?_, rfl⟩, trivial⟩, ⟨[], rfl⟩, rfl⟩⟩
         · intro i u hi hu
           rcases Nat.lt_or_ge i k with h9 | h9
           · exact hall i u h9 hu
           · have : i = k := by omega
             subst this
             rw [List.getElem?_eq_getElem h1'] at hu
             cases hu
             simp [nameCh, letB, digB]
             simp at *
             omega
         · show some (SV.v (AV.c (.int .i64 (IntKind.i64.wrap ((k : Int) + 1))))) = _
           rw [inc (by omega)])
  · repeat' (first | refine bsplit_t (by first | with_reducible assumption | with_reducible rfl | with_reducible exact Bool.not_true | with_reducible exact Bool.not_false) ?_ | refine bsplit_f (by first | with_reducible assumption | with_reducible rfl | with_reducible exact Bool.not_true | with_reducible exact Bool.not_false) ?_ | fail)
    have hk2 : s.size = k := by simp at h1; omega
    repeat' (first | refine bsplit_t (by first | rfl | assumption) ?_ | refine bsplit_f (by first | rfl | assumption) ?_ | refine bsplit (fun _ => ?_) (fun _ => ?_))
    · rename_i h2
      refine ⟨_, rfl, ?_⟩
      have h3 : s.size ≠ 0 := by
        intro h
        simp at h2
        apply h2
        cases s; rename_i d
        have : d.size = 0 := h
        simp at this
        rw [this]
      have hall2 : ∀ i u, s.data.toList[i]? = some u → nameCh i u = true := fun i u hu => hall i u (by have := get_lt hu; omega) hu
      constructor
      · intro h; exact ⟨hall2, h3, by simp at h; omega⟩
      · intro h; simp; omega
    · rename_i h2
      refine ⟨_, rfl, ?_⟩
      simp at h2
      constructor
      · intro h; cases h
      · intro h; exact absurd (by rw [h2]; rfl) h.2.1

theorem hasPrefix_c (s p : ByteArray) : APure Tryz.prog 76 [.c (.string s), .c (.string p)] (fun v => v = .c (.bool (decide (p.size ≤ s.size) && decide (s.extract 0 p.size = p)))) := by
  refine apure_of hTS Tryz.func76 (by kernel_rfl) rfl rfl rfl ?_
  refine bsplit (fun h1 => ?_) (fun h1 => ?_)
  · repeat' (first | refine bsplit_t (by first | with_reducible assumption | with_reducible rfl | with_reducible exact Bool.not_true | with_reducible exact Bool.not_false) ?_ | refine bsplit_f (by first | with_reducible assumption | with_reducible rfl | with_reducible exact Bool.not_true | with_reducible exact Bool.not_false) ?_ | fail)
    refine side ⟨by omega, by omega, by simp at h1; omega⟩ ?_
    repeat' (first | refine bsplit_t (by first | with_reducible assumption | with_reducible rfl | with_reducible exact Bool.not_true | with_reducible exact Bool.not_false) ?_ | refine bsplit_f (by first | with_reducible assumption | with_reducible rfl | with_reducible exact Bool.not_true | with_reducible exact Bool.not_false) ?_ | fail)
    show AV.c (.bool _) = _
    simp at h1
    simp [h1]
  · repeat' (first | refine bsplit_t (by first | with_reducible assumption | with_reducible rfl | with_reducible exact Bool.not_true | with_reducible exact Bool.not_false) ?_ | refine bsplit_f (by first | with_reducible assumption | with_reducible rfl | with_reducible exact Bool.not_true | with_reducible exact Bool.not_false) ?_ | fail)
    show AV.c (.bool _) = _
    simp at h1
    simp; omega

theorem stringsHasPrefix_c (s p : ByteArray) : APure Tryz.prog 66 [.c (.string s), .c (.string p)] (fun v => v = .c (.bool (decide (p.size ≤ s.size) && decide (s.extract 0 p.size = p)))) := by
  refine apure_of hTS Tryz.func66 (by kernel_rfl) rfl rfl rfl ?_
  refine call_pure (hasPrefix_c s p) rfl ?_
  rintro _ rfl
  rfl

def wAny : ByteArray := ⟨#[97, 110, 121]⟩
def wBool : ByteArray := ⟨#[98, 111, 111, 108]⟩
def wInt : ByteArray := ⟨#[105, 110, 116]⟩
def wPoint : ByteArray := ⟨#[112, 111, 105, 110, 116]⟩
def wText : ByteArray := ⟨#[116, 101, 120, 116]⟩
def wList : ByteArray := ⟨#[108, 105, 115, 116]⟩
def wMap : ByteArray := ⟨#[109, 97, 112]⟩

theorem words_c : APure Tryz.prog 40 [] (fun v => v = .agg [.c (.string wAny), .c (.string wBool), .c (.string wInt), .c (.string wPoint), .c (.string wText)]) := by
  refine apure_of hTS Tryz.func40 (by kernel_rfl) rfl rfl rfl ?_
  show AV.agg _ = _
  rfl

end Go.AV0
/- kind: a reader's names. -/
namespace Go.AV0
open Go.Proofs

/-- the bytes from i on that a name has -/
def NameEnd (s : ByteArray) (i k : Nat) : Prop := (∀ j, j < k → ∃ u, s.data.toList[i + j]? = some u ∧ nameCh j u = true) ∧ (∀ u, s.data.toList[i + k]? = some u → nameCh k u = false)

def nameGo (s : ByteArray) (i : Nat) : Nat → Nat → Nat
  | 0, k => k
  | f + 1, k => match s.data.toList[i + k]? with
    | some u => bif nameCh k u then nameGo s i f (k + 1) else k
    | none => k

def nameLen (s : ByteArray) (i : Nat) : Nat := nameGo s i (s.size - i) 0

theorem nameGo_end (s : ByteArray) (i : Nat) : ∀ (f k : Nat), s.size ≤ i + k + f → (∀ j, j < k → ∃ u, s.data.toList[i + j]? = some u ∧ nameCh j u = true) → NameEnd s i (nameGo s i f k)
  | 0, k, hf, hk => by
    show NameEnd s i k
    refine ⟨hk, fun u hu => ?_⟩
    have := get_lt hu
    simp at this
    omega
  | f + 1, k, hf, hk => by
    unfold nameGo
    split
    · rename_i u hu
      cases hc : nameCh k u with
      | true =>
        simp only [cond_true]
        refine nameGo_end s i f (k + 1) (by omega) ?_
        intro j hj
        rcases Nat.lt_or_ge j k with h | h
        · exact hk j h
        · have : j = k := by omega
          subst this
          exact ⟨u, hu, hc⟩
      | false =>
        simp only [cond_false]
        exact ⟨hk, fun v hv => by rw [hu] at hv; cases hv; exact hc⟩
    · rename_i hu
      exact ⟨hk, fun v hv => by rw [hu] at hv; cases hv⟩

theorem nameLen_end (s : ByteArray) (i : Nat) : NameEnd s i (nameLen s i) := nameGo_end s i _ 0 (by omega) (fun j h => absurd h (Nat.not_lt_zero _))

theorem NameEnd.unique {s i k k'} (h : NameEnd s i k) (h' : NameEnd s i k') : k = k' := by
  rcases Nat.lt_trichotomy k k' with hl | he | hl
  · obtain ⟨u, h1, h2⟩ := h'.1 k hl
    rw [h.2 u h1] at h2; cases h2
  · exact he
  · obtain ⟨u, h1, h2⟩ := h.1 k' hl
    rw [h'.2 u h1] at h2; cases h2

theorem extract_one {s : ByteArray} {i : Nat} {u : UInt8} (h : s.data.toList[i]? = some u) : (s.extract i (i + 1)).data.toList = [u] := by
  have hl := get_lt h
  simp at hl
  rw [ByteArray.data_extract, Array.toList_extract, List.extract_eq_take_drop]
  have : i + 1 - i = 1 := by omega
  rw [this]
  rw [List.getElem?_eq_getElem (by simpa using hl)] at h
  rw [List.take_one, List.head?_drop, List.getElem?_eq_getElem (by simpa using hl)]
  cases h; rfl

theorem name_c (s : ByteArray) (n deep : Nat) (hs : s.size ≤ 4096) (hn : n ≤ s.size) : AImp Tryz.prog 75 [.ref 0 0] [rd s n 0 deep] []
    (fun r h => ((nameLen s n = 0 ∨ 20 < nameLen s n) ∧ ∃ x n' e', e' ≠ 0 ∧ r = .v (.c (.string x)) ∧ h = [rd s n' e' deep]) ∨
      (0 < nameLen s n ∧ nameLen s n ≤ 20 ∧ n + nameLen s n ≤ s.size ∧ r = .v (.c (.string (s.extract n (n + nameLen s n)))) ∧ h = [rd s (n + nameLen s n) 0 deep])) := by
  have hsz : s.data.toList.length = s.size := by simp
  refine aimp_of hTS Tryz.func75 (by kernel_rfl) rfl rfl rfl (fun p => ?_)
  refine loop_inv hTS (X := { k : Nat // n + k ≤ s.size ∧ ∀ j, j < k → ∃ u, s.data.toList[n + j]? = some u ∧ nameCh j u = true }) (fun x => ⟨[(0, .ref 0 0), (3, .v (.c (.int .i64 (n : Int))))], []⟩) (fun x => [rd s (n + x.1) 0 deep, .pin 0 (p 0)]) (fun x => s.size - x.1) ⟨0, by omega, fun i h => absurd h (Nat.not_lt_zero _)⟩
    ⟨rfl, rfl, ⟨⟨rfl, rfl⟩, ⟨rfl, rfl⟩, trivial⟩, ⟨[], rfl⟩, rfl⟩ ?_
  rintro ⟨k, hk, hall⟩
  refine draw_ev hTS (by kernel_rfl) (.pur 0 (.pur 1 (.pur 2 (.pur 3 (.pur 5 (.pur 6 (.pur 7 (.pur 8 (.part [] [] (.take 4 (.one 9 (.one 10 (.pur 11 (.pur 12 (.pur 13 (.pur 14 (.pur 15 (.pur 16 (.pur 18 (.pur 19 (.pur 20 (.one 17 (.pur 21 (.one 22 (.pur 23 (.pur 24 (.pur 25 (.pur 26 (.pur 27 (.pur 28 (.pur 30 (.pur 31 (.pur 32 (.pur 33 (.take 29 (.one 34 (.pur 35 (.one 36 (.pur 37 .done))))))))))))))))))))))))))))))))))))))) (by kernel_rfl) ?_
  have hend : ∀ {k' : Nat}, NameEnd s n k' → nameLen s n = k' := fun h => (nameLen_end s n).unique h
  refine bsplit (fun h1 => ?_) (fun h1 => ?_)
  case' refine_1 =>
    have h1' : n + k < s.size := by simp at h1; omega
    repeat' (first | refine bsplit_t (by first | with_reducible assumption | with_reducible rfl | with_reducible exact Bool.not_true | with_reducible exact Bool.not_false) ?_ | refine bsplit_f (by first | with_reducible assumption | with_reducible rfl | with_reducible exact Bool.not_true | with_reducible exact Bool.not_false) ?_ | fail)
    refine side ⟨by omega, by rw [inc (by omega)]; omega, by rw [inc (by omega)]; omega⟩ ?_
    repeat' (first | refine bsplit_t (by first | with_reducible assumption | with_reducible rfl | with_reducible exact Bool.not_true | with_reducible exact Bool.not_false) ?_ | refine bsplit_f (by first | with_reducible assumption | with_reducible rfl | with_reducible exact Bool.not_true | with_reducible exact Bool.not_false) ?_ | fail)
    refine call_pure (named_c _ (by simp; omega)) rfl ?_
    rintro _ ⟨b, rfl, hb⟩
    rw [show ((n : Int)).toNat = n by omega, show (IntKind.i64.wrap ((n : Int) + 1)).toNat = n + 1 by rw [inc (by omega)]; omega] at hb
    have hlt : n < s.data.toList.length := by omega
    obtain ⟨u0, hu0⟩ : ∃ u, s.data.toList[n]? = some u := ⟨_, List.getElem?_eq_getElem hlt⟩
    have hb' : b = true ↔ letB u0 = true := by
      have e1 : (s.extract n (n + 1)).data.toList = [u0] := extract_one hu0
      have e2 : (s.extract n (n + 1)).size = 1 := by rw [ByteArray.size_extract]; omega
      rw [hb, e1, e2]
      constructor
      · intro h
        have := h.1 0 _ rfl
        simpa [nameCh] using this
      · intro h
        refine ⟨fun i u hu => ?_, by omega, by omega⟩
        cases i with
        | zero => cases hu; simp [nameCh, h]
        | succ i => simp at hu
    clear hb
    obtain ⟨u1, hu1⟩ : ∃ u, s.data.toList[n + k]? = some u := ⟨_, List.getElem?_eq_getElem (by omega)⟩
    cases b
    case' false =>
      have hE : NameEnd s n k := by
        have hl : ¬ letB u0 = true := fun h => by have := hb'.2 h; cases this
        refine ⟨hall, fun u hu => ?_⟩
        cases k with
        | zero =>
          rw [Nat.add_zero, hu0] at hu; cases hu
          simp [nameCh]; simpa using hl
        | succ k =>
          obtain ⟨u, h2, h3⟩ := hall 0 (by omega)
          rw [Nat.add_zero, hu0] at h2; cases h2
          simp [nameCh] at h3
          exact absurd h3 hl
      have hE := hend hE
      repeat' (first | refine bsplit_t (by first | with_reducible assumption | with_reducible rfl | with_reducible exact Bool.not_true | with_reducible exact Bool.not_false) ?_ | refine bsplit_f (by first | with_reducible assumption | with_reducible rfl | with_reducible exact Bool.not_true | with_reducible exact Bool.not_false) ?_ | fail)
    case' true =>
      have hl := hb'.1 rfl
      repeat' (first | refine bsplit_t (by first | with_reducible assumption | with_reducible rfl | with_reducible exact Bool.not_true | with_reducible exact Bool.not_false) ?_ | refine bsplit_f (by first | with_reducible assumption | with_reducible rfl | with_reducible exact Bool.not_true | with_reducible exact Bool.not_false) ?_ | fail)
      refine elev (by omega) u1 (by rw [show ((n + k : Nat) : Int).toNat = n + k by omega]; exact hu1) ?_
      repeat' (first | refine bsplit_t (by first | with_reducible assumption | with_reducible rfl | with_reducible exact Bool.not_true | with_reducible exact Bool.not_false) ?_ | refine bsplit_f (by first | with_reducible assumption | with_reducible rfl | with_reducible exact Bool.not_true | with_reducible exact Bool.not_false) ?_ | fail)
      refine call_pure (lettered_c u1) rfl ?_
      rintro _ rfl
      refine bsplit_t rfl ?_
      refine bsplit (fun h2 => ?_) (fun h2 => ?_)
      · refine ⟨⟨k + 1, by omega, ?_⟩, by show s.size - (k + 1) < s.size - k; omega, ⟨rfl, rfl, ⟨⟨rfl, rfl⟩, ⟨rfl, rfl⟩, trivial⟩, ⟨[], ?_⟩, rfl⟩⟩
        · intro j hj
          rcases Nat.lt_or_ge j k with h9 | h9
          · exact hall j h9
          · have : j = k := by omega
            subst this
            refine ⟨u1, hu1, ?_⟩
            cases j with
            | zero => rw [Nat.add_zero, hu0] at hu1; cases hu1; simp [nameCh, hl]
            | succ j => simpa [nameCh] using h2
        · show [SO.cells [_, .v (.c (.int .i64 (IntKind.i64.wrap (((n + k : Nat) : Int) + 1)))), _, _], _] = [SO.cells [_, .v (.c (.int .i64 ((n + (k + 1) : Nat) : Int))), _, _], _]
          rw [inc (by omega)]; rfl
      have hE := hend (k' := k) ⟨hall, fun u hu => by
        rw [hu1] at hu; cases hu
        simp at h2
        simp [nameCh, h2]⟩
  case' refine_2 =>
    have hE := hend (k' := k) ⟨hall, fun u hu => by
      have := get_lt hu
      simp at h1
      omega⟩
    repeat' (first | refine bsplit_t (by first | with_reducible assumption | with_reducible rfl | with_reducible exact Bool.not_true | with_reducible exact Bool.not_false) ?_ | refine bsplit_f (by first | with_reducible assumption | with_reducible rfl | with_reducible exact Bool.not_true | with_reducible exact Bool.not_false) ?_ | fail)
  all_goals
    clear hend
    refine bsplit (fun h2 => ?_) (fun h2 => ?_)
    · have hk0 : k = 0 := by simp at h2; omega
      refine draw_ev hTS (by kernel_rfl) (.pur 0 (.pur 1 (.pur 2 (.pur 3 (.pur 4 (.pur 5 (.pur 6 (.one 7 (.one 8 .done))))))))) (by kernel_rfl) ?_
      refine call_obj (fail_c s (n + k) 0 deep (n + k) 4) [0] rfl rfl rfl ?_
      rintro _ _ ⟨rfl, ⟨_, rfl⟩ | ⟨h9, rfl⟩⟩
      · refine draw_ev hTS (by kernel_rfl) (.pur 0 (.pur 1 (.pur 2 (.pur 3 (.pur 5 (.pur 6 (.pur 7 (.pur 8 (.pur 9 (.part [] [] (.take 4 (.one 10 (.pur 11 (.pur 12 .done)))))))))))))) (by kernel_rfl) ?_
        refine side ⟨by omega, by show ((n : Nat) : Int) ≤ ((n + k : Nat) : Int); omega, by show ((n + k : Nat) : Int) ≤ _; omega⟩ ?_
        exact ⟨⟨rfl, trivial⟩, 1, rfl, .inl ⟨.inl (by omega), _, _, _, by decide, rfl, rfl⟩⟩
      · exact absurd rfl h9
    · have hk0 : k ≠ 0 := by simp at h2; omega
      refine bsplit (fun h3 => ?_) (fun h3 => ?_)
      · refine call_obj (fail_c s (n + k) 0 deep n 7) [0] rfl rfl rfl ?_
        rintro _ _ ⟨rfl, ⟨_, rfl⟩ | ⟨h9, rfl⟩⟩
        · refine draw_ev hTS (by kernel_rfl) (.pur 0 (.pur 1 (.pur 2 (.pur 3 (.pur 5 (.pur 6 (.pur 7 (.pur 8 (.pur 9 (.part [] [] (.take 4 (.one 10 (.pur 11 (.pur 12 .done)))))))))))))) (by kernel_rfl) ?_
          refine side ⟨by omega, by omega, by omega⟩ ?_
          refine ⟨⟨rfl, trivial⟩, 1, rfl, .inl ⟨.inr ?_, _, _, _, by decide, rfl, rfl⟩⟩
          rw [hE]
          have h3 : decide (20 < IntKind.i64.wrap (((n + k : Nat) : Int) - (n : Int))) = true := h3
          rw [wr (by omega) (by omega)] at h3
          simp at h3; omega
        · exact absurd rfl h9
      · refine draw_ev hTS (by kernel_rfl) (.pur 0 (.pur 1 (.pur 2 (.pur 3 (.pur 5 (.pur 6 (.pur 7 (.pur 8 (.pur 9 (.part [] [] (.take 4 (.one 10 (.pur 11 (.pur 12 .done)))))))))))))) (by kernel_rfl) ?_
        refine side ⟨by omega, by show ((n : Nat) : Int) ≤ ((n + k : Nat) : Int); omega, by show ((n + k : Nat) : Int) ≤ _; omega⟩ ?_
        refine ⟨⟨rfl, trivial⟩, 1, rfl, .inr ⟨by omega, ?_, by omega, ?_, ?_⟩⟩
        · rw [hE]
          have h3 : decide (20 < IntKind.i64.wrap (((n + k : Nat) : Int) - (n : Int))) = false := h3
          rw [wr (by omega) (by omega)] at h3
          simp at h3; omega
        · show SV.v (nrm (AV.c (.string (s.extract ((n : Nat) : Int).toNat ((n + k : Nat) : Int).toNat)))) = _
          rw [hE]; rfl
        · rw [hE]; rfl

end Go.AV0
/- kind: a reader's words. -/
namespace Go.AV0
open Go.Proofs

def prefB (s : ByteArray) (n : Nat) (w : ByteArray) : Bool := decide (w.size ≤ (s.extract n s.size).size) && decide ((s.extract n s.size).extract 0 w.size = w)

/-- the first word that stands there -/
def hitW (s : ByteArray) (n : Nat) : List ByteArray → Nat → Option (Nat × Nat)
  | [], _ => none
  | w :: l, i => if prefB s n w = true then some (i, w.size) else hitW s n l (i + 1)

theorem hitW_none {s n} : ∀ {l : List ByteArray} {i : Nat}, (∀ w ∈ l, prefB s n w = false) → hitW s n l i = none
  | [], i, _ => rfl
  | w :: l, i, h => by simp only [hitW]; rw [h w (by simp)]; exact hitW_none fun v hv => h v (by simp [hv])

theorem hitW_some {s n} : ∀ {l : List ByteArray} {k i : Nat} {w : ByteArray}, l[k]? = some w → prefB s n w = true → (∀ j v, j < k → l[j]? = some v → prefB s n v = false) → hitW s n l i = some (i + k, w.size)
  | [], k, i, w, h, _, _ => by simp at h
  | v :: l, 0, i, w, h, hp, _ => by simp at h; subst h; simp [hitW, hp]
  | v :: l, k + 1, i, w, h, hp, hall => by
    simp only [hitW]
    rw [hall 0 v (by omega) rfl]
    simp only [Bool.false_eq_true, if_false]
    rw [hitW_some (k := k) (i := i + 1) (by simpa using h) hp (fun j v hj hv => hall (j + 1) v (by omega) (by simpa using hv))]
    congr 2; omega

theorem prefB_size {s n w} (h : prefB s n w = true) : w.size ≤ s.size - n := by
  simp [prefB] at h; omega

def wsA (ws : List ByteArray) : AV := .sl (ws.map fun w => [.c (.string w)])

theorem word_c (s : ByteArray) (n deep : Nat) (ws : List ByteArray) (hs : s.size ≤ 4096) (hn : n ≤ s.size) (hws : ws.length ≤ 100) (hwl : ∀ w ∈ ws, w.size ≤ 100) : AImp Tryz.prog 47 [.ref 0 0, .v (wsA ws)] [rd s n 0 deep] []
    (fun r h => (hitW s n ws 0 = none ∧ ∃ n' e', e' ≠ 0 ∧ r = .v (.c (.int .i64 0)) ∧ h = [rd s n' e' deep]) ∨
      (∃ i l, hitW s n ws 0 = some (i, l) ∧ i < ws.length ∧ n + l ≤ s.size ∧ r = .v (.c (.int .i64 (i : Int))) ∧ h = [rd s (n + l) 0 deep])) := by
  have hsz : s.data.toList.length = s.size := by simp
  refine aimp_of hTS Tryz.func47 (by kernel_rfl) rfl rfl rfl (fun p => ?_)
  refine loop_inv hTS (X := { x : Nat × Nat // x.1 ≤ ws.length ∧ x.2 ≤ 100 ∧ ∀ j v, j < x.1 → ws[j]? = some v → prefB s n v = false })
    (fun x => ⟨[(0, .ref 0 0), (5, .v (.c (.int .i64 (x.1.2 : Int)))), (9, .v (wsA ws)), (10, .v (.c (.int .i64 ((ws.map fun w => [AV.c (.string w)]).length : Int)))), (11, .v (.c (.int .i64 (x.1.1 : Int))))], []⟩) (fun x => [rd s n 0 deep, .pin 0 (p 0)]) (fun x => ws.length - x.1.1) ⟨(0, 0), Nat.zero_le _, Nat.zero_le _, fun i v h => absurd h (Nat.not_lt_zero _)⟩
    ⟨rfl, rfl, ⟨⟨rfl, rfl⟩, ⟨rfl, rfl⟩, ⟨rfl, rfl⟩, ⟨rfl, rfl⟩, ⟨rfl, rfl⟩, trivial⟩, ⟨[], rfl⟩, rfl⟩ ?_
  rintro ⟨⟨k, far⟩, hk, hfar, hall⟩
  simp only at hk hfar hall
  refine bsplit (fun h1 => ?_) (fun h1 => ?_)
  · have h1' : k < ws.length := by simp at h1; omega
    obtain ⟨w, hw⟩ : ∃ w, ws[k]? = some w := ⟨_, List.getElem?_eq_getElem h1'⟩
    have hwz := hwl w (List.mem_of_getElem? hw)
    refine elev (Int.natCast_nonneg _) [AV.c (.string w)] (by show (ws.map fun w => [AV.c (.string w)])[((k : Nat) : Int).toNat]? = _; simp [hw]) ?_
    refine draw_ev hTS (by kernel_rfl) (.pur 0 (.pur 1 (.pur 2 (.pur 3 (.pur 5 (.pur 6 (.pur 7 (.pur 8 (.pur 11 (.part [] [] (.take 4 (.one 9 (.pur 10 (.one 12 .done)))))))))))))) (by kernel_rfl) ?_
    refine side ⟨by omega, by omega, by omega⟩ ?_
    refine call_pure (stringsHasPrefix_c _ w) rfl ?_
    rintro _ rfl
    refine bsplit (fun h2 => ?_) (fun h2 => ?_)
    · have hp : prefB s n w = true := h2
      have hz := prefB_size hp
      have hh := hitW_some (i := 0) hw hp hall
      refine ⟨⟨rfl, trivial⟩, 1, rfl, .inr ⟨k, w.size, by rw [hh]; simp, h1', by omega, rfl, ?_⟩⟩
      show [SO.cells [_, .v (.c (.int .i64 (IntKind.i64.wrap ((n : Int) + (w.size : Int))))), _, _]] = [SO.cells [_, .v (.c (.int .i64 ((n + w.size : Nat) : Int))), _, _]]
      rw [wr (by omega) (by omega)]; rfl
    · have hp : prefB s n w = false := h2
      refine loop_inv hTS (X := { j : Nat // j ≤ w.size }) (fun j => ⟨[(0, .ref 0 0), (5, .v (.c (.int .i64 (far : Int)))), (7, .v (.c (.string w))), (8, .v (.c (.int .i64 (j.1 : Int)))), (9, .v (wsA ws)), (10, .v (.c (.int .i64 ((ws.map fun w => [AV.c (.string w)]).length : Int)))), (11, .v (.c (.int .i64 (k : Int))))], []⟩) (fun x => [rd s n 0 deep, .pin 0 (p 0)]) (fun j => w.size - j.1) ⟨0, Nat.zero_le _⟩
        ⟨rfl, rfl, ⟨⟨rfl, rfl⟩, ⟨rfl, rfl⟩, ⟨rfl, rfl⟩, ⟨rfl, rfl⟩, ⟨rfl, rfl⟩, ⟨rfl, rfl⟩, ⟨rfl, rfl⟩, trivial⟩, ⟨[], rfl⟩, rfl⟩ ?_
      rintro ⟨j, hj⟩
      refine draw_ev hTS (by kernel_rfl) (.pur 0 (.pur 1 (.one 2 (.pur 3 (.pur 4 (.pur 5 (.pur 6 (.pur 7 (.pur 8 (.pur 10 (.pur 12 (.pur 13 (.pur 14 (.pur 15 (.part [] [] (.take 9 (.pur 11 (.one 16 (.one 17 (.pur 18 (.pur 19 (.pur 20 (.pur 21 (.pur 22 (.pur 23 (.pur 24 (.pur 26 (.pur 27 (.pur 28 (.pur 29 (.pur 31 (.pur 34 (.pur 35 (.pur 36 (.take 25 (.one 30 (.pur 32 (.pur 33 (.pur 37 (.pur 38 .done)))))))))))))))))))))))))))))))))))))))) (by kernel_rfl) ?_
      refine bsplit (fun h3 => ?_) (fun h3 => ?_)
      case' refine_1 =>
        have h3' : j < w.size := by simp at h3; omega
        repeat' (first | refine bsplit_t (by first | with_reducible assumption | with_reducible rfl | with_reducible exact Bool.not_true | with_reducible exact Bool.not_false) ?_ | refine bsplit_f (by first | with_reducible assumption | with_reducible rfl | with_reducible exact Bool.not_true | with_reducible exact Bool.not_false) ?_ | fail)
        refine bsplit (fun h4 => ?_) (fun h4 => ?_)
        case' refine_1 =>
          have h4 : decide (IntKind.i64.wrap ((n : Int) + (j : Int)) < (s.size : Int)) = true := h4
          have hwr : IntKind.i64.wrap ((n : Int) + (j : Int)) = ((n + j : Nat) : Int) := by rw [wr] <;> omega
          rw [hwr] at h4
          have h4' : n + j < s.size := by simp at h4; omega
          repeat' (first | refine bsplit_t (by first | with_reducible assumption | with_reducible rfl | with_reducible exact Bool.not_true | with_reducible exact Bool.not_false) ?_ | refine bsplit_f (by first | with_reducible assumption | with_reducible rfl | with_reducible exact Bool.not_true | with_reducible exact Bool.not_false) ?_ | fail)
          refine elev (Int.natCast_nonneg _) (w.data.toList[j]'(by simp; omega)) (by show w.data.toList[((j : Nat) : Int).toNat]? = _; rw [show ((j : Nat) : Int).toNat = j by omega]; exact List.getElem?_eq_getElem _) ?_
          repeat' (first | refine bsplit_t (by first | with_reducible assumption | with_reducible rfl | with_reducible exact Bool.not_true | with_reducible exact Bool.not_false) ?_ | refine bsplit_f (by first | with_reducible assumption | with_reducible rfl | with_reducible exact Bool.not_true | with_reducible exact Bool.not_false) ?_ | fail)
          refine elev (by show (0 : Int) ≤ IntKind.i64.wrap ((n : Int) + (j : Int)); rw [hwr]; omega) (s.data.toList[n + j]'(by omega)) (by show s.data.toList[(IntKind.i64.wrap ((n : Int) + (j : Int))).toNat]? = _; rw [hwr, show ((n + j : Nat) : Int).toNat = n + j by omega]; exact List.getElem?_eq_getElem _) ?_
          repeat' (first | refine bsplit_t (by first | with_reducible assumption | with_reducible rfl | with_reducible exact Bool.not_true | with_reducible exact Bool.not_false) ?_ | refine bsplit_f (by first | with_reducible assumption | with_reducible rfl | with_reducible exact Bool.not_true | with_reducible exact Bool.not_false) ?_ | fail)
          refine bsplit (fun h5 => ?_) (fun h5 => ?_)
          · refine ⟨⟨j + 1, by omega⟩, by show w.size - (j + 1) < w.size - j; omega, ⟨rfl, rfl, ⟨⟨rfl, rfl⟩, ⟨rfl, rfl⟩, ⟨rfl, rfl⟩, ⟨?_, rfl⟩, ⟨rfl, rfl⟩, ⟨rfl, rfl⟩, ⟨rfl, rfl⟩, trivial⟩, ⟨[], rfl⟩, rfl⟩⟩
            show some (SV.v (AV.c (.int .i64 (IntKind.i64.wrap ((j : Int) + 1))))) = _
            rw [inc (by omega)]
      all_goals repeat' (first | refine bsplit_t (by first | with_reducible assumption | with_reducible rfl | with_reducible exact Bool.not_true | with_reducible exact Bool.not_false) ?_ | refine bsplit_f (by first | with_reducible assumption | with_reducible rfl | with_reducible exact Bool.not_true | with_reducible exact Bool.not_false) ?_ | fail)
      all_goals
        refine ⟨⟨(k + 1, max far j), h1', by show max far j ≤ 100; omega, ?_⟩, by show ws.length - (k + 1) < ws.length - k; omega, ⟨rfl, rfl, ⟨⟨rfl, rfl⟩, ⟨?_, rfl⟩, ⟨rfl, rfl⟩, ⟨rfl, rfl⟩, ⟨?_, rfl⟩, trivial⟩, ⟨[], rfl⟩, rfl⟩⟩
        · intro i v hi hv
          rcases Nat.lt_or_ge i k with h9 | h9
          · exact hall i v h9 hv
          · have : i = k := by simp at hi; omega
            subst this
            rw [hw] at hv; cases hv; exact hp
        · show some (SV.v (AV.c (.int .i64 (max (far : Int) (j : Int))))) = some (SV.v (AV.c (.int .i64 ((max far j : Nat) : Int))))
          congr 4; omega
        · show some (SV.v (AV.c (.int .i64 (IntKind.i64.wrap ((k : Int) + 1))))) = _
          rw [inc (by omega)]
  · repeat' (first | refine bsplit_t (by first | with_reducible assumption | with_reducible rfl | with_reducible exact Bool.not_true | with_reducible exact Bool.not_false) ?_ | refine bsplit_f (by first | with_reducible assumption | with_reducible rfl | with_reducible exact Bool.not_true | with_reducible exact Bool.not_false) ?_ | fail)
    have hk' : k = ws.length := by simp at h1; omega
    refine draw_ev hTS (by kernel_rfl) (.pur 0 (.pur 1 (.pur 2 (.pur 3 (.pur 4 (.pur 5 (.pur 6 (.pur 8 (.one 7 (.pur 9 (.one 10 .done))))))))))) (by kernel_rfl) ?_
    have hwr : IntKind.i64.wrap ((n : Int) + (far : Int)) = ((n + far : Nat) : Int) := by rw [wr] <;> omega
    refine call_obj (fail_c s n 0 deep (n + far) 4) [0] (by show [SV.ref 0 0, SV.v (AV.c (.int .i64 ((n + far : Nat) : Int))), _] = [SV.ref 0 0, SV.v (AV.c (.int .i64 (IntKind.i64.wrap ((n : Int) + (far : Int))))), .v (.c (.int .i64 4))]; rw [hwr]; rfl) rfl rfl ?_
    rintro _ _ ⟨rfl, ⟨_, rfl⟩ | ⟨h9, rfl⟩⟩
    · refine ⟨⟨rfl, trivial⟩, 1, rfl, .inl ⟨hitW_none ?_, _, _, by decide, rfl, rfl⟩⟩
      intro v hv
      obtain ⟨i, hi⟩ := List.mem_iff_getElem?.1 hv
      exact hall i v (by have := get_lt hi; omega) hi
    · exact absurd rfl h9

end Go.AV0
/- kind: types read: lists, maps, tuples. -/
namespace Go.AV0
open Go.Proofs

/-- a type: its form, its types, its names, which may be missing -/
inductive KT where
  | mk (form : Nat) (l : List KT) (names : List ByteArray) (loose : List Bool)

mutual
def kpO : KT → Option (List AV)
  | .mk f l ns lo => some [.c (.int .i64 (f : Int)), .sl (kpL l), .sl (nmA ns), .sl (boA lo)]
def kpL : List KT → List (List AV)
  | [] => []
  | t :: l => [.ptr (kpO t)] :: kpL l
end

def kp (t : KT) : AV := .ptr (kpO t)

theorem kpL_app : ∀ (l : List KT) (x : KT), kpL (l ++ [x]) = kpL l ++ [[.ptr (kpO x)]]
  | [], x => by simp [kpL]
  | t :: l, x => by simp [kpL, kpL_app l x]

theorem kpL_len : ∀ (l : List KT), (kpL l).length = l.length
  | [] => rfl
  | t :: l => by simp [kpL, kpL_len l]

theorem kpL_one : ∀ (l : List KT), ∀ z ∈ kpL l, z.length = 1
  | [], z, h => by cases h
  | t :: l, z, h => by
    simp only [kpL, List.mem_cons] at h
    rcases h with rfl | h
    · rfl
    · exact kpL_one l z h

theorem kpL_one' (l : List KT) (o : Option (List AV)) : ∀ z ∈ kpL l ++ [[AV.ptr o]], z.length = 1 := by
  intro z h
  rcases List.mem_append.1 h with h | h
  · exact kpL_one l z h
  · simp at h; subst h; rfl

/-! ### the document's texts of types -/
def pTup (P : Nat → Option (KT × Nat)) (s : ByteArray) : Nat → List KT → Nat → Option (KT × Nat)
  | 0, _, _ => none
  | k + 1, acc, n => match P n with
    | none => none
    | some (x, m) => if stands s m 93 = true then some (.mk 7 (acc ++ [x]) [] [], m + 1) else if stands s m 44 = true then pTup P s k (acc ++ [x]) (m + 1) else none

def badOrder (ns : List ByteArray) (nm : ByteArray) : Bool :=
  match ns.getLast? with
  | some x => slt nm x || decide (nm = x)
  | none => false

/-- a name, and its type -/
def pFld (P : Nat → Option (KT × Nat)) (s : ByteArray) (ns : List ByteArray) (n : Nat) : Option (KT × ByteArray × Bool × Nat) :=
  if nameLen s n = 0 ∨ 20 < nameLen s n then none
  else if badOrder ns (s.extract n (n + nameLen s n)) = true then none
  else if stands s (if stands s (n + nameLen s n) 63 = true then n + nameLen s n + 1 else n + nameLen s n) 58 = true then
    match P ((if stands s (n + nameLen s n) 63 = true then n + nameLen s n + 1 else n + nameLen s n) + 1) with
    | none => none
    | some (x, m) => some (x, s.extract n (n + nameLen s n), stands s (n + nameLen s n) 63, m)
  else none

def pObj (P : Nat → Option (KT × Nat)) (s : ByteArray) : Nat → List KT → List ByteArray → List Bool → Nat → Option (KT × Nat)
  | 0, _, _, _, _ => none
  | k + 1, l, ns, lo, n => match pFld P s ns n with
    | none => none
    | some (x, nm, q, m) => if stands s m 125 = true then some (.mk 8 (l ++ [x]) (ns ++ [nm]) (lo ++ [q]), m + 1) else if stands s m 44 = true then pObj P s k (l ++ [x]) (ns ++ [nm]) (lo ++ [q]) (m + 1) else none

def wds : List ByteArray := [wAny, wBool, wInt, wPoint, wText, wList, wMap]

def pType (s : ByteArray) : Nat → Nat → Option (KT × Nat)
  | 0, _ => none
  | f + 1, n =>
    if stands s n 91 = true then (if stands s (n + 1) 93 = true then some (.mk 7 [] [] [], n + 2) else pTup (pType s f) s 16 [] (n + 1))
    else if stands s n 123 = true then (if stands s (n + 1) 125 = true then some (.mk 8 [] [] [], n + 2) else pObj (pType s f) s 16 [] [] [] (n + 1))
    else match hitW s n wds 0 with
      | none => none
      | some (i, l) => if i < 5 then some (.mk i [] [] [], n + l) else if stands s (n + l) 40 = true then match pType s f (n + l + 1) with
          | none => none
          | some (x, m) => if stands s m 41 = true then some (.mk i [x] [] [], m + 1) else none
        else none

/-- a text's type -/
def pParse (s : ByteArray) : Option KT :=
  if 4096 < s.size then none else match pType s 8 0 with
    | none => none
    | some (t, m) => if m < s.size then none else some t

/-- what reading a type answers -/
def RdQ (s : ByteArray) (deep : Nat) (e : Int) (n : Nat) (res : Option (KT × Nat)) (r : SV) (h : List SO) : Prop :=
  ∃ o, r = .v (.ptr o) ∧ ((e ≠ 0 ∧ h = [rd s n e deep]) ∨ (e = 0 ∧ ∃ t m, res = some (t, m) ∧ m ≤ s.size ∧ o = kpO t ∧ h = [rd s m 0 deep]) ∨ (e = 0 ∧ res = none ∧ ∃ n' e', e' ≠ 0 ∧ h = [rd s n' e' deep]))

def ReadC (f : Nat) : Prop := ∀ (s : ByteArray) (n : Nat) (e : Int) (deep : Nat), s.size ≤ 4096 → (e = 0 → n ≤ s.size) → deep + f = 8 → AImp Tryz.prog 26 [.ref 0 0] [rd s n e deep] [] (RdQ s deep e n (pType s f n))

set_option maxHeartbeats 4000000 in
theorem single_c {f : Nat} (hr : ReadC f) (s : ByteArray) (n deep form : Nat) (hs : s.size ≤ 4096) (_ : n ≤ s.size) (hd : deep + f = 8) : AImp Tryz.prog 48 [.ref 0 0, .v (.c (.int .i64 (form : Int)))] [rd s n 0 deep] []
    (RdQ s deep 0 n (if stands s n 40 = true then match pType s f (n + 1) with
          | none => none
          | some (x, m) => if stands s m 41 = true then some (.mk form [x] [] [], m + 1) else none
        else none)) := by
  refine aimp_of hTS Tryz.func48 (by kernel_rfl) rfl rfl rfl (fun p => ?_)
  refine call_obj (must_c s n 0 deep 40 hs) [0] rfl rfl rfl ?_
  rintro _ _ ⟨rfl, ⟨_, h1, rfl⟩ | ⟨_, h1, rfl⟩ | ⟨h1, rfl⟩⟩
  · rw [if_pos h1]
    have := stands_lt h1
    refine call_obj (hr s (n + 1) 0 deep hs (fun _ => by omega) hd) [0] rfl rfl rfl ?_
    rintro _ _ ⟨o, rfl, ⟨h2, rfl⟩ | ⟨_, t, m, h2, h3, rfl, rfl⟩ | ⟨_, h2, n', e', h3, rfl⟩⟩
    · exact absurd rfl h2
    · rw [h2]
      refine call_obj (must_c s m 0 deep 41 hs) [0] rfl rfl rfl ?_
      rintro _ _ ⟨rfl, ⟨_, h4, rfl⟩ | ⟨_, h4, rfl⟩ | ⟨h4, rfl⟩⟩
      · have := stands_lt h4
        refine ⟨⟨rfl, trivial⟩, 1, rfl, _, rfl, .inr (.inl ⟨rfl, .mk form [t] [] [], m + 1, ?_, by omega, rfl, rfl⟩)⟩
        simp only [if_pos h4]
      · refine ⟨⟨rfl, trivial⟩, 1, rfl, _, rfl, .inr (.inr ⟨rfl, ?_, _, _, (by decide), rfl⟩)⟩
        simp [h4]
      · exact absurd rfl h4
    · rw [h2]
      refine call_obj (must_c s n' e' deep 41 hs) [0] rfl rfl rfl ?_
      rintro _ _ ⟨rfl, ⟨h4, _⟩ | ⟨h4, _⟩ | ⟨h4, rfl⟩⟩
      · exact absurd h4 h3
      · exact absurd h4 h3
      · exact ⟨⟨rfl, trivial⟩, 1, rfl, _, rfl, .inr (.inr ⟨rfl, rfl, _, _, h3, rfl⟩)⟩
  · rw [h1]
    refine call_obj (hr s n 4 deep hs (fun h => by cases h) hd) [0] rfl rfl rfl ?_
    rintro _ _ ⟨o, rfl, ⟨h2, rfl⟩ | ⟨h2, _⟩ | ⟨h2, _⟩⟩
    · refine call_obj (must_c s n 4 deep 41 hs) [0] rfl rfl rfl ?_
      rintro _ _ ⟨rfl, ⟨h4, _⟩ | ⟨h4, _⟩ | ⟨h4, rfl⟩⟩
      · cases h4
      · cases h4
      · exact ⟨⟨rfl, trivial⟩, 1, rfl, _, rfl, .inr (.inr ⟨rfl, rfl, _, _, h4, rfl⟩)⟩
    · cases h2
    · cases h2
  · exact absurd rfl h1

set_option maxHeartbeats 4000000 in
theorem tuple_c {f : Nat} (hr : ReadC f) (s : ByteArray) (n deep : Nat) (hs : s.size ≤ 4096) (hn : n ≤ s.size) (hd : deep + f = 8) : AImp Tryz.prog 45 [.ref 0 0] [rd s n 0 deep] []
    (RdQ s deep 0 n (if stands s n 93 = true then some (.mk 7 [] [] [], n + 1) else pTup (pType s f) s 16 [] n)) := by
  refine aimp_of hTS Tryz.func45 (by kernel_rfl) rfl rfl rfl (fun p => ?_)
  refine call_obj (is_c s n 0 deep 93 hs) [0] rfl rfl rfl ?_
  rintro _ _ (⟨_, h1, rfl, rfl⟩ | ⟨h1, rfl, rfl⟩)
  · have := stands_lt h1
    repeat' (first | refine bsplit_t (by first | with_reducible assumption | with_reducible rfl | with_reducible exact Bool.not_true | with_reducible exact Bool.not_false) ?_ | refine bsplit_f (by first | with_reducible assumption | with_reducible rfl | with_reducible exact Bool.not_true | with_reducible exact Bool.not_false) ?_ | fail)
    refine ⟨⟨rfl, trivial⟩, 1, rfl, _, rfl, .inr (.inl ⟨rfl, .mk 7 [] [] [], n + 1, ?_, by omega, rfl, rfl⟩)⟩
    rw [if_pos h1]
  · have h1 := h1 rfl
    rw [h1]
    repeat' (first | refine bsplit_t (by first | with_reducible assumption | with_reducible rfl | with_reducible exact Bool.not_true | with_reducible exact Bool.not_false) ?_ | refine bsplit_f (by first | with_reducible assumption | with_reducible rfl | with_reducible exact Bool.not_true | with_reducible exact Bool.not_false) ?_ | fail)
    refine loop_own 2 1 36 1 rfl rfl rfl ?_
    refine loop_inv hTS (X := { x : List KT × Nat × Nat // x.1.length + x.2.2 = 16 ∧ x.2.1 ≤ s.size ∧ pTup (pType s f) s 16 [] n = pTup (pType s f) s x.2.2 x.1 x.2.1 } ⊕ { y : List (List AV) × Nat × Int // y.2.2 ≠ 0 ∧ y.1.length ≤ 100 ∧ pTup (pType s f) s 16 [] n = none ∧ ∀ z ∈ y.1, z.length = 1 })
      (fun _ => ⟨[(0, .ref 0 0), (3, .ref 2 0)], []⟩) (fun x => match x with
        | .inl x => [rd s x.1.2.1 0 deep, .pin 0 (p 0), .cells [.v (.c (.int .i64 7)), .ms 3, .v (.c (.slice none 0 0)), .v (.c (.slice none 0 0))], .arr 36 1 (kpL x.1.1)]
        | .inr y => [rd s y.1.2.1 y.1.2.2 deep, .pin 0 (p 0), .cells [.v (.c (.int .i64 7)), .ms 3, .v (.c (.slice none 0 0)), .v (.c (.slice none 0 0))], .arr 36 1 y.1.1])
      (fun x => match x with
        | .inl x => x.1.2.2 + 2
        | .inr y => 0) (.inl ⟨([], n, 16), rfl, hn, rfl⟩)
      ⟨rfl, rfl, ⟨⟨rfl, rfl⟩, ⟨rfl, rfl⟩, trivial⟩, ⟨[], rfl⟩, rfl⟩ ?_
    rintro (⟨⟨acc, m, k⟩, hl, hm, hres⟩ | ⟨⟨els, m, e⟩, he, hlen, hres, hz⟩)
    · simp only at hl hm hres
      refine call_obj (bad_c s m 0 deep) [0] rfl rfl rfl ?_
      rintro _ _ ⟨⟨h2, rfl⟩ | ⟨h2, rfl⟩, rfl⟩
      · repeat' (first | refine bsplit_t (by first | with_reducible assumption | with_reducible rfl | with_reducible exact Bool.not_true | with_reducible exact Bool.not_false) ?_ | refine bsplit_f (by first | with_reducible assumption | with_reducible rfl | with_reducible exact Bool.not_true | with_reducible exact Bool.not_false) ?_ | fail)
        refine bsplit (fun h3 => ?_) (fun h3 => ?_)
        · have hk0 : k = 0 := by
            simp [kpL_len] at h3
            omega
          subst hk0
          refine draw_ev hTS (by kernel_rfl) (.pur 0 (.pur 1 (.pur 2 (.pur 3 (.pur 4 (.pur 5 (.pur 6 (.one 7 (.one 8 .done))))))))) (by kernel_rfl) ?_
          refine call_obj (fail_c s m 0 deep m 3) [0] rfl rfl rfl ?_
          rintro _ _ ⟨rfl, ⟨_, rfl⟩ | ⟨h9, rfl⟩⟩
          · refine draw_ev hTS (by kernel_rfl) (.pur 0 (.pur 1 (.pur 2 (.pur 3 (.pur 5 (.part [0] [8, 11] (.take 4 (.one 6 (.one 7 (.fin 8 (.pur 9 (.pur 10 (.one 11 .done))))))))))))) (by kernel_rfl) ?_
            refine call_obj (hr s m 3 deep hs (fun h => by cases h) hd) [0] rfl rfl rfl ?_
            rintro _ _ ⟨o, rfl, ⟨h4, rfl⟩ | ⟨h4, _⟩ | ⟨h4, _⟩⟩
            · refine side ⟨?_, ?_⟩ ?_
              · intro y hy
                simp at hy; subst hy; exact ⟨rfl, rfl⟩
              · show ((kpL acc).length + 1) * 9 ≤ _
                rw [kpL_len]; omega
              refine call_obj (is_c s m 3 deep 93 hs) [0] rfl rfl rfl ?_
              rintro _ _ (⟨h5, _⟩ | ⟨_, rfl, rfl⟩)
              · cases h5
              · refine bsplit_f rfl ?_
                refine call_obj (must_c s m 3 deep 44 hs) [0] rfl rfl rfl ?_
                rintro _ _ ⟨rfl, ⟨h6, _⟩ | ⟨h6, _⟩ | ⟨_, rfl⟩⟩
                · cases h6
                · cases h6
                · refine ⟨.inr ⟨(kpL acc ++ [[.ptr o]], m, 3), by show (3 : Int) ≠ 0; decide, ?_, ?_, ?_⟩, Nat.succ_pos _, ⟨rfl, rfl, ⟨⟨rfl, rfl⟩, ⟨rfl, rfl⟩, trivial⟩, ⟨_, rfl⟩, rfl⟩⟩
                  · simp [kpL_len]; omega
                  · rw [hres]; rfl
                  · exact kpL_one' acc o
            · cases h4
            · cases h4
          · exact absurd rfl h9
        · have hk0 : k ≠ 0 := by
            intro h
            simp [kpL_len] at h3
            omega
          obtain ⟨k, rfl⟩ : ∃ k', k = k' + 1 := ⟨k - 1, by omega⟩
          refine draw_ev hTS (by kernel_rfl) (.pur 0 (.pur 1 (.pur 2 (.pur 3 (.pur 5 (.part [0] [8, 11] (.take 4 (.one 6 (.one 7 (.fin 8 (.pur 9 (.pur 10 (.one 11 .done))))))))))))) (by kernel_rfl) ?_
          refine call_obj (hr s m 0 deep hs (fun _ => hm) hd) [0] rfl rfl rfl ?_
          rintro _ _ ⟨o, rfl, ⟨h4, rfl⟩ | ⟨_, t, m2, h4, h5, rfl, rfl⟩ | ⟨_, h4, n', e', h5, rfl⟩⟩
          · exact absurd rfl h4
          · refine side ⟨?_, ?_⟩ ?_
            · intro y hy
              simp at hy; subst hy; exact ⟨rfl, rfl⟩
            · show ((kpL acc).length + 1) * 9 ≤ _
              rw [kpL_len]; omega
            refine call_obj (is_c s m2 0 deep 93 hs) [0] rfl rfl rfl ?_
            rintro _ _ (⟨_, h6, rfl, rfl⟩ | ⟨h6, rfl, rfl⟩)
            · have := stands_lt h6
              refine bsplit_t rfl ?_
              refine ⟨⟨rfl, trivial⟩, 1, rfl, _, rfl, .inr (.inl ⟨rfl, .mk 7 (acc ++ [t]) [] [], m2 + 1, ?_, by omega, ?_, rfl⟩)⟩
              · rw [if_neg (by simp), hres]
                simp only [pTup, h4, if_pos h6]
              · simp only [kpO, kpL_app]; rfl
            · have h6 := h6 rfl
              refine bsplit_f rfl ?_
              refine call_obj (must_c s m2 0 deep 44 hs) [0] rfl rfl rfl ?_
              rintro _ _ ⟨rfl, ⟨_, h7, rfl⟩ | ⟨_, h7, rfl⟩ | ⟨h7, _⟩⟩
              · have := stands_lt h7
                refine ⟨.inl ⟨(acc ++ [t], m2 + 1, k), by simp at hl ⊢; omega, by show m2 + 1 ≤ s.size; omega, ?_⟩, by show k + 2 < k + 1 + 2; omega, ⟨rfl, rfl, ⟨⟨rfl, rfl⟩, ⟨rfl, rfl⟩, trivial⟩, ⟨_, by show (_ : List SO) = [rd s (m2 + 1) 0 deep, .pin 0 (p 0), .cells [.v (.c (.int .i64 7)), .ms 3, .v (.c (.slice none 0 0)), .v (.c (.slice none 0 0))], .arr 36 1 (kpL (acc ++ [t]))] ++ _; rw [kpL_app]; rfl⟩, rfl⟩⟩
                · rw [hres]
                  simp [pTup, h4, h6, h7]
              · refine ⟨.inr ⟨(kpL acc ++ [[.ptr (kpO t)]], m2, 4), by show (4 : Int) ≠ 0; decide, ?_, ?_, ?_⟩, Nat.succ_pos _, ⟨rfl, rfl, ⟨⟨rfl, rfl⟩, ⟨rfl, rfl⟩, trivial⟩, ⟨_, rfl⟩, rfl⟩⟩
                · simp [kpL_len]; omega
                · rw [hres]
                  simp [pTup, h4, h6, h7]
                · exact kpL_one' acc _
              · exact absurd rfl h7
          · refine side ⟨?_, ?_⟩ ?_
            · intro y hy
              simp at hy; subst hy; exact ⟨rfl, rfl⟩
            · show ((kpL acc).length + 1) * 9 ≤ _
              rw [kpL_len]; omega
            refine call_obj (is_c s n' e' deep 93 hs) [0] rfl rfl rfl ?_
            rintro _ _ (⟨h6, _⟩ | ⟨_, rfl, rfl⟩)
            · exact absurd h6 h5
            · refine bsplit_f rfl ?_
              refine call_obj (must_c s n' e' deep 44 hs) [0] rfl rfl rfl ?_
              rintro _ _ ⟨rfl, ⟨h6, _⟩ | ⟨h6, _⟩ | ⟨_, rfl⟩⟩
              · exact absurd h6 h5
              · exact absurd h6 h5
              · refine ⟨.inr ⟨(kpL acc ++ [[.ptr o]], n', e'), h5, ?_, ?_, ?_⟩, Nat.succ_pos _, ⟨rfl, rfl, ⟨⟨rfl, rfl⟩, ⟨rfl, rfl⟩, trivial⟩, ⟨_, rfl⟩, rfl⟩⟩
                · simp [kpL_len]; omega
                · rw [hres]
                  simp [pTup, h4]
                · exact kpL_one' acc o
      · exact absurd rfl h2
    · simp only at he hlen hres hz
      refine call_obj (bad_c s m e deep) [0] rfl rfl rfl ?_
      rintro _ _ ⟨⟨h2, rfl⟩ | ⟨h2, rfl⟩, rfl⟩
      · exact absurd h2 he
      · repeat' (first | refine bsplit_t (by first | with_reducible assumption | with_reducible rfl | with_reducible exact Bool.not_true | with_reducible exact Bool.not_false) ?_ | refine bsplit_f (by first | with_reducible assumption | with_reducible rfl | with_reducible exact Bool.not_true | with_reducible exact Bool.not_false) ?_ | fail)
        exact ⟨⟨rfl, trivial⟩, 1, rfl, _, rfl, .inr (.inr ⟨rfl, (if_neg (by simp)).trans hres, _, _, he, rfl⟩)⟩

end Go.AV0
/- kind: what a type tells. -/
namespace Go.AV0
open Go.Proofs

def KT.form : KT → Nat
  | .mk f _ _ _ => f
def KT.l : KT → List KT
  | .mk _ l _ _ => l
def KT.names : KT → List ByteArray
  | .mk _ _ ns _ => ns
def KT.loose : KT → List Bool
  | .mk _ _ _ lo => lo

theorem KT.sz {x : KT} {l : List KT} (h : x ∈ l) (f ns lo) : SizeOf.sizeOf x < SizeOf.sizeOf (KT.mk f l ns lo) := by
  have := List.sizeOf_lt_of_mem h
  simp; omega

theorem KT.ind {P : KT → Prop} (h : ∀ f l ns lo, (∀ x ∈ l, P x) → P (.mk f l ns lo)) : ∀ t, P t := by
  intro t
  have key : ∀ n, ∀ t : KT, SizeOf.sizeOf t ≤ n → P t := by
    intro n
    induction n with
    | zero => intro t ht; cases t; simp at ht
    | succ n ih =>
      intro t ht
      cases t with
      | mk f l ns lo => exact h f l ns lo fun x hx => ih x (by have := KT.sz hx f ns lo; omega)
  exact key _ t (Nat.le_refl _)

theorem kpL_get : ∀ (l : List KT) (i : Nat) (x : KT), l[i]? = some x → (kpL l)[i]? = some [.ptr (kpO x)]
  | [], i, x, h => by simp at h
  | t :: l, 0, x, h => by simp at h; subst h; simp [kpL]
  | t :: l, i + 1, x, h => by simp only [List.getElem?_cons_succ] at h; simpa [kpL] using kpL_get l i x h

/-- a name's place -/
def idxB : List ByteArray → ByteArray → Nat → Option Nat
  | [], _, _ => none
  | x :: l, s, i => if s = x then some i else idxB l s (i + 1)

theorem idxB_none {s : ByteArray} : ∀ {l : List ByteArray} {i : Nat}, (∀ x ∈ l, s ≠ x) → idxB l s i = none
  | [], _, _ => rfl
  | x :: l, i, h => by simp only [idxB]; rw [if_neg (h x (by simp))]; exact idxB_none fun y hy => h y (by simp [hy])

theorem idxB_some {s : ByteArray} : ∀ {l : List ByteArray} {k i : Nat}, l[k]? = some s → (∀ j x, j < k → l[j]? = some x → s ≠ x) → idxB l s i = some (i + k)
  | [], k, i, h, _ => by simp at h
  | x :: l, 0, i, h, _ => by simp at h; subst h; simp [idxB]
  | x :: l, k + 1, i, h, hall => by
    simp only [idxB]
    rw [if_neg (hall 0 x (by omega) rfl), idxB_some (k := k) (i := i + 1) (by simpa using h) (fun j y hj hy => hall (j + 1) y (by omega) (by simpa using hy))]
    congr 1; omega

def intO : Option Nat → Int
  | some i => (i : Int)
  | none => -1

theorem index_t (l : List ByteArray) (s : ByteArray) (hl : l.length ≤ 4000000) : APure Tryz.prog 51 [.sl (nmA l), .c (.string s)] (fun r => r = .c (.int .i64 (intO (idxB l s 0)))) := by
  refine apure_of hTS Tryz.func51 (by kernel_rfl) rfl rfl rfl ?_
  refine loop_on hTS (X := Nat) (fun i => i ≤ l.length ∧ ∀ j x, j < i → l[j]? = some x → s ≠ x)
    (fun i => ⟨[(0, .v (.sl (nmA l))), (1, .v (.c (.string s))), (4, .v (.c (.int .i64 0))), (7, .v (.c (.int .i64 ((nmA l).length : Int)))), (8, .v (.c (.int .i64 (i : Int))))], []⟩)
    (fun _ => []) (fun i => l.length - i) 0 ⟨Nat.zero_le _, fun j x h => absurd h (Nat.not_lt_zero _)⟩ ⟨rfl, rfl, (by (repeat' (first | exact trivial | refine ⟨⟨?_, rfl⟩, ?_⟩ | fail)); all_goals (first | (show some (SV.v (AV.c (Value.int .i64 (IntKind.i64.wrap _)))) = _; rw [inc (by omega)]; try rfl) | rfl)), ⟨_, rfl⟩, rfl⟩ ?_
  rintro i ⟨hi, hall⟩
  refine bsplit_d (fun h1 _ => ?_) (fun h1 _ => ?_)
  · rw [nmA_len] at h1
    obtain ⟨x, hx⟩ : ∃ x, l[i]? = some x := ⟨_, List.getElem?_eq_getElem (by omega)⟩
    refine elev (Int.natCast_nonneg _) [AV.c (.string x)] (nmA_get _ _ _ hx) ?_
    refine bsplit_d (fun h2 _ => ?_) (fun h2 _ => ?_)
    · have h2 : s = x := h2
      subst h2
      show AV.c _ = _
      rw [idxB_some (i := 0) hx hall, Nat.zero_add]; rfl
    · have h2 : ¬ s = x := h2
      refine ⟨i + 1, ⟨by omega, ?_⟩, (by dsimp only; omega), ⟨rfl, rfl, (by (repeat' (first | exact trivial | refine ⟨⟨?_, rfl⟩, ?_⟩ | fail)); all_goals (first | (show some (SV.v (AV.c (Value.int .i64 (IntKind.i64.wrap _)))) = _; rw [inc (by omega)]; try rfl) | rfl)), ⟨_, rfl⟩, rfl⟩⟩
      intro j y hj hy
      rcases Nat.lt_or_ge j i with h9 | h9
      · exact hall j y h9 hy
      · have : j = i := by omega
        subst this
        rw [hx] at hy; cases hy; exact h2
  · rw [nmA_len] at h1
    have hil : i = l.length := by omega
    show AV.c _ = _
    rw [idxB_none fun x hx => by
      obtain ⟨j, hj⟩ := List.mem_iff_getElem?.1 hx
      exact hall j x (by have := get_lt hj; omega) hj]
    rfl

/-- the type of a name -/
def kfield (t : KT) (s : ByteArray) : Option KT := (idxB t.names s 0).bind fun i => t.l[i]?

def ptrO : Option KT → AV
  | some t => .ptr (kpO t)
  | none => .ptr none

theorem field_t (t : KT) (s : ByteArray) (h1 : t.names.length ≤ t.l.length) (h2 : t.names.length ≤ 4000000) : APure Tryz.prog 36 [kp t, .c (.string s)] (fun r => r = .tup [ptrO (kfield t s), .c (.bool (kfield t s).isSome)]) := by
  obtain ⟨f, l, ns, lo⟩ := t
  simp only [KT.names, KT.l] at h1 h2
  refine apure_of hTS Tryz.func36 (by kernel_rfl) rfl rfl rfl ?_
  repeat' (first | refine bsplit_t (by first | with_reducible assumption | with_reducible rfl | with_reducible exact Bool.not_true | with_reducible exact Bool.not_false) ?_ | refine bsplit_f (by first | with_reducible assumption | with_reducible rfl | with_reducible exact Bool.not_true | with_reducible exact Bool.not_false) ?_ | fail)
  refine call_pure (index_t ns s h2) rfl ?_
  rintro _ rfl
  cases hi : idxB ns s 0 with
  | none =>
    refine bsplit_t (by decide) ?_
    show AV.tup _ = _
    simp only [kfield, KT.names, hi]; rfl
  | some i =>
    have hlt : i < ns.length := by
      have key : ∀ (l : List ByteArray) (k i : Nat), idxB l s k = some i → i < k + l.length := by
        intro l
        induction l with
        | nil => intro k i h; cases h
        | cons x l ih =>
          intro k i h
          simp only [idxB] at h
          split at h
          · cases h; simp
          · have := ih _ _ h; simp; omega
      have := key ns 0 i hi
      omega
    obtain ⟨x, hx⟩ : ∃ x, l[i]? = some x := ⟨_, List.getElem?_eq_getElem (by omega)⟩
    refine bsplit_f (decide_eq_false (by show ¬ ((i : Nat) : Int) < 0; omega)) ?_
    refine elev (Int.natCast_nonneg _) [AV.ptr (kpO x)] (kpL_get _ _ _ hx) ?_
    show AV.tup _ = _
    simp only [kfield, KT.names, KT.l, hi, Option.bind_some, hx]; rfl

def holdsK (f : Nat) : Int := if f < 5 then 0 else if f = 6 ∨ f = 8 then 7 else 6

theorem holds_t (t : KT) : APure Tryz.prog 8 [kp t] (fun r => r = .c (.int .i64 (holdsK t.form))) := by
  obtain ⟨f, l, ns, lo⟩ := t
  refine apure_of hTS Tryz.func8 (by kernel_rfl) rfl rfl rfl ?_
  repeat' (first | refine bsplit_t (by first | with_reducible assumption | with_reducible rfl | with_reducible exact Bool.not_true | with_reducible exact Bool.not_false) ?_ | refine bsplit_f (by first | with_reducible assumption | with_reducible rfl | with_reducible exact Bool.not_true | with_reducible exact Bool.not_false) ?_ | fail)
  refine bsplit_d (fun h1 _ => ?_) (fun h1 _ => ?_)
  · show AV.c _ = _
    have : f < 5 := by omega
    show _ = AV.c (.int .i64 (holdsK f))
    rw [show holdsK f = 0 from if_pos this]
  · have h5 : ¬ f < 5 := by omega
    refine bsplit_d (fun h2 _ => ?_) (fun h2 _ => ?_)
    · repeat' (first | refine bsplit_t (by first | with_reducible assumption | with_reducible rfl | with_reducible exact Bool.not_true | with_reducible exact Bool.not_false) ?_ | refine bsplit_f (by first | with_reducible assumption | with_reducible rfl | with_reducible exact Bool.not_true | with_reducible exact Bool.not_false) ?_ | fail)
      show AV.c _ = _
      have : f = 6 := by omega
      show _ = AV.c (.int .i64 (holdsK f))
      rw [this]; rfl
    · repeat' (first | refine bsplit_t (by first | with_reducible assumption | with_reducible rfl | with_reducible exact Bool.not_true | with_reducible exact Bool.not_false) ?_ | refine bsplit_f (by first | with_reducible assumption | with_reducible rfl | with_reducible exact Bool.not_true | with_reducible exact Bool.not_false) ?_ | fail)
      refine bsplit_d (fun h3 _ => ?_) (fun h3 _ => ?_)
      · show AV.c _ = _
        have : f = 8 := by omega
        show _ = AV.c (.int .i64 (holdsK f))
        rw [this]; rfl
      · show AV.c _ = _
        have h6 : ¬ (f = 6 ∨ f = 8) := by omega
        show _ = AV.c (.int .i64 (holdsK f))
        rw [show holdsK f = 6 from (if_neg h5).trans (if_neg h6)]

theorem holds_n : APure Tryz.prog 8 [.ptr none] (fun r => r = .c (.int .i64 0)) := by
  refine apure_of hTS Tryz.func8 (by kernel_rfl) rfl rfl rfl ?_
  repeat' (first | refine bsplit_t (by first | with_reducible assumption | with_reducible rfl | with_reducible exact Bool.not_true | with_reducible exact Bool.not_false) ?_ | refine bsplit_f (by first | with_reducible assumption | with_reducible rfl | with_reducible exact Bool.not_true | with_reducible exact Bool.not_false) ?_ | fail)
  show AV.c _ = _
  rfl

end Go.AV0
/- kind: depth, what is missing, plain types. -/
namespace Go.AV0
open Go.Proofs

mutual
def kDeep : KT → Nat
  | .mk _ l _ _ => kDeepL l + 1
def kDeepL : List KT → Nat
  | [] => 0
  | t :: l => max (kDeep t) (kDeepL l)
end

theorem kDeepL_app : ∀ (l : List KT) (x : KT), kDeepL (l ++ [x]) = max (kDeepL l) (kDeep x)
  | [], x => by simp [kDeepL]
  | t :: l, x => by simp only [List.cons_append, kDeepL, kDeepL_app l x]; omega

theorem kDeepL_mem : ∀ {l : List KT} {x : KT}, x ∈ l → kDeep x ≤ kDeepL l
  | t :: l, x, h => by
    simp only [kDeepL]
    rcases List.mem_cons.1 h with rfl | h
    · omega
    · have := kDeepL_mem h; omega

/-- rising names -/
def rises : List ByteArray → Prop
  | [] => True
  | x :: l => (∀ y ∈ l, x.data.toList < y.data.toList) ∧ rises l

theorem rises_nodup : ∀ {l : List ByteArray}, rises l → l.Nodup
  | [], _ => List.nodup_nil
  | x :: l, h => by
    refine List.nodup_cons.2 ⟨fun hx => ?_, rises_nodup h.2⟩
    exact List.lt_irrefl _ (h.1 x hx)

mutual
/-- what the reader makes -/
def wfK : KT → Prop
  | .mk f l ns lo => f ≤ 8 ∧ l.length ≤ 16 ∧ (f < 5 → l = []) ∧ (f = 5 ∨ f = 6 → l.length = 1) ∧ (f = 8 → ns.length = l.length) ∧ (f ≠ 8 → ns = []) ∧ lo.length = ns.length ∧ (∀ s ∈ ns, s.size ≤ 20) ∧ rises ns ∧ wfL l
def wfL : List KT → Prop
  | [] => True
  | t :: l => wfK t ∧ wfL l
end

theorem wfL_mem : ∀ {l : List KT} {x : KT}, wfL l → x ∈ l → wfK x
  | t :: l, x, h, hx => by
    simp only [wfL] at h
    rcases List.mem_cons.1 hx with rfl | hx
    · exact h.1
    · exact wfL_mem h.2 hx

theorem wfL_app : ∀ {l : List KT} {x : KT}, wfL l → wfK x → wfL (l ++ [x])
  | [], x, _, hx => by simp [wfL, hx]
  | t :: l, x, h, hx => by
    simp only [wfL] at h
    simp only [List.cons_append, wfL]; exact ⟨h.1, wfL_app h.2 hx⟩

theorem deep_t : ∀ (t : KT), wfK t → kDeep t ≤ 4000000 → APure Tryz.prog 17 [kp t] (fun r => r = .c (.int .i64 (kDeep t : Int))) := by
  intro t
  induction t using KT.ind with
  | _ f l ns lo ih =>
  intro hwf hd
  have hd : kDeepL l + 1 ≤ 4000000 := hd
  simp only [wfK] at hwf
  obtain ⟨_, hl16, _, _, _, _, _, _, _, hwl⟩ := hwf
  refine apure_of hTS Tryz.func17 (by kernel_rfl) rfl rfl rfl ?_
  repeat' (first | refine bsplit_t (by first | with_reducible assumption | with_reducible rfl | with_reducible exact Bool.not_true | with_reducible exact Bool.not_false) ?_ | refine bsplit_f (by first | with_reducible assumption | with_reducible rfl | with_reducible exact Bool.not_true | with_reducible exact Bool.not_false) ?_ | fail)
  refine loop_on hTS (X := Nat) (fun i => i ≤ l.length)
    (fun i => ⟨[(3, .v (.c (.int .i64 (kDeepL (l.take i) : Int)))), (11, .v (.sl (kpL l))), (12, .v (.c (.int .i64 ((kpL l).length : Int)))), (13, .v (.c (.int .i64 (i : Int))))], []⟩)
    (fun _ => []) (fun i => l.length - i) 0 (Nat.zero_le _) ⟨rfl, rfl, (by (repeat' (first | exact trivial | refine ⟨⟨?_, rfl⟩, ?_⟩ | fail)); all_goals (first | (show some (SV.v (AV.c (Value.int .i64 (IntKind.i64.wrap _)))) = _; rw [inc (by omega)]; try rfl) | rfl)), ⟨_, rfl⟩, rfl⟩ ?_
  intro i hi
  refine bsplit_d (fun h1 _ => ?_) (fun h1 _ => ?_)
  · rw [kpL_len] at h1
    obtain ⟨x, hx⟩ : ∃ x, l[i]? = some x := ⟨_, List.getElem?_eq_getElem (by omega)⟩
    have hmem := List.mem_of_getElem? hx
    have hx1 := kDeepL_mem hmem
    refine elev (Int.natCast_nonneg _) [AV.ptr (kpO x)] (kpL_get _ _ _ hx) ?_
    refine call_pure (ih x hmem (wfL_mem hwl hmem) (by omega)) rfl ?_
    rintro _ rfl
    have hmax : max (kDeepL (l.take i) : Int) (kDeep x : Int) = (kDeepL (l.take (i + 1)) : Int) := by rw [take_succ hx, kDeepL_app]; omega
    refine ⟨i + 1, by omega, (by dsimp only; omega), ⟨rfl, rfl, ⟨⟨congrArg (fun x => some (SV.v (AV.c (.int .i64 x)))) hmax, rfl⟩, ⟨rfl, rfl⟩, ⟨rfl, rfl⟩, ⟨congrArg (fun x => some (SV.v (AV.c (.int .i64 x)))) (inc (k := i) (by omega)), rfl⟩, trivial⟩, ⟨[], rfl⟩, rfl⟩⟩
  · rw [kpL_len] at h1
    have hil : i = l.length := by omega
    subst hil
    show AV.c (.int .i64 (IntKind.i64.wrap ((kDeepL (l.take l.length) : Int) + 1))) = _
    rw [List.take_length, inc (by omega)]; rfl

/-- the names that a map hasn't, and must have -/
def missK (v : VT) : List ByteArray → List Bool → List ByteArray
  | s :: ns, q :: lo => if (vAt v s).isSome = true ∨ q = true then missK v ns lo else s :: missK v ns lo
  | _, _ => []

theorem missK_snoc (v : VT) (s : ByteArray) (q : Bool) : ∀ (ns : List ByteArray) (lo : List Bool), ns.length = lo.length → missK v (ns ++ [s]) (lo ++ [q]) = missK v ns lo ++ (if (vAt v s).isSome = true ∨ q = true then [] else [s])
  | [], [], _ => by simp [missK]
  | n :: ns, o :: lo, h => by
    simp only [List.cons_append, missK]
    rw [missK_snoc v s q ns lo (by simpa using h)]
    split <;> simp
  | [], _ :: _, h => by simp at h
  | _ :: _, [], h => by simp at h

set_option maxRecDepth 20000 in
theorem missing_t (t : KT) (v : VT) (h1 : t.names.length = t.loose.length) (h2 : t.names.length ≤ 4000000) : APure Tryz.prog 12 [kp t, vtA v] (fun r => r = .sl (nmA (missK v t.names t.loose))) := by
  obtain ⟨f, l, ns, lo⟩ := t
  simp only [KT.names, KT.loose] at h1 h2 ⊢
  refine apure_of hTS Tryz.func12 (by kernel_rfl) rfl rfl rfl ?_
  repeat' (first | refine bsplit_t (by first | with_reducible assumption | with_reducible rfl | with_reducible exact Bool.not_true | with_reducible exact Bool.not_false) ?_ | refine bsplit_f (by first | with_reducible assumption | with_reducible rfl | with_reducible exact Bool.not_true | with_reducible exact Bool.not_false) ?_ | fail)
  refine loop_own_t 5 9 1 rfl ?_
  refine loop_on hTS (X := Nat) (fun i => i ≤ ns.length)
    (fun i => ⟨[(0, .v (kp (.mk f l ns lo))), (3, .ref 0 0), (5, .ms 1), (15, .v (.sl (nmA ns))), (16, .v (.c (.int .i64 ((nmA ns).length : Int)))), (17, .v (.c (.int .i64 (i : Int))))], []⟩)
    (fun i => [.cells [.v (.ifc (vtO v))], .arr 9 1 (nmA (missK v (ns.take i) (lo.take i)))]) (fun i => ns.length - i) 0 (Nat.zero_le _) ⟨rfl, rfl, (by (repeat' (first | exact trivial | refine ⟨⟨?_, rfl⟩, ?_⟩ | fail)); all_goals (first | (show some (SV.v (AV.c (Value.int .i64 (IntKind.i64.wrap _)))) = _; rw [inc (by omega)]; try rfl) | rfl)), ⟨_, rfl⟩, rfl⟩ ?_
  intro i hi
  have hml : (missK v (ns.take i) (lo.take i)).length ≤ 4000000 := by
    have key : ∀ (ns : List ByteArray) (lo : List Bool), (missK v ns lo).length ≤ ns.length := by
      intro ns
      induction ns with
      | nil => intro lo; simp [missK]
      | cons s ns ih =>
        intro lo
        cases lo with
        | nil => simp [missK]
        | cons q lo => simp only [missK]; have := ih lo; split <;> simp <;> omega
    have := key (ns.take i) (lo.take i)
    simp at this; omega
  refine bsplit_d (fun h3 _ => ?_) (fun h3 _ => ?_)
  · rw [nmA_len] at h3
    obtain ⟨s, hs⟩ : ∃ x, ns[i]? = some x := ⟨_, List.getElem?_eq_getElem (by omega)⟩
    obtain ⟨q, hq⟩ : ∃ x, lo[i]? = some x := ⟨_, List.getElem?_eq_getElem (by omega)⟩
    have hsn := missK_snoc v s q (ns.take i) (lo.take i) (by simp; omega)
    rw [← take_succ hs, ← take_succ hq] at hsn
    refine elev (Int.natCast_nonneg _) [AV.c (.string s)] (nmA_get _ _ _ hs) ?_
    refine call_pure (at_v v s) rfl ?_
    rintro _ rfl
    cases ha : (vAt v s).isSome with
    | true =>
      repeat' (first | refine bsplit_t (by first | with_reducible assumption | with_reducible rfl | with_reducible exact Bool.not_true | with_reducible exact Bool.not_false) ?_ | refine bsplit_f (by first | with_reducible assumption | with_reducible rfl | with_reducible exact Bool.not_true | with_reducible exact Bool.not_false) ?_ | fail)
      refine ⟨i + 1, by omega, (by dsimp only; omega), ⟨rfl, rfl, ⟨⟨rfl, rfl⟩, ⟨rfl, rfl⟩, ⟨rfl, rfl⟩, ⟨rfl, rfl⟩, ⟨rfl, rfl⟩, ⟨congrArg (fun x => some (SV.v (AV.c (.int .i64 x)))) (inc (k := i) (by omega)), rfl⟩, trivial⟩, ⟨_, by
        show (_ : List SO) = [.cells [.v (.ifc (vtO v))], .arr 9 1 (nmA (missK v (ns.take (i + 1)) (lo.take (i + 1))))] ++ _
        rw [(hsn.trans (by rw [if_pos (.inl ha)]; simp) : _ = missK v (ns.take i) (lo.take i))]; rfl⟩, rfl⟩⟩
    | false =>
      repeat' (first | refine bsplit_t (by first | with_reducible assumption | with_reducible rfl | with_reducible exact Bool.not_true | with_reducible exact Bool.not_false) ?_ | refine bsplit_f (by first | with_reducible assumption | with_reducible rfl | with_reducible exact Bool.not_true | with_reducible exact Bool.not_false) ?_ | fail)
      refine elev (Int.natCast_nonneg _) [AV.c (.bool q)] (boA_get _ _ _ hq) ?_
      repeat' (first | refine bsplit_t (by first | with_reducible assumption | with_reducible rfl | with_reducible exact Bool.not_true | with_reducible exact Bool.not_false) ?_ | refine bsplit_f (by first | with_reducible assumption | with_reducible rfl | with_reducible exact Bool.not_true | with_reducible exact Bool.not_false) ?_ | fail)
      cases q with
      | true =>
        repeat' (first | refine bsplit_t (by first | with_reducible assumption | with_reducible rfl | with_reducible exact Bool.not_true | with_reducible exact Bool.not_false) ?_ | refine bsplit_f (by first | with_reducible assumption | with_reducible rfl | with_reducible exact Bool.not_true | with_reducible exact Bool.not_false) ?_ | fail)
        refine ⟨i + 1, by omega, (by dsimp only; omega), ⟨rfl, rfl, ⟨⟨rfl, rfl⟩, ⟨rfl, rfl⟩, ⟨rfl, rfl⟩, ⟨rfl, rfl⟩, ⟨rfl, rfl⟩, ⟨congrArg (fun x => some (SV.v (AV.c (.int .i64 x)))) (inc (k := i) (by omega)), rfl⟩, trivial⟩, ⟨_, by
          show (_ : List SO) = [.cells [.v (.ifc (vtO v))], .arr 9 1 (nmA (missK v (ns.take (i + 1)) (lo.take (i + 1))))] ++ _
          rw [(hsn.trans (by simp) : _ = missK v (ns.take i) (lo.take i))]; rfl⟩, rfl⟩⟩
      | false =>
        repeat' (first | refine bsplit_t (by first | with_reducible assumption | with_reducible rfl | with_reducible exact Bool.not_true | with_reducible exact Bool.not_false) ?_ | refine bsplit_f (by first | with_reducible assumption | with_reducible rfl | with_reducible exact Bool.not_true | with_reducible exact Bool.not_false) ?_ | fail)
        refine side ⟨nmA_one [s], ?_⟩ ?_
        · rw [nmA_len]; show ((missK v (ns.take i) (lo.take i)).length + 1) * 17 ≤ 70368744177664; omega
        refine ⟨i + 1, by omega, (by dsimp only; omega), ⟨rfl, rfl, ⟨⟨rfl, rfl⟩, ⟨rfl, rfl⟩, ⟨rfl, rfl⟩, ⟨rfl, rfl⟩, ⟨rfl, rfl⟩, ⟨congrArg (fun x => some (SV.v (AV.c (.int .i64 x)))) (inc (k := i) (by omega)), rfl⟩, trivial⟩, ⟨_, by
          show (_ : List SO) = [.cells [.v (.ifc (vtO v))], .arr 9 1 (nmA (missK v (ns.take (i + 1)) (lo.take (i + 1))))] ++ _
          rw [hsn, if_neg (by simp [ha]), nmA_app]; rfl⟩, rfl⟩⟩
  · rw [nmA_len] at h3
    have hil : i = ns.length := by omega
    subst hil
    show AV.sl (nmA (missK v (ns.take ns.length) (lo.take ns.length))) = _
    rw [List.take_length, h1, List.take_length]

end Go.AV0
/- kind: where a value is wrong: the answer; steps. -/
namespace Go.AV0
open Go.Proofs

abbrev StepV := ByteArray × Int
def stA (s : StepV) : List AV := [.c (.string s.1), .c (.int .i64 s.2)]
def stsA (l : List StepV) : List (List AV) := l.map stA
def noBytes : ByteArray := ⟨#[]⟩

theorem stsA_len (l : List StepV) : (stsA l).length = l.length := by simp [stsA]
theorem stsA_app (l : List StepV) (x : StepV) : stsA (l ++ [x]) = stsA l ++ [[.c (.string x.1), .c (.int .i64 x.2)]] := by simp [stsA, stA]
theorem stsA_get (l : List StepV) (i : Nat) (x : StepV) (h : l[i]? = some x) : (stsA l)[i]? = some [.c (.string x.1), .c (.int .i64 x.2)] := by
  show (l.map stA)[i]? = _
  rw [List.getElem?_map, h]; rfl
theorem stsA_one (l : List StepV) : ElOk 2 (stsA l) := by
  intro y hy
  obtain ⟨x, _, rfl⟩ := List.mem_map.1 hy
  exact ⟨rfl, rfl⟩

def keyS (s : ByteArray) : StepV := (s, -1)
def placeS (i : Nat) : StepV := (noBytes, (i : Int))

def isNearV (v : VT) : Bool :=
  match v with
  | .int n => isNear n
  | _ => false

def plainB (f : Nat) (v : VT) : Bool :=
  if f = 1 then decide (kindV v = 2) else if f = 2 then decide (kindV v = 3) else if f = 3 then decide (kindV v = 4) || isNearV v else if f = 4 then decide (kindV v = 5) else true

def innerF (fs : List (VT → Option (List StepV))) : Nat → List VT → List StepV → Option (List StepV)
  | i, v :: vs, s :: ss => match fs[min i (fs.length - 1)]? with
    | some f => match f v with
      | some p => some (s :: p)
      | none => innerF fs (i + 1) vs ss
    | none => some []
  | _, _, _ => none

def objF (fs : List (VT → Option (List StepV))) (ns : List ByteArray) : List ByteArray → List VT → Option (List StepV)
  | k :: ks, v :: vs => match (idxB ns k 0).bind fun i => fs[i]? with
    | none => some [keyS k]
    | some f => match f v with
      | some p => some (keyS k :: p)
      | none => objF fs ns ks vs
  | _, _ => none

mutual
/-- where, first, a type doesn't take a value -/
def wrongK : KT → VT → Option (List StepV)
  | .mk f l ns lo, v =>
    if kindV v = 0 ∨ kindV v = 1 then none
    else if f < 5 then (if plainB f v = true then none else some [])
    else if kindV v ≠ holdsK f then some []
    else if f = 8 then match objF (wrongF l) ns (vkeys v) (vitems v) with
      | some p => some p
      | none => match missK v ns lo with
        | s :: _ => some [keyS s]
        | [] => none
    else if f = 6 then innerF (wrongF l) 0 (vitems v) ((vkeys v).map keyS)
    else if f = 7 ∧ (vitems v).length ≠ l.length then some []
    else innerF (wrongF l) 0 (vitems v) ((List.range (vitems v).length).map placeS)
def wrongF : List KT → List (VT → Option (List StepV))
  | [] => []
  | t :: l => wrongK t :: wrongF l
end

theorem wrongF_get : ∀ {l : List KT} {i : Nat} {x : KT}, l[i]? = some x → (wrongF l)[i]? = some (wrongK x)
  | t :: l, 0, x, h => by simp at h; subst h; simp [wrongF]
  | t :: l, i + 1, x, h => by simp only [List.getElem?_cons_succ] at h; simpa [wrongF] using wrongF_get h
theorem wrongF_len : ∀ (l : List KT), (wrongF l).length = l.length
  | [] => rfl
  | t :: l => by simp [wrongF, wrongF_len l]

theorem key_k (s : ByteArray) : APure Tryz.prog 69 [.c (.string s)] (fun r => r = .agg [.c (.string s), .c (.int .i64 (-1))]) := by
  refine apure_of hTS Tryz.func69 (by kernel_rfl) rfl rfl rfl ?_
  show AV.agg _ = _
  rfl

theorem step_k (i : Int) : APure Tryz.prog 72 [.c (.int .i64 i)] (fun r => r = .agg [.c (.string noBytes), .c (.int .i64 i)]) := by
  refine apure_of hTS Tryz.func72 (by kernel_rfl) rfl rfl rfl ?_
  show AV.agg _ = _
  rfl

theorem keysT_k (l : List ByteArray) (hl : l.length ≤ 4000000) : APure Tryz.prog 57 [.sl (nmA l)] (fun r => r = .sl (stsA (l.map keyS))) := by
  refine apure_of hTS Tryz.func57 (by kernel_rfl) rfl rfl rfl ?_
  refine loop_own_t 3 124 2 rfl ?_
  refine loop_on hTS (X := Nat) (fun i => i ≤ l.length)
    (fun i => ⟨[(3, .ms 0), (6, .v (.sl (nmA l))), (7, .v (.c (.int .i64 ((nmA l).length : Int)))), (8, .v (.c (.int .i64 (i : Int))))], []⟩)
    (fun i => [.arr 124 2 (stsA ((l.take i).map keyS))]) (fun i => l.length - i) 0 (Nat.zero_le _) ⟨rfl, rfl, (by (repeat' (first | exact trivial | refine ⟨⟨?_, rfl⟩, ?_⟩ | fail)); all_goals (first | (show some (SV.v (AV.c (Value.int .i64 (IntKind.i64.wrap _)))) = _; rw [inc (by omega)]; try rfl) | rfl)), ⟨_, rfl⟩, rfl⟩ ?_
  intro i hi
  refine bsplit_d (fun h1 _ => ?_) (fun h1 _ => ?_)
  · rw [nmA_len] at h1
    obtain ⟨k, hk⟩ : ∃ k, l[i]? = some k := ⟨_, List.getElem?_eq_getElem (by omega)⟩
    refine elev (Int.natCast_nonneg _) [AV.c (.string k)] (nmA_get _ _ _ hk) ?_
    refine call_pure (key_k k) rfl ?_
    rintro _ rfl
    refine side ⟨stsA_one [keyS k], ?_⟩ ?_
    · rw [stsA_len]; simp only [List.length_map, List.length_take]; show (min i l.length + 1) * 25 ≤ 70368744177664; omega
    refine ⟨i + 1, by omega, (by dsimp only; omega), ⟨rfl, rfl, ⟨⟨rfl, rfl⟩, ⟨rfl, rfl⟩, ⟨rfl, rfl⟩, ⟨congrArg (fun x => some (SV.v (AV.c (.int .i64 x)))) (inc (k := i) (by omega)), rfl⟩, trivial⟩, ⟨_, by
      show (_ : List SO) = [.arr 124 2 (stsA ((l.take (i + 1)).map keyS))] ++ _
      rw [take_succ hk, List.map_append, List.map_singleton, stsA_app]; rfl⟩, rfl⟩⟩
  · rw [nmA_len] at h1
    have hil : i = l.length := by omega
    subst hil
    show AV.sl (stsA ((l.take l.length).map keyS)) = _
    rw [List.take_length]

theorem places_k (n : Nat) (hn : n ≤ 4000000) : APure Tryz.prog 59 [.c (.int .i64 (n : Int))] (fun r => r = .sl (stsA ((List.range n).map placeS))) := by
  refine apure_of hTS Tryz.func59 (by kernel_rfl) rfl rfl rfl ?_
  refine loop_own_t 3 124 2 rfl ?_
  refine loop_on hTS (X := Nat) (fun i => i ≤ n)
    (fun i => ⟨[(3, .ms 0), (5, .v (.c (.int .i64 (n : Int)))), (6, .v (.c (.int .i64 (i : Int))))], []⟩)
    (fun i => [.arr 124 2 (stsA ((List.range i).map placeS))]) (fun i => n - i) 0 (Nat.zero_le _) ⟨rfl, rfl, (by (repeat' (first | exact trivial | refine ⟨⟨?_, rfl⟩, ?_⟩ | fail)); all_goals (first | (show some (SV.v (AV.c (Value.int .i64 (IntKind.i64.wrap _)))) = _; rw [inc (by omega)]; try rfl) | rfl)), ⟨_, rfl⟩, rfl⟩ ?_
  intro i hi
  refine bsplit_d (fun h1 _ => ?_) (fun h1 _ => ?_)
  · refine call_pure (step_k (i : Int)) rfl ?_
    rintro _ rfl
    refine side ⟨stsA_one [placeS i], ?_⟩ ?_
    · rw [stsA_len]; simp only [List.length_map, List.length_range]; show (i + 1) * 25 ≤ 70368744177664; omega
    refine ⟨i + 1, by omega, (by dsimp only; omega), ⟨rfl, rfl, ⟨⟨rfl, rfl⟩, ⟨rfl, rfl⟩, ⟨congrArg (fun x => some (SV.v (AV.c (.int .i64 x)))) (inc (k := i) (by omega)), rfl⟩, trivial⟩, ⟨_, by
      show (_ : List SO) = [.arr 124 2 (stsA ((List.range (i + 1)).map placeS))] ++ _
      rw [List.range_succ, List.map_append, List.map_singleton, stsA_app]; rfl⟩, rfl⟩⟩
  · have hil : i = n := by omega
    subst hil
    show AV.sl (stsA ((List.range i).map placeS)) = _
    rfl

theorem near_k (v : VT) : APure Tryz.prog 67 [vtA v] (fun r => r = .c (.bool (isNearV v))) := by
  have h0 : isNear 0 = true := by decide
  cases v
  case int n =>
    refine apure_of hTS Tryz.func67 (by kernel_rfl) rfl rfl rfl ?_
    refine call_pure (asInt_v (.int n)) rfl ?_
    rintro _ rfl
    refine call_pure (point_v n 0) rfl ?_
    rintro _ (⟨h1, rfl⟩ | ⟨h1, rfl⟩)
    · repeat' (first | refine bsplit_t rfl ?_ | fail)
      show AV.c _ = _
      rw [h0, Bool.and_true] at h1
      show _ = AV.c (.bool (isNear n))
      rw [h1]; rfl
    · repeat' (first | refine bsplit_t rfl ?_ | fail)
      show AV.c _ = _
      rw [h0, Bool.and_true] at h1
      show _ = AV.c (.bool (isNear n))
      rw [h1]; rfl
  all_goals
    refine apure_of hTS Tryz.func67 (by kernel_rfl) rfl rfl rfl ?_
    refine call_pure (asInt_v _) rfl ?_
    rintro _ rfl
    refine call_pure (point_v 0 0) rfl ?_
    rintro _ (⟨h1, rfl⟩ | ⟨h1, rfl⟩)
    · repeat' (first | refine bsplit_f rfl ?_ | fail)
      show AV.c _ = _
      rfl
    · repeat' (first | refine bsplit_f rfl ?_ | fail)
      show AV.c _ = _
      rfl

end Go.AV0
/- kind: where a value is wrong. -/
namespace Go.AV0
open Go.Proofs

theorem plain_t (t : KT) (v : VT) : APure Tryz.prog 53 [kp t, vtA v] (fun r => r = .c (.bool (plainB t.form v))) := by
  obtain ⟨f, l, ns, lo⟩ := t
  show APure _ _ _ (fun r => r = .c (.bool (plainB f v)))
  refine apure_of hTS Tryz.func53 (by kernel_rfl) rfl rfl rfl ?_
  refine call_pure (kind_v v) rfl ?_
  rintro _ rfl
  refine bsplit_d (fun h1 _ => ?_) (fun h1 _ => ?_)
  · have h1 : f = 1 := by omega
    subst h1
    show AV.c _ = _
    rfl
  refine bsplit_d (fun h2 _ => ?_) (fun h2 _ => ?_)
  · have h2 : f = 2 := by omega
    subst h2
    show AV.c _ = _
    rfl
  refine bsplit_d (fun h3 _ => ?_) (fun h3 _ => ?_)
  · have h3 : f = 3 := by omega
    subst h3
    refine bsplit_d (fun h4 e4 => ?_) (fun h4 e4 => ?_)
    · repeat' (first | refine bsplit_t (by first | with_reducible assumption | with_reducible rfl | with_reducible exact Bool.not_true | with_reducible exact Bool.not_false) ?_ | refine bsplit_f (by first | with_reducible assumption | with_reducible rfl | with_reducible exact Bool.not_true | with_reducible exact Bool.not_false) ?_ | fail)
      show AV.c _ = AV.c (.bool (decide (kindV v = 4) || isNearV v))
      rw [e4]; rfl
    · repeat' (first | refine bsplit_t (by first | with_reducible assumption | with_reducible rfl | with_reducible exact Bool.not_true | with_reducible exact Bool.not_false) ?_ | refine bsplit_f (by first | with_reducible assumption | with_reducible rfl | with_reducible exact Bool.not_true | with_reducible exact Bool.not_false) ?_ | fail)
      refine call_pure (near_k v) rfl ?_
      rintro _ rfl
      repeat' (first | refine bsplit_t (by first | with_reducible assumption | with_reducible rfl | with_reducible exact Bool.not_true | with_reducible exact Bool.not_false) ?_ | refine bsplit_f (by first | with_reducible assumption | with_reducible rfl | with_reducible exact Bool.not_true | with_reducible exact Bool.not_false) ?_ | fail)
      show AV.c _ = AV.c (.bool (decide (kindV v = 4) || isNearV v))
      rw [e4]; rfl
  have hpl : plainB f v = if f = 4 then decide (kindV v = 5) else true := by
    unfold plainB
    rw [if_neg (by omega), if_neg (by omega), if_neg (by omega)]
  rw [hpl]
  refine bsplit_d (fun h4 _ => ?_) (fun h4 _ => ?_)
  · have h4 : f = 4 := by omega
    rw [if_pos h4]
    show AV.c _ = _
    rfl
  · rw [if_neg (by omega)]
    show AV.c _ = _
    rfl

def wrA : Option (List StepV) → AV
  | none => .tup [.sl [], .c (.bool false)]
  | some p => .tup [.sl (stsA p), .c (.bool true)]

/-- what is known of the types in a list -/
def WrongC (t : KT) : Prop := ∀ v, okV v → APure Tryz.prog 37 [kp t, vtA v] (fun r => r = wrA (wrongK t v))

set_option maxRecDepth 20000 in
theorem inner_t (l : List KT) (vs : List VT) (ss : List StepV) (hih : ∀ x ∈ l, WrongC x) (hok : ∀ v ∈ vs, okV v) (hlen : vs.length = ss.length) (hne : vs ≠ [] → l ≠ []) (hl : l.length ≤ 4000000) (hvl : vs.length ≤ 4000000) (hpl : ∀ x ∈ l, ∀ v p, wrongK x v = some p → p.length ≤ 4000000) :
    APure Tryz.prog 56 [.sl (kpL l), .sl (vtL vs), .sl (stsA ss)] (fun r => r = wrA (innerF (wrongF l) 0 vs ss)) := by
  refine apure_of hTS Tryz.func56 (by kernel_rfl) rfl rfl rfl ?_
  refine loop_on hTS (X := Nat) (fun i => i ≤ vs.length ∧ innerF (wrongF l) 0 vs ss = innerF (wrongF l) i (vs.drop i) (ss.drop i))
    (fun i => ⟨[(0, .v (.sl (kpL l))), (2, .v (.sl (stsA ss))), (6, .v (.c (.slice none 0 0))), (7, .v (.c (.bool false))), (12, .v (.sl (vtL vs))), (13, .v (.c (.int .i64 ((vtL vs).length : Int)))), (14, .v (.c (.int .i64 (i : Int))))], []⟩)
    (fun i => []) (fun i => vs.length - i) 0 ⟨Nat.zero_le _, rfl⟩ ⟨rfl, rfl, (by (repeat' (first | exact trivial | refine ⟨⟨?_, rfl⟩, ?_⟩ | fail)); all_goals (first | (show some (SV.v (AV.c (Value.int .i64 (IntKind.i64.wrap _)))) = _; rw [inc (by omega)]; try rfl) | rfl)), ⟨_, rfl⟩, rfl⟩ ?_
  rintro i ⟨hi, hres⟩
  rw [hres]
  refine bsplit_d (fun h1 _ => ?_) (fun h1 _ => ?_)
  · rw [vtL_len] at h1
    have hlt : i < vs.length := by omega
    obtain ⟨v, hv⟩ : ∃ v, vs[i]? = some v := ⟨_, List.getElem?_eq_getElem hlt⟩
    obtain ⟨s, hs⟩ : ∃ s, ss[i]? = some s := ⟨_, List.getElem?_eq_getElem (by omega)⟩
    have hne' : l ≠ [] := hne (by intro e; rw [e] at hlt; simp at hlt)
    have hl0 : 0 < l.length := List.length_pos_iff.2 hne'
    obtain ⟨x, hx⟩ : ∃ x, l[min i (l.length - 1)]? = some x := ⟨_, List.getElem?_eq_getElem (by omega)⟩
    have hmem := List.mem_of_getElem? hx
    have hd1 : vs.drop i = v :: vs.drop (i + 1) := by
      rw [List.drop_eq_getElem_cons hlt]; congr
      rw [List.getElem?_eq_getElem hlt] at hv; exact Option.some.inj hv
    have hd2 : ss.drop i = s :: ss.drop (i + 1) := by
      have hlt2 : i < ss.length := by omega
      rw [List.drop_eq_getElem_cons hlt2]; congr
      rw [List.getElem?_eq_getElem hlt2] at hs; exact Option.some.inj hs
    have hstep : innerF (wrongF l) i (vs.drop i) (ss.drop i) = match wrongK x v with
        | some p => some (s :: p)
        | none => innerF (wrongF l) (i + 1) (vs.drop (i + 1)) (ss.drop (i + 1)) := by
      rw [hd1, hd2]
      simp only [innerF, wrongF_len, wrongF_get hx] <;> rfl
    have hmin : min (i : Int) (IntKind.i64.wrap (((kpL l).length : Int) - 1)) = ((min i (l.length - 1) : Nat) : Int) := by
      rw [kpL_len, wr (by omega) (by omega)]; omega
    refine elev (Int.natCast_nonneg _) [AV.ifc (vtO v)] (vtL_get _ _ _ hv) ?_
    refine draw_ev hTS (by kernel_rfl) (.pur 0 (.pur 1 (.pur 2 (.part [] [] (.take 3 (.pur 4 (.pur 5 (.pur 6 (.take 7 (.one 8 (.one 9 (.pur 10 (.pur 11 (.pur 12 (.pur 13 (.pur 14 .done)))))))))))))))) (by kernel_rfl) ?_
    refine elev (by rw [hmin]; exact Int.natCast_nonneg _) [AV.ptr (kpO x)] (by rw [hmin]; exact kpL_get _ _ _ hx) ?_
    refine call_pure (hih x hmem v (hok v (List.mem_of_getElem? hv))) rfl ?_
    rintro _ rfl
    rw [hstep]
    cases hw : wrongK x v with
    | some p =>
      simp only
      have hp := hpl x hmem v p hw
      repeat' (first | refine bsplit_t (by first | with_reducible assumption | with_reducible rfl | with_reducible exact Bool.not_true | with_reducible exact Bool.not_false) ?_ | refine bsplit_f (by first | with_reducible assumption | with_reducible rfl | with_reducible exact Bool.not_true | with_reducible exact Bool.not_false) ?_ | fail)
      refine elev (Int.natCast_nonneg _) [AV.c (.string s.1), .c (.int .i64 s.2)] (stsA_get _ _ _ hs) ?_
      refine side ⟨stsA_one p, ?_⟩ ?_
      · rw [stsA_len]; show (1 + p.length) * 25 ≤ 70368744177664; omega
      show AV.tup _ = _
      rfl
    | none =>
      simp only
      repeat' (first | refine bsplit_t (by first | with_reducible assumption | with_reducible rfl | with_reducible exact Bool.not_true | with_reducible exact Bool.not_false) ?_ | refine bsplit_f (by first | with_reducible assumption | with_reducible rfl | with_reducible exact Bool.not_true | with_reducible exact Bool.not_false) ?_ | fail)
      exact ⟨i + 1, ⟨by omega, rfl⟩, (by dsimp only; omega), ⟨rfl, rfl, (by (repeat' (first | exact trivial | refine ⟨⟨?_, rfl⟩, ?_⟩ | fail)); all_goals (first | (show some (SV.v (AV.c (Value.int .i64 (IntKind.i64.wrap _)))) = _; rw [inc (by omega)]; try rfl) | rfl)), ⟨_, rfl⟩, rfl⟩⟩
  · rw [vtL_len] at h1
    have hil : i = vs.length := by omega
    subst hil
    show AV.tup _ = _
    rw [List.drop_length]
    rfl

theorem idxB_lt : ∀ (l : List ByteArray) (s : ByteArray) (k i : Nat), idxB l s k = some i → k ≤ i ∧ i < k + l.length
  | [], s, k, i, h => by cases h
  | x :: l, s, k, i, h => by
    simp only [idxB] at h
    split at h
    · cases h; simp
    · have := idxB_lt l s _ _ h; simp; omega

set_option maxRecDepth 20000 in
theorem object_t (f : Nat) (l : List KT) (ns : List ByteArray) (lo : List Bool) (v : VT) (es : List (ByteArray × VT)) (hv : v = .map es) (hok : okV v) (hih : ∀ x ∈ l, WrongC x) (hoi : ∀ x ∈ vitems v, okV x) (hn1 : ns.length = l.length) (hn2 : ns.length = lo.length) (hl : l.length ≤ 4000000) (hpl : ∀ x ∈ l, ∀ v p, wrongK x v = some p → p.length ≤ 4000000) :
    APure Tryz.prog 55 [kp (.mk f l ns lo), vtA v] (fun r => r = wrA (match objF (wrongF l) ns (vkeys v) (vitems v) with
      | some p => some p
      | none => match missK v ns lo with
        | s :: _ => some [keyS s]
        | [] => none)) := by
  have hil : (vitems v).length = (vkeys v).length := by subst hv; simp [vitems, vkeys]
  have hkl : (vkeys v).length ≤ 4000000 := by
    subst hv
    simp only [okV] at hok
    show (skeys es).length ≤ _
    rw [(skeys_perm es).length_eq]; simpa using hok.1
  refine apure_of hTS Tryz.func55 (by kernel_rfl) rfl rfl rfl ?_
  refine call_pure (items_v v hok) rfl ?_
  rintro _ rfl
  refine call_pure (keys_v v hok) rfl ?_
  rintro _ rfl
  refine loop_on hTS (X := Nat) (fun i => i ≤ (vkeys v).length ∧ objF (wrongF l) ns (vkeys v) (vitems v) = objF (wrongF l) ns ((vkeys v).drop i) ((vitems v).drop i))
    (fun i => ⟨[(0, .v (kp (.mk f l ns lo))), (3, .ref 0 0), (4, .v (.c (.slice none 0 0))), (5, .v (.c (.bool false))), (6, .v (.sl (vtL (vitems v)))), (18, .v (.sl (nmA (vkeys v)))), (19, .v (.c (.int .i64 ((nmA (vkeys v)).length : Int)))), (20, .v (.c (.int .i64 (i : Int))))], []⟩)
    (fun i => [.cells [.v (.ifc (vtO v))]]) (fun i => (vkeys v).length - i) 0 ⟨Nat.zero_le _, rfl⟩ ⟨rfl, rfl, (by (repeat' (first | exact trivial | refine ⟨⟨?_, rfl⟩, ?_⟩ | fail)); all_goals (first | (show some (SV.v (AV.c (Value.int .i64 (IntKind.i64.wrap _)))) = _; rw [inc (by omega)]; try rfl) | rfl)), ⟨_, rfl⟩, rfl⟩ ?_
  rintro i ⟨hi, hres⟩
  rw [hres]
  refine bsplit_d (fun h1 _ => ?_) (fun h1 _ => ?_)
  · rw [nmA_len] at h1
    have hlt : i < (vkeys v).length := by omega
    have hlt2 : i < (vitems v).length := by omega
    obtain ⟨k, hk⟩ : ∃ k, (vkeys v)[i]? = some k := ⟨_, List.getElem?_eq_getElem hlt⟩
    obtain ⟨y, hy⟩ : ∃ y, (vitems v)[i]? = some y := ⟨_, List.getElem?_eq_getElem hlt2⟩
    have hd1 : (vkeys v).drop i = k :: (vkeys v).drop (i + 1) := by
      rw [List.drop_eq_getElem_cons hlt]; congr
      rw [List.getElem?_eq_getElem hlt] at hk; exact Option.some.inj hk
    have hd2 : (vitems v).drop i = y :: (vitems v).drop (i + 1) := by
      rw [List.drop_eq_getElem_cons hlt2]; congr
      rw [List.getElem?_eq_getElem hlt2] at hy; exact Option.some.inj hy
    rw [hd1, hd2]
    refine elev (Int.natCast_nonneg _) [AV.c (.string k)] (nmA_get _ _ _ hk) ?_
    refine call_pure (field_t (.mk f l ns lo) k (Nat.le_of_eq hn1) (by show ns.length ≤ _; omega)) rfl ?_
    rintro _ rfl
    cases hidx : idxB ns k 0 with
    | none =>
      have hkf : kfield (.mk f l ns lo) k = none := by simp [kfield, KT.names, hidx]
      rw [hkf]
      refine bsplit_t rfl ?_
      refine call_pure (key_k k) rfl ?_
      rintro _ rfl
      show AV.tup _ = _
      simp only [objF, hidx, Option.bind_none]; rfl
    | some j =>
      have hj := (idxB_lt ns k 0 j hidx).2
      obtain ⟨x, hx⟩ : ∃ x, l[j]? = some x := ⟨_, List.getElem?_eq_getElem (by omega)⟩
      have hmem := List.mem_of_getElem? hx
      have hkf : kfield (.mk f l ns lo) k = some x := by simp [kfield, KT.names, KT.l, hidx, hx]
      rw [hkf]
      have hstep : objF (wrongF l) ns (k :: (vkeys v).drop (i + 1)) (y :: (vitems v).drop (i + 1)) = match wrongK x y with
          | some p => some (keyS k :: p)
          | none => objF (wrongF l) ns ((vkeys v).drop (i + 1)) ((vitems v).drop (i + 1)) := by
        simp only [objF, hidx, Option.bind_some, wrongF_get hx] <;> rfl
      rw [hstep]
      refine bsplit_f rfl ?_
      refine elev (Int.natCast_nonneg _) [AV.ifc (vtO y)] (vtL_get _ _ _ hy) ?_
      refine call_pure (hih x hmem y (hoi y (List.mem_of_getElem? hy))) rfl ?_
      rintro _ rfl
      cases hw : wrongK x y with
      | some p =>
        have hp := hpl x hmem y p hw
        repeat' (first | refine bsplit_t (by first | with_reducible assumption | with_reducible rfl | with_reducible exact Bool.not_true | with_reducible exact Bool.not_false) ?_ | refine bsplit_f (by first | with_reducible assumption | with_reducible rfl | with_reducible exact Bool.not_true | with_reducible exact Bool.not_false) ?_ | fail)
        refine call_pure (key_k k) rfl ?_
        rintro _ rfl
        refine side ⟨stsA_one p, ?_⟩ ?_
        · rw [stsA_len]; show (1 + p.length) * 25 ≤ 70368744177664; omega
        show AV.tup _ = _
        rfl
      | none =>
        repeat' (first | refine bsplit_t (by first | with_reducible assumption | with_reducible rfl | with_reducible exact Bool.not_true | with_reducible exact Bool.not_false) ?_ | refine bsplit_f (by first | with_reducible assumption | with_reducible rfl | with_reducible exact Bool.not_true | with_reducible exact Bool.not_false) ?_ | fail)
        refine ⟨i + 1, ⟨by omega, ?_⟩, (by dsimp only; omega), ⟨rfl, rfl, (by (repeat' (first | exact trivial | refine ⟨⟨?_, rfl⟩, ?_⟩ | fail)); all_goals (first | (show some (SV.v (AV.c (Value.int .i64 (IntKind.i64.wrap _)))) = _; rw [inc (by omega)]; try rfl) | rfl)), ⟨_, rfl⟩, rfl⟩⟩
        rfl
  · rw [nmA_len] at h1
    have hil2 : i = (vkeys v).length := by omega
    rw [hil2, List.drop_length, show (vitems v).drop (vkeys v).length = [] by rw [← hil, List.drop_length]]
    have ho : objF (wrongF l) ns [] [] = none := rfl
    rw [ho]
    simp only
    refine call_pure (missing_t (.mk f l ns lo) v hn2 (by show ns.length ≤ _; omega)) rfl ?_
    rintro _ rfl
    cases hms : missK v ns lo with
    | cons s rest =>
      have hms' : missK v (KT.mk f l ns lo).names (KT.mk f l ns lo).loose = s :: rest := hms
      rw [hms']
      refine loop_on hTS (X := Nat) (fun i => i = 0)
        (fun i => ⟨[(4, .v (.c (.slice none 0 0))), (5, .v (.c (.bool false))), (54, .v (.sl (nmA (s :: rest)))), (55, .v (.c (.int .i64 ((nmA (s :: rest)).length : Int)))), (56, .v (.c (.int .i64 (i : Int))))], []⟩)
        (fun i => []) (fun i => 0) 0 rfl ⟨rfl, rfl, (by (repeat' (first | exact trivial | refine ⟨⟨?_, rfl⟩, ?_⟩ | fail)); all_goals (first | (show some (SV.v (AV.c (Value.int .i64 (IntKind.i64.wrap _)))) = _; rw [inc (by omega)]; try rfl) | rfl)), ⟨_, rfl⟩, rfl⟩ ?_
      rintro i rfl
      refine bsplit_t (decide_eq_true (by rw [nmA_len]; simp)) ?_
      refine elev (Int.natCast_nonneg _) [AV.c (.string s)] rfl ?_
      refine call_pure (key_k s) rfl ?_
      rintro _ rfl
      show AV.tup _ = _
      rfl
    | nil =>
      have hms' : missK v (KT.mk f l ns lo).names (KT.mk f l ns lo).loose = [] := hms
      rw [hms']
      refine loop_on hTS (X := Nat) (fun i => i = 0)
        (fun i => ⟨[(4, .v (.c (.slice none 0 0))), (5, .v (.c (.bool false))), (54, .v (.sl [])), (55, .v (.c (.int .i64 0))), (56, .v (.c (.int .i64 (i : Int))))], []⟩)
        (fun i => []) (fun i => 0) 0 rfl ⟨rfl, rfl, (by (repeat' (first | exact trivial | refine ⟨⟨?_, rfl⟩, ?_⟩ | fail)); all_goals (first | (show some (SV.v (AV.c (Value.int .i64 (IntKind.i64.wrap _)))) = _; rw [inc (by omega)]; try rfl) | rfl)), ⟨_, rfl⟩, rfl⟩ ?_
      rintro i rfl
      refine bsplit_f (by decide) ?_
      show AV.tup _ = _
      rfl

end Go.AV0
/- kind: Wrong, Takes. -/
namespace Go.AV0
open Go.Proofs

theorem innerF_len {fs : List (VT → Option (List StepV))} {B : Nat} (h : ∀ f ∈ fs, ∀ v p, f v = some p → p.length ≤ B) : ∀ (vs : List VT) (i : Nat) (ss : List StepV) (p : List StepV), innerF fs i vs ss = some p → p.length ≤ B + 1
  | [], i, ss, p, hp => by simp [innerF] at hp
  | v :: vs, i, [], p, hp => by simp [innerF] at hp
  | v :: vs, i, s :: ss, p, hp => by
    simp only [innerF] at hp
    split at hp
    · rename_i f hf
      split at hp
      · rename_i q hq
        cases hp
        have := h f (List.mem_of_getElem? hf) v q hq
        simp; omega
      · exact innerF_len h vs (i + 1) ss p hp
    · cases hp; simp

theorem objF_len {fs : List (VT → Option (List StepV))} {ns : List ByteArray} {B : Nat} (h : ∀ f ∈ fs, ∀ v p, f v = some p → p.length ≤ B) : ∀ (ks : List ByteArray) (vs : List VT) (p : List StepV), objF fs ns ks vs = some p → p.length ≤ B + 1
  | [], vs, p, hp => by simp [objF] at hp
  | k :: ks, [], p, hp => by simp [objF] at hp
  | k :: ks, v :: vs, p, hp => by
    simp only [objF] at hp
    split at hp
    · cases hp; simp
    · rename_i f hf
      split at hp
      · rename_i q hq
        cases hp
        have hmem : f ∈ fs := by
          cases hi : idxB ns k 0 with
          | none => rw [hi] at hf; cases hf
          | some j => rw [hi] at hf; exact List.mem_of_getElem? hf
        have := h f hmem v q hq
        simp; omega
      · exact objF_len h ks vs p hp

theorem wrongF_mem : ∀ {l : List KT} {f : VT → Option (List StepV)}, f ∈ wrongF l → ∃ x ∈ l, f = wrongK x
  | t :: l, f, h => by
    simp only [wrongF, List.mem_cons] at h
    rcases h with rfl | h
    · exact ⟨t, by simp, rfl⟩
    · obtain ⟨x, h1, h2⟩ := wrongF_mem h; exact ⟨x, by simp [h1], h2⟩

theorem wrongK_len : ∀ (t : KT) (v : VT) (p : List StepV), wrongK t v = some p → p.length ≤ kDeep t := by
  intro t
  induction t using KT.ind with
  | _ f l ns lo ih =>
  intro v p h
  have hB : ∀ g ∈ wrongF l, ∀ v p, g v = some p → p.length ≤ kDeepL l := by
    intro g hg v p hp
    obtain ⟨x, h1, rfl⟩ := wrongF_mem hg
    exact Nat.le_trans (ih x h1 v p hp) (kDeepL_mem h1)
  show p.length ≤ kDeepL l + 1
  simp only [wrongK] at h
  split at h
  · cases h
  split at h
  · split at h
    · cases h
    · cases h; simp
  split at h
  · cases h; simp
  split at h
  · split at h
    · rename_i q hq
      cases h
      exact objF_len hB _ _ _ hq
    · split at h
      · cases h; simp
      · cases h
  split at h
  · exact innerF_len hB _ _ _ _ h
  split at h
  · cases h; simp
  · exact innerF_len hB _ _ _ _ h

theorem okL_mem : ∀ {l : List VT} {x : VT}, okL l → x ∈ l → okV x
  | t :: l, x, h, hx => by
    simp only [okL] at h
    rcases List.mem_cons.1 hx with rfl | hx
    · exact h.1
    · exact okL_mem h.2 hx
theorem okM_get : ∀ {l : List (ByteArray × VT)} {k : ByteArray} {x : VT}, okM l → vget l k = some x → okV x
  | (k', v) :: l, k, x, h, hx => by
    simp only [okM] at h
    simp only [vget] at hx
    split at hx
    · cases hx; exact h.2.1
    · exact okM_get h.2.2 hx

theorem okV_items {v : VT} (h : okV v) : ∀ x ∈ vitems v, okV x := by
  intro x hx
  cases v
  case list l => simp only [okV] at h; exact okL_mem h.2 hx
  case map es =>
    simp only [okV] at h
    obtain ⟨k, hk, rfl⟩ := List.mem_map.1 hx
    obtain ⟨y, hy⟩ := skeys_mem hk
    rw [hy]; exact okM_get h.2.2 hy
  all_goals cases hx

theorem okV_len {v : VT} (h : okV v) : (vitems v).length ≤ 4000000 ∧ (vkeys v).length ≤ 4000000 := by
  cases v
  case list l => simp only [okV] at h; exact ⟨h.1, by simp [vkeys]⟩
  case map es =>
    simp only [okV] at h
    have : (skeys es).length ≤ 4000000 := by rw [(skeys_perm es).length_eq]; simpa using h.1
    exact ⟨by simp only [vitems, List.length_map]; exact this, this⟩
  all_goals exact ⟨by simp [vitems], by simp [vkeys]⟩

theorem kind_map {v : VT} (h : kindV v = 7) : ∃ es, v = .map es := by
  cases v <;> simp [kindV] at h
  exact ⟨_, rfl⟩

set_option maxRecDepth 20000 in
set_option maxHeartbeats 4000000 in
theorem wrong_t : ∀ (t : KT), wfK t → kDeep t ≤ 4000000 → WrongC t := by
  intro t
  induction t using KT.ind with
  | _ f l ns lo ih =>
  intro hwf hd v hv
  have hd : kDeepL l + 1 ≤ 4000000 := hd
  simp only [wfK] at hwf
  obtain ⟨hf8, hl16, _, hf56, hfn, _, hlo, _, _, hwl⟩ := hwf
  have hih : ∀ x ∈ l, WrongC x := fun x hx => ih x hx (wfL_mem hwl hx) (by have := kDeepL_mem hx; omega)
  have hpl : ∀ x ∈ l, ∀ v p, wrongK x v = some p → p.length ≤ 4000000 := fun x hx v p hp => by have := wrongK_len x v p hp; have := kDeepL_mem hx; omega
  obtain ⟨hil, hkl⟩ := okV_len hv
  refine apure_of hTS Tryz.func37 (by kernel_rfl) rfl rfl rfl ?_
  repeat' (first | refine bsplit_t (by first | with_reducible assumption | with_reducible rfl | with_reducible exact Bool.not_true | with_reducible exact Bool.not_false) ?_ | refine bsplit_f (by first | with_reducible assumption | with_reducible rfl | with_reducible exact Bool.not_true | with_reducible exact Bool.not_false) ?_ | fail)
  refine call_pure (kind_v v) rfl ?_
  rintro _ rfl
  refine bsplit_d (fun h1 _ => ?_) (fun h1 _ => ?_)
  · repeat' (first | refine bsplit_t (by first | with_reducible assumption | with_reducible rfl | with_reducible exact Bool.not_true | with_reducible exact Bool.not_false) ?_ | refine bsplit_f (by first | with_reducible assumption | with_reducible rfl | with_reducible exact Bool.not_true | with_reducible exact Bool.not_false) ?_ | fail)
    show AV.tup _ = _
    simp only [wrongK]; rw [if_pos (.inl h1)]; rfl
  repeat' (first | refine bsplit_t (by first | with_reducible assumption | with_reducible rfl | with_reducible exact Bool.not_true | with_reducible exact Bool.not_false) ?_ | refine bsplit_f (by first | with_reducible assumption | with_reducible rfl | with_reducible exact Bool.not_true | with_reducible exact Bool.not_false) ?_ | fail)
  refine bsplit_d (fun h2 _ => ?_) (fun h2 _ => ?_)
  · show AV.tup _ = _
    simp only [wrongK]; rw [if_pos (.inr h2)]; rfl
  have h12 : ¬ (kindV v = 0 ∨ kindV v = 1) := fun h => h.elim h1 h2
  refine bsplit_d (fun h3 _ => ?_) (fun h3 _ => ?_)
  · have h3 : f < 5 := by omega
    refine call_pure (plain_t (.mk f l ns lo) v) rfl ?_
    rintro _ rfl
    show AV.tup [_, .c (.bool (!plainB f v))] = _
    simp only [wrongK]; rw [if_neg h12, if_pos h3]
    cases plainB f v <;> rfl
  have h3 : ¬ f < 5 := by omega
  refine call_pure (holds_t (.mk f l ns lo)) rfl ?_
  rintro _ rfl
  refine bsplit_d (fun h4 _ => ?_) (fun h4 _ => ?_)
  · have h4 : kindV v ≠ holdsK f := h4
    show AV.tup _ = _
    simp only [wrongK]; rw [if_neg h12, if_neg h3, if_pos h4]; rfl
  have h4 : kindV v = holdsK f := Decidable.not_not.1 h4
  have hW : wrongK (.mk f l ns lo) v = if f = 8 then match objF (wrongF l) ns (vkeys v) (vitems v) with
      | some p => some p
      | none => match missK v ns lo with
        | s :: _ => some [keyS s]
        | [] => none
    else if f = 6 then innerF (wrongF l) 0 (vitems v) ((vkeys v).map keyS)
    else if f = 7 ∧ (vitems v).length ≠ l.length then some []
    else innerF (wrongF l) 0 (vitems v) ((List.range (vitems v).length).map placeS) := by
    simp only [wrongK]; rw [if_neg h12, if_neg h3, if_neg (fun h => h h4)] <;> rfl
  rw [hW]
  refine call_pure (items_v v hv) rfl ?_
  rintro _ rfl
  refine bsplit_d (fun h5 _ => ?_) (fun h5 _ => ?_)
  · have h5 : f = 8 := by omega
    rw [if_pos h5]
    obtain ⟨es, hes⟩ := kind_map (h4.trans (by rw [h5]; rfl))
    refine call_pure (object_t f l ns lo v es hes hv hih (okV_items hv) (hfn h5) hlo.symm (by omega) hpl) rfl ?_
    intro r hr
    have hr : r = wrA (match objF (wrongF l) ns (vkeys v) (vitems v) with
      | some p => some p
      | none => match missK v ns lo with
        | s :: _ => some [keyS s]
        | [] => none) := hr
    generalize (match objF (wrongF l) ns (vkeys v) (vitems v) with
      | some p => some p
      | none => match missK v ns lo with
        | s :: _ => some [keyS s]
        | [] => none) = X at hr ⊢
    subst hr
    cases X
    · show AV.tup _ = _
      rfl
    · show AV.tup _ = _
      rfl
  have h5 : ¬ f = 8 := by omega
  rw [if_neg h5]
  refine bsplit_d (fun h6 _ => ?_) (fun h6 _ => ?_)
  · have h6 : f = 6 := by omega
    rw [if_pos h6]
    have hl1 := hf56 (.inr h6)
    obtain ⟨es, hes⟩ := kind_map (h4.trans (by rw [h6]; rfl))
    have hvk : (vitems v).length = ((vkeys v).map keyS).length := by rw [hes]; simp [vitems, vkeys]
    refine draw_ev hTS (by kernel_rfl) (.pur 0 (.pur 1 (.pur 2 (.pur 4 (.part [] [] (.take 3 (.one 5 (.one 6 (.one 7 (.one 8 (.pur 9 (.pur 10 (.pur 11 (.pur 12 .done)))))))))))))) (by kernel_rfl) ?_
    refine call_pure (keys_v v hv) rfl ?_
    rintro _ rfl
    refine call_pure (keysT_k (vkeys v) hkl) rfl ?_
    rintro _ rfl
    refine call_pure (inner_t l (vitems v) _ hih (okV_items hv) hvk (fun _ h => by rw [h] at hl1; cases hl1) (by omega) hil hpl) rfl ?_
    rintro _ rfl
    generalize innerF (wrongF l) 0 (vitems v) ((vkeys v).map keyS) = X
    cases X
    · show AV.tup _ = _
      rfl
    · show AV.tup _ = _
      rfl
  have h6 : ¬ f = 6 := by omega
  rw [if_neg h6]
  have hpv : (vitems v).length = ((List.range (vitems v).length).map placeS).length := by simp
  refine bsplit_d (fun h7 _ => ?_) (fun h7 _ => ?_)
  case' refine_1 =>
    have h7 : f = 7 := by omega
    refine bsplit_d (fun h8 _ => ?_) (fun h8 _ => ?_)
    · rw [vtL_len, kpL_len] at h8
      have h8 : (vitems v).length ≠ l.length := by omega
      rw [if_pos ⟨h7, h8⟩]
      show AV.tup _ = _
      rfl
    rw [vtL_len, kpL_len] at h8
    have h8 : (vitems v).length = l.length := by omega
    rw [if_neg (fun h => h.2 h8)]
    have hne : vitems v ≠ [] → l ≠ [] := fun h e => h (List.eq_nil_of_length_eq_zero (by rw [h8, e]; rfl))
  case' refine_2 =>
    have h7 : ¬ f = 7 := by omega
    rw [if_neg (fun h => h7 h.1)]
    have h5' : f = 5 := by omega
    have hl1 := hf56 (.inl h5')
    have hne : vitems v ≠ [] → l ≠ [] := fun _ h => by rw [h] at hl1; cases hl1
  all_goals
    refine draw_ev hTS (by kernel_rfl) (.pur 0 (.pur 1 (.pur 2 (.pur 4 (.pur 5 (.part [] [] (.take 3 (.one 6 (.one 7 (.one 8 (.pur 9 (.pur 10 (.pur 11 (.pur 12 .done)))))))))))))) (by kernel_rfl) ?_
    refine call_pure (places_k (vitems v).length hil) (by show some [AV.c (.int .i64 ((vtL (vitems v)).length : Int))] = _; rw [vtL_len]) ?_
    rintro _ rfl
    refine call_pure (inner_t l (vitems v) _ hih (okV_items hv) hpv hne (by omega) hil hpl) rfl ?_
    rintro _ rfl
    generalize innerF (wrongF l) 0 (vitems v) ((List.range (vitems v).length).map placeS) = X
    cases X
    · show AV.tup _ = _
      rfl
    · show AV.tup _ = _
      rfl

theorem takes_t (t : KT) (v : VT) (h1 : wfK t) (h2 : kDeep t ≤ 4000000) (hv : okV v) : APure Tryz.prog 23 [kp t, vtA v] (fun r => r = .c (.bool (wrongK t v).isNone)) := by
  refine apure_of hTS Tryz.func23 (by kernel_rfl) rfl rfl rfl ?_
  refine call_pure (wrong_t t h1 h2 v hv) rfl ?_
  rintro _ rfl
  cases wrongK t v
  · show AV.c _ = _
    rfl
  · show AV.c _ = _
    rfl

end Go.AV0
/- kind: texts of types. -/
namespace Go.AV0
open Go.Proofs Go.RowKit

def joinB (xs : List ByteArray) (sep : ByteArray) : ByteArray := ⟨(Lib.join (xs.map (·.data.toList)) sep.data.toList).toArray⟩

def sumZ : List ByteArray → Nat
  | [] => 0
  | x :: l => x.size + sumZ l

theorem join_le (sep : List UInt8) : ∀ (xs : List ByteArray), (Lib.join (xs.map (·.data.toList)) sep).length ≤ sumZ xs + xs.length * sep.length
  | [] => by simp [Lib.join, sumZ]
  | [x] => by simp [Lib.join, sumZ]
  | x :: y :: l => by
    have ih := join_le sep (y :: l)
    have e : Lib.join ((x :: y :: l).map (·.data.toList)) sep = x.data.toList ++ sep ++ Lib.join ((y :: l).map (·.data.toList)) sep := by
      simp [Lib.join, List.intercalate]
    rw [e]
    simp only [List.length_append, sumZ, List.length_cons] at ih ⊢
    have : x.data.toList.length = x.size := by simp
    rw [this, Nat.add_mul _ 1]
    omega

theorem joinB_le (xs : List ByteArray) (sep : ByteArray) : (joinB xs sep).size ≤ sumZ xs + xs.length * sep.size := by
  have := join_le sep.data.toList xs
  have e : sep.data.toList.length = sep.size := by simp
  rw [e] at this
  exact this

theorem repEls_get {w : World} {M : Nat → Prop} {b n : Nat} : ∀ {xs : List ByteArray} {off : Nat}, RepEls w M b n (nmA xs) off → ∀ (j : Nat) x, xs[j]? = some x → w.cell? ⟨b, off + j, none⟩ = some (.string x)
  | [], off, _, j, x, hx => by simp at hx
  | y :: xs, off, h, j, x, hx => by
    have h : (([AV.c (.string y)].length = n ∧ RepAt w M b [AV.c (.string y)] off) ∧ RepEls w M b n (nmA xs) (off + n)) := h
    obtain ⟨⟨hn, h1⟩, h2⟩ := h
    have hn : n = 1 := by simpa using hn.symm
    subst hn
    simp only [RepAt, Rep] at h1
    obtain ⟨⟨_, c, h1, rfl⟩, _⟩ := h1
    cases j with
    | zero => simp at hx; subst hx; exact h1
    | succ j =>
      have := repEls_get h2 j x (by simpa using hx)
      rwa [show off + 1 + j = off + (j + 1) by omega] at this

theorem join_v (xs : List ByteArray) (sep : ByteArray) (h1 : xs.length ≤ 4000000) (h2 : sumZ xs + xs.length * sep.size ≤ 140737488355328) : APure Tryz.prog 39 [.sl (nmA xs), .c (.string sep)] (fun r => r = .c (.string (joinB xs sep))) := by
  refine ⟨⟨_, Tryz.func39, by kernel_rfl, rfl⟩, ?_⟩
  intro w M cs hM _ hr
  simp only [RepL, Rep] at hr
  obtain ⟨_, _, rfl, ⟨ao, cap, rfl, hcap, hel⟩, _, _, rfl, rfl, rfl⟩ := hr
  rw [nmA_len] at hcap ⊢
  have hjl := join_le sep.data.toList xs
  have e : sep.data.toList.length = sep.size := by simp
  rw [e] at hjl
  rcases hel with hel | ⟨b, off, n, rfl, hel⟩
  · have hx : xs = [] := List.eq_nil_of_length_eq_zero (by rw [← nmA_len, hel]; rfl)
    subst hx
    refine (Tryz.strings_Join_none ao cap sep w).mono ?_
    rintro e w' ⟨rfl, rfl⟩
    exact ⟨_, _, rfl, rfl, Below.refl _ _, by simp only [Rep]; rfl⟩
  · have hcells := repEls_get hel
    cases xs with
    | nil =>
      refine (Tryz.strings_Join_none _ cap sep w).mono ?_
      rintro e w' ⟨rfl, rfl⟩
      exact ⟨_, _, rfl, rfl, Below.refl _ _, by simp only [Rep]; rfl⟩
    | cons x xs =>
      have hb := lt_of_cell (hcells 0 x rfl)
      refine (Tryz.strings_Join b off cap (x :: xs) sep w hcells hb (by omega) hcap (by omega)).mono ?_
      rintro e w' ⟨rfl, hbw⟩
      exact ⟨_, _, rfl, rfl, hbw, by simp only [Rep]; rfl⟩

end Go.AV0
/- kind: texts of types. -/
namespace Go.AV0
open Go.Proofs

def sComma : ByteArray := ⟨#[44]⟩

def fldB (s : ByteArray) (q : Bool) (p : ByteArray) : ByteArray := s ++ (if q = true then ⟨#[63, 58]⟩ else ⟨#[58]⟩) ++ p

def flds : List ByteArray → List Bool → List ByteArray → List ByteArray
  | s :: ns, q :: lo, p :: ps => fldB s q p :: flds ns lo ps
  | _, _, ps => ps

def headB : List ByteArray → ByteArray
  | x :: _ => x
  | [] => noBytes

def wordB (f : Nat) : ByteArray :=
  match f with
  | 0 => wAny
  | 1 => wBool
  | 2 => wInt
  | 3 => wPoint
  | 4 => wText
  | _ => noBytes

mutual
/-- a type's text -/
def prK : KT → ByteArray
  | .mk f l ns lo => if f = 5 then ⟨#[108, 105, 115, 116, 40]⟩ ++ headB (prL l) ++ ⟨#[41]⟩ else if f = 6 then ⟨#[109, 97, 112, 40]⟩ ++ headB (prL l) ++ ⟨#[41]⟩
      else if f = 7 then ⟨#[91]⟩ ++ joinB (prL l) sComma ++ ⟨#[93]⟩ else if f = 8 then ⟨#[123]⟩ ++ joinB (flds ns lo (prL l)) sComma ++ ⟨#[125]⟩ else wordB f
def prL : List KT → List ByteArray
  | [] => []
  | t :: l => prK t :: prL l
end

theorem prL_len : ∀ (l : List KT), (prL l).length = l.length
  | [] => rfl
  | t :: l => by simp [prL, prL_len l]
theorem prL_app : ∀ (l : List KT) (x : KT), prL (l ++ [x]) = prL l ++ [prK x]
  | [], x => by simp [prL]
  | t :: l, x => by simp [prL, prL_app l x]
theorem prL_get : ∀ {l : List KT} {i : Nat} {x : KT}, l[i]? = some x → (prL l)[i]? = some (prK x)
  | t :: l, 0, x, h => by simp at h; subst h; simp [prL]
  | t :: l, i + 1, x, h => by simp only [List.getElem?_cons_succ] at h; simpa [prL] using prL_get h

def PrintC (t : KT) : Prop := APure Tryz.prog 24 [kp t] (fun r => r = .c (.string (prK t)))

theorem all_i (l : List KT) (hl : l.length ≤ 4000000) (hih : ∀ x ∈ l, PrintC x) : AImp Tryz.prog 38 [.v (.sl (kpL l))] [] [] (fun r h => r = .ms 0 ∧ h = [.arr 9 1 (nmA (prL l))]) := by
  refine aimp_keep hTS 1000 Tryz.func38 (by kernel_rfl) rfl rfl rfl (fun p => ?_)
  refine loop_own_t 3 9 1 rfl ?_
  refine loop_on hTS (X := Nat) (fun i => i ≤ l.length)
    (fun i => ⟨[(3, .ms 0), (6, .v (.sl (kpL l))), (7, .v (.c (.int .i64 ((kpL l).length : Int)))), (8, .v (.c (.int .i64 (i : Int))))], []⟩)
    (fun i => [.arr 9 1 (nmA (prL (l.take i)))]) (fun i => l.length - i) 0 (Nat.zero_le _) ⟨rfl, rfl, (by (repeat' (first | exact trivial | refine ⟨⟨?_, rfl⟩, ?_⟩ | fail)); all_goals (first | (show some (SV.v (AV.c (Value.int .i64 (IntKind.i64.wrap _)))) = _; rw [inc (by omega)]; try rfl) | rfl)), ⟨_, rfl⟩, rfl⟩ ?_
  intro i hi
  refine bsplit_d (fun h1 _ => ?_) (fun h1 _ => ?_)
  · rw [kpL_len] at h1
    obtain ⟨x, hx⟩ : ∃ x, l[i]? = some x := ⟨_, List.getElem?_eq_getElem (by omega)⟩
    have hmem := List.mem_of_getElem? hx
    refine elev (Int.natCast_nonneg _) [AV.ptr (kpO x)] (kpL_get _ _ _ hx) ?_
    refine call_pure (hih x hmem) rfl ?_
    rintro _ rfl
    refine side ⟨nmA_one [prK x], ?_⟩ ?_
    · rw [nmA_len, prL_len, List.length_take]; show (min i l.length + 1) * 17 ≤ 70368744177664; omega
    refine ⟨i + 1, by omega, (by dsimp only; omega), ⟨rfl, rfl, ⟨⟨rfl, rfl⟩, ⟨rfl, rfl⟩, ⟨rfl, rfl⟩, ⟨congrArg (fun x => some (SV.v (AV.c (.int .i64 x)))) (inc (k := i) (by omega)), rfl⟩, trivial⟩, ⟨_, by
      show (_ : List SO) = [.arr 9 1 (nmA (prL (l.take (i + 1))))] ++ _
      rw [take_succ hx, prL_app, nmA_app]; rfl⟩, rfl⟩⟩
  · rw [kpL_len] at h1
    have hil : i = l.length := by omega
    subst hil
    refine ⟨trivial, 1, rfl, rfl, ?_⟩
    show [SO.arr _ 1 (nmA (prL (l.take l.length)))] = _
    rw [List.take_length]

/-- how long a type's text is at most -/
def PZ (t : KT) : Nat := 1000 * 17 ^ kDeep t

end Go.AV0
/- kind: Print, Same. -/
namespace Go.AV0
open Go.Proofs

theorem sumZ_le {B : Nat} : ∀ {xs : List ByteArray}, (∀ x ∈ xs, x.size ≤ B) → sumZ xs ≤ xs.length * B
  | [], _ => by simp [sumZ]
  | x :: xs, h => by
    have h1 := h x (by simp)
    have h2 := sumZ_le (xs := xs) fun y hy => h y (by simp [hy])
    simp only [sumZ, List.length_cons]
    rw [Nat.add_mul]; omega

theorem flds_len : ∀ (ns : List ByteArray) (lo : List Bool) (ps : List ByteArray), (flds ns lo ps).length = ps.length
  | s :: ns, q :: lo, p :: ps => by simp [flds, flds_len ns lo ps]
  | [], _, ps => by simp [flds]
  | _ :: _, [], ps => by simp [flds]
  | _ :: _, _ :: _, [] => by simp [flds]

theorem fldB_le {s p : ByteArray} {q : Bool} : (fldB s q p).size ≤ s.size + 2 + p.size := by
  unfold fldB
  cases q <;> simp [ByteArray.size_append] <;> (show _ ≤ _) <;> decide +revert

theorem flds_le {A B : Nat} : ∀ {ns : List ByteArray} {lo : List Bool} {ps : List ByteArray}, (∀ x ∈ ns, x.size ≤ A) → (∀ x ∈ ps, x.size ≤ B) → ∀ x ∈ flds ns lo ps, x.size ≤ A + 2 + B
  | s :: ns, q :: lo, p :: ps, h1, h2, x, hx => by
    simp only [flds, List.mem_cons] at hx
    rcases hx with rfl | hx
    · have := @fldB_le s p q
      have := h1 s (by simp)
      have := h2 p (by simp)
      omega
    · exact flds_le (fun y hy => h1 y (by simp [hy])) (fun y hy => h2 y (by simp [hy])) x hx
  | [], lo, ps, h1, h2, x, hx => by
    have hx : x ∈ ps := by simpa [flds] using hx
    have := h2 x hx; omega
  | _ :: _, [], ps, h1, h2, x, hx => by
    have hx : x ∈ ps := by simpa [flds] using hx
    have := h2 x hx; omega
  | _ :: _, _ :: _, [], h1, h2, x, hx => by simp [flds] at hx

theorem prL_mem : ∀ {l : List KT} {p : ByteArray}, p ∈ prL l → ∃ x ∈ l, p = prK x
  | t :: l, p, h => by
    simp only [prL, List.mem_cons] at h
    rcases h with rfl | h
    · exact ⟨t, by simp, rfl⟩
    · obtain ⟨x, h1, h2⟩ := prL_mem h; exact ⟨x, by simp [h1], h2⟩

theorem flds_get {s p : ByteArray} {q : Bool} : ∀ {ns : List ByteArray} {lo : List Bool} {ps : List ByteArray} {i : Nat}, ns[i]? = some s → lo[i]? = some q → ps[i]? = some p →
    (flds (ns.take i) (lo.take i) ps)[i]? = some p ∧ flds (ns.take (i + 1)) (lo.take (i + 1)) ps = (flds (ns.take i) (lo.take i) ps).set i (fldB s q p)
  | n :: ns, o :: lo, r :: ps, 0, h1, h2, h3 => by
    simp at h1 h2 h3; subst h1; subst h2; subst h3
    simp [flds]
  | n :: ns, o :: lo, r :: ps, i + 1, h1, h2, h3 => by
    have ih := flds_get (ns := ns) (lo := lo) (ps := ps) (i := i) (by simpa using h1) (by simpa using h2) (by simpa using h3)
    simp only [List.take_succ_cons, flds, List.getElem?_cons_succ, List.set_cons_succ]
    exact ⟨ih.1, by rw [ih.2]⟩
  | [], _, _, _, h1, _, _ => by simp at h1
  | _ :: _, [], _, _, _, h2, _ => by simp at h2
  | _ :: _, _ :: _, [], _, _, _, h3 => by simp at h3

theorem nmA_set (xs : List ByteArray) (i : Nat) (x : ByteArray) : nmA (xs.set i x) = (nmA xs).set i [.c (.string x)] := by
  show (xs.set i x).map _ = (xs.map _).set i _
  rw [List.map_set]

theorem pow_ge (d : Nat) : 1000 ≤ 1000 * 17 ^ d := Nat.le_mul_of_pos_right _ (Nat.pow_pos (by omega))

/-- bounds on all parts of a type's text -/
theorem kid_le {l : List KT} (ih : ∀ x ∈ l, (prK x).size ≤ PZ x) : ∀ p ∈ prL l, p.size ≤ 1000 * 17 ^ kDeepL l := by
  intro p hp
  obtain ⟨x, h1, rfl⟩ := prL_mem hp
  have h2 := ih x h1
  have h3 := kDeepL_mem h1
  exact Nat.le_trans h2 (Nat.mul_le_mul_left _ (Nat.pow_le_pow_right (by omega) h3))

theorem pr_le : ∀ (t : KT), wfK t → (prK t).size ≤ PZ t := by
  intro t
  induction t using KT.ind with
  | _ f l ns lo ih =>
  intro hwf
  simp only [wfK] at hwf
  obtain ⟨hf8, hl16, _, hf56, hfn, _, hlo, hns, _, hwl⟩ := hwf
  have hkid := kid_le (l := l) fun x hx => ih x hx (wfL_mem hwl hx)
  have hB := pow_ge (kDeepL l)
  have hPZ : PZ (.mk f l ns lo) = 17 * (1000 * 17 ^ kDeepL l) := by
    show 1000 * 17 ^ (kDeepL l + 1) = _
    rw [Nat.pow_succ]; omega
  rw [hPZ]
  generalize 1000 * 17 ^ kDeepL l = B at hkid hB
  have hhead : (headB (prL l)).size ≤ B := by
    cases hl : prL l with
    | nil => show (noBytes).size ≤ _; show 0 ≤ _; omega
    | cons p ps => exact hkid p (by rw [hl]; simp)
  have hj1 := joinB_le (prL l) sComma
  have hj2 := joinB_le (flds ns lo (prL l)) sComma
  have hs1 := sumZ_le hkid
  have hs2 := sumZ_le (flds_le (lo := lo) hns hkid)
  rw [flds_len] at hj2 hs2
  rw [prL_len] at hj1 hs1 hj2 hs2
  have hc : sComma.size = 1 := rfl
  rw [hc] at hj1 hj2
  have hm1 : l.length * B ≤ 16 * B := Nat.mul_le_mul_right _ hl16
  have hm2 : l.length * (20 + 2 + B) ≤ 16 * (20 + 2 + B) := Nat.mul_le_mul_right _ hl16
  simp only [prK]
  split
  · simp only [ByteArray.size_append]; show 5 + (headB (prL l)).size + 1 ≤ _; omega
  split
  · simp only [ByteArray.size_append]; show 4 + (headB (prL l)).size + 1 ≤ _; omega
  split
  · simp only [ByteArray.size_append]; show 1 + (joinB (prL l) sComma).size + 1 ≤ _; omega
  split
  · simp only [ByteArray.size_append]; show 1 + (joinB (flds ns lo (prL l)) sComma).size + 1 ≤ _; omega
  · have : (wordB f).size ≤ 5 := by
      unfold wordB
      split <;> decide
    omega

end Go.AV0
