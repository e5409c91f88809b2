/- V4, V5, V6: texts of this proof, one behind the other. -/
import Derived.Test.YthbglcdcfdjbbaaV3
import Derived.Test.YthbglcdcfdjbbaaLib
/- values: the keys of a map, in order. -/
namespace Go.AV0
open Go.Proofs Go.RowKit Go.Maps Go.Sort Go.Shelf Go.WideShapes Go.ChangeMaps Go.MapKept

theorem ipost_below {ι w M h} {Q : SV → List SO → Prop} {e : Ending} {w' : World} (H : St ι w M h) (hb : Below w.heap.size w w') {c : Value} {v : AV} (he : e = .returned c) (hv : Rep w' M v c) (hq : Q (.v v) h) : IPost ι w M h [] Q e w' := by
  have hkp := keep_below (M := M) hb
  refine ⟨c, .v v, h, ι, M, he, hq, Nat.le_refl _, ⟨?_, H.dist, fun b hm => Nat.lt_of_lt_of_le (H.mlt b hm) hb.size⟩, by simpa [RepS] using hv, ?_, fun _ _ _ => rfl⟩
  · intro i o ho
    exact StO.keep ⟨Nat.le_refl _, fun _ _ => rfl⟩ hkp rfl (fun b k l e => ⟨hb.block b (H.mlt b ((H.objs i o ho).ownM l e)), (H.objs i o ho).ownM l e⟩) (H.objs i o ho)
  · exact ⟨hb.os, hb.tape, hb.output, hb.size, fun b hb' _ => hb.block b hb', fun _ _ x => x, fun _ x _ => x, fun _ _ x => x, fun _ _ x => x⟩

def bleq (a b : ByteArray) : Bool := decide (a.data.toList ≤ b.data.toList)

/-- a map's keys, rising -/
def skeys {α : Type} (es : List (ByteArray × α)) : List ByteArray := (es.map (·.1)).mergeSort bleq

def anyR : Value → Option (DataW Unit × List MemPlace) := fun _ => some (.nil, [])

theorem sorted_any (w : World) (Bm b nn : Nat) (D0 : DataW Unit) (hBm : Bm < w.heap.size) (hm : w.cell? ⟨Bm, 0, none⟩ = some (.map (some b))) (hown : w.ownsMap Try.prog 9 anyR b nn D0) (hmax : Maps.size D0 ≤ maxLen) (hbytes : Maps.size D0 * 16 ≤ 140737488355328) :
    Calls Try.prog 64 #[.func (.func 81) #[] #[.pointer (some ⟨Bm, 0, none⟩)]] w fun e w' => ∃ (v : Value) (ss : List (List UInt8)), e = .returned v ∧ ss.Perm (strKeys D0) ∧
      w'.ownsRow w.heap.size 9 1 v ss.length ((ss.mergeSort (fun x y => decide (x ≤ y))).map encStr) ∧ (v = .slice none 0 0 ↔ ss = []) ∧ Below w.heap.size w w' := by
  have hseq : SeqGives Fence.wide 2 Try.prog 81 #[.pointer (some ⟨Bm, 0, none⟩)] encStr (fun ss => ss.Perm (strKeys D0)) (Maps.size D0) w :=
    AnyZ.keys_gives (ρ := Try.keys65_ren) { Try.keys65 with } Fence.wide _ trivial rfl (by omega) Bm b nn D0 w hBm hm hown
  exact callsIn_wide.1 (AnyZ.sorted_in Try.sorted64 Fence.wide 5 trivial trivial trivial trivial rfl (by omega) (Try.sorts64 _) (enters_of Try.func80 (by kernel_rfl) rfl) 81 #[.pointer (some ⟨Bm, 0, none⟩)] trivial (enters_of Try.func81 (by kernel_rfl) rfl) _ _ hmax hbytes w hseq)

theorem str_type : Try.prog.underlying 9 = some .string := by kernel_rfl

theorem ownsMap_of {w : World} {b : Nat} {en : Array MapEntry} {clock : Nat} {es : List (ByteArray × AV)} (h1 : w.heap[b]? = some (.map en clock)) (h2 : stamped en clock) (h3 : (en.toList.map (·.key)).Perm (es.map fun e => Value.string e.1)) (h4 : (es.map (·.1)).Nodup)
    (hk : ∀ e ∈ es, e.1.size ≤ 1000000) (hn : es.length ≤ 1000000) :
    ∃ D0 : DataW Unit, w.ownsMap Try.prog 9 anyR b en.size D0 ∧ (strKeys D0).Perm (es.map fun e => e.1.data.toList) ∧ Maps.size D0 = es.length := by
  have hm : maxLen = 9223372036854775807 := rfl
  have hlen : en.toList.length = es.length := by have := h3.length_eq; simpa using this
  have hsz : en.size = es.length := by rw [← hlen]; simp
  have hkey : ∀ x ∈ en.toList, ∃ s : ByteArray, x.key = .string s ∧ s.size ≤ 1000000 := by
    intro x hx
    have : x.key ∈ es.map fun e => Value.string e.1 := h3.mem_iff.1 (List.mem_map_of_mem hx)
    obtain ⟨e, he, hx'⟩ := List.mem_map.1 this
    exact ⟨e.1, hx'.symm, hk e he⟩
  have hrd : ∀ x ∈ en.toList, ∃ s : ByteArray, x.key = .string s ∧ WideElems.rd Try.prog 9 anyR x = some (.string s.data.toList, .nil) := by
    intro x hx
    obtain ⟨s, hs, hs2⟩ := hkey x hx
    refine ⟨s, hs, ?_⟩
    unfold WideElems.rd
    rw [hs, Go.WideMaps.keyOf_string_mk str_type (by omega)]
    rfl
  refine ⟨_, ⟨en, clock, h1, ⟨by omega, ⟨h2.1, h2.2, ?_⟩, fun x hx => let ⟨_, _, h⟩ := hrd x hx; ⟨_, h⟩⟩, Nat.le_refl _, rfl⟩, ?_, ?_⟩
  · refine h3.nodup_iff.2 ?_
    have : (es.map fun e => Value.string e.1) = (es.map (·.1)).map Value.string := by simp
    rw [this]
    exact List.Pairwise.map _ (fun a b hab e => hab (by injection e)) h4
  · have e1 : strKeys (.map ((en.toList.map (WideElems.rg Try.prog 9 anyR)).foldr DataW.insert [])) = ((en.toList.map (WideElems.rg Try.prog 9 anyR)).foldr DataW.insert []).map fun p => Go.strOf p.1 := rfl
    rw [e1]
    refine ((sorted_perm _).map _).trans ?_
    rw [List.map_map]
    let g : Value → List UInt8 := fun v => match v with | .string s => s.data.toList | _ => []
    have e2 : en.toList.map ((fun p => Go.strOf p.1) ∘ WideElems.rg Try.prog 9 anyR) = (en.toList.map (·.key)).map g := by
      rw [List.map_map]
      apply List.map_congr_left
      intro x hx
      obtain ⟨s, h5, h6⟩ := hrd x hx
      simp only [Function.comp, WideElems.rg_of h6, h5]
      rfl
    rw [e2]
    refine (h3.map g).trans ?_
    rw [List.map_map]
    exact List.Perm.refl _
  · show ((en.toList.map (WideElems.rg Try.prog 9 anyR)).foldr DataW.insert []).length = _
    rw [(sorted_perm _).length_eq]; simp [hsz]

theorem repEls_strs {w : World} {M : Nat → Prop} {g : Nat} {cur : Array Value} {el : TypeId} (hg : w.heap[g]? = some (.cells cur el (0, 0))) (hM : ¬ M g) :
    ∀ (ks : List ByteArray) (off : Nat), (∀ i k, ks[i]? = some k → cur[off + i]? = some (.string k)) → RepEls w M g 1 (nmA ks) off
  | [], off, _ => by simp [nmA, RepEls]
  | k :: ks, off, h => by
    show (([AV.c (.string k)].length = 1 ∧ RepAt w M g [AV.c (.string k)] off) ∧ RepEls w M g 1 (nmA ks) (off + 1))
    refine ⟨⟨rfl, ?_⟩, repEls_strs hg hM ks (off + 1) fun i k' hk => ?_⟩
    · simp only [RepAt, Rep]
      exact ⟨⟨hM, .string k, by rw [cell_of_block hg]; exact h 0 k rfl, rfl⟩, trivial⟩
    · have := h (i + 1) k' (by simpa using hk)
      rwa [show off + (i + 1) = off + 1 + i by omega] at this

theorem skeys_list {es : List (ByteArray × AV)} {ss : List (List UInt8)} (h : ss.Perm (es.map fun e => e.1.data.toList)) : ss.mergeSort (fun x y => decide (x ≤ y)) = (skeys es).map (·.data.toList) := by
  have e1 : (skeys es).map (·.data.toList) = ((es.map (·.1)).map (·.data.toList)).mergeSort leB := by
    unfold skeys
    exact List.map_mergeSort (fun a _ b _ => rfl)
  rw [e1, List.map_map]
  exact mergeSort_of_perm h

theorem sorted_i (es : List (ByteArray × AV)) (hk : ∀ e ∈ es, e.1.size ≤ 1000000) (hn : es.length ≤ 1000000) :
    AImp Try.prog 64 [.clo (.func 81) [] [.ref 0 0]] [.cells [.v (.map (some es))]] [] (fun r h => r = .v (.sl (nmA (skeys es))) ∧ h = [.cells [.v (.map (some es))]]) := by
  refine ⟨⟨_, Try.func64, by kernel_rfl, rfl⟩, ?_⟩
  intro ι w M cs H ha
  simp only [RepSL, RepS] at ha
  obtain ⟨_, _, rfl, ⟨fs, cap, rfl, hf, _, _, hc, ⟨_, b0, k0, h0, rfl⟩, rfl⟩, rfl⟩ := ha
  have hf : fs = #[] := by cases fs; simp at hf; subst hf; rfl
  have hc : cap = #[.pointer (some ⟨b0, 0, none⟩)] := by cases cap; simp at hc; subst hc; rfl
  subst hf; subst hc
  have ho := H.objs 0 _ rfl
  simp only [StO] at ho
  obtain ⟨b1, k1, cells, el, g1, g2, g3, g4⟩ := ho
  rw [h0] at g1; cases g1
  simp only [RepSL, RepS, Rep] at g4
  obtain ⟨_, _, g4, ⟨b, en, clock, rfl, m1, m2, m3, m4, m5, _⟩, rfl⟩ := g4
  obtain ⟨D0, d1, d2, d3⟩ := ownsMap_of m2 m3 m4 m5 hk hn
  have hb0 : b0 < w.heap.size := H.mlt _ g2
  have hcell : w.cell? ⟨b0, 0, none⟩ = some (.map (some b)) := by
    rw [cell_of_block g3, ← Array.getElem?_toList, g4]; rfl
  have hmx : maxLen = 9223372036854775807 := rfl
  refine (sorted_any w b0 b en.size D0 hb0 hcell d1 (by omega) (by omega)).mono ?_
  rintro e w' ⟨v, ss, rfl, p1, p2, p3, p4⟩
  have hss := skeys_list (p1.trans d2)
  rw [hss] at p2
  refine ipost_below H p4 rfl (v := .sl (nmA (skeys es))) ?_ ⟨rfl, rfl⟩
  have hlen : ss.length = (skeys es).length := by
    have := congrArg List.length hss
    simpa using this
  simp only [Rep]
  rw [nmA_len]
  obtain ⟨q1, ⟨rfl, q2⟩ | ⟨g, cp, cur, rfl, q2, q3, q4, q5, q6, q7⟩⟩ := p2
  · refine ⟨none, 0, ?_, ?_, .inl ?_⟩
    · rw [← hlen, q2]
    · omega
    · have : skeys es = [] := List.eq_nil_of_length_eq_zero (by omega)
      rw [this]; rfl
  · refine ⟨some ⟨g, 0, none⟩, cp, by rw [hlen], by omega, .inr ⟨g, 0, 1, rfl, ?_⟩⟩
    refine repEls_strs q3 (fun hM => by have := H.mlt _ hM; omega) _ 0 ?_
    intro i k hk'
    have hi := get_lt hk'
    have e1 : (cur.toList.take (ss.length * 1))[i]? = some (.string k) := by
      rw [q7, List.map_map, List.getElem?_map, hk']
      rfl
    rw [List.getElem?_take, if_pos (by omega)] at e1
    rw [Nat.zero_add, ← Array.getElem?_toList]
    exact e1

end Go.AV0

/- values: keys, items. -/
namespace Go.AV0
open Go.Proofs Go.RowKit Go.Maps Go.Sort Go.Shelf

theorem sorted_none (w : World) (Bm : Nat) (hBm : Bm < w.heap.size) (hm : w.cell? ⟨Bm, 0, none⟩ = some (.map none)) :
    Calls Try.prog 64 #[.func (.func 81) #[] #[.pointer (some ⟨Bm, 0, none⟩)]] w fun e w' => ∃ (v : Value) (ss : List (List UInt8)), e = .returned v ∧ ss = [] ∧
      w'.ownsRow w.heap.size 9 1 v ss.length ((ss.mergeSort (fun x y => decide (x ≤ y))).map encStr) ∧ (v = .slice none 0 0 ↔ ss = []) ∧ Below w.heap.size w w' := by
  have hseq : SeqGives Fence.wide 2 Try.prog 81 #[.pointer (some ⟨Bm, 0, none⟩)] encStr (fun ss : List (List UInt8) => ss = []) 0 w :=
    AnyZ.keys_gives_nil (ρ := Try.keys65_ren) { Try.keys65 with } Fence.wide _ trivial rfl Bm w hBm hm
  exact callsIn_wide.1 (AnyZ.sorted_in Try.sorted64 Fence.wide 5 trivial trivial trivial trivial rfl (by omega) (Try.sorts64 _) (enters_of Try.func80 (by kernel_rfl) rfl) 81 #[.pointer (some ⟨Bm, 0, none⟩)] trivial (enters_of Try.func81 (by kernel_rfl) rfl) _ 0 (Nat.zero_le _) (by omega) w hseq)

theorem sorted_n : AImp Try.prog 64 [.clo (.func 81) [] [.ref 0 0]] [.cells [.v (.map none)]] [] (fun r h => r = .v (.sl []) ∧ h = [.cells [.v (.map none)]]) := by
  refine ⟨⟨_, Try.func64, by kernel_rfl, rfl⟩, ?_⟩
  intro ι w M cs H ha
  simp only [RepSL, RepS] at ha
  obtain ⟨_, _, rfl, ⟨fs, cap, rfl, hf, _, _, hc, ⟨_, b0, k0, h0, rfl⟩, rfl⟩, rfl⟩ := ha
  have hf : fs = #[] := by cases fs; simp at hf; subst hf; rfl
  have hc : cap = #[.pointer (some ⟨b0, 0, none⟩)] := by cases cap; simp at hc; subst hc; rfl
  subst hf; subst hc
  have ho := H.objs 0 _ rfl
  simp only [StO] at ho
  obtain ⟨b1, k1, cells, el, g1, g2, g3, g4⟩ := ho
  rw [h0] at g1; cases g1
  simp only [RepSL, RepS, Rep] at g4
  obtain ⟨_, _, g4, rfl, rfl⟩ := g4
  have hb0 : b0 < w.heap.size := H.mlt _ g2
  have hcell : w.cell? ⟨b0, 0, none⟩ = some (.map none) := by
    rw [cell_of_block g3, ← Array.getElem?_toList, g4]; rfl
  refine (sorted_none w b0 hb0 hcell).mono ?_
  rintro e w' ⟨v, ss, rfl, rfl, p2, p3, p4⟩
  refine ipost_below H p4 rfl (v := .sl []) ?_ ⟨rfl, rfl⟩
  rw [p3.2 rfl]
  simp only [Rep]
  exact ⟨none, 0, rfl, Nat.le_refl _, .inl trivial⟩

theorem keysM_i (o : Option (List (ByteArray × AV))) : AImp Try.prog 65 [.v (.map o)] [] [] (fun r h => r = .clo (.func 81) [] [.ref 0 0] ∧ h = [.cells [.v (.map o)]]) := by
  refine aimp_keep hTS 1000 Try.func65 (by kernel_rfl) rfl rfl rfl (fun p => ?_)
  exact ⟨trivial, 1, rfl, rfl, rfl⟩

mutual
/-- sizes that a value may have -/
def okV : VT → Prop
  | .list l => l.length ≤ 1000000 ∧ okL l
  | .map es => es.length ≤ 1000000 ∧ (es.map (·.1)).Nodup ∧ okM es
  | .text s => s.size ≤ 1000000
  | _ => True
def okL : List VT → Prop
  | [] => True
  | v :: l => okV v ∧ okL l
def okM : List (ByteArray × VT) → Prop
  | [] => True
  | (k, v) :: l => k.size ≤ 1000000 ∧ okV v ∧ okM l
end

theorem vtM_map : ∀ (es : List (ByteArray × VT)), vtM es = es.map fun e => (e.1, .agg [.ifc (vtO e.2)])
  | [] => rfl
  | (k, v) :: l => by simp [vtM, vtM_map l]

theorem okM_key : ∀ {es : List (ByteArray × VT)}, okM es → ∀ e ∈ vtM es, e.1.size ≤ 1000000
  | [], _, e, he => by cases he
  | (k, v) :: l, h, e, he => by
    simp only [okM] at h
    simp only [vtM, List.mem_cons] at he
    rcases he with rfl | he
    · exact h.1
    · exact okM_key h.2.2 e he

def vkeys : VT → List ByteArray
  | .map es => skeys es
  | _ => []

theorem skeys_vtM (es : List (ByteArray × VT)) : skeys (vtM es) = skeys es := by
  unfold skeys
  rw [vtM_map, List.map_map]; rfl

theorem keys_v (v : VT) (hv : okV v) : APure Try.prog 34 [vtA v] (fun r => r = .sl (nmA (vkeys v))) := by
  cases v
  case map es =>
    simp only [okV] at hv
    refine apure_of hTS Try.func34 (by kernel_rfl) rfl rfl rfl ?_
    refine call_obj (keysM_i (some (vtM es))) [] rfl rfl rfl ?_
    rintro _ _ ⟨rfl, rfl⟩
    refine call_obj (sorted_i (vtM es) (okM_key hv.2.2) (by rw [vtM_map]; simpa using hv.1)) [1] rfl rfl rfl ?_
    rintro _ _ ⟨rfl, rfl⟩
    show AV.sl _ = _
    rw [skeys_vtM]; rfl
  all_goals
    refine apure_of hTS Try.func34 (by kernel_rfl) rfl rfl rfl ?_
    refine call_obj (keysM_i none) [] rfl rfl rfl ?_
    rintro _ _ ⟨rfl, rfl⟩
    refine call_obj sorted_n [1] rfl rfl rfl ?_
    rintro _ _ ⟨rfl, rfl⟩
    show AV.sl _ = _
    rfl

end Go.AV0

/- values: items. -/
namespace Go.AV0
open Go.Proofs

theorem skeys_perm {α : Type} (es : List (ByteArray × α)) : (skeys es).Perm (es.map (·.1)) := List.mergeSort_perm _ _

theorem skeys_mem {es : List (ByteArray × VT)} {k : ByteArray} (h : k ∈ skeys es) : ∃ x, vget es k = some x := by
  have h := (skeys_perm es).mem_iff.1 h
  cases hg : vget es k with
  | some x => exact ⟨x, rfl⟩
  | none => exact absurd h (vget_none.1 hg)

def vitems : VT → List VT
  | .list l => l
  | .map es => (skeys es).map fun k => optV (vget es k)
  | _ => []

theorem take_succ {α : Type} {l : List α} {i : Nat} {x : α} (h : l[i]? = some x) : l.take (i + 1) = l.take i ++ [x] := by
  rw [List.take_add_one, h]; rfl

set_option maxRecDepth 20000 in
theorem items_v (v : VT) (hv : okV v) : APure Try.prog 33 [vtA v] (fun r => r = .sl (vtL (vitems v))) := by
  have hv0 := hv
  cases v
  case list l =>
    simp only [okV] at hv
    refine apure_of hTS Try.func33 (by kernel_rfl) rfl rfl rfl ?_
    repeat' (first | refine bsplit_t (by first | with_reducible assumption | with_reducible rfl | with_reducible exact Bool.not_true | with_reducible exact Bool.not_false) ?_ | refine bsplit_f (by first | with_reducible assumption | with_reducible rfl | with_reducible exact Bool.not_true | with_reducible exact Bool.not_false) ?_ | fail)
    refine call_pure (clonel_v l hv.1) rfl ?_
    rintro _ rfl
    show AV.sl _ = _
    rfl
  case map es =>
    have hlen : (skeys es).length ≤ 1000000 := by
      simp only [okV] at hv
      rw [(skeys_perm es).length_eq]; simpa using hv.1
    refine apure_of hTS Try.func33 (by kernel_rfl) rfl rfl rfl ?_
    repeat' (first | refine bsplit_t (by first | with_reducible assumption | with_reducible rfl | with_reducible exact Bool.not_true | with_reducible exact Bool.not_false) ?_ | refine bsplit_f (by first | with_reducible assumption | with_reducible rfl | with_reducible exact Bool.not_true | with_reducible exact Bool.not_false) ?_ | fail)
    refine call_pure (keys_v (.map es) hv0) rfl ?_
    rintro _ rfl
    refine loop_own_t 5 39 1 rfl ?_
    refine loop_on hTS (X := Nat) (fun i => i ≤ (skeys es).length)
      (fun i => ⟨[(5, .ms 1), (6, .v (.map (some (vtM es)))), (26, .v (.sl (nmA (skeys es)))), (27, .v (.c (.int .i64 ((nmA (skeys es)).length : Int)))), (28, .v (.c (.int .i64 (i : Int))))], []⟩)
      (fun i => [.cells [.v (.ifc (vtO (.map es)))], .arr 39 1 (vtL (((skeys es).take i).map fun k => optV (vget es k)))]) (fun i => (skeys es).length - i) 0 (Nat.zero_le _) ⟨rfl, rfl, (by (repeat' (first | exact trivial | refine ⟨⟨?_, rfl⟩, ?_⟩ | fail)); all_goals (first | (show some (SV.v (AV.c (Value.int .i64 (IntKind.i64.wrap _)))) = _; rw [inc (by omega)]; try rfl) | rfl)), ⟨[], rfl⟩, rfl⟩ ?_
    intro i hi
    refine bsplit_d (fun h1 _ => ?_) (fun h1 _ => ?_)
    · rw [nmA_len] at h1
      obtain ⟨k, hk⟩ : ∃ k, (skeys es)[i]? = some k := ⟨_, List.getElem?_eq_getElem (by omega)⟩
      obtain ⟨x, hx⟩ := skeys_mem (List.mem_of_getElem? hk)
      have hm := mget_vtM es k
      rw [hx] at hm
      refine elev (Int.natCast_nonneg _) [AV.c (.string k)] (nmA_get _ _ _ hk) ?_
      refine optev_s (vtA x) hm ?_
      refine side ⟨vtL_one [x], ?_⟩ ?_
      · rw [vtL_len]; simp only [List.length_map, List.length_take]; show (min i (skeys es).length + 1) * 17 ≤ 70368744177664; omega
      refine ⟨i + 1, by omega, (by dsimp only; omega), ⟨rfl, rfl, ⟨⟨rfl, rfl⟩, ⟨rfl, rfl⟩, ⟨rfl, rfl⟩, ⟨rfl, rfl⟩, ⟨congrArg (fun x => some (SV.v (AV.c (.int .i64 x)))) (inc (k := i) (by omega)), rfl⟩, trivial⟩, ⟨_, by
        show (_ : List SO) = [.cells [.v (.ifc (vtO (.map es)))], .arr 39 1 (vtL (((skeys es).take (i + 1)).map fun k => optV (vget es k)))] ++ _
        rw [take_succ hk, List.map_append, List.map_singleton, hx, vtL_app]; rfl⟩, rfl⟩⟩
    · rw [nmA_len] at h1
      have hil : i = (skeys es).length := by omega
      subst hil
      show AV.sl (vtL (((skeys es).take (skeys es).length).map fun k => optV (vget es k))) = _
      rw [List.take_length]; rfl
  all_goals
    refine apure_of hTS Try.func33 (by kernel_rfl) rfl rfl rfl ?_
    repeat' (first | refine bsplit_t (by first | with_reducible assumption | with_reducible rfl | with_reducible exact Bool.not_true | with_reducible exact Bool.not_false) ?_ | refine bsplit_f (by first | with_reducible assumption | with_reducible rfl | with_reducible exact Bool.not_true | with_reducible exact Bool.not_false) ?_ | fail)
    refine call_pure (keys_v _ hv0) rfl ?_
    rintro _ rfl
    refine loop_on hTS (X := Nat) (fun i => i = 0)
      (fun i => ⟨[(5, .v (.c (.slice none 0 0))), (6, .v (.map none)), (26, .v (.sl [])), (27, .v (.c (.int .i64 0))), (28, .v (.c (.int .i64 (i : Int))))], []⟩)
      (fun i => []) (fun i => 0) 0 rfl ⟨rfl, rfl, ⟨⟨rfl, rfl⟩, ⟨rfl, rfl⟩, ⟨rfl, rfl⟩, ⟨rfl, rfl⟩, ⟨rfl, rfl⟩, trivial⟩, ⟨_, rfl⟩, rfl⟩ ?_
    rintro i rfl
    refine bsplit_f (by decide) ?_
    show nrm (AV.c _) = _
    rfl

end Go.AV0

