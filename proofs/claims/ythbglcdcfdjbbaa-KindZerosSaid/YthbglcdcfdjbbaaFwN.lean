/- Soundness of the executor: an operation, a region, code. -/
import Derived.Test.YthbglcdcfdjbbaaFwM
namespace Go.AV0

section
variable {P : Program} {T : TT} {us : Us} {o : Oper} {ι : Iota} {w : World} {M : Nat → Prop} {h : List SO} {n : Nat} {a : Act} {α : AF} {K : SV → AF → List SO → Prop} {Q : Exit → Act → World → Prop}

theorem vop_ok (hT : T.all P = true) (hv : vop P T us o α h K) (H : St ι w M h) (F : FR ι h.length w M n α a) : o.wp P a w (Nxt ι w M h us n o.dst K) Q := by
  have hv1 := hv
  rw [vop_eq] at hv1
  unfold vop0 at hv1
  clear hv
  split at hv1
  · rename_i x hop
    obtain ⟨s, hs, hv⟩ := onO_some hv1; rw [forceS_eq] at hv
    exact wp_value H F (by simp [execOp, hop]) hv (evs_ok F hs)
  · rename_i x hop
    obtain ⟨s, hs, hv⟩ := onO_some hv1; rw [forceS_eq] at hv
    exact wp_value H F (by simp [execOp, hop]) hv (evs_ok F hs)
  · rename_i c x y hop
    obtain ⟨s, hs, hv⟩ := onO_some hv1
    split at hv
    · rename_i t
      have hc := evs_ok F hs
      simp only [RepS, Rep] at hc
      obtain ⟨h1, h2⟩ := hv.elim
      cases t with
      | true =>
        obtain ⟨s, hs, hv⟩ := onO_some (h1 rfl); rw [forceS_eq] at hv
        exact wp_value H F (by simp [execOp, hop, hc, asBool]) hv (evs_ok F hs)
      | false =>
        obtain ⟨s, hs, hv⟩ := onO_some (h2 rfl); rw [forceS_eq] at hv
        exact wp_value H F (by simp [execOp, hop, hc, asBool]) hv (evs_ok F hs)
    · exact hv.elim
  · rename_i t hop
    refine wp_out (by simp only [execOp, hop, Sem.run_bind, Sem.run_pure]) (valloc_ok hT hv1 H F)
  · rename_i t x hop
    obtain ⟨s, hs, hv⟩ := onO_some hv1
    refine wp_out (by simp only [execOp, hop, Sem.run_bind, Sem.run_pure]) (vbox_ok (P := P) (t := t) hv H F (evs_ok F hs))
  · rename_i t ps hop
    obtain ⟨r, hr, hv⟩ := onO_some hv1
    have hr := evP_ok F hr
    obtain ⟨c, s, h1, h2, h3⟩ := vbuild_ok (P := P) (parts' := ps.map fun (i, x) => (i, a.eval x)) hT hv (by simpa using hr)
    exact wp_value H F (by simp only [execOp, hop, Sem.run_bind, h1, Result.andThen_ok, Sem.run_pure]) h2 h3
  · rename_i t m ps hop
    obtain ⟨r, hr, hv⟩ := onO_some hv1
    have hr := evP_ok F hr
    refine wp_out (by simp only [execOp, hop, Sem.run_bind, Sem.run_pure]) (vbuildSlice_ok (parts' := ps.map fun (i, x) => (i, a.eval x)) hT hv H F (by simpa using hr))
  · rename_i t x hop
    obtain ⟨s, hs, hv⟩ := onO_some hv1
    cases hsafe : safeId us s with
    | false => rw [hsafe] at hv; exact hv.elim
    | true =>
      rw [hsafe] at hv; simp only [cond_true] at hv
      obtain ⟨c, s', h1, h2, h3⟩ := vload_ok hT hsafe hv H (evs_ok F hs)
      exact wp_value H F (by simp only [execOp, hop, Sem.run_bind, h1 w (Same.refl _ _), Result.andThen_ok, Sem.run_pure]) h2 h3
  · rename_i t x y hop
    obtain ⟨s, hs, hv⟩ := onO_some hv1
    obtain ⟨v, hv', hv⟩ := onO_some hv
    obtain ⟨w', h1, h2⟩ := vstore_ok hT hv H F (evs_ok F hs) (evs_ok F hv')
    exact wp_skip' (by simp only [execOp, hop, Sem.run_bind, h1, Result.andThen_ok, Sem.run_pure]) h2
  · rename_i x hop
    obtain ⟨s, hs, hv⟩ := onO_some hv1
    obtain ⟨⟨ad, had⟩, hk⟩ := vnil_ok hv (evs_ok F hs)
    exact wp_value H F (c := .pointer (some ad)) (by simp [execOp, hop, had]) hk (by rw [← had]; exact evs_ok F hs)
  · rename_i op t x y t' hop
    obtain ⟨s, hs, hv⟩ := onO_some hv1
    obtain ⟨s2, hs2, hv⟩ := onO_some hv
    obtain ⟨c, s', h1, h2, h3⟩ := vbin_ok hT hv (evs_ok F hs) (evs_ok F hs2)
    exact wp_value H F (by simp only [execOp, hop]; rw [Sem.run_bind, h1 w]; rfl) h2 h3
  · rename_i op t x hop
    obtain ⟨s, hs, hv⟩ := onO_some hv1
    obtain ⟨c, s', h1, h2, h3⟩ := vun_ok (P := P) hv (evs_ok F hs)
    exact wp_value H F (by simp only [execOp, hop, Sem.run_bind, h1, Result.andThen_ok, Sem.run_pure]) h2 h3
  · rename_i t u x hop
    obtain ⟨s, hs, hv⟩ := onO_some hv1
    obtain ⟨c, s', h1, h2, h3⟩ := vconvert_ok (P := P) hT hv (evs_ok F hs)
    exact wp_value H F (by simp only [execOp, hop, Sem.run_bind, h1, Result.andThen_ok, Sem.run_pure]) h2 h3
  · rename_i t x hop
    obtain ⟨s, hs, hv⟩ := onO_some hv1
    split at hv
    · rename_i id
      obtain ⟨ob, ho, hv⟩ := onO_some hv
      cases hl : live ob with
      | false => rw [hl] at hv; exact hv.elim
      | true =>
        rw [hl] at hv; simp only [cond_true] at hv
        rw [nth_eq] at ho
        obtain ⟨M', g1, g2, g3, g4⟩ := H.freeze us ho hl
        have hlen : ((frzH id ob h).set id .dead).length = h.length := by simp [frzH_length]
        have hx := RepS.frz g2 g3 _ _ (evs_ok F hs)
        simp only [AV0.frz, Nat.beq_refl, cond_true] at hx
        obtain ⟨c, s', h1, h2, h3⟩ := vmakeI_ok (P := P) hT hv hx
        unfold Oper.wp
        rw [show (execOp a.eval o).run P w = .ok (.value c) w by simp only [execOp, hop, Sem.run_bind, h1, Result.andThen_ok, Sem.run_pure]]
        exact ⟨a, c, s', _, _, ι, M', rfl, h2, g1, by rw [hlen]; exact F.frz g2 g3, by rw [hlen]; exact h3, g4⟩
    · obtain ⟨c, s', h1, h2, h3⟩ := vmakeI_ok (P := P) hT hv (evs_ok F hs)
      exact wp_value H F (by simp only [execOp, hop, Sem.run_bind, h1, Result.andThen_ok, Sem.run_pure]) h2 h3
  · rename_i fn p q hop
    obtain ⟨x, hx, hv⟩ := onO_some hv1
    obtain ⟨y, hy, hv⟩ := onO_some hv
    refine wp_value H F (c := .func fn (p.map a.eval) (q.map a.eval)) (by simp [execOp, hop, Instr.makeFunc]) hv (mkClo_ok (by simpa using evL_ok F hx) (by simpa using evL_ok F hy))
  · rename_i t hop
    refine wp_out (by simp only [execOp, hop, Sem.run_bind, Sem.run_pure, Option.map_none]) (vmakeMap_ok (P := P) (t := t) hv1 H F)
  · rename_i t x lo hi hop
    obtain ⟨s, hs, hv⟩ := onO_some hv1
    split at hv
    · rename_i id
      exact wp_out (by simp only [execOp, hop, Sem.run_bind, Sem.run_pure, Option.map_none]) (vsliceA_ok (P := P) hT hv H F (evs_ok F hs))
    obtain ⟨l, hl, hv⟩ := onO_some hv
    obtain ⟨u, hu, hv⟩ := onO_some hv
    obtain ⟨c, s', h1, h2, h3⟩ := vslice_ok (P := P) hT hv (evs_ok F hs) (evO_ok F hl) (evO_ok F hu)
    exact wp_value H F (by simp only [execOp, hop, Sem.run_bind, Option.map_none, h1, Result.andThen_ok, Sem.run_pure]) h2 h3
  · rename_i t x f hop
    obtain ⟨s, hs, hv⟩ := onO_some hv1
    obtain ⟨c, s', h1, h2, h3⟩ := vfieldAddr_ok (P := P) hT hv (evs_ok F hs)
    exact wp_value H F (by simp only [execOp, hop, Sem.run_bind, h1, Result.andThen_ok, Sem.run_pure]) h2 h3
  · rename_i t x f hop
    obtain ⟨s, hs, hv⟩ := onO_some hv1
    obtain ⟨c, s', h1, h2, h3⟩ := vfield_ok (P := P) hT hv (evs_ok F hs)
    exact wp_value H F (by simp only [execOp, hop, Sem.run_bind, h1, Result.andThen_ok, Sem.run_pure]) h2 h3
  · rename_i t x i hop
    obtain ⟨s, hs, hv⟩ := onO_some hv1
    obtain ⟨s2, hs2, hv⟩ := onO_some hv
    obtain ⟨c, s', h1, h2, h3⟩ := vindexAddr_ok (P := P) hT hv H (evs_ok F hs) (evs_ok F hs2)
    exact wp_value H F (by simp only [execOp, hop, Sem.run_bind, h1, Result.andThen_ok, Sem.run_pure]) h2 h3
  · rename_i t x i hop
    obtain ⟨s, hs, hv⟩ := onO_some hv1
    obtain ⟨s2, hs2, hv⟩ := onO_some hv
    obtain ⟨c, s', h1, h2, h3⟩ := vindex_ok (P := P) hT hv (evs_ok F hs) (evs_ok F hs2)
    exact wp_value H F (by simp only [execOp, hop, Sem.run_bind, h1, Result.andThen_ok, Sem.run_pure]) h2 h3
  · rename_i t x i ok hop
    obtain ⟨s, hs, hv⟩ := onO_some hv1
    obtain ⟨s2, hs2, hv⟩ := onO_some hv
    cases hsafe : safeId us s with
    | false => rw [hsafe] at hv; exact hv.elim
    | true =>
      rw [hsafe] at hv; simp only [cond_true] at hv
      obtain ⟨c, s', h1, h2, h3⟩ := vlookup_ok (P := P) hT hsafe hv H (evs_ok F hs) (evs_ok F hs2)
      exact wp_value H F (by simp only [execOp, hop, Sem.run_bind, h1 w (Same.refl _ _), Result.andThen_ok, Sem.run_pure]) h2 h3
  · rename_i t m k v hop
    obtain ⟨s, hs, hv⟩ := onO_some hv1
    obtain ⟨s2, hs2, hv⟩ := onO_some hv
    obtain ⟨s3, hs3, hv⟩ := onO_some hv
    obtain ⟨w', h1, h2⟩ := vmapUpdate_ok hT hv H F (evs_ok F hs) (evs_ok F hs2) (evs_ok F hs3)
    exact wp_skip' (by simp only [execOp, hop, Sem.run_bind, h1, Result.andThen_ok, Sem.run_pure]) h2
  · rename_i x xt t ok hop
    obtain ⟨s, hs, hv⟩ := onO_some hv1
    obtain ⟨c, s', h1, h2, h3⟩ := vassert_ok (P := P) (xt := xt) hT hv (evs_ok F hs)
    exact wp_value H F (by simp only [execOp, hop, Sem.run_bind, h1, Result.andThen_ok, Sem.run_pure]) h2 h3
  · rename_i x i hop
    obtain ⟨s, hs, hv⟩ := onO_some hv1
    obtain ⟨c, s', h1, h2, h3⟩ := vextract_ok (P := P) hv (evs_ok F hs)
    exact wp_value H F (by simp only [execOp, hop, Sem.run_bind, h1, Result.andThen_ok, Sem.run_pure]) h2 h3
  · rename_i c hop
    split at hv1
    · rename_i x hcal
      obtain ⟨f, hf, hv⟩ := onO_some hv1
      obtain ⟨⟨fi, fst, cp⟩, hp, hv⟩ := onO_some hv
      obtain ⟨args, hargs, hv⟩ := onO_some hv
      obtain ⟨x', y', hfe, h1, h2⟩ := cloOf_ok hp (evs_ok F hf)
      have ha := evL_ok F hargs
      have hok := hv.elim.1
      refine wp_call hv H F (cs := x'.toList ++ c.args.toList.map a.eval ++ y'.toList) ?_ ((h1.append ha).append h2)
      simp only [execOp, hop, resolve, hcal, hfe, Deferred.ofValue, Sem.run_bind, Sem.run_pure, Result.andThen_ok, invoke]
      rw [run_callFunc hok]
      congr 2
      apply Array.ext'
      simp
    · rename_i b hcal
      obtain ⟨args, hargs, hv⟩ := onO_some hv1
      have ha := evL_ok F hargs
      obtain ⟨r, h1, h2⟩ := vbuiltin_ok (ty := o.type) (cst := c.args.map fun | .const _ => true | _ => false) hT hv H F ha
      refine wp_out ?_ h2
      rw [← h1]
      simp only [execOp, hop, resolve, hcal, Sem.run_bind, Sem.run_pure, Result.andThen_ok, invoke]
      congr 2
      apply Array.ext'
      simp
    · exact hv1.elim
  · rename_i c hop
    split at hv1
    · rename_i x hcal
      obtain ⟨f, hf, hv⟩ := onO_some hv1
      obtain ⟨⟨fi, fst, cp⟩, hp, hv⟩ := onO_some hv
      obtain ⟨args, hargs, hv⟩ := onO_some hv
      obtain ⟨x', y', hfe, h1, h2⟩ := cloOf_ok hp (evs_ok F hf)
      have ha := evL_ok F hargs
      unfold Oper.wp
      have hr : (execOp a.eval o).run P w = .ok (.defer { target := .fn (.func fi) y', args := x' ++ c.args.map a.eval }) w := by
        simp only [execOp, hop, resolve, hcal, hfe, Deferred.ofValue, Sem.run_bind, Sem.run_pure, Result.andThen_ok]
      rw [hr]
      refine ⟨{ a with defers := { target := .fn (.func fi) y', args := x' ++ c.args.map a.eval } :: a.defers }, undef, _, _, h, ι, M, rfl, hv, H, ?_, ?_, Grow.refl ι w M h us⟩
      · refine ⟨F.size, F.slot, ?_⟩
        simp only [RepD]
        exact ⟨y', _, a.defers, rfl, by simpa using h1.append ha, h2, F.defs⟩
      · simp only [RepS, Rep]; exact ⟨#[], rfl, by simp [RepL]⟩
    · exact hv1.elim
  · exact hv1.elim
end

/-! ### regions -/
def vput (n : Nat) (dst : Option Tmp) (s : SV) (α : AF) (k : AF → Prop) : Prop :=
  match dst with
  | none => k α
  | some d => bif Nat.blt d n then (match α with | ⟨l, e⟩ => k ⟨(d, s) :: l, e⟩) else False

/-- the slot that tells whether an operation is wanted -/
def gslot (ops : List Oper) (j : Nat) : Option Nat :=
  match nth ops j with
  | some o => o.dst
  | none => none

def vguard (ops : List Oper) (α : AF) (g : Option (Nat × Bool)) (run skip : Prop) : Prop :=
  match g with
  | none => run
  | some (j, want) => match gslot ops j with
    | some d => match look α.s d with
      | some (.v (.c (.bool b))) => match want with
        | true => BSplit b run skip
        | false => BSplit b skip run
      | some (.v (.tup [])) => skip
      | _ => False
    | none => False

/-- one operation, and what follows -/
def vopsStep (P : Program) (T : TT) (us : Us) (n : Nat) (ops : List Oper) (o : Oper) (rest : (AF → List SO → Prop) → AF → List SO → Prop) (K : AF → List SO → Prop) (α : AF) (h : List SO) : Prop :=
  vguard ops α o.guard
      (vop P T us o α h fun s α h => vput n o.dst s α fun α => rest K α h)
      (vput n o.dst (.v (.tup [])) α fun α => rest K α h)

def vopsEnd (K : AF → List SO → Prop) (α : AF) (h : List SO) : Prop := K α h

/-- by the recursor itself: so the kernel meets the same terms as the elaborator -/
noncomputable def vops (P : Program) (T : TT) (us : Us) (n : Nat) (ops : List Oper) (l : List Oper) : (AF → List SO → Prop) → AF → List SO → Prop :=
  List.rec (motive := fun _ => (AF → List SO → Prop) → AF → List SO → Prop) vopsEnd (fun o _ ih => vopsStep P T us n ops o ih) l

theorem vops_nil {P T us n ops K α h} : vops P T us n ops [] K α h = K α h := rfl
theorem vops_cons {P T us n ops o rest K α h} : vops P T us n ops (o :: rest) K α h = vguard ops α o.guard
      (vop P T us o α h fun s α h => vput n o.dst s α fun α => vops P T us n ops rest K α h)
      (vput n o.dst (.v (.tup [])) α fun α => vops P T us n ops rest K α h) := rfl

theorem vguard_ok {ops : Array Oper} {o : Oper} {α : AF} {run skip : Prop} {ι N w M n a} (h : vguard ops.toList α o.guard run skip) (F : FR ι N w M n α a) :
    (Region.wanted o (yielded ops a.tmps) = true ∧ run) ∨ (Region.wanted o (yielded ops a.tmps) = false ∧ skip) := by
  unfold vguard at h
  unfold Region.wanted
  split at h
  · rename_i hg; left; rw [hg]; exact ⟨rfl, h⟩
  · rename_i j want hg
    rw [hg]
    split at h
    · rename_i d hd
      have hdd : (ops[j]?).bind (·.dst) = some d := by
        unfold gslot at hd
        rw [nth_eq, Array.getElem?_toList] at hd
        split at hd
        · rename_i o' ho'; rw [ho']; exact hd
        · cases hd
      split at h
      · rename_i b hb
        obtain ⟨c, h1, h2⟩ := F.slot d _ hb
        simp only [RepS, Rep] at h2; subst h2
        have hy : yielded ops a.tmps j = some b := by simp [yielded, hdd, h1]
        simp only [hy]
        cases want <;> simp only at h <;> obtain ⟨g1, g2⟩ := h.elim <;> cases b
        · left; exact ⟨rfl, g2 rfl⟩
        · right; exact ⟨rfl, g1 rfl⟩
        · right; exact ⟨rfl, g2 rfl⟩
        · left; exact ⟨rfl, g1 rfl⟩
      · rename_i hb
        obtain ⟨c, h1, h2⟩ := F.slot d _ hb
        simp only [RepS, Rep] at h2
        obtain ⟨cs, rfl, h2⟩ := h2
        have hy : yielded ops a.tmps j = none := by simp [yielded, hdd, h1]
        simp only [hy]
        exact .inr ⟨rfl, h⟩
      · exact h.elim
    · exact h.elim

end Go.AV0
