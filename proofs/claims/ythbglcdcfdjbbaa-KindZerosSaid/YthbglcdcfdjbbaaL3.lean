/- KindZeros: of any type its zero, that it takes; whether two types are the same: true for every two texts, without any condition. -/
import Derived.Test.YthbglcdcfdjbbaaRows
import Derived.Test.YthbglcdcfdjbbaaML
import Derived.HandedShaped
import Derived.ProofKit
namespace Go.Proofs.Ythbglcdcfdjbbaa
open Go.ChangeShapes Go.WideShapes Go.ChangeAt Go.RowKit
open Go.ChangeMaps (open_string shut_string)

theorem own : ownKnob Try.prog.godebug = none := by kernel_rfl

theorem kindZeros_walk (s u : ByteArray) (W : World) : Calls Try.prog 3 #[.string s, .string u] W fun e W' => e = .returned (.bool true) ∧ Below W.heap.size W W' := by
  refine ((Go.AV0.kindZeros_l s u).2 W (fun _ => False) [.string s, .string u] (fun _ h => h.elim) (by simp [Go.AV0.RepL, Go.AV0.Rep])).mono ?_
  rintro e W' ⟨c, v, rfl, rfl, hb, hv⟩
  simp only [Go.AV0.Rep] at hv
  subst hv
  exact ⟨rfl, hb⟩

set_option maxRecDepth 100000 in
theorem kindZeros_lifted (os : Os) (started : os.Started) (H : Type) (enc : TypeId × Value → H) :
    ReturnsInHanded {} Try.checked os 3 .any (Rows.kindZerosSpec.pre6 enc Try.prog Try.f3 Rows.kindZerosRow.domain false) (Rows.kindZerosSpec.post enc Try.prog Try.f3 false true false false) := by
  refine returnsInHanded_of_change_shaped (C := Try.checked) own started (by kernel_rfl) Try.func3
    (ChangeSpec.witness6 (enc := enc) (C := Try.checked) false ⟨#[], #[.string ⟨#[]⟩, .string ⟨#[]⟩], []⟩ 8 (by kernel_rfl) (by kernel_rfl) (by kernel_rfl) (by kernel_rfl)) ?_
  intro W base args ds gs before hval0 hW hcnd0 _ hsh _
  have hval : ∀ (j : Nat) t v, Try.f3.params[j]? = some t → args[j]? = some v → Value.okWide Try.prog W .any base t v := hval0
  have hW' := hW
  obtain ⟨p, q, hA0, hV, rfl, hfz, hnd⟩ := hW
  have hA : DataW.TrodAll enc Try.prog W 0 (fun _ => true) true Try.f3.params.toList args.toList ds p := hA0
  rw [Try.params3] at hA hval
  obtain ⟨v0, v1, d0, d1, p0, p1, rfl, rfl, rfl, h0, h1⟩ := trodAll_two hA
  obtain ⟨rfl, rfl⟩ := trodVars_none hV
  obtain ⟨s, rfl, rfl, rfl, ws⟩ := open_string Try.underlying9 (hval 0 9 v0 rfl rfl) h0
  obtain ⟨u, rfl, rfl, rfl, wu⟩ := open_string Try.underlying9 (hval 1 9 v1 rfl rfl) h1
  clear hA0 hval0
  simp only [List.append_nil] at hW'
  refine (kindZeros_walk s u W).mono fun e W' ⟨he, hb⟩ => ?_
  subst he
  refine ⟨_, rfl, ?_⟩
  refine ⟨_, _, _, [], [], [], hW', ?_, ?_, ?_, hb.frame _, fun h => by cases h⟩
  · exact trodAll_mk1 (shut_bool Try.underlying4 _)
  · exact trodAll_mk2 (shut_string Try.underlying9 ws) (shut_string Try.underlying9 wu)
  · rfl

theorem kindZeros_holds : Rows.KindZerosSaid :=
  OpenClaim.holds_of_wide 3 Try.f3 rfl rfl rfl rfl rfl rfl rfl ⟨rfl, rfl, rfl, rfl, rfl⟩ rfl rfl rfl rfl rfl (by kernel_rfl) Try.func3 (by kernel_rfl)
    (of_decide_eq_true (by kernel_rfl)) (by unfold Func.isWrapper; first | (rw [if_pos (by decide +kernel)]; kernel_rfl) | (rw [if_neg (by decide +kernel)]; exact ⟨rfl, rfl⟩))
    (fun os started H enc _ => kindZeros_lifted os started H enc)

end Go.Proofs.Ythbglcdcfdjbbaa
