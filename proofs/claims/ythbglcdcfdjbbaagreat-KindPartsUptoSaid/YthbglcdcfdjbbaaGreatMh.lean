/- KindPartsUptoSaid: of any type what it holds, for each text, value, number and key of bulk at most 1048576. This text: L7. -/
import Derived.Test.YthbglcdcfdjbbaaGreatMg
import Derived.Test.YthbglcdcfdjbbaaGreatRows
/- KindParts, where what it reads is of bulk at most 1048576: of any type what it holds: true for each text, value, number and key of that bulk. -/
namespace Go.Proofs.YthbglcdcfdjbbaaGreat
open Go.ChangeShapes Go.WideShapes Go.ChangeAt Go.RowKit

/-- the types of what is read -/
def typesV : List TypeId := [25, 3, 4, 9, 22, 23]

theorem kindParts_avs (avs : List Go.AV0.AV) (m : Nat) (hm : m ≤ 1048576) (h : Go.AV0.ShpA Go.AV0.TS [9, 25, 3, 9] avs m) : Go.AV0.APure Tryz.prog 3 avs (fun r => r = .c (.bool true)) := by
  obtain ⟨n0, i0, x0, r0, a0, b0, hi0, rfl, h0, ⟨n1, i1, x1, r1, a1, b1, hi1, rfl, h1, ⟨n2, i2, x2, r2, a2, b2, hi2, rfl, h2, ⟨n3, i3, x3, r3, a3, b3, hi3, rfl, h3, rfl, g3⟩, g2⟩, g1⟩, g0⟩ := h
  cases hi0; cases hi1; cases hi2; cases hi3
  obtain ⟨r, rfl, hb⟩ := Go.AV0.shp_val h1
  match n0, h0, n2, h2, n3, h3 with
  | n0 + 1, h0, n2 + 1, h2, n3 + 1, h3 =>
    obtain ⟨s, rfl, _⟩ := h0
    obtain ⟨n, _, rfl, _⟩ := h2
    obtain ⟨key, rfl, _⟩ := h3
    exact Go.AV0.kindParts_l s r n key (by omega)

theorem lifted (os : Os) (started : os.Started) (H : Type) (enc : TypeId × Value → H) (F : Stop.Interp) :
    ReturnsInHanded {} Tryz.checked os 3 .any ((Rows.OpenSpec.upto Rows.kindPartsSpec).pre6 enc Tryz.prog Tryz.f3 Rows.kindPartsUptoRow.domain false) (((Rows.OpenSpec.upto Rows.kindPartsSpec).at F).post enc Tryz.prog Tryz.f3 false true false false) :=
  Go.AV0.law_lifted (C := Tryz.checked) (fn := Tryz.f3) (s := Rows.kindPartsSpec) (bt := 4) (S := typesV) (ts := [9, 25, 3, 9]) (by kernel_rfl) started (by kernel_rfl) Tryz.func3 Go.AV0.hTS (by kernel_rfl) (by kernel_rfl) (by kernel_rfl) (by kernel_rfl) (by kernel_rfl) Tryz.underlying4 rfl
    (fun H ds h => match ds, h with | [d1, d2, d3, d4], _ => ⟨rfl, rfl, rfl⟩)
    (OpenSpec.witness (enc := enc) (C := Tryz.checked) (s := Rows.OpenSpec.upto Rows.kindPartsSpec) (k := Rows.uptoSmall) rfl false ⟨#[], #[.string ⟨#[]⟩, .agg #[.int .i64 0, .bool false, .int .i64 0, .int .i64 0, .string ⟨#[]⟩, .slice none 0 0, .slice none 0 0], .int .i64 0, .string ⟨#[]⟩], []⟩ 8 (by kernel_rfl) (by kernel_rfl) (by kernel_rfl)
      (x := ([.lit (.string []), .agg [.lit (.int .i64 0), .lit (.bool false), .lit (.int .i64 0), .lit (.int .i64 0), .lit (.string []), .nil, .nil], .lit (.int .i64 0), .lit (.string [])], [], [])) (by kernel_rfl) (by kernel_rfl) (by kernel_rfl) (by kernel_rfl))
    kindParts_avs

theorem kindParts_upto : Rows.KindPartsUptoSaid :=
  OpenClaim.holds_of_cond 3 Tryz.f3 rfl rfl rfl rfl rfl rfl rfl ⟨rfl, rfl, rfl, rfl, rfl⟩ rfl rfl rfl rfl rfl (by kernel_rfl) Tryz.func3 (by kernel_rfl)
    (of_decide_eq_true (by kernel_rfl)) (by unfold Func.isWrapper; first | (rw [if_pos (by decide +kernel)]; kernel_rfl) | (rw [if_neg (by decide +kernel)]; exact ⟨rfl, rfl⟩))
    (fun os started H enc _ F => lifted os started H enc F)

end Go.Proofs.YthbglcdcfdjbbaaGreat
