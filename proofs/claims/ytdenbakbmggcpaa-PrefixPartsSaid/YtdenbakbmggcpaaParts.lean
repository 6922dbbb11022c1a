/- 'tailwaterlaw40.PrefixParts' returns true for every input, and its arguments read behind the call as they read before. No condition. -/
import Derived.Test.YtdenbakbmggcpaaRows
import Derived.Test.YtdenbakbmggcpaaLaw2
import Derived.ProofKit
namespace Go.Proofs.Ytdenbakbmggcpaa
open Go.ChangeShapes Go.WideShapes Go.ChangeAt Go.RowKit

theorem Try.own : ownKnob Try.prog.godebug = none := by kernel_rfl
theorem Try.laidOut : laidOutB Try.prog = true := by kernel_rfl

set_option maxRecDepth 100000 in
theorem prefixParts_lifted (os : Os) (started : os.Started) (H : Type) (enc : TypeId × Value → H) :
    ReturnsInHanded {} Try.checked os 3 .any (Rows.prefixPartsSpec.pre6 enc Try.prog Try.f3 Rows.prefixPartsRow.domain false) (Rows.prefixPartsSpec.post enc Try.prog Try.f3 false true false false) := by
  refine returnsInHanded_of_change (C := Try.checked) Try.own started (by kernel_rfl) Try.func3
    (ChangeSpec.witness6 (enc := enc) (C := Try.checked) false ⟨#[], #[.agg #[.slice none 0 0, .slice none 0 0], .agg #[.slice none 0 0, .slice none 0 0]], []⟩ 8 (by kernel_rfl) (by kernel_rfl) (by kernel_rfl) (by kernel_rfl)) ?_
  intro W base args ds gs before hval hW hcnd _
  refine Go.Tw.law_contract (ps := Go.Tw.law40_PrefixParts_3_ps) (tb := 4) (Go.Tw.law40_PrefixParts_3_ok 5000) rfl (fun ds h => ?_) (by kernel_rfl) (by kernel_rfl) (by kernel_rfl) Try.laidOut (by kernel_rfl) (fun x _ _ => Go.Tw.parts_true x.1 x.2) hval hW
  have h2 : ds.length = 2 := h
  match ds, h2 with
  | [_, _], _ => exact ⟨rfl, rfl, rfl⟩

theorem prefixParts_holds : Rows.PrefixPartsSaid :=
  OpenClaim.holds_of_wide 3 Try.f3 rfl rfl rfl rfl rfl rfl rfl ⟨rfl, rfl, rfl, rfl, rfl⟩ rfl rfl rfl rfl rfl (by kernel_rfl) Try.func3 (by kernel_rfl)
    (of_decide_eq_true (by kernel_rfl)) (by unfold Func.isWrapper; first | (rw [if_pos (by decide +kernel)]; kernel_rfl) | (rw [if_neg (by decide +kernel)]; exact ⟨rfl, rfl⟩))
    (fun os started H enc _ => prefixParts_lifted os started H enc)
#print axioms prefixParts_holds
end Go.Proofs.Ytdenbakbmggcpaa
