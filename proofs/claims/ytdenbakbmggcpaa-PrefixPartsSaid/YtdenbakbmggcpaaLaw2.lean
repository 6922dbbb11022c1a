/- Plain laws: Part and Same are what the reference says. -/
import Derived.Test.YtdenbakbmggcpaaLaw1
set_option linter.unusedVariables false
set_option linter.unusedSectionVars false
set_option linter.unusedSimpArgs false
namespace Go.Tw

def partR (a b : Outputs) : Bool × Int := if manyR a || manyR b then (false, 4) else (inR a b, 0)
def sameR (a b : Outputs) : Bool × Int := if manyR a || manyR b then (false, 4) else (inR a b && inR b a, 0)

/-- No list is longer than 4010. -/
def low (a : Outputs) : Prop := a.1.length ≤ 4010 ∧ a.2.length ≤ 4010

theorem part_is {a b : Outputs} (ha : low a) (hb : low b) : prefix_Part_5_f 5000 a b = some (partR a b) := by
  have hc := check_is 4997 a b
  have hr := row_within (N := 5000) (a := a.1) (b := b.1) (by have := ha.1; omega) (by have := hb.1; omega) (by omega)
  have hl := rec_within (N := 5000) (a := a.2) (b := b.2) (by have := ha.2; omega) (by have := hb.2; omega) (by omega)
  have hc' : prefix_check_9_f 5000 [a, b] = some (if manyR a || manyR b then 4 else 0) := hc
  unfold prefix_Part_5_f prefix_Part_5_b prefix_check_9_v prefix_check_9_p api_Row_10_v api_Row_10_p api_Record_11_v api_Record_11_p partR
  rw [hc', hr, hl]
  cases h : (manyR a || manyR b) with
  | true => simp [chk]
  | false => simp [chk, inR]
theorem many_is (N : Nat) (a : Outputs) : ref40_many_12_f N a = some (manyR a) := rfl
theorem rpart_is {a b : Outputs} (ha : low a) (hb : low b) : ref40_Part_6_f 5000 a b = some (partR a b) := by
  have hi := in_is (N := 5000) (a := a) (b := b) (by have := ha.1; omega) (by have := ha.2; omega) (by have := hb.1; omega) (by have := hb.2; omega) (by omega)
  unfold ref40_Part_6_f ref40_Part_6_b ref40_many_12_v ref40_many_12_p ref40_In_13_v ref40_In_13_p partR
  rw [many_is, many_is, hi]
  cases h : (manyR a || manyR b) with
  | true => simp [chk, h]
  | false => simp [chk, h]
theorem rsame_is {a b : Outputs} (ha : low a) (hb : low b) : ref40_Same_8_f 5000 a b = some (sameR a b) := by
  have hi := in_is (N := 5000) (a := a) (b := b) (by have := ha.1; omega) (by have := ha.2; omega) (by have := hb.1; omega) (by have := hb.2; omega) (by omega)
  have hi' := in_is (N := 5000) (a := b) (b := a) (by have := hb.1; omega) (by have := hb.2; omega) (by have := ha.1; omega) (by have := ha.2; omega) (by omega)
  unfold ref40_Same_8_f ref40_Same_8_b ref40_many_12_v ref40_many_12_p ref40_In_13_v ref40_In_13_p sameR
  rw [many_is, many_is, hi, hi']
  cases h : (manyR a || manyR b) with
  | true => simp [chk, h]
  | false => simp [chk, h]
theorem both_eq {K : Ty} (hK : K.key = true) {a b : List K.D} (ha : a.length ≤ 4010) (hb : b.length ≤ 4010) : (isPart K a b && ((a.length : Int) == (b.length : Int))) = (isPart K a b && isPart K b a) := by
  have h := part_both hK (a := a) (b := b) (by omega) (by omega)
  rw [Bool.eq_iff_iff]
  simp only [Bool.and_eq_true, beq_iff_eq]
  rw [← h]
  refine and_congr_right fun _ => ?_
  omega
theorem same_is {a b : Outputs} (ha : low a) (hb : low b) : prefix_Same_7_f 5000 a b = some (sameR a b) := by
  unfold prefix_Same_7_f prefix_Same_7_b prefix_Part_5_v prefix_Part_5_p
  rw [part_is ha hb]
  simp only [Option.getD_some, Option.isSome_some, chk_true']
  unfold partR sameR
  cases h : (manyR a || manyR b) with
  | true => simp
  | false =>
    have h1 := both_eq rowK (a := a.1) (b := b.1) ha.1 hb.1
    have h2 := both_eq recK (a := a.2) (b := b.2) ha.2 hb.2
    simp only [Bool.false_eq_true, if_false, inR]
    congr 2
    generalize isPart tRow a.1 b.1 = p at *
    generalize isPart tRecord a.2 b.2 = q at *
    generalize isPart tRow b.1 a.1 = p' at *
    generalize isPart tRecord b.2 a.2 = q' at *
    generalize ((a.1.length : Int) == (b.1.length : Int)) = u at *
    generalize ((a.2.length : Int) == (b.2.length : Int)) = v at *
    cases p <;> cases q <;> cases p' <;> cases q' <;> cases u <;> cases v <;> simp_all

/-- The law. -/
theorem parts_true (a b : Outputs) : law40_PrefixParts_3_f 5000 a b = some true := by
  have hg : ∀ (x : Outputs), ref40_Great_4_v 5000 x = false → low x := fun x h => by
    have h' : ((((decide ((x.1.length : Int) > (100 : Int)) && decide ((x.1.length : Int) ≤ (4000 : Int))) || decide ((x.1.length : Int) > (4010 : Int))) || (decide ((x.2.length : Int) > (100 : Int)) && decide ((x.2.length : Int) ≤ (4000 : Int)))) || decide ((x.2.length : Int) > (4010 : Int))) = false := h
    simp only [Bool.or_eq_false_iff, decide_eq_false_iff_not] at h'
    exact ⟨by omega, by omega⟩
  have hp : ∀ x, ref40_Great_4_p 5000 x = true := fun x => rfl
  unfold law40_PrefixParts_3_f law40_PrefixParts_3_b
  simp only [hp, chk_true', Bool.true_or]
  cases h : (ref40_Great_4_v 5000 a || ref40_Great_4_v 5000 b) with
  | true => rfl
  | false =>
    simp only [Bool.or_eq_false_iff] at h
    have ha := hg a h.1
    have hb := hg b h.2
    unfold prefix_Part_5_v prefix_Part_5_p ref40_Part_6_v ref40_Part_6_p prefix_Same_7_v prefix_Same_7_p ref40_Same_8_v ref40_Same_8_p
    rw [part_is ha hb, rpart_is ha hb, same_is ha hb, rsame_is ha hb]
    simp [chk]
end Go.Tw
