/- Plain laws: small numbers; counts in a map. -/
import Derived.Test.YtdenbakbmggcpaaSndZ
set_option linter.unusedVariables false
set_option linter.unusedSectionVars false
set_option linter.unusedSimpArgs false
namespace Go.Tw

theorem wrap64_of {z : Int} (h0 : -9223372036854775808 ≤ z) (h1 : z < 9223372036854775808) : IntKind.i64.wrap z = z := by
  have h : IntKind.i64.wrap z = if z % 18446744073709551616 ≥ 9223372036854775808 then z % 18446744073709551616 - 18446744073709551616 else z % 18446744073709551616 := by
    simp [IntKind.wrap, IntKind.bits, IntKind.signed]
  rw [h]
  split <;> omega
theorem inside_lt {i n : Nat} (h : i < n) : inside ((i : Nat) : Int) n = true := by simp [inside, h]
theorem drop_get {α : Type} {l : List α} {i : Nat} (h : i < l.length) (z : α) : l.drop i = l.getD i z :: l.drop (i + 1) := by
  rw [List.drop_eq_getElem_cons h, List.getD_eq_getElem?_getD, List.getElem?_eq_getElem h, Option.getD_some]

theorem cond_true' {α : Type} (x y : α) : cond true x y = x := rfl
theorem cond_false' {α : Type} (x y : α) : cond false x y = y := rfl
theorem chk_true' {O : Type} (k : Option O) : chk true k = k := rfl

section
variable {K : Ty} (hK : K.key = true)
abbrev I64 : Ty := .int .i64

/-- A count. -/
def mg (K : Ty) (es : List (K.D × Int)) (x : K.D) : Int := mget K I64 es x
def mp (K : Ty) (es : List (K.D × Int)) (x : K.D) (y : Int) : List (K.D × Int) := mput K I64 es x y
/-- Counted up, one by one. -/
def addL (K : Ty) (es : List (K.D × Int)) : List K.D → List (K.D × Int)
  | [] => es
  | x :: l => addL K (mp K es x (IntKind.i64.wrap (mg K es x + 1))) l
/-- Counted down; does no count fall below zero? -/
def subL (K : Ty) (es : List (K.D × Int)) : List K.D → Bool
  | [] => true
  | x :: l => if mg K (mp K es x (IntKind.i64.wrap (mg K es x - 1))) x < 0 then false else subL K (mp K es x (IntKind.i64.wrap (mg K es x - 1))) l

theorem sub_cond {K : Ty} {O : Type} {es : List (K.D × Int)} {x : K.D} {l : List K.D} {k1 : Option O} {k0 : Bool → Option O} :
    cond (decide (mg K (mp K es x (IntKind.i64.wrap (mg K es x - 1))) x < 0)) (k0 false) (if subL K (mp K es x (IntKind.i64.wrap (mg K es x - 1))) l = true then k1 else k0 false) =
      if (if mg K (mp K es x (IntKind.i64.wrap (mg K es x - 1))) x < 0 then false else subL K (mp K es x (IntKind.i64.wrap (mg K es x - 1))) l) = true then k1 else k0 false := by
  by_cases h : mg K (mp K es x (IntKind.i64.wrap (mg K es x - 1))) x < 0
  · simp [h]
  · simp [h]

def cnt (K : Ty) (x : K.D) : List K.D → Nat
  | [] => 0
  | y :: l => (cond (K.beq x y) 1 0) + cnt K x l
theorem cnt_le (x : K.D) : ∀ l : List K.D, cnt K x l ≤ l.length
  | [] => Nat.le_refl _
  | y :: l => by
    have := cnt_le x l
    simp only [cnt, List.length_cons]
    cases K.beq x y <;> simp <;> omega

include hK
theorem put_get (es : List (K.D × Int)) (x z : K.D) (y : Int) : mg K (mp K es x y) z = cond (K.beq z x) y (mg K es z) := mget_mput (V := I64) hK x z y es
theorem addL_get : ∀ (l : List K.D) (es : List (K.D × Int)) (B : Int), (∀ x, 0 ≤ mg K es x ∧ mg K es x ≤ B) → B + l.length < 9223372036854775808 → ∀ x, mg K (addL K es l) x = mg K es x + cnt K x l
  | [], es, B, _, _, x => by simp [addL, cnt]
  | y :: l, es, B, h, hB, x => by
    have hy := h y
    simp only [List.length_cons] at hB
    have hw : IntKind.i64.wrap (mg K es y + 1) = mg K es y + 1 := wrap64_of (by omega) (by omega)
    have ih := addL_get l (mp K es y (mg K es y + 1)) (B + 1) (fun z => by
      rw [put_get hK]
      have := h z
      cases K.beq z y <;> simp only [Bool.cond_true, Bool.cond_false] <;> omega) (by omega) x
    rw [addL, hw, ih, put_get hK]
    simp only [cnt]
    cases hxy : K.beq x y with
    | false => simp
    | true =>
      have := (beq_eq hK).1 hxy
      subst this
      simp only [Bool.cond_true]
      omega
theorem subL_iff : ∀ (l : List K.D) (es : List (K.D × Int)), (∀ x, 0 ≤ mg K es x ∧ mg K es x < 9223372036854775808) → (subL K es l = true ↔ ∀ x, (cnt K x l : Int) ≤ mg K es x)
  | [], es, h => by simp only [subL, cnt]; exact ⟨fun _ x => (h x).1, fun _ => trivial⟩
  | y :: l, es, h => by
    have hy := h y
    have hw : IntKind.i64.wrap (mg K es y - 1) = mg K es y - 1 := wrap64_of (by omega) (by omega)
    rw [subL, hw, put_get hK, (beq_eq hK).2 rfl, Bool.cond_true]
    by_cases h0 : mg K es y - 1 < 0
    · rw [if_pos h0]
      refine ⟨fun h => by simp at h, fun h1 => ?_⟩
      have := h1 y
      simp only [cnt, (beq_eq hK).2 rfl, Bool.cond_true] at this
      omega
    · rw [if_neg h0, subL_iff l _ (fun z => by
        rw [put_get hK]
        have := h z
        cases K.beq z y <;> simp only [Bool.cond_true, Bool.cond_false] <;> omega)]
      refine forall_congr' fun z => ?_
      rw [put_get hK]
      simp only [cnt]
      cases hzy : K.beq z y with
      | false => simp
      | true =>
        have := (beq_eq hK).1 hzy
        subst this
        simp only [Bool.cond_true]
        omega

theorem cnt_app (x : K.D) : ∀ (l m : List K.D), cnt K x (l ++ m) = cnt K x l + cnt K x m
  | [], m => by simp [cnt]
  | y :: l, m => by simp only [List.cons_append, cnt, cnt_app x l m]; omega
theorem cnt_mem {x : K.D} : ∀ {l : List K.D}, 0 < cnt K x l → ∃ p q, l = p ++ x :: q
  | [], h => by simp [cnt] at h
  | y :: l, h => by
    cases hxy : K.beq x y with
    | true =>
      have := (beq_eq hK).1 hxy
      subst this
      exact ⟨[], l, rfl⟩
    | false =>
      simp only [cnt, hxy, Bool.cond_false, Nat.zero_add] at h
      obtain ⟨p, q, rfl⟩ := cnt_mem h
      exact ⟨y :: p, q, rfl⟩
/-- A part that is as long is all. -/
theorem part_all : ∀ (a b : List K.D), (∀ x, cnt K x a ≤ cnt K x b) → a.length = b.length → ∀ x, cnt K x b ≤ cnt K x a
  | [], b, _, hl, x => by
    have : b = [] := List.eq_nil_of_length_eq_zero hl.symm
    subst this
    exact Nat.le_refl _
  | y :: a, b, h, hl, x => by
    have hy := h y
    simp only [cnt, (beq_eq hK).2 rfl, Bool.cond_true] at hy
    obtain ⟨p, q, rfl⟩ := cnt_mem hK (show 0 < cnt K y b by omega)
    have e : ∀ z, cnt K z (p ++ y :: q) = cond (K.beq z y) 1 0 + cnt K z (p ++ q) := fun z => by
      rw [cnt_app hK, cnt_app hK]
      simp only [cnt]
      omega
    have ih := part_all a (p ++ q) (fun z => by
      have := h z
      rw [e z] at this
      simp only [cnt] at this
      omega) (by simp only [List.length_append, List.length_cons] at hl ⊢; omega) x
    rw [e x]
    simp only [cnt]
    omega
/-- A part is not longer. -/
theorem part_len : ∀ (a b : List K.D), (∀ x, cnt K x a ≤ cnt K x b) → a.length ≤ b.length
  | [], b, _ => Nat.zero_le _
  | y :: a, b, h => by
    have hy := h y
    simp only [cnt, (beq_eq hK).2 rfl, Bool.cond_true] at hy
    obtain ⟨p, q, rfl⟩ := cnt_mem hK (show 0 < cnt K y b by omega)
    have e : ∀ z, cnt K z (p ++ y :: q) = cond (K.beq z y) 1 0 + cnt K z (p ++ q) := fun z => by
      rw [cnt_app hK, cnt_app hK]
      simp only [cnt]
      omega
    have ih := part_len a (p ++ q) (fun z => by
      have := h z
      rw [e z] at this
      simp only [cnt] at this
      omega)
    simp only [List.length_append, List.length_cons] at ih ⊢
    omega

/-- Is a a part of b? -/
def isPart (K : Ty) (a b : List K.D) : Bool := subL K (addL K [] b) a
theorem isPart_iff {a b : List K.D} (hb : b.length < 9223372036854775807) : isPart K a b = true ↔ ∀ x, cnt K x a ≤ cnt K x b := by
  have h0 : ∀ x : K.D, mg K [] x = 0 := fun x => rfl
  have hg := addL_get hK b [] 0 (fun x => by rw [h0]; omega) (by omega)
  unfold isPart
  rw [subL_iff hK _ _ (fun x => by
    rw [hg, h0]
    have := cnt_le (K := K) x b
    omega)]
  refine forall_congr' fun x => ?_
  rw [hg, h0]
  omega
/-- A part, and as long: each is a part of the other. -/
theorem part_both {a b : List K.D} (ha : a.length < 9223372036854775807) (hb : b.length < 9223372036854775807) : (isPart K a b = true ∧ a.length = b.length) ↔ (isPart K a b = true ∧ isPart K b a = true) := by
  rw [isPart_iff hK hb, isPart_iff hK ha]
  constructor
  · rintro ⟨h1, h2⟩
    exact ⟨h1, part_all hK a b h1 h2⟩
  · rintro ⟨h1, h2⟩
    exact ⟨h1, Nat.le_antisymm (part_len hK a b h1) (part_len hK b a h2)⟩
end
end Go.Tw
