/- Plain laws: what Part and Same come to, and what the reference comes to. -/
import Derived.Test.YtdenbakbmggcpaaP1
import Derived.Test.YtdenbakbmggcpaaPlMap
set_option linter.unusedVariables false
set_option linter.unusedSectionVars false
set_option linter.unusedSimpArgs false
namespace Go.Tw

theorem rowK : tRow.key = true := rfl
theorem recK : tRecord.key = true := rfl
theorem wrap_succ {i n : Nat} (h : i < n) (hn : n < 9223372036854775807) : IntKind.i64.wrap ((i : Int) + 1) = ((i + 1 : Nat) : Int) := by
  rw [wrap64_of (by omega) (by omega)]
  rfl
theorem lt_cast {i n : Nat} (h : i < n) : decide ((i : Int) < (n : Int)) = true := by simpa using h
theorem not_lt_cast {n : Nat} : decide ((n : Int) < (n : Int)) = false := by simp

/-! ### within -/
theorem row_add {O : Type} (N : Nat) (k0 : List Row → List (Row × Int) → Option O) (x1 b : List Row) (hb : b.length < 9223372036854775807) : ∀ (n i : Nat) (es : List (Row × Int)), i ≤ b.length → b.length - i < n →
    api_Row_10_l0 N k0 n x1 b (b.length : Int) (i : Int) es = k0 x1 (addL tRow es (b.drop i)) := by
  intro n
  induction n with
  | zero => intro i es _ h; omega
  | succ n ih =>
    intro i es hi hn
    simp only [api_Row_10_l0, api_Row_10_s0]
    by_cases h : i < b.length
    · rw [lt_cast h, inside_lt h, wrap_succ h hb, cond_true', chk_true', ih _ _ (by omega) (by omega), drop_get h ((0 : Int), ((0 : Int), (0 : Int)), (0 : Int), (0 : Int))]
      rfl
    · obtain rfl : i = b.length := by omega
      rw [not_lt_cast, cond_false', List.drop_length]
      rfl
theorem row_sub {O : Type} (N : Nat) (k0 : Bool → Option O) (k1 : Option O) (a : List Row) (ha : a.length < 9223372036854775807) : ∀ (n i : Nat) (es : List (Row × Int)), i ≤ a.length → a.length - i < n →
    api_Row_10_l1 N k0 k1 n a (a.length : Int) (i : Int) es = if subL tRow es (a.drop i) = true then k1 else k0 false := by
  intro n
  induction n with
  | zero => intro i es _ h; omega
  | succ n ih =>
    intro i es hi hn
    simp only [api_Row_10_l1, api_Row_10_s1]
    by_cases h : i < a.length
    · rw [lt_cast h, inside_lt h, wrap_succ h ha, cond_true', chk_true', ih _ _ (by omega) (by omega), drop_get h ((0 : Int), ((0 : Int), (0 : Int)), (0 : Int), (0 : Int))]
      rw [subL]
      exact sub_cond
    · obtain rfl : i = a.length := by omega
      rw [not_lt_cast, cond_false', List.drop_length]
      rfl

theorem rec_add {O : Type} (N : Nat) (k0 : List Record → List (Record × Int) → Option O) (x1 b : List Record) (hb : b.length < 9223372036854775807) : ∀ (n i : Nat) (es : List (Record × Int)), i ≤ b.length → b.length - i < n →
    api_Record_11_l0 N k0 n x1 b (b.length : Int) (i : Int) es = k0 x1 (addL tRecord es (b.drop i)) := by
  intro n
  induction n with
  | zero => intro i es _ h; omega
  | succ n ih =>
    intro i es hi hn
    simp only [api_Record_11_l0, api_Record_11_s0]
    by_cases h : i < b.length
    · rw [lt_cast h, inside_lt h, wrap_succ h hb, cond_true', chk_true', ih _ _ (by omega) (by omega), drop_get h ((0 : Int), (0 : Int), (0 : Int))]
      rfl
    · obtain rfl : i = b.length := by omega
      rw [not_lt_cast, cond_false', List.drop_length]
      rfl
theorem rec_sub {O : Type} (N : Nat) (k0 : Bool → Option O) (k1 : Option O) (a : List Record) (ha : a.length < 9223372036854775807) : ∀ (n i : Nat) (es : List (Record × Int)), i ≤ a.length → a.length - i < n →
    api_Record_11_l1 N k0 k1 n a (a.length : Int) (i : Int) es = if subL tRecord es (a.drop i) = true then k1 else k0 false := by
  intro n
  induction n with
  | zero => intro i es _ h; omega
  | succ n ih =>
    intro i es hi hn
    simp only [api_Record_11_l1, api_Record_11_s1]
    by_cases h : i < a.length
    · rw [lt_cast h, inside_lt h, wrap_succ h ha, cond_true', chk_true', ih _ _ (by omega) (by omega), drop_get h ((0 : Int), (0 : Int), (0 : Int))]
      rw [subL]
      exact sub_cond
    · obtain rfl : i = a.length := by omega
      rw [not_lt_cast, cond_false', List.drop_length]
      rfl

theorem row_within {N : Nat} {a b : List Row} (ha : a.length < N) (hb : b.length < N) (hN : N < 9223372036854775807) : api_Row_10_f N a b = some (isPart tRow a b) := by
  have h0 := row_add N (fun p10 p11 => api_Row_10_l1 N (fun p20 => some p20) (some true) N p10 (p10.length : Int) (0 : Int) p11) a b (by omega) N 0 [] (Nat.zero_le _) (by omega)
  have h1 := row_sub N (fun p20 => some p20) (some true) a (by omega) N 0 (addL tRow [] b) (Nat.zero_le _) (by omega)
  refine (show api_Row_10_f N a b = _ from h0).trans ((show _ = _ from h1).trans ?_)
  unfold isPart
  rw [List.drop_zero]
  cases subL tRow (addL tRow [] b) a <;> rfl
theorem rec_within {N : Nat} {a b : List Record} (ha : a.length < N) (hb : b.length < N) (hN : N < 9223372036854775807) : api_Record_11_f N a b = some (isPart tRecord a b) := by
  have h0 := rec_add N (fun p10 p11 => api_Record_11_l1 N (fun p20 => some p20) (some true) N p10 (p10.length : Int) (0 : Int) p11) a b (by omega) N 0 [] (Nat.zero_le _) (by omega)
  have h1 := rec_sub N (fun p20 => some p20) (some true) a (by omega) N 0 (addL tRecord [] b) (Nat.zero_le _) (by omega)
  refine (show api_Record_11_f N a b = _ from h0).trans ((show _ = _ from h1).trans ?_)
  unfold isPart
  rw [List.drop_zero]
  cases subL tRecord (addL tRecord [] b) a <;> rfl

/-! ### In -/
theorem in_l0 {O : Type} (N : Nat) (k0 : List Row → List Record → List Row → List Record → List (Row × Int) → List (Record × Int) → Option O) (x2 : List Row) (x3 : List Record) (b : List Row) (x5 : List Record) (x7 : List (Record × Int)) (hb : b.length < 9223372036854775807) :
    ∀ (n i : Nat) (es : List (Row × Int)), i ≤ b.length → b.length - i < n → ref40_In_13_l0 N k0 n (i : Int) x2 x3 b x5 es x7 = k0 x2 x3 b x5 (addL tRow es (b.drop i)) x7 := by
  intro n
  induction n with
  | zero => intro i es _ h; omega
  | succ n ih =>
    intro i es hi hn
    simp only [ref40_In_13_l0, ref40_In_13_s0]
    by_cases h : i < b.length
    · rw [lt_cast h, inside_lt h, wrap_succ h hb, cond_true', chk_true', ih _ _ (by omega) (by omega), drop_get h ((0 : Int), ((0 : Int), (0 : Int)), (0 : Int), (0 : Int))]
      rfl
    · obtain rfl : i = b.length := by omega
      rw [not_lt_cast, cond_false', List.drop_length]
      rfl
theorem in_l1 {O : Type} (N : Nat) (k0 : List Row → List Record → List (Row × Int) → List (Record × Int) → Option O) (x2 : List Row) (x3 : List Record) (x4 : List Row) (b : List Record) (x6 : List (Row × Int)) (hb : b.length < 9223372036854775807) :
    ∀ (n i : Nat) (es : List (Record × Int)), i ≤ b.length → b.length - i < n → ref40_In_13_l1 N k0 n (i : Int) x2 x3 x4 b x6 es = k0 x2 x3 x6 (addL tRecord es (b.drop i)) := by
  intro n
  induction n with
  | zero => intro i es _ h; omega
  | succ n ih =>
    intro i es hi hn
    simp only [ref40_In_13_l1, ref40_In_13_s1]
    by_cases h : i < b.length
    · rw [lt_cast h, inside_lt h, wrap_succ h hb, cond_true', chk_true', ih _ _ (by omega) (by omega), drop_get h ((0 : Int), (0 : Int), (0 : Int))]
      rfl
    · obtain rfl : i = b.length := by omega
      rw [not_lt_cast, cond_false', List.drop_length]
      rfl
theorem in_l2 {O : Type} (N : Nat) (k0 : Bool → Option O) (k1 : List Row → List Record → List (Record × Int) → Option O) (a : List Row) (x3 : List Record) (x5 : List (Record × Int)) (ha : a.length < 9223372036854775807) :
    ∀ (n i : Nat) (es : List (Row × Int)), i ≤ a.length → a.length - i < n → ref40_In_13_l2 N k0 k1 n (i : Int) a x3 es x5 = if subL tRow es (a.drop i) = true then k1 a x3 x5 else k0 false := by
  intro n
  induction n with
  | zero => intro i es _ h; omega
  | succ n ih =>
    intro i es hi hn
    simp only [ref40_In_13_l2, ref40_In_13_s2]
    by_cases h : i < a.length
    · rw [lt_cast h, inside_lt h, wrap_succ h ha, cond_true', chk_true', chk_true', ih _ _ (by omega) (by omega), drop_get h ((0 : Int), ((0 : Int), (0 : Int)), (0 : Int), (0 : Int))]
      rw [subL]
      exact sub_cond
    · obtain rfl : i = a.length := by omega
      rw [not_lt_cast, cond_false', List.drop_length]
      rfl
theorem in_l3 {O : Type} (N : Nat) (k0 : Bool → Option O) (k1 : Option O) (x2 : List Row) (a : List Record) (ha : a.length < 9223372036854775807) :
    ∀ (n i : Nat) (es : List (Record × Int)), i ≤ a.length → a.length - i < n → ref40_In_13_l3 N k0 k1 n (i : Int) x2 a es = if subL tRecord es (a.drop i) = true then k1 else k0 false := by
  intro n
  induction n with
  | zero => intro i es _ h; omega
  | succ n ih =>
    intro i es hi hn
    simp only [ref40_In_13_l3, ref40_In_13_s3]
    by_cases h : i < a.length
    · rw [lt_cast h, inside_lt h, wrap_succ h ha, cond_true', chk_true', chk_true', ih _ _ (by omega) (by omega), drop_get h ((0 : Int), (0 : Int), (0 : Int))]
      rw [subL]
      exact sub_cond
    · obtain rfl : i = a.length := by omega
      rw [not_lt_cast, cond_false', List.drop_length]
      rfl
def inR (a b : Outputs) : Bool := isPart tRow a.1 b.1 && isPart tRecord a.2 b.2
theorem in_is {N : Nat} {a b : Outputs} (ha : a.1.length < N) (ha' : a.2.length < N) (hb : b.1.length < N) (hb' : b.2.length < N) (hN : N < 9223372036854775807) : ref40_In_13_f N a b = some (inR a b) := by
  refine (show ref40_In_13_f N a b = _ from in_l0 N _ a.1 a.2 b.1 b.2 [] (by omega) N 0 [] (Nat.zero_le _) (by omega)).trans ?_
  refine (show _ = _ from in_l1 N _ a.1 a.2 b.1 b.2 (addL tRow [] (b.1.drop 0)) (by omega) N 0 [] (Nat.zero_le _) (by omega)).trans ?_
  refine (show _ = _ from in_l2 N _ _ a.1 a.2 (addL tRecord [] (b.2.drop 0)) (by omega) N 0 (addL tRow [] (b.1.drop 0)) (Nat.zero_le _) (by omega)).trans ?_
  have h3 := in_l3 (O := Bool) N (fun p65 => some p65) (some true) a.1 a.2 (by omega) N 0 (addL tRecord [] (b.2.drop 0)) (Nat.zero_le _) (by omega)
  unfold inR isPart
  rw [List.drop_zero] at h3
  simp only [List.drop_zero] at h3 ⊢
  cases h1 : subL tRow (addL tRow [] b.1) a.1 with
  | false => simp
  | true =>
    simp only [if_true, Bool.true_and]
    refine (show _ = _ from h3).trans ?_
    cases subL tRecord (addL tRecord [] b.2) a.2 <;> rfl

/-! ### Part, Same -/
def manyR (a : Outputs) : Bool := decide ((a.1.length : Int) > (4000 : Int)) || decide ((a.2.length : Int) > (4000 : Int))
theorem check_is (m : Nat) (a b : Outputs) : prefix_check_9_f (m + 3) [a, b] = some (if manyR a || manyR b then 4 else 0) := by
  have w1 : IntKind.i64.wrap ((0 : Int) + 1) = 1 := by decide
  have w2 : IntKind.i64.wrap ((1 : Int) + 1) = 2 := by decide
  have e1 : (0 : Int).toNat = 0 := rfl
  have e2 : (1 : Int).toNat = 1 := rfl
  have i0 : inside (0 : Int) 2 = true := by decide
  have i1 : inside (1 : Int) 2 = true := by decide
  unfold prefix_check_9_f prefix_check_9_b
  simp only [prefix_check_9_l0, prefix_check_9_s0, List.length_cons, List.length_nil]
  unfold manyR
  simp only [w1, w2, e1, e2, List.getD_cons_zero, List.getD_cons_succ]
  cases h1 : (decide ((a.1.length : Int) > (4000 : Int)) || decide ((a.2.length : Int) > (4000 : Int))) with
  | true => simp [i0, chk]
  | false =>
    cases h2 : (decide ((b.1.length : Int) > (4000 : Int)) || decide ((b.2.length : Int) > (4000 : Int))) with
    | true => simp [i0, i1, chk]
    | false => simp [i0, i1, chk]
end Go.Tw
