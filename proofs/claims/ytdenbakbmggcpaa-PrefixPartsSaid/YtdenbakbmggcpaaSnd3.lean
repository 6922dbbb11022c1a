/- Operations that leave the blocks alone. -/
import Derived.Test.YtdenbakbmggcpaaSnd2
import Derived.Laws.StructEq
import Derived.Laws.Cells
set_option linter.unusedVariables false
set_option linter.unusedSectionVars false
set_option linter.unusedSimpArgs false
namespace Go.Tw
open Go.RowKit

/-- The guard holds. -/
def GH (gd : Option (Nat × Bool)) (a : Act) : Prop := ∀ j w, gd = some (j, w) → a.tmps[j]? = some (.bool w)

theorem GH.none {a : Act} : GH none a := fun _ _ h => by cases h

section
variable [Ban] {base : Nat} {w0 : World} {ρ0 : List RV} {h0 : AHeap} {ρ : List RV} {s : St} {a : Act} {w : World} {P : Program}

theorem bool_of_lr {w ρ h K} {b : Bool} {v : Value} (hl : LR w ρ h K (.d .bool b) v) : v = .bool b := by
  cases hl with
  | d h => simpa [VR] using h
theorem int_of_lr {w ρ h K} {k : IntKind} {x : Int} {v : Value} (hl : LR w ρ h K (.d (.int k) x) v) : v = .int k x := by
  cases hl with
  | d h => simpa [VR] using h
theorem str_of_lr {w ρ h K} {x : ByteArray} {v : Value} (hl : LR w ρ h K (.d .str x) v) : v = .string x ∧ x.size ≤ maxLen := by
  cases hl with
  | d h => simpa [VR] using h
theorem fn_of_lr {w ρ h K} {x : Nat} {v : Value} (hl : LR w ρ h K (.d .fn x) v) : v = .func (.func x) #[] #[] := by
  cases hl with
  | d h => simpa [VR] using h
theorem lr_int {w ρ h K} (k : IntKind) (x : Int) : LR w ρ h K (.d (.int k) x) (.int k x) := .d (by simp [VR])
theorem lr_bool {w ρ h K} (x : Bool) : LR w ρ h K (.d .bool x) (.bool x) := .d (by simp [VR])

theorem Rel.slot (R : Rel base w0 ρ0 h0 ρ s a w) (j : Nat) : LR w ρ s.h K0 (nth .any s.t j) (a.tmps.getD j undef) := R.val (x := .tmp j) (y := .tmp j) (by simp [okX])

/-- What a guard's slot tells. -/
theorem Rel.gval (R : Rel base w0 ρ0 h0 ρ s a w) {j : Nat} {wt g : Bool} (hg : Tw.gval wt (nth .any s.t j) = some g) : (a.tmps[j]? = some (.bool wt)) ↔ g = true := by
  have hs := R.slot j
  have e : ∀ b : Bool, a.tmps.getD j undef = .bool b → a.tmps[j]? = some (.bool b) := fun b h => by
    by_cases hj : j < a.tmps.size
    · simp [Array.getD, hj] at h; simp [hj, h]
    · simp [Array.getD, hj, undef] at h
  have e2 : a.tmps.getD j undef = undef → ∀ b, a.tmps[j]? ≠ some (.bool b) := fun h b h' => by
    obtain ⟨hj, h3⟩ := Array.getElem?_eq_some_iff.1 h'
    simp [Array.getD, hj, h3, undef] at h
  generalize hc : nth .any s.t j = c at *
  unfold Tw.gval at hg
  split at hg
  · rename_i b
    have h1 := e _ (bool_of_lr hs)
    rw [h1]
    simp only [Option.some.injEq] at hg
    subst hg
    cases wt <;> cases b <;> simp
  · rename_i g' b
    simp only [Option.some.injEq] at hg
    subst hg
    cases hs with
    | opt h1 h2 =>
      cases g' with
      | false =>
        have h3 := e2 (h2 rfl)
        simp [h3 wt]
      | true =>
        have h3 := e _ (bool_of_lr (h1 rfl))
        rw [h3]
        cases wt <;> cases b <;> simp
  · cases hg

theorem Rel.get (R : Rel base w0 ρ0 h0 ρ s a w) {gd : Option (Nat × Bool)} (hg : GH gd a) {x : AX} {y : Operand} (hx : okX x y = true) (hc : (x.get gd s).1 = true) : LR w ρ s.h K0 (x.get gd s).2 (a.eval y) := by
  have hv := R.val hx
  unfold AX.get AV.strip at *
  split at hc
  · rename_i j wt g v he
    rw [he] at hv
    have hgt : g = true → LR w ρ s.h K0 v (a.eval y) := fun h => by cases hv with | opt h1 h2 => exact h1 h
    have hopt : ∃ i : Nat, s.t[i]? = some (AV.opt j wt g v) := by
      unfold okX at hx
      split at hx <;> simp only [AX.val] at he
      · rename_i i i'
        rw [nth_get] at he
        cases h : s.t[i]? with
        | none => simp [h] at he
        | some c => simp [h] at he; exact ⟨i, by rw [h, he]⟩
      all_goals first | cases he | cases hx
    obtain ⟨i, hi⟩ := hopt
    have hgv := (R.op i j wt g v hi).2
    split at hc
    · rename_i i' u
      split
      · rename_i hij
        split
        · rename_i huw
          subst hij huw
          have := (R.gval hgv).1 (hg _ _ rfl)
          exact hgt this
        · rename_i huw
          simp only [hij, huw, if_true, if_false] at hc
          exact hgt hc
      · rename_i hij
        simp only [hij, if_false] at hc
        exact hgt hc
    · exact hgt hc
  · rename_i hne
    exact hv

/-! ### Numbers -/
theorem run_binI {op : BinOp} {k : IntKind} {x y : Int} {c : Bool} {v : AV} (t : TypeId) (h : binI op k x y = some (c, v)) (hc : c = true) :
    ∃ u, (binOp op t (.int k x) (.int k y)).run P w = .ok u w ∧ LR w ρ s.h K0 v u := by
  subst hc
  cases op <;> simp only [binI, Option.some.injEq, Prod.mk.injEq, reduceCtorEq] at h
  case quo | rem =>
    obtain ⟨h1, rfl⟩ := h
    have hy : y ≠ 0 := by simpa using h1
    refine ⟨_, ?_, lr_int _ _⟩
    simp [binOp, Op.intDiv, hy]
  all_goals
    obtain ⟨_, rfl⟩ := h
    first
      | (refine ⟨_, ?_, lr_int _ _⟩; simp [binOp, Op.intArith]; done)
      | (refine ⟨_, ?_, lr_bool _⟩; simp [binOp, Op.intCmp]; done)

theorem run_shI {op : BinOp} {k j : IntKind} {x y : Int} {c : Bool} {v : AV} (t : TypeId) (h : shI op k x y = some (c, v)) (hc : c = true) :
    ∃ u, (binOp op t (.int k x) (.int j y)).run P w = .ok u w ∧ LR w ρ s.h K0 v u := by
  subst hc
  cases op <;> simp only [shI, Option.some.injEq, Prod.mk.injEq, reduceCtorEq] at h
  all_goals
    obtain ⟨h1, rfl⟩ := h
    have hy : ¬ y < 0 := by simpa using h1
    refine ⟨_, ?_, lr_int _ _⟩
    simp [binOp, Op.shift, hy]

theorem run_eqGuard_lit {op : BinOp} {t : TypeId} {x y : Operand} {u v : Value} (hu : u.oneCell' = true) (hn : u ≠ .nilIface) : (eqGuard op t x y u v).run P w = .ok () w := by
  unfold eqGuard
  cases u <;> first | (simp [Value.oneCell'] at hu; done) | (exact absurd rfl hn) | (cases op <;> simp)

theorem run_binV {op : BinOp} {x y : AV} {u v : Value} {c : Bool} {r : AV} {t : TypeId} {ox oy : Operand} (hx : LR w ρ s.h K0 x u) (hy : LR w ρ s.h K0 y v)
    (h : binV op x y = some (c, r)) (hc : c = true) :
    ∃ z, ((do eqGuard op t ox oy u v; binOp op t u v : Sem Value)).run P w = .ok z w ∧ LR w ρ s.h K0 r z := by
  unfold binV at h
  split at h
  · rename_i k x' j y'
    obtain rfl := int_of_lr hx
    obtain rfl := int_of_lr hy
    have hg : (eqGuard op t ox oy (.int k x') (.int j y')).run P w = .ok () w := run_eqGuard_lit rfl (by simp)
    simp only [Sem.run_bind, hg, Result.andThen_ok]
    split at h
    · exact run_shI t h hc
    · exact run_shI t h hc
    · split at h
      · rename_i hkj
        subst hkj
        exact run_binI t h hc
      · cases h
  · rename_i x' y'
    obtain ⟨rfl, _⟩ := str_of_lr hx
    obtain ⟨rfl, _⟩ := str_of_lr hy
    have hg : (eqGuard op t ox oy (.string x') (.string y')).run P w = .ok () w := run_eqGuard_lit rfl (by simp)
    simp only [Sem.run_bind, hg, Result.andThen_ok]
    split at h
    · simp only [Option.some.injEq, Prod.mk.injEq] at h
      obtain ⟨_, rfl⟩ := h
      refine ⟨_, ?_, lr_bool _⟩
      simp [binOp, Op.stringOp]
    · simp only [Option.some.injEq, Prod.mk.injEq] at h
      obtain ⟨_, rfl⟩ := h
      refine ⟨_, ?_, lr_bool _⟩
      simp [binOp, Op.stringOp, bne]
    · cases h
  · cases h

theorem run_eqB {ng : Bool} {x y : AV} {u v : Value} {c : Bool} {r : AV} {t : TypeId} {ox oy : Operand} (ht : P.underlying t = some .bool) (hx : LR w ρ s.h K0 x u) (hy : LR w ρ s.h K0 y v)
    (h : eqB ng x y = some (c, r)) :
    ∃ z, ((do eqGuard (if ng then .neq else .eql) t ox oy u v; binOp (if ng then .neq else .eql) t u v : Sem Value)).run P w = .ok z w ∧ LR w ρ s.h K0 r z := by
  unfold eqB at h
  split at h
  · rename_i x' y'
    obtain rfl := bool_of_lr hx
    obtain rfl := bool_of_lr hy
    have hg : ∀ op, (eqGuard op t ox oy (.bool x') (.bool y')).run P w = .ok () w := fun op => run_eqGuard_lit rfl (by simp)
    simp only [Option.some.injEq, Prod.mk.injEq] at h
    obtain ⟨_, rfl⟩ := h
    simp only [Sem.run_bind, hg, Result.andThen_ok]
    have h1 : (Op.equalIn 10000 t (.bool x') (.bool y')).run P w = .ok (x' == y') w := run_equalIn_bool w 9999 t x' y' ht
    cases ng
    · refine ⟨_, ?_, lr_bool _⟩
      simp only [Bool.false_eq_true, if_false, binOp]
      simp [Op.equal, Op.maxDepth, h1]
    · refine ⟨_, ?_, lr_bool _⟩
      simp only [if_true, binOp]
      simp [Op.equal, Op.maxDepth, h1, bne]
  · cases h

end
end Go.Tw
