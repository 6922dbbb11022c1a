/- Operations one by one: those that leave the world alone. -/
import Derived.Test.YtdenbakbmggcpaaSnd5
set_option linter.unusedVariables false
set_option linter.unusedSectionVars false
set_option linter.unusedSimpArgs false
namespace Go.Tw
open Go.RowKit

/-- What an operation gives. -/
def Gives (P : Program) (o : Oper) (a : Act) (w : World) (R : Value → World → Prop) : Prop :=
  ∀ (next : Act → World → Prop) (Q : Exit → Act → World → Prop), (∀ z w', R z w' → next (a.put o.dst z) w') → o.wp P a w next Q
theorem Gives.run {P : Program} {o : Oper} {a : Act} {w w' : World} {R : Value → World → Prop} {z : Value} (h : (execOp a.eval o).run P w = .ok (.value z) w') (hR : R z w') : Gives P o a w R := by
  intro next Q hn
  unfold Oper.wp
  rw [h]
  exact hn z w' hR
theorem Gives.mono {P : Program} {o : Oper} {a : Act} {w : World} {R R' : Value → World → Prop} (h : Gives P o a w R) (hr : ∀ z w', R z w' → R' z w') : Gives P o a w R' :=
  fun next Q hn => h next Q fun z w' hz => hn z w' (hr z w' hz)

theorem run_v {P : Program} {w w' : World} {x : Sem Value} {z : Value} (h : x.run P w = .ok z w') : (do pure (Next.value (← x)) : Sem Next).run P w = .ok (.value z) w' := by
  simp [h]
theorem eval_const (a : Act) (v : Value) : a.eval (.const v) = v := rfl

theorem map1_some {x : Bool × AV} {f : AV → CV} {v : AV} (h : CV.map1 x f = some (true, v)) : x.1 = true ∧ f x.2 = some (true, v) := by
  unfold CV.map1 at h
  split at h
  · rename_i c v' hf
    simp only [Option.some.injEq, Prod.mk.injEq, Bool.and_eq_true] at h
    obtain ⟨⟨h1, rfl⟩, rfl⟩ := h
    exact ⟨h1, hf⟩
  · cases h
theorem map2_some {x y : Bool × AV} {f : AV → AV → CV} {v : AV} (h : CV.map2 x y f = some (true, v)) : x.1 = true ∧ y.1 = true ∧ f x.2 y.2 = some (true, v) := by
  unfold CV.map2 at h
  split at h
  · rename_i c v' hf
    simp only [Option.some.injEq, Prod.mk.injEq, Bool.and_eq_true] at h
    obtain ⟨⟨h1, h2, rfl⟩, rfl⟩ := h
    exact ⟨h1, h2, hf⟩
  · cases h

/-- A type's facts that an operation needs. -/
def isBoolT (P : Program) (t : TypeId) : Bool := match P.underlying t with | some .bool => true | _ => false
def isIntT (P : Program) (t : TypeId) (k : IntKind) : Bool := match P.underlying t with | some (.int j) => j == k | _ => false
def anyIntT (P : Program) (t : TypeId) : Bool := match P.underlying t with | some (.int _) => true | _ => false
def isStrT (P : Program) (t : TypeId) : Bool := match P.underlying t with | some .string => true | _ => false
def elemT (P : Program) (t : TypeId) : Option TypeId := match P.underlying t with | some (.slice e) => some e | _ => none
theorem of_isBoolT {P : Program} {t : TypeId} (h : isBoolT P t = true) : P.underlying t = some .bool := by unfold isBoolT at h; split at h <;> first | assumption | cases h
theorem of_isIntT {P : Program} {t : TypeId} {k : IntKind} (h : isIntT P t k = true) : P.underlying t = some (.int k) := by
  unfold isIntT at h
  split at h
  · rename_i j hj; rw [hj]; simp only [beq_iff_eq] at h; rw [h]
  · cases h
theorem of_anyIntT {P : Program} {t : TypeId} (h : anyIntT P t = true) : ∃ k, P.underlying t = some (.int k) := by unfold anyIntT at h; split at h; exact ⟨_, by assumption⟩; cases h
theorem of_isStrT {P : Program} {t : TypeId} (h : isStrT P t = true) : P.underlying t = some .string := by unfold isStrT at h; split at h <;> first | assumption | cases h
theorem of_elemT {P : Program} {t e : TypeId} (h : elemT P t = some e) : P.underlying t = some (.slice e) := by
  unfold elemT at h
  split at h
  · rename_i e' he; simp only [Option.some.injEq] at h; rw [he, h]
  · cases h
/-- A field's place and size. -/
def fieldT (P : Program) (t : TypeId) (f : Nat) : Option Field := match P.underlying t with | some (.struct fs) => fs[f]? | _ => none
theorem of_fieldT {P : Program} {t : TypeId} {f : Nat} {x : Field} (h : fieldT P t f = some x) : ∃ fs, P.underlying t = some (.struct fs) ∧ fs[f]? = some x := by
  unfold fieldT at h
  split at h
  · exact ⟨_, by assumption, h⟩
  · cases h

section
variable [Ban] {base : Nat} {w0 : World} {ρ0 : List RV} {h0 : AHeap} {ρ : List RV} {s : St} {a : Act} {w : World} {P : Program} {gd : Option (Nat × Bool)} {o : Oper} {v : AV}

/-- An operation gives a value that the evaluator's value tells of. -/
def Sound (P : Program) (o : Oper) (a : Act) (w : World) (ρ : List RV) (h : AHeap) (v : AV) : Prop := Gives P o a w fun z w' => Below w.heap.size w w' ∧ LR w' ρ h K0 v z
theorem Sound.same {h : AHeap} {z : Value} (hr : (execOp a.eval o).run P w = .ok (.value z) w) (hl : LR w ρ h K0 v z) : Sound P o a w ρ h v := .run hr ⟨Below.refl _ _, hl⟩

theorem sound_mov (R : Rel base w0 ρ0 h0 ρ s a w) (hg : GH gd a) {x : AX} {y : Operand} (ho : o.op = .move y ∨ o.op = .assign y) (hx : okX x y = true) (hc : (x.get gd s).1 = true) :
    Sound P o a w ρ s.h (x.get gd s).2 := by
  refine .same ?_ (R.get hg hx hc)
  rcases ho with ho | ho <;> simp [execOp, ho]

theorem sound_cvs (R : Rel base w0 ρ0 h0 ρ s a w) (hg : GH gd a) {x : AX} {y : Operand} {t u : TypeId} (ho : o.op = .convert t u y) (ht : isStrT P t = true) (hu : isStrT P u = true) (hx : okX x y = true)
    {b : ByteArray} (hs : (x.get gd s).2 = .d .str b) (hc : (x.get gd s).1 = true) : Sound P o a w ρ s.h (.d .str b) := by
  have hl := R.get hg hx hc
  rw [hs] at hl
  have he := (str_of_lr hl).1
  refine .same (z := a.eval y) ?_ hl
  simp [execOp, ho, convert, run_underlying (of_isStrT ht), run_underlying (of_isStrT hu), he]

theorem sound_not (R : Rel base w0 ρ0 h0 ρ s a w) (hg : GH gd a) {x : AX} {y : Operand} {t : TypeId} (ho : o.op = .unOp .not t y) (hx : okX x y = true)
    (hp : CV.map1 (x.get gd s) (fun | .d .bool b => some (true, .d .bool (!b)) | _ => none) = some (true, v)) : Sound P o a w ρ s.h v := by
  obtain ⟨hc, hp⟩ := map1_some hp
  have hl := R.get hg hx hc
  split at hp
  · rename_i b he
    rw [he] at hl
    simp only [Option.some.injEq, Prod.mk.injEq, true_and] at hp
    subst hp
    have := bool_of_lr hl
    exact .same (z := .bool (!b)) (by simp [execOp, ho, Op.unary, this]) (lr_bool _)
  · cases hp

theorem sound_neg (R : Rel base w0 ρ0 h0 ρ s a w) (hg : GH gd a) {x : AX} {y : Operand} {t : TypeId} (ho : o.op = .unOp .neg t y) (hx : okX x y = true)
    (hp : CV.map1 (x.get gd s) (fun | .d (.int k) n => some (true, .d (.int k) (k.wrap (0 - n))) | _ => none) = some (true, v)) : Sound P o a w ρ s.h v := by
  obtain ⟨hc, hp⟩ := map1_some hp
  have hl := R.get hg hx hc
  split at hp
  · rename_i k n he
    rw [he] at hl
    simp only [Option.some.injEq, Prod.mk.injEq, true_and] at hp
    subst hp
    have := int_of_lr hl
    exact .same (z := .int k (k.wrap (0 - n))) (by simp [execOp, ho, Op.unary, this, Op.intArith]) (lr_int _ _)
  · cases hp

theorem sound_conv (R : Rel base w0 ρ0 h0 ρ s a w) (hg : GH gd a) {x : AX} {y : Operand} {t u : TypeId} {k : IntKind} (ho : o.op = .convert t u y) (ht : anyIntT P t = true) (hu : isIntT P u k = true) (hx : okX x y = true)
    (hp : CV.map1 (x.get gd s) (fun | .d (.int _) n => some (true, .d (.int k) (k.wrap n)) | _ => none) = some (true, v)) : Sound P o a w ρ s.h v := by
  obtain ⟨hc, hp⟩ := map1_some hp
  have hl := R.get hg hx hc
  obtain ⟨j, hj⟩ := of_anyIntT ht
  split at hp
  · rename_i k' n he
    rw [he] at hl
    simp only [Option.some.injEq, Prod.mk.injEq, true_and] at hp
    subst hp
    have := int_of_lr hl
    exact .same (z := .int k (k.wrap n)) (by simp [execOp, ho, convert, run_underlying hj, run_underlying (of_isIntT hu), this, Conv.intToInt]) (lr_int _ _)
  · cases hp

theorem sound_bin (R : Rel base w0 ρ0 h0 ρ s a w) (hg : GH gd a) {op : BinOp} {x x' : AX} {y y' : Operand} {t u : TypeId} (ho : o.op = .binOp op t y y' u) (hx : okX x y = true) (hx' : okX x' y' = true)
    (hp : CV.map2 (x.get gd s) (x'.get gd s) (binV op) = some (true, v)) : Sound P o a w ρ s.h v := by
  obtain ⟨hc, hc', hp⟩ := map2_some hp
  obtain ⟨z, hz, hl⟩ := run_binV (P := P) (t := t) (ox := y) (oy := y') (R.get hg hx hc) (R.get hg hx' hc') hp rfl
  exact .same (z := z) (by unfold execOp; simp only [ho]; exact run_v hz) hl

theorem sound_eqb (R : Rel base w0 ρ0 h0 ρ s a w) (hg : GH gd a) {ng : Bool} {x x' : AX} {y y' : Operand} {t u : TypeId} (ho : o.op = .binOp (if ng then .neq else .eql) t y y' u) (ht : isBoolT P t = true) (hx : okX x y = true) (hx' : okX x' y' = true)
    (hp : CV.map2 (x.get gd s) (x'.get gd s) (eqB ng) = some (true, v)) : Sound P o a w ρ s.h v := by
  obtain ⟨hc, hc', hp⟩ := map2_some hp
  obtain ⟨z, hz, hl⟩ := run_eqB (P := P) (t := t) (ox := y) (oy := y') (of_isBoolT ht) (R.get hg hx hc) (R.get hg hx' hc') hp
  exact .same (z := z) (by unfold execOp; simp only [ho]; exact run_v hz) hl

theorem sound_pand (R : Rel base w0 ρ0 h0 ρ s a w) (hg : GH gd a) {c b : AX} {c' b' : Operand} (ho : o.op = .pick c' b' (.const (.bool false))) (hx : okX c c' = true) (hx' : okX b b' = true)
    (hp : (match (c.get gd s).2, (b.get (c.slot true) s).2 with
      | .d .bool p, .d .bool q => (some ((c.get gd s).1 && ((b.get (c.slot true) s).1 || !p), .d .bool (p && q)) : CV)
      | _, _ => none) = some (true, v)) : Sound P o a w ρ s.h v := by
  split at hp
  · rename_i p q hp1 hq1
    simp only [Option.some.injEq, Prod.mk.injEq, Bool.and_eq_true, Bool.or_eq_true, Bool.not_eq_true'] at hp
    obtain ⟨⟨h1, h2⟩, rfl⟩ := hp
    have hl := R.get hg hx h1
    rw [hp1] at hl
    have e1 := bool_of_lr hl
    cases p with
    | false => exact .same (z := .bool false) (by simp [execOp, ho, e1, asBool, eval_const]) (lr_bool _)
    | true =>
      have hgb : GH (c.slot true) a := by
        intro j u hj
        cases c with
        | tmp i =>
          simp only [AX.slot, Option.some.injEq, Prod.mk.injEq] at hj
          obtain ⟨rfl, rfl⟩ := hj
          cases c' with
          | tmp i' =>
            obtain rfl : i = i' := by simpa [okX] using hx
            simp only [Act.eval] at e1
            by_cases hlt : i < a.tmps.size
            · simp [Array.getD, hlt] at e1; simp [hlt, e1]
            · simp [Array.getD, hlt, undef] at e1
          | _ => simp [okX] at hx
        | cst _ => simp [AX.slot] at hj
      have hl2 := R.get hgb hx' (h2.resolve_right (by simp))
      rw [hq1] at hl2
      have e2 := bool_of_lr hl2
      exact .same (z := .bool q) (by simp [execOp, ho, e1, e2, asBool]) (lr_bool _)
  · cases hp

theorem sound_por (R : Rel base w0 ρ0 h0 ρ s a w) (hg : GH gd a) {c b : AX} {c' b' : Operand} (ho : o.op = .pick c' (.const (.bool true)) b') (hx : okX c c' = true) (hx' : okX b b' = true)
    (hp : (match (c.get gd s).2, (b.get (c.slot false) s).2 with
      | .d .bool p, .d .bool q => (some ((c.get gd s).1 && ((b.get (c.slot false) s).1 || p), .d .bool (p || q)) : CV)
      | _, _ => none) = some (true, v)) : Sound P o a w ρ s.h v := by
  split at hp
  · rename_i p q hp1 hq1
    simp only [Option.some.injEq, Prod.mk.injEq, Bool.and_eq_true, Bool.or_eq_true] at hp
    obtain ⟨⟨h1, h2⟩, rfl⟩ := hp
    have hl := R.get hg hx h1
    rw [hp1] at hl
    have e1 := bool_of_lr hl
    cases p with
    | true => exact .same (z := .bool true) (by simp [execOp, ho, e1, asBool, eval_const]) (lr_bool _)
    | false =>
      have hgb : GH (c.slot false) a := by
        intro j u hj
        cases c with
        | tmp i =>
          simp only [AX.slot, Option.some.injEq, Prod.mk.injEq] at hj
          obtain ⟨rfl, rfl⟩ := hj
          cases c' with
          | tmp i' =>
            obtain rfl : i = i' := by simpa [okX] using hx
            simp only [Act.eval] at e1
            by_cases hlt : i < a.tmps.size
            · simp [Array.getD, hlt] at e1; simp [hlt, e1]
            · simp [Array.getD, hlt, undef] at e1
          | _ => simp [okX] at hx
        | cst _ => simp [AX.slot] at hj
      have hl2 := R.get hgb hx' (h2.resolve_right (by simp))
      rw [hq1] at hl2
      have e2 := bool_of_lr hl2
      exact .same (z := .bool q) (by simp [execOp, ho, e1, e2, asBool]) (lr_bool _)
  · cases hp

theorem sound_load (R : Rel base w0 ρ0 h0 ρ s a w) (hg : GH gd a) {x : AX} {y : Operand} {t : TypeId} {n : Nat} {agg : Bool} (ho : o.op = .load t y) (hs : sizeT P t = some n) (ha : aggT P t = some agg) (hx : okX x y = true)
    (hp : CV.map1 (x.get gd s) (fun x => loadV s.h x n agg) = some (true, v)) : Sound P o a w ρ s.h v := by
  obtain ⟨hc, hp⟩ := map1_some hp
  obtain ⟨z, hz, hl⟩ := run_loadV R.hp hs ha (R.get hg hx hc) hp rfl
  exact .same (z := z) (by simp [execOp, ho, hz]) hl

end
end Go.Tw
