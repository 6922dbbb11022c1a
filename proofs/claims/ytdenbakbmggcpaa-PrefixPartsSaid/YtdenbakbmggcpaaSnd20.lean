/- Structs and arrays: equality. -/
import Derived.Test.YtdenbakbmggcpaaSnd19
import Derived.ChangeKeysEq
set_option linter.unusedVariables false
set_option linter.unusedSectionVars false
set_option linter.unusedSimpArgs false
namespace Go.Tw
open Go.RowKit

/-- The kinds of a type's cells, where '==' goes by the cells. -/
def eqFs (g : TypeId → Option (List Ty)) (P : Program) : List Field → Nat → Option (List Ty)
  | [], _ => some []
  | f :: fs, o => if f.name = "_" then none else if f.offset = o then (match g f.type with
    | some l => if sizeT P f.type = some l.length ∧ 0 < l.length then (match eqFs g P fs (o + l.length) with | some r => some (l ++ r) | none => none) else none
    | none => none) else none
def eqT (P : Program) : Nat → TypeId → Option (List Ty)
  | 0, _ => none
  | d + 1, t => match P.underlying t with
    | some (.int k) => some [.int k]
    | some .bool => some [.bool]
    | some .string => some [.str]
    | some (.struct fs) => (match P.stoodInHeld t with | true => none | false => eqFs (eqT P d) P fs.toList 0)
    | some (.array n e) => (match eqT P d e with
      | some l => if sizeT P e = some l.length ∧ 0 < l.length then some (List.replicate n l).flatten else none
      | none => none)
    | _ => none

/-- A cell of a kind. -/
def fit1 : Ty → Value → Prop
  | .int k, v => ∃ x, v = .int k x
  | .bool, v => ∃ x, v = .bool x
  | .str, v => ∃ x, v = .string x
  | _, _ => False
def Fit (ks : List Ty) (vs : List Value) : Prop := ks.length = vs.length ∧ ∀ (i : Nat) (k : Ty) (v : Value), ks[i]? = some k → vs[i]? = some v → fit1 k v
def lit1 : Value → Value → Bool
  | .int _ a, .int _ b => a == b
  | .bool a, .bool b => a == b
  | .string a, .string b => a.toList == b.toList
  | _, _ => false
def eqBs : List Value → List Value → Bool
  | x :: xs, y :: ys => lit1 x y && eqBs xs ys
  | _, _ => true
theorem eqBs_append : ∀ (a c b d : List Value), a.length = c.length → eqBs (a ++ b) (c ++ d) = (eqBs a c && eqBs b d)
  | [], [], b, d, _ => by simp [eqBs]
  | x :: a, y :: c, b, d, h => by simp [eqBs, eqBs_append a c b d (by simpa using h), Bool.and_assoc]
  | [], _ :: _, _, _, h => by simp at h
  | _ :: _, [], _, _, h => by simp at h

theorem Fit.take {ks ls : List Ty} {vs : List Value} (h : Fit (ks ++ ls) vs) : Fit ks (vs.take ks.length) := by
  have hl := h.1
  rw [List.length_append] at hl
  refine ⟨by rw [List.length_take]; omega, fun i k v hk hv => ?_⟩
  have hi := (List.getElem?_eq_some_iff.1 hk).1
  rw [List.getElem?_take_of_lt hi] at hv
  exact h.2 i k v (by rw [List.getElem?_append_left hi]; exact hk) hv
theorem Fit.drop {ks ls : List Ty} {vs : List Value} (h : Fit (ks ++ ls) vs) : Fit ls (vs.drop ks.length) := by
  have hl := h.1
  rw [List.length_append] at hl
  refine ⟨by rw [List.length_drop]; omega, fun i k v hk hv => ?_⟩
  rw [List.getElem?_drop] at hv
  exact h.2 _ k v (by rw [List.getElem?_append_right (by omega)]; rw [show ks.length + i - ks.length = i by omega]; exact hk) hv

/-- A value of a type, from its cells. -/
def valOf (P : Program) (t : TypeId) (xs : List Value) : Value := match aggT P t with
  | some true => .agg xs.toArray
  | _ => xs.getD 0 undef

section
variable [Ban] {P : Program} {w : World}

theorem eqT_agg {d : Nat} {t : TypeId} {ks : List Ty} (h : eqT P d t = some ks) : (∃ b, aggT P t = some b) ∧ (aggT P t = some false → ∃ k, ks = [k]) := by
  cases d with
  | zero => cases h
  | succ d =>
    simp only [eqT] at h
    unfold aggT
    split at h
    · rename_i k hu; simp only [Option.some.injEq] at h; subst h; simp [hu]
    · rename_i hu; simp only [Option.some.injEq] at h; subst h; simp [hu]
    · rename_i hu; simp only [Option.some.injEq] at h; subst h; simp [hu]
    · rename_i fs hu; simp [hu]
    · rename_i n e hu; simp [hu]
    · cases h

/-- A part of a struct or an array. -/
theorem run_part_val {d : Nat} {e : TypeId} {l : List Ty} (he : eqT P d e = some l) (hs : sizeT P e = some l.length) {xs : List Value} {off : Nat} (hx : off + l.length ≤ xs.length) :
    (part e xs.toArray off).run P w = .ok (valOf P e ((xs.drop off).take l.length)) w := by
  obtain ⟨⟨b, hb⟩, h1⟩ := eqT_agg he
  cases b with
  | true => simp [part, run_isAgg hb, run_sizeOf hs, List.extract_eq_take_drop, valOf, hb]
  | false =>
    obtain ⟨k, rfl⟩ := h1 hb
    have hlt : off < xs.length := by simp at hx; omega
    simp [part, run_isAgg hb, valOf, hb, hlt, List.getD, List.getElem?_take, List.getElem?_drop]

theorem eqFields_run {d m : Nat} (ih : ∀ (t : TypeId) (ks : List Ty), eqT P d t = some ks → ∀ (xs ys : List Value), Fit ks xs → Fit ks ys → (Op.equalIn (d + m) t (valOf P t xs) (valOf P t ys)).run P w = .ok (eqBs xs ys) w) :
    ∀ (fs : List Field) (o : Nat) (ks : List Ty), eqFs (eqT P d) P fs o = some ks → ∀ (xs ys : List Value), Fit ks (xs.drop o) → Fit ks (ys.drop o) → (Op.eqFields (d + m) xs.toArray ys.toArray fs).run P w = .ok (eqBs (xs.drop o) (ys.drop o)) w
  | [], o, ks, h, xs, ys, hx, hy => by
    simp only [eqFs, Option.some.injEq] at h
    subst h
    have h1 : xs.drop o = [] := List.eq_nil_of_length_eq_zero hx.1.symm
    simp [Op.eqFields, h1, eqBs]
  | f :: fs, o, ks, h, xs, ys, hx, hy => by
    simp only [eqFs] at h
    split at h
    · cases h
    · rename_i hne
      split at h
      · rename_i ho
        split at h
        · rename_i l hl
          split at h
          · rename_i hs
            obtain ⟨hs, hlp⟩ := hs
            split at h
            · rename_i r hr
              simp only [Option.some.injEq] at h
              subst h
              have lx := hx.1
              have ly := hy.1
              simp only [List.length_append, List.length_drop] at lx ly
              have p1 := run_part_val (w := w) hl hs (xs := xs) (off := o) (by omega)
              have p2 := run_part_val (w := w) hl hs (xs := ys) (off := o) (by omega)
              have e1 := ih f.type l hl _ _ hx.take hy.take
              have e2 := eqFields_run ih fs (o + l.length) r hr xs ys (by rw [← List.drop_drop]; exact hx.drop) (by rw [← List.drop_drop]; exact hy.drop)
              have hsplit : eqBs (xs.drop o) (ys.drop o) = (eqBs ((xs.drop o).take l.length) ((ys.drop o).take l.length) && eqBs (xs.drop (o + l.length)) (ys.drop (o + l.length))) := by
                rw [← eqBs_append _ _ _ _ (by simp only [List.length_take, List.length_drop]; omega), ← List.drop_drop, ← List.drop_drop, List.take_append_drop, List.take_append_drop]
              rw [hsplit]
              simp only [Op.eqFields, ne_eq, hne, not_false_eq_true, if_true, ho, Sem.run_bind, p1, p2, e1, Result.andThen_ok]
              cases eqBs ((xs.drop o).take l.length) ((ys.drop o).take l.length)
              · simp
              · simp [e2]
            · cases h
          · cases h
        · cases h
      · cases h

theorem eqItems_run {d m : Nat} {e : TypeId} {l : List Ty} (he : eqT P d e = some l) (hs : sizeT P e = some l.length) (hl : 0 < l.length) (ih : ∀ (xs ys : List Value), Fit l xs → Fit l ys → (Op.equalIn (d + m) e (valOf P e xs) (valOf P e ys)).run P w = .ok (eqBs xs ys) w) :
    ∀ (n j : Nat) (xs ys : List Value), Fit (List.replicate n l).flatten (xs.drop (j * l.length)) → Fit (List.replicate n l).flatten (ys.drop (j * l.length)) →
      (Op.eqItems (d + m) e l.length xs.toArray ys.toArray (List.range' j n)).run P w = .ok (eqBs (xs.drop (j * l.length)) (ys.drop (j * l.length))) w
  | 0, j, xs, ys, hx, hy => by
    have h1 : xs.drop (j * l.length) = [] := List.eq_nil_of_length_eq_zero (by simpa using hx.1.symm)
    simp [Op.eqItems, h1, eqBs]
  | n + 1, j, xs, ys, hx, hy => by
    rw [List.replicate_succ, List.flatten_cons] at hx hy
    have lx := hx.1
    have ly := hy.1
    rw [List.length_append, List.length_drop] at lx ly
    have p1 := run_part_val (w := w) he hs (xs := xs) (off := j * l.length) (by omega)
    have p2 := run_part_val (w := w) he hs (xs := ys) (off := j * l.length) (by omega)
    have e1 := ih _ _ hx.take hy.take
    have hj : (j + 1) * l.length = j * l.length + l.length := by rw [Nat.add_mul, Nat.one_mul]
    have e2 := eqItems_run he hs hl ih n (j + 1) xs ys (by rw [hj, ← List.drop_drop]; exact hx.drop) (by rw [hj, ← List.drop_drop]; exact hy.drop)
    have hsplit : eqBs (xs.drop (j * l.length)) (ys.drop (j * l.length)) = (eqBs ((xs.drop (j * l.length)).take l.length) ((ys.drop (j * l.length)).take l.length) && eqBs (xs.drop ((j + 1) * l.length)) (ys.drop ((j + 1) * l.length))) := by
      rw [← eqBs_append _ _ _ _ (by simp only [List.length_take, List.length_drop]; omega), hj, ← List.drop_drop, ← List.drop_drop, List.take_append_drop, List.take_append_drop]
    rw [hsplit, List.range'_succ]
    simp only [Op.eqItems, Sem.run_bind, p1, p2, e1, Result.andThen_ok]
    cases eqBs ((xs.drop (j * l.length)).take l.length) ((ys.drop (j * l.length)).take l.length)
    · simp
    · simp [e2]

theorem fit_one {k : Ty} {vs : List Value} (h : Fit [k] vs) : ∃ v, vs = [v] ∧ fit1 k v := by
  have hl := h.1
  match vs, hl with
  | [v], _ => exact ⟨v, rfl, h.2 0 k v rfl rfl⟩

theorem run_eqT : ∀ (d m : Nat) (t : TypeId) (ks : List Ty), eqT P d t = some ks → ∀ (xs ys : List Value), Fit ks xs → Fit ks ys → (Op.equalIn (d + m) t (valOf P t xs) (valOf P t ys)).run P w = .ok (eqBs xs ys) w
  | 0, _, _, _, h, _, _, _, _ => by cases h
  | d + 1, m, t, ks, h, xs, ys, hx, hy => by
    have ih := fun t ks h xs ys => run_eqT d m t ks h xs ys
    have hadd : d + 1 + m = (d + m) + 1 := by omega
    rw [hadd]
    simp only [eqT] at h
    split at h
    · rename_i k hu
      simp only [Option.some.injEq] at h
      subst h
      obtain ⟨_, rfl, x, rfl⟩ := fit_one hx
      obtain ⟨_, rfl, y, rfl⟩ := fit_one hy
      simp [valOf, aggT, hu, run_equalIn_int w (d + m) t k k x y hu, eqBs, lit1]
    · rename_i hu
      simp only [Option.some.injEq] at h
      subst h
      obtain ⟨_, rfl, x, rfl⟩ := fit_one hx
      obtain ⟨_, rfl, y, rfl⟩ := fit_one hy
      simp [valOf, aggT, hu, run_equalIn_bool' w (d + m) t x y hu, eqBs, lit1]
    · rename_i hu
      simp only [Option.some.injEq] at h
      subst h
      obtain ⟨_, rfl, x, rfl⟩ := fit_one hx
      obtain ⟨_, rfl, y, rfl⟩ := fit_one hy
      simp [valOf, aggT, hu, run_equalIn_string w (d + m) t x y hu, eqBs, lit1]
    · rename_i fs hu
      split at h
      · cases h
      · rename_i hst
        have hf : P.fieldsOf t = fs := by simp [Program.fieldsOf, hu]
        have h1 := run_equalIn_struct w (d + m) t xs.toArray ys.toArray (by rw [hf]; exact hu) hst
        have h2 := eqFields_run (w := w) (m := m) ih fs.toList 0 ks h xs ys (by simpa using hx) (by simpa using hy)
        simp only [valOf, aggT, hu, h1, hf]
        simpa using h2
    · rename_i n e hu
      split at h
      · rename_i l hl
        split at h
        · rename_i hs
          obtain ⟨hs, hlp⟩ := hs
          simp only [Option.some.injEq] at h
          subst h
          obtain ⟨i, hi⟩ : ∃ i, P.info? e = some i := by
            unfold sizeT at hs
            cases he : P.info? e with
            | none => rw [he] at hs; cases hs
            | some i => exact ⟨i, rfl⟩
          have hc : P.cellsOf e = l.length := by simp only [Program.cellsOf]; unfold sizeT at hs; rw [hs]; rfl
          have h1 := run_equalIn_array w (d + m) xs.toArray ys.toArray hu hi
          have h2 := eqItems_run (w := w) hl hs hlp (m := m) (fun xs ys => ih e l hl xs ys) n 0 xs ys (by simpa using hx) (by simpa using hy)
          rw [hc, List.range_eq_range'] at h1
          simp only [valOf, aggT, hu, h1]
          simpa using h2
        · cases h
      · cases h
    · cases h

end

section
variable [Ban] {base : Nat} {w0 : World} {ρ0 : List RV} {h0 : AHeap} {ρ : List RV} {s : St} {a : Act} {w : World} {P : Program} {gd : Option (Nat × Bool)} {o : Oper} {v : AV} {h : AHeap} {K : Nat → Prop}

theorem eq0_lr {k : Ty} {x y : AV} {u v : Value} {b : Bool} (hx : LR w ρ h K x u) (hy : LR w ρ h K y v) (h : eq0 k x y = some b) : fit1 k u ∧ fit1 k v ∧ b = lit1 u v := by
  unfold eq0 at h
  split at h
  · split at h
    · rename_i hk
      simp only [Option.some.injEq] at h
      rw [int_of_lr hx, int_of_lr hy, hk.1, hk.2]
      exact ⟨⟨_, rfl⟩, ⟨_, rfl⟩, h.symm⟩
    · cases h
  · simp only [Option.some.injEq] at h
    rw [bool_of_lr hx, bool_of_lr hy]
    exact ⟨⟨_, rfl⟩, ⟨_, rfl⟩, h.symm⟩
  · simp only [Option.some.injEq] at h
    rw [(str_of_lr hx).1, (str_of_lr hy).1]
    exact ⟨⟨_, rfl⟩, ⟨_, rfl⟩, h.symm⟩
  · cases h

theorem LRs.cons' {c : AV} {cs : List AV} {vs : List Value} (hl : LRs w ρ h K (c :: cs) vs) : ∃ u us, vs = u :: us ∧ LR w ρ h K c u ∧ LRs w ρ h K cs us := by
  cases vs with
  | nil => have := hl.1; simp at this
  | cons u us =>
    refine ⟨u, us, rfl, hl.2.1 0 c u rfl rfl, ?_⟩
    have := hl.drop 1
    simpa using this
theorem LRs.nil' {vs : List Value} (hl : LRs w ρ h K [] vs) : vs = [] := List.eq_nil_of_length_eq_zero hl.1.symm

theorem Fit.cons {k : Ty} {ks : List Ty} {v : Value} {vs : List Value} (h : fit1 k v) (t : Fit ks vs) : Fit (k :: ks) (v :: vs) := by
  refine ⟨by simp [t.1], fun i k' v' hk hv => ?_⟩
  cases i with
  | zero => simp only [List.getElem?_cons_zero, Option.some.injEq] at hk hv; subst hk hv; exact h
  | succ i => simp only [List.getElem?_cons_succ] at hk hv; exact t.2 i k' v' hk hv

theorem eqL_lr : ∀ {ks : List Ty} {xs ys : List AV} {us vs : List Value} {b : Bool}, LRs w ρ h K xs us → LRs w ρ h K ys vs → eqL ks xs ys = some b → Fit ks us ∧ Fit ks vs ∧ b = eqBs us vs
  | ks, xs, ys, us, vs, b, hx, hy, h => by
    unfold eqL at h
    split at h
    · simp only [Option.some.injEq] at h
      subst h
      rw [hx.nil', hy.nil']
      exact ⟨⟨rfl, by simp⟩, ⟨rfl, by simp⟩, by simp [eqBs]⟩
    · obtain ⟨u, us', rfl, h1, h2⟩ := hx.cons'
      obtain ⟨v, vs', rfl, h3, h4⟩ := hy.cons'
      rw [h2.nil', h4.nil']
      obtain ⟨g1, g2, g3⟩ := eq0_lr h1 h3 h
      exact ⟨.cons g1 ⟨rfl, by simp⟩, .cons g2 ⟨rfl, by simp⟩, by simp [eqBs, g3]⟩
    · rename_i k ks' x xs' y ys' hne
      split at h
      · rename_i b1 hb1
        split at h
        · rename_i c hc
          simp only [Option.some.injEq] at h
          subst h
          obtain ⟨u, us', rfl, h1, h2⟩ := hx.cons'
          obtain ⟨v, vs', rfl, h3, h4⟩ := hy.cons'
          obtain ⟨g1, g2, g3⟩ := eq0_lr h1 h3 hb1
          obtain ⟨f1, f2, f3⟩ := eqL_lr h2 h4 hc
          exact ⟨.cons g1 f1, .cons g2 f2, by simp [eqBs, g3, f3]⟩
        · cases h
      · cases h
    · cases h

/-- '==' on structs. -/
def eqsOk (P : Program) (t : TypeId) (ks : List Ty) : Bool := (match eqT P 12 t with | some l => decide (l = ks) | none => false) && (aggT P t == some true && !P.eqGuardType P.depth t)

theorem sound_eqs (R : Rel base w0 ρ0 h0 ρ s a w) (hg : GH gd a) {ng : Bool} {ks : List Ty} {x x' : AX} {y y' : Operand} {t u : TypeId} (ho : o.op = .binOp (if ng then .neq else .eql) t y y' u) (ht : eqsOk P t ks = true) (hx : okX x y = true) (hx' : okX x' y' = true)
    (hp : CV.map2 (x.get gd s) (x'.get gd s) (eqV ng ks) = some (true, v)) : Sound P o a w ρ s.h v := by
  obtain ⟨hc, hc', hp⟩ := map2_some hp
  have hl := R.get hg hx hc
  have hl' := R.get hg hx' hc'
  unfold eqV at hp
  split at hp
  · rename_i xs ys ex ey
    rw [ex] at hl
    rw [ey] at hl'
    split at hp
    · rename_i b hb
      simp only [Option.some.injEq, Prod.mk.injEq, true_and] at hp
      subst hp
      obtain ⟨us, e1, h1⟩ := LRs.of_agg hl
      obtain ⟨vs, e2, h2⟩ := LRs.of_agg hl'
      obtain ⟨f1, f2, rfl⟩ := eqL_lr h1 h2 hb
      simp only [eqsOk, Bool.and_eq_true, beq_iff_eq, Bool.not_eq_true'] at ht
      obtain ⟨ht1, ha, hgd⟩ := ht
      have hk : eqT P 12 t = some ks := by
        split at ht1
        · rename_i l hl; rw [hl]; simpa using ht1
        · cases ht1
      have hr := run_eqT (w := w) 12 9988 t ks hk us vs f1 f2
      have hv : ∀ xs, valOf P t xs = .agg xs.toArray := fun xs => by simp [valOf, ha]
      rw [hv, hv] at hr
      have hguard : ∀ op, (eqGuard op t y y' (.agg us.toArray) (.agg vs.toArray)).run P w = .ok () w := fun op => run_eqGuard_agg w op t y y' _ _ hgd
      cases ng with
      | true => exact .same (z := .bool (!eqBs us vs)) (by unfold execOp; simp only [ho, if_true]; exact run_v (by rw [e1, e2]; simp [hguard, run_neq_struct, hr])) (lr_bool _)
      | false => exact .same (z := .bool (eqBs us vs)) (by unfold execOp; simp only [ho, Bool.false_eq_true, if_false]; exact run_v (by rw [e1, e2]; simp [hguard, run_eql_struct, hr])) (lr_bool _)
    · cases hp
  · cases hp

end
end Go.Tw
