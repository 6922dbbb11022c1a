/- Calls of functions at data. -/
import Derived.Test.YtdenbakbmggcpaaSnd18
set_option linter.unusedVariables false
set_option linter.unusedSectionVars false
set_option linter.unusedSimpArgs false
namespace Go.Tw
open Go.RowKit

/-- Values as data, outside of the blocks X: what goes into a function, and what comes out of it. -/
abbrev LRX (w : World) (X : Nat → Prop) (c : AV) (v : Value) : Prop := @LR ⟨X⟩ w [] [] K0 c v
def LRXs (w : World) (X : Nat → Prop) (cs : List AV) (vs : List Value) : Prop := cs.length = vs.length ∧ ∀ (i : Nat) (c : AV) (v : Value), cs[i]? = some c → vs[i]? = some v → LRX w X c v

theorem LRXs.nil {w X} : LRXs w X [] [] := ⟨rfl, by simp⟩
theorem LRXs.cons {w X} {c : AV} {cs : List AV} {v : Value} {vs : List Value} (h : LRX w X c v) (t : LRXs w X cs vs) : LRXs w X (c :: cs) (v :: vs) := by
  refine ⟨by simp [t.1], fun i c' v' hc hv => ?_⟩
  cases i with
  | zero => simp only [List.getElem?_cons_zero, Option.some.injEq] at hc hv; subst hc hv; exact h
  | succ i => simp only [List.getElem?_cons_succ] at hc hv; exact t.2 i c' v' hc hv

theorem XO_nil (X : Nat → Prop) (b : Nat) : @XO ⟨X⟩ [] [] b ↔ X b := by
  constructor
  · rintro (h | ⟨r, o, rv, hr, _⟩)
    · exact h
    · simp at hr
  · exact fun h => Or.inl h

theorem LRX.d {w X} {T : Ty} {x : T.D} {v : Value} (h : VR w X T x [v]) : LRX w X (.d T x) v := @LR.d ⟨X⟩ _ _ _ _ _ _ _ (h.less fun b hb => (XO_nil X b).1 hb)

section
variable [Ban] {base : Nat} {w0 : World} {ρ0 : List RV} {h0 : AHeap} {ρ : List RV} {s s1 : St} {a : Act} {w w' : World} {P : Program} {gd : Option (Nat × Bool)} {o : Oper} {v : AV} {h : AHeap} {K : Nat → Prop} {X : Nat → Prop}

/-- What comes out of a call is told in the caller's words. -/
theorem LRX.lr {c : AV} {v : Value} (hl : LRX w X c v) (hX : ∀ b, XO ρ h b → X b) : LR w ρ h K0 c v := by
  have hX' : ∀ b, XO ρ h b → @XO ⟨X⟩ [] [] b := fun b hb => (XO_nil X b).2 (hX b hb)
  induction hl with
  | d hv => exact .d (hv.less hX')
  | fr hv => exact .fr (hv.less hX')
  | nil => exact .nil
  | own hb => exact absurd (hb id).1 (by simp)
  | box hb => exact absurd (hb id).1 (by simp)
  | pel hb => exact absurd (hb id).1 (by simp)
  | mp hb => exact absurd (hb id).1 (by simp)
  | pfz cs h1 h2 h3 => exact .pfz cs (h1.less hX') (fun ho hx => h2 ho (hX' _ hx)) h3
  | fn h1 h2 ih => exact .fn h1 ih
  | agg h1 h2 h3 ih => exact .agg h1 ih h3
  | tup h1 h2 ih => exact .tup h1 ih
  | opt h1 h2 ih => exact .opt ih h2
  | any => exact .any

omit [Ban] in
theorem VR.prim {w : World} {X X' : Nat → Prop} : ∀ {T : Ty} {x : T.D} {cs : List Value}, T.prim = true → VR w X T x cs → VR w X' T x cs
  | .int _, _, _, _, h => by simpa only [VR] using h
  | .bool, _, _, _, h => by simpa only [VR] using h
  | .str, _, _, _, h => by simpa only [VR] using h
  | .fn, _, _, _, h => by simpa only [VR] using h
  | .unit, _, _, _, h => by simpa only [VR] using h
  | .pair a b, _, _, hp, h => by
    simp only [Ty.prim, Bool.and_eq_true] at hp
    simp only [VR] at h ⊢
    obtain ⟨c1, c2, rfl, h1, h2⟩ := h
    exact ⟨c1, c2, rfl, h1.prim hp.1, h2.prim hp.2⟩
  | .sl a, _, _, hp, h => by simp [Ty.prim] at hp

theorem LRX.lr_prim {c : AV} {v : Value} (hp : c.prim = true) (hl : LRX w X c v) : LR w ρ h K0 c v := by
  cases hl <;> simp only [AV.prim, Bool.false_eq_true] at hp
  case d hv => exact .d (hv.prim hp)
  case fn h1 h2 =>
    rename_i f cs vs
    cases cs with
    | nil => exact .fn h1 (by simp)
    | cons c cs => simp at hp
theorem LRX.lr_flat {c : AV} {v : Value} (hp : c.flat = true) (hl : LRX w X c v) : LR w ρ h K0 c v := by
  by_cases hag : ∃ ds, c = .agg ds
  · obtain ⟨ds, rfl⟩ := hag
    simp only [AV.flat, List.all_eq_true] at hp
    cases hl with
    | agg h1 h2 h3 => exact .agg h1 (fun i c v hc hv => LRX.lr_prim (hp c (List.mem_of_getElem? hc)) (h2 i c v hc hv)) h3
  · refine hl.lr_prim ?_
    cases c <;> first | exact hp | exact absurd ⟨_, rfl⟩ hag

/-- What goes into a call. -/
theorem frz0_lr (H : HR base w ρ h) (hX : ∀ b, X b → XO ρ h b) {c d : AV} {u : Value} (hl : LR w ρ h K0 c u) (hf : frz0 h c = some d) (hown : ∀ r, c = .own r → ∀ rv b, ρ[r]? = some rv → rv.block = some b → ¬ X b) : LRX w X d u := by
  unfold frz0 at hf
  split at hf
  · simp only [Option.some.injEq] at hf
    subst hf
    cases hl with
    | d hv => exact .d (hv.less hX)
  · simp only [Option.some.injEq] at hf
    subst hf
    cases hl with
    | fr hv => exact .d (hv.less hX)
  · simp only [Option.some.injEq] at hf
    subst hf
    cases hl
    exact .d VR.nilslice
  · rename_i r
    split at hf
    · rename_i U ys hr
      simp only [Option.some.injEq] at hf
      subst hf
      exact .d (own_vr H hX hl hr (hown r rfl))
    · cases hf
  · simp only [Option.some.injEq] at hf
    subst hf
    cases hl with
    | fn h1 h2 => exact @LR.fn ⟨X⟩ _ _ _ _ _ _ _ h1 (by simp)
  · cases hf

omit [Ban] in
theorem frzL_len : ∀ {cs ds : List AV}, frzL h cs = some ds → ds.length = cs.length ∧ ∀ (i : Nat) (c d : AV), cs[i]? = some c → ds[i]? = some d → frz0 h c = some d
  | [], ds, hf => by simp only [frzL, Option.some.injEq] at hf; subst hf; exact ⟨rfl, by simp⟩
  | c :: cs, ds, hf => by
    simp only [frzL] at hf
    split at hf
    · rename_i v hv
      split at hf
      · rename_i vs hvs
        simp only [Option.some.injEq] at hf
        subst hf
        obtain ⟨h1, h2⟩ := frzL_len hvs
        refine ⟨by simp [h1], fun i c' d hc hd => ?_⟩
        cases i with
        | zero => simp only [List.getElem?_cons_zero, Option.some.injEq] at hc hd; subst hc hd; exact hv
        | succ i => simp only [List.getElem?_cons_succ] at hc hd; exact h2 i c' d hc hd
      · cases hf
    · cases hf

theorem frz_lr (H : HR base w ρ h) (hX : ∀ b, X b → XO ρ h b) {c d : AV} {u : Value} (hl : LR w ρ h K0 c u) (hf : frz h c = some d) (hown : ∀ r, r ∈ c.owns → ∀ rv b, ρ[r]? = some rv → rv.block = some b → ¬ X b) : LRX w X d u := by
  by_cases hag : ∃ ds, c = .agg ds
  · obtain ⟨ds, rfl⟩ := hag
    simp only [frz] at hf
    split at hf
    · rename_i vs hvs
      simp only [Option.some.injEq] at hf
      subst hf
      obtain ⟨h1, h2⟩ := frzL_len hvs
      cases hl with
      | agg g1 g2 g3 =>
        refine @LR.agg ⟨X⟩ _ _ _ _ _ _ (h1.trans g1) (fun i d v hd hv => ?_) g3
        have hlt : i < ds.length := by rw [← h1]; exact (List.getElem?_eq_some_iff.1 hd).1
        have hc : ds[i]? = some ds[i] := by simp [hlt]
        exact frz0_lr H hX (g2 i _ v hc hv) (h2 i _ d hc hd) fun r hr => hown r (by
          simp only [AV.owns, List.mem_filterMap]
          exact ⟨ds[i], List.getElem_mem hlt, by rw [hr]⟩)
    · cases hf
  · have hf' : frz0 h c = some d := by cases c <;> first | exact hf | exact absurd ⟨_, rfl⟩ hag
    exact frz0_lr H hX hl hf' fun r hr => hown r (by rw [hr]; simp [AV.owns])

omit [Ban] in
theorem frz_owns {c d : AV} (hf : frz h c = some d) {r : Nat} (hr : r ∈ c.owns) : ∃ (U : Ty) (zs : List U.D), h[r]? = some (.row U zs) := by
  have key : frz0 h (.own r) = none ∨ ∃ (U : Ty) (zs : List U.D), h[r]? = some (.row U zs) := by
    simp only [frz0]
    split
    · exact .inr ⟨_, _, by assumption⟩
    · exact .inl rfl
  refine key.resolve_left fun hn => ?_
  cases c <;> simp only [AV.owns, List.not_mem_nil, List.mem_singleton] at hr
  · subst hr; simp only [frz] at hf; rw [hn] at hf; cases hf
  · rename_i cs
    simp only [List.mem_filterMap] at hr
    obtain ⟨x, hx, hx2⟩ := hr
    cases x <;> simp only [Option.some.injEq, reduceCtorEq] at hx2
    subst hx2
    simp only [frz] at hf
    split at hf
    · rename_i vs hvs
      obtain ⟨h1, h2⟩ := frzL_len hvs
      obtain ⟨i, hi⟩ := List.getElem?_of_mem hx
      have hlt : i < vs.length := by rw [h1]; exact (List.getElem?_eq_some_iff.1 hi).1
      have := h2 i _ vs[i] hi (by simp [hlt])
      rw [hn] at this
      cases this
    · cases hf

/-- The rows of the caller's own that a call is given. -/
def lent (gd : Option (Nat × Bool)) (s : St) (xs : List AX) : List Nat := xs.flatMap fun x => (x.get gd s).2.owns
omit [Ban] in
theorem lends_lent {xs : List AX} (h : lends gd s xs = false) : lent gd s xs = [] := by
  induction xs with
  | nil => rfl
  | cons x xs ih =>
    simp only [lends] at h
    split at h
    · rename_i he
      simp only [lent, List.flatMap_cons, he, List.nil_append]
      exact ih h
    · cases h

theorem args_lr (R : Rel base w0 ρ0 h0 ρ s a w) (hg : GH gd a) (hX : ∀ b, X b → XO ρ s.h b) : ∀ {xs : List AX} {ys : List Operand} {vs : List AV}, okXs xs ys = true → argsOf gd s xs = some (true, vs) →
    (∀ r, r ∈ lent gd s xs → ∀ rv b, ρ[r]? = some rv → rv.block = some b → ¬ X b) → LRXs w X vs (ys.map a.eval)
  | [], [], vs, _, he, _ => by
    simp only [argsOf, Option.some.injEq, Prod.mk.injEq, true_and] at he
    subst he
    exact .nil
  | x :: xs, y :: ys, vs, hok, he, hown => by
    simp only [okXs, Bool.and_eq_true] at hok
    simp only [argsOf] at he
    split at he
    · rename_i d hd
      split at he
      · rename_i c vs' he'
        simp only [Option.some.injEq, Prod.mk.injEq, Bool.and_eq_true] at he
        obtain ⟨⟨hc, rfl⟩, rfl⟩ := he
        exact .cons (frz_lr R.hp hX (R.get hg hok.1 hc) hd fun r hr => hown r (by simp only [lent, List.flatMap_cons, List.mem_append]; exact .inl hr)) (args_lr R hg hX hok.2 he' fun r hr => hown r (by simp only [lent, List.flatMap_cons, List.mem_append]; exact .inr hr))
      · cases he
    · cases he
  | [], _ :: _, _, hok, _, _ => by simp [okXs] at hok
  | _ :: _, [], _, hok, _, _ => by simp [okXs] at hok
omit [Ban] in
theorem args_owns : ∀ {xs : List AX} {c : Bool} {vs : List AV}, argsOf gd s xs = some (c, vs) → ∀ {r : Nat}, r ∈ lent gd s xs → ∃ (U : Ty) (zs : List U.D), s.h[r]? = some (.row U zs)
  | [], _, _, _, r, hr => by simp [lent] at hr
  | x :: xs, c, vs, he, r, hr => by
    simp only [argsOf] at he
    split at he
    · rename_i d hd
      split at he
      · rename_i c' vs' he'
        simp only [lent, List.flatMap_cons, List.mem_append] at hr
        exact hr.elim (frz_owns hd) (args_owns he')
      · cases he
    · cases he
end

/-- What a call hands back. -/
def retV : List Value → Value
  | [v] => v
  | vs => .tuple vs.toArray

/-- A function may be entered. -/
def entersB (P : Program) (f : FuncId) : Bool := match P.funcs[f]? with
  | some fn => fn.name != "runtime.NumGoroutine" && fn.body.isSome
  | none => false
theorem run_enters {P : Program} {f : FuncId} (h : entersB P f = true) (args : Array Value) (w : World) : (callFunc f args).run P w = .ok (.enter f args) w := by
  unfold entersB at h
  split at h
  · rename_i fn hf
    simp only [Bool.and_eq_true, bne_iff_ne, ne_eq] at h
    obtain ⟨h1, h2⟩ := h
    have h3 : fn.body ≠ none := by intro hb; simp [hb] at h2
    simp [callFunc, hf, h1, h3]
  · cases h

/-- What is told of a function at data. -/
def FOk (P : Program) (f : FuncId) (E : List AV → Option (Bool × List AV)) : Prop :=
  ∀ (vs rs : List AV), E vs = some (true, rs) → ∀ (X : Nat → Prop) (w : World) (us : List Value), (∀ b, X b → b < w.heap.size) → LRXs w X vs us →
    entersB P f = true ∧ Calls P f us.toArray w fun e w' => ∃ zs : List Value, e = .returned (retV zs) ∧ Below w.heap.size w w' ∧ LRXs w' X rs zs
def GOk (P : Program) (Γ : GEnv) : Prop := ∀ f, FOk P f (Γ f)

theorem exec_call {P : Program} {o : Oper} {a : Act} {w : World} {y : Operand} {ys : Array Operand} {ts : Array TypeId} {f : FuncId} {cap : Array Value} (ho : o.op = .call { callee := .value y, args := ys, argTypes := ts }) (hy : a.eval y = .func (.func f) #[] cap) (he : entersB P f = true) :
    (execOp a.eval o).run P w = .ok (.enter f (ys.map a.eval ++ cap)) w := by
  unfold execOp
  simp [ho, resolve, Deferred.ofValue, hy, invoke, run_enters he]

section
variable [Ban] {base : Nat} {w0 : World} {ρ0 : List RV} {h0 : AHeap} {ρ : List RV} {s s1 : St} {a : Act} {w w' : World} {P : Program} {gd : Option (Nat × Bool)} {o : Oper} {v : AV} {h : AHeap} {K : Nat → Prop} {X : Nat → Prop}

theorem lr_oneV {rs : List AV} {zs : List Value} (h1 : rs.length = zs.length) (h2 : ∀ (i : Nat) (c : AV) (v : Value), rs[i]? = some c → zs[i]? = some v → LR w ρ h K0 c v) : LR w ρ h K0 (oneV rs) (retV zs) := by
  match rs, zs, h1 with
  | [], [], _ => exact .tup rfl (by simp)
  | [c], [v], _ => exact h2 0 c v rfl rfl
  | c :: d :: cs, v :: u :: vs, h1 => exact .tup (by simpa using h1) fun i c' v' hc hv => h2 i c' v' hc (by simpa using hv)

/-- A call at data. -/
theorem sound_callv {Γ : GEnv} (hG : GOk P Γ) (R : Rel base w0 ρ0 h0 ρ s a w) (hg : GH gd a) {y : Operand} {xs : List AX} {ys : Array Operand} {ts : Array TypeId} {f : FuncId} (ho : o.op = .call { callee := .value y, args := ys, argTypes := ts }) (hy : a.eval y = .func (.func f) #[] #[]) (hx : okXs xs ys.toList = true)
    {vs r : List AV} (hargs : argsOf gd s xs = some (true, vs)) (hΓ : Γ f vs = some (true, r)) (htame : lends gd s xs = true → r.all AV.flat = true) : Sound P o a w ρ s.h (oneV r) := by
  have hX : ∀ b, XO ρ (goneAll s.h (lent gd s xs)) b → XO ρ s.h b := fun b hb => XO_gone hb
  have hl := args_lr R hg hX hx hargs fun r hr rv b hρ hb => by
    obtain ⟨U, zs, hz⟩ := args_owns hargs hr
    exact XO_not_gone R.hp hr hz rfl hρ hb
  obtain ⟨he, hc⟩ := hG f vs r hΓ _ w _ (fun b hb => XO_lt R.hp (hX b hb)) hl
  intro next Q hn
  unfold Oper.wp
  rw [exec_call ho hy he]
  simp only [Oper.upon]
  have harr : (ys.toList.map a.eval).toArray = ys.map a.eval ++ #[] := by
    apply Array.toList_inj.1
    simp
  rw [harr] at hc
  refine hc.mono fun e w' ⟨zs, hez, hb, hrs⟩ => ?_
  subst hez
  refine hn _ w' ⟨hb, lr_oneV hrs.1 fun i c v hc hv => ?_⟩
  cases hle : lends gd s xs with
  | true => exact (hrs.2 i c v hc hv).lr_flat (List.all_eq_true.1 (htame hle) c (List.mem_of_getElem? hc))
  | false =>
    refine (hrs.2 i c v hc hv).lr fun b hb => ?_
    rw [lends_lent hle]
    exact hb

theorem tame_some {xs : List AX} {r : List AV} {c : Bool} {v u : AV} (h : tame gd s xs r (some (c, v)) = some (true, u)) : c = true ∧ u = v ∧ (lends gd s xs = true → r.all AV.flat = true) := by
  unfold tame at h
  split at h
  · rename_i hl
    obtain ⟨h1, h2⟩ := cond_true h
    simp only [Option.some.injEq, Prod.mk.injEq] at h2
    exact ⟨h2.1, h2.2.symm, fun _ => h1⟩
  · rename_i hl
    simp only [Option.some.injEq, Prod.mk.injEq] at h
    exact ⟨h.1, h.2.symm, fun h' => by rw [hl] at h'; cases h'⟩

theorem sound_call {Γ : GEnv} (hG : GOk P Γ) (R : Rel base w0 ρ0 h0 ρ s a w) (hg : GH gd a) {xs : List AX} {ys : Array Operand} {ts : Array TypeId} {f : FuncId} (ho : o.op = .call { callee := .value (.func f), args := ys, argTypes := ts }) (hx : okXs xs ys.toList = true)
    (hp : (match argsOf gd s xs with
    | some (c, vs) => (match Γ f vs with | some (p, r) => tame gd s xs r (some (c && p, oneV r)) | none => none)
    | none => none) = some (true, v)) : Sound P o a w ρ s.h v := by
  split at hp
  · rename_i c vs hargs
    split at hp
    · rename_i p r hΓ
      obtain ⟨h1, rfl, h2⟩ := tame_some hp
      simp only [Bool.and_eq_true] at h1
      obtain ⟨rfl, rfl⟩ := h1
      exact sound_callv hG R hg ho rfl hx hargs hΓ h2
    · cases hp
  · cases hp

theorem sound_pcall {Γ : GEnv} (hG : GOk P Γ) (R : Rel base w0 ρ0 h0 ρ s a w) (hg : GH gd a) {x : AX} {y : Operand} {xs : List AX} {ys : Array Operand} {ts : Array TypeId} (ho : o.op = .call { callee := .value y, args := ys, argTypes := ts }) (hx : okX x y = true) (hxs : okXs xs ys.toList = true)
    (hp : (match (x.get gd s) with
    | (g, .d .fn f) => (match argsOf gd s xs with
      | some (c, vs) => (match Γ f vs with | some (p, r) => tame gd s xs r (some (g && (c && p), oneV r)) | none => none)
      | none => none)
    | (g, .fn f []) => (match argsOf gd s xs with
      | some (c, vs) => (match Γ f vs with | some (p, r) => tame gd s xs r (some (g && (c && p), oneV r)) | none => none)
      | none => none)
    | _ => none) = some (true, v)) : Sound P o a w ρ s.h v := by
  have hget := R.get hg hx
  generalize x.get gd s = G at *
  obtain ⟨g, F⟩ := G
  simp only at hget
  split at hp
  · rename_i g' f heq
    simp only [Prod.mk.injEq] at heq
    obtain ⟨rfl, rfl⟩ := heq
    split at hp
    · rename_i c vs hargs
      split at hp
      · rename_i p r hΓ
        obtain ⟨h1, rfl, h2⟩ := tame_some hp
        simp only [Bool.and_eq_true] at h1
        obtain ⟨rfl, rfl, rfl⟩ := h1
        exact sound_callv hG R hg ho (fn_of_lr (hget rfl)) hxs hargs hΓ h2
      · cases hp
    · cases hp
  · rename_i g' f heq
    simp only [Prod.mk.injEq] at heq
    obtain ⟨rfl, rfl⟩ := heq
    split at hp
    · rename_i c vs hargs
      split at hp
      · rename_i p r hΓ
        obtain ⟨h1, rfl, h2⟩ := tame_some hp
        simp only [Bool.and_eq_true] at h1
        obtain ⟨rfl, rfl, rfl⟩ := h1
        have hl := hget rfl
        have hy : a.eval y = .func (.func f) #[] #[] := by
          generalize a.eval y = u at *
          cases hl with
          | @fn _ _ cap h1 h2 =>
            have : cap = #[] := by simpa using h1.symm
            rw [this]
        exact sound_callv hG R hg ho hy hxs hargs hΓ h2
      · cases hp
    · cases hp
  · cases hp

end
end Go.Tw
