/- Operations one by one: parts, lengths, makes of values. -/
import Derived.Test.YtdenbakbmggcpaaSnd7
set_option linter.unusedVariables false
set_option linter.unusedSectionVars false
set_option linter.unusedSimpArgs false
namespace Go.Tw
open Go.RowKit

theorem cond_true {c : Bool} {α : Type} {v : Option α} {x : α} (h : (cond c v none : Option α) = some x) : c = true ∧ v = some x := by
  cases c with
  | true => exact ⟨rfl, h⟩
  | false => cases h

section
variable [Ban] {base : Nat} {w0 : World} {ρ0 : List RV} {h0 : AHeap} {ρ : List RV} {s : St} {a : Act} {w : World} {P : Program} {gd : Option (Nat × Bool)} {o : Oper} {v : AV} {h : AHeap} {K : Nat → Prop}

/-- A field of a value. -/
def fldOk (P : Program) (t : TypeId) (f o n : Nat) (agg : Bool) : Bool := match fieldT P t f with
  | some fl => fl.offset == o && (sizeT P fl.type == some n && aggT P fl.type == some agg)
  | none => false

theorem run_part_lr {t : TypeId} {n : Nat} {agg : Bool} (hs : sizeT P t = some n) (ha : aggT P t = some agg) {cs : List AV} {vs : List Value} (hl : LRs w ρ h K cs vs) {off : Nat} {c : AV} (hc : Tw.cut cs off n agg = some c) :
    ∃ z, (part t vs.toArray off).run P w = .ok z w ∧ LR w ρ h K c z := by
  have hcut := hl.cut hc
  cases agg with
  | true =>
    obtain ⟨_, hr⟩ := hcut.1 rfl
    refine ⟨_, ?_, hr⟩
    simp [part, run_isAgg ha, run_sizeOf hs, List.extract_eq_take_drop]
  | false =>
    obtain ⟨v, hv, hr, _⟩ := hcut.2 rfl
    exact ⟨v, by simp [part, run_isAgg ha, hv], hr⟩

theorem sound_fld (R : Rel base w0 ρ0 h0 ρ s a w) (hg : GH gd a) {x : AX} {y : Operand} {t : TypeId} {f q n : Nat} {agg : Bool} (ho : o.op = .field t y f) (ht : fldOk P t f q n agg = true) (hx : okX x y = true)
    (hp : CV.map1 (x.get gd s) (fun | .agg cs => CV.sure (cut cs q n agg) | _ => none) = some (true, v)) : Sound P o a w ρ s.h v := by
  obtain ⟨hc, hp⟩ := map1_some hp
  have hl := R.get hg hx hc
  unfold fldOk at ht
  split at ht
  · rename_i fl hf
    obtain ⟨fs, hu, hf⟩ := of_fieldT hf
    simp only [Bool.and_eq_true, beq_iff_eq] at ht
    obtain ⟨rfl, hs, ha⟩ := ht
    split at hp
    · rename_i cs he
      rw [he] at hl
      obtain ⟨vs, hv, hls⟩ := LRs.of_agg hl
      unfold CV.sure at hp
      split at hp
      · rename_i c hcut
        simp only [Option.some.injEq, Prod.mk.injEq, true_and] at hp
        subst hp
        obtain ⟨z, hz, hlz⟩ := run_part_lr (P := P) hs ha hls hcut
        exact .same (z := z) (by unfold execOp; simp only [ho]; exact run_v (by simp [Instr.field, run_underlying hu, hf, hv, asAgg, hz])) hlz
      · cases hp
    · cases hp
  · cases ht

theorem sound_ext (R : Rel base w0 ρ0 h0 ρ s a w) (hg : GH gd a) {x : AX} {y : Operand} {i : Nat} (ho : o.op = .extract y i) (hx : okX x y = true)
    (hp : CV.map1 (x.get gd s) (fun | .tup vs => (match vs[i]? with | some v => some (true, v) | none => none) | _ => none) = some (true, v)) : Sound P o a w ρ s.h v := by
  obtain ⟨hc, hp⟩ := map1_some hp
  have hl := R.get hg hx hc
  split at hp
  · rename_i vs he
    rw [he] at hl
    split at hp
    · rename_i c hi
      simp only [Option.some.injEq, Prod.mk.injEq, true_and] at hp
      subst hp
      generalize hu : a.eval y = u at *
      cases hl with
      | @tup _ us h1 h2 =>
        have hlt : i < us.size := by rw [← h1]; exact (List.getElem?_eq_some_iff.1 hi).1
        have h3 : us[i]? = some us[i] := by simp [hlt]
        exact .same (z := us[i]) (by unfold execOp; simp only [ho]; exact run_v (by simp [Instr.extract, hu, h3])) (h2 i _ _ hi h3)
    · cases hp
  · cases hp

/-- What a list value is. -/
theorem list_lr (H : HR base w ρ h) {T : Ty} {c : AV} {u : Value} {ys : List T.D} (hl : LR w ρ h K0 c u) (hx : asD h (.sl T) c = some ys) : ∃ A cap, u = .slice A ys.length cap := by
  obtain ⟨A, cap, xs, hu, _⟩ := lr_list H hl hx
  exact ⟨A, cap, hu⟩

theorem run_len_slice {t ty e : TypeId} (ht : P.underlying t = some (.slice e)) (A : Option Addr) (n c : Nat) : (Builtin.len_ #[t] ty #[.slice A n c]).run P w = .ok (.int .i64 n) w := by
  simp [Builtin.len_, run_underlying ht, goInt]
theorem run_len_str {t ty : TypeId} (ht : P.underlying t = some .string) (x : ByteArray) : (Builtin.len_ #[t] ty #[.string x]).run P w = .ok (.int .i64 x.size) w := by
  simp [Builtin.len_, run_underlying ht, goInt]

def lenSl (P : Program) (t : TypeId) : Bool := match P.underlying t with | some (.slice _) => true | _ => false

theorem lenV_some {x : AV} {r : AV} (H : HR base w ρ h) {u : Value} (hl : LR w ρ h K0 x u) (hp : lenV h x = some r) : ∃ A n c, u = .slice A n c ∧ r = .d (.int .i64) (n : Int) := by
  unfold lenV at hp
  split at hp
  · rename_i T ys
    simp only [Option.some.injEq] at hp
    obtain ⟨A, c, hu⟩ := list_lr (T := T) (ys := ys) H hl (by simp [asD])
    exact ⟨A, _, c, hu, hp.symm⟩
  · rename_i T ys
    simp only [Option.some.injEq] at hp
    obtain ⟨A, c, hu⟩ := list_lr (T := T) (ys := ys) H hl (by simp [asD])
    exact ⟨A, _, c, hu, hp.symm⟩
  · rename_i T
    simp only [Option.some.injEq] at hp
    cases hl
    exact ⟨_, _, _, rfl, by simpa using hp.symm⟩
  · rename_i r'
    split at hp
    · rename_i T ys hr
      simp only [Option.some.injEq] at hp
      obtain ⟨A, c, hu⟩ := list_lr (T := T) (ys := ys) H hl (by simp [asD, hr])
      exact ⟨A, _, c, hu, hp.symm⟩
    · cases hp
  · cases hp

/-- A builtin call of one value. -/
theorem exec_builtin1 {b : Builtin} {t : TypeId} {y : Operand} {z : Value} {w' : World} {f : Array TypeId → TypeId → Array Value → Sem Value} (ho : o.op = .call { callee := .builtin b, args := #[y], argTypes := #[t] })
    (hb : ∀ ty cs vs, builtin b #[t] ty cs vs = (do pure (Next.value (← f #[t] ty vs)))) (hr : (f #[t] o.type #[a.eval y]).run P w = .ok z w') : (execOp a.eval o).run P w = .ok (.value z) w' := by
  unfold execOp
  simp [ho, resolve, invoke, hb, hr]
theorem exec_builtin2 {b : Builtin} {t t' : TypeId} {y y' : Operand} {z : Value} {w' : World} {f : Array TypeId → TypeId → Array Value → Sem Value} (ho : o.op = .call { callee := .builtin b, args := #[y, y'], argTypes := #[t, t'] })
    (hb : ∀ ty cs vs, builtin b #[t, t'] ty cs vs = (do pure (Next.value (← f #[t, t'] ty vs)))) (hr : (f #[t, t'] o.type #[a.eval y, a.eval y']).run P w = .ok z w') : (execOp a.eval o).run P w = .ok (.value z) w' := by
  unfold execOp
  simp [ho, resolve, invoke, hb, hr]

theorem sound_len (R : Rel base w0 ρ0 h0 ρ s a w) (hg : GH gd a) {x : AX} {y : Operand} {t e : TypeId} (ho : o.op = .call { callee := .builtin .len, args := #[y], argTypes := #[t] }) (ht : elemT P t = some e) (hx : okX x y = true)
    (hp : CV.map1 (x.get gd s) (fun x => CV.sure (lenV s.h x)) = some (true, v)) : Sound P o a w ρ s.h v := by
  obtain ⟨hc, hp⟩ := map1_some hp
  have hl := R.get hg hx hc
  unfold CV.sure at hp
  split at hp
  · rename_i r hr
    simp only [Option.some.injEq, Prod.mk.injEq, true_and] at hp
    subst hp
    obtain ⟨A, n, c, hu, rfl⟩ := lenV_some R.hp hl hr
    exact .same (exec_builtin1 (f := Builtin.len_) ho (fun _ _ _ => rfl) (by rw [hu]; exact run_len_slice (of_elemT ht) A n c)) (lr_int _ _)
  · cases hp

theorem sound_lens (R : Rel base w0 ρ0 h0 ρ s a w) (hg : GH gd a) {x : AX} {y : Operand} {t : TypeId} (ho : o.op = .call { callee := .builtin .len, args := #[y], argTypes := #[t] }) (ht : isStrT P t = true) (hx : okX x y = true)
    (hp : CV.map1 (x.get gd s) (fun | .d .str b => some (true, .d (.int .i64) (b.size : Int)) | _ => none) = some (true, v)) : Sound P o a w ρ s.h v := by
  obtain ⟨hc, hp⟩ := map1_some hp
  have hl := R.get hg hx hc
  split at hp
  · rename_i b he
    rw [he] at hl
    simp only [Option.some.injEq, Prod.mk.injEq, true_and] at hp
    subst hp
    exact .same (exec_builtin1 (f := Builtin.len_) ho (fun _ _ _ => rfl) (by rw [(str_of_lr hl).1]; exact run_len_str (of_isStrT ht) b)) (lr_int _ _)
  · cases hp

theorem sound_min (R : Rel base w0 ρ0 h0 ρ s a w) (hg : GH gd a) {x x' : AX} {y y' : Operand} {t t' : TypeId} (ho : o.op = .call { callee := .builtin .min, args := #[y, y'], argTypes := #[t, t'] }) (hx : okX x y = true) (hx' : okX x' y' = true)
    (hp : CV.map2 (x.get gd s) (x'.get gd s) (fun | .d (.int k) x, .d (.int j) y => (if k = j then some (true, .d (.int k) (if y < x then y else x)) else none) | _, _ => none) = some (true, v)) : Sound P o a w ρ s.h v := by
  obtain ⟨hc, hc', hp⟩ := map2_some hp
  have hl := R.get hg hx hc
  have hl' := R.get hg hx' hc'
  split at hp
  · rename_i k m j n he he'
    rw [he] at hl
    rw [he'] at hl'
    split at hp
    · simp only [Option.some.injEq, Prod.mk.injEq, true_and] at hp
      subst hp
      exact .same (exec_builtin2 (f := Builtin.min_) ho (fun _ _ _ => rfl) (by rw [int_of_lr hl, int_of_lr hl']; simp [Builtin.min_, Builtin.min2])) (lr_int _ _)
    · cases hp
  · cases hp

theorem sound_max (R : Rel base w0 ρ0 h0 ρ s a w) (hg : GH gd a) {x x' : AX} {y y' : Operand} {t t' : TypeId} (ho : o.op = .call { callee := .builtin .max, args := #[y, y'], argTypes := #[t, t'] }) (hx : okX x y = true) (hx' : okX x' y' = true)
    (hp : CV.map2 (x.get gd s) (x'.get gd s) (fun | .d (.int k) x, .d (.int j) y => (if k = j then some (true, .d (.int k) (if y > x then y else x)) else none) | _, _ => none) = some (true, v)) : Sound P o a w ρ s.h v := by
  obtain ⟨hc, hc', hp⟩ := map2_some hp
  have hl := R.get hg hx hc
  have hl' := R.get hg hx' hc'
  split at hp
  · rename_i k m j n he he'
    rw [he] at hl
    rw [he'] at hl'
    split at hp
    · simp only [Option.some.injEq, Prod.mk.injEq, true_and] at hp
      subst hp
      exact .same (exec_builtin2 (f := Builtin.max_) ho (fun _ _ _ => rfl) (by rw [int_of_lr hl, int_of_lr hl']; simp [Builtin.max_, Builtin.max2])) (lr_int _ _)
    · cases hp
  · cases hp

/-- Operands one by one, as they are: what a closure catches. -/
def okXs : List AX → List Operand → Bool
  | [], [] => true
  | x :: xs, y :: ys => okX x y && okXs xs ys
  | _, _ => false
theorem lr_vals (R : Rel base w0 ρ0 h0 ρ s a w) : ∀ {xs : List AX} {ys : List Operand}, okXs xs ys = true → xs.length = ys.length ∧ ∀ (i : Nat) (c : AV) (u : Value), (xs.map fun x => x.val s)[i]? = some c → (ys.map a.eval)[i]? = some u → LR w ρ s.h K0 c u
  | [], [], _ => ⟨rfl, by simp⟩
  | x :: xs, y :: ys, hx => by
    simp only [okXs, Bool.and_eq_true] at hx
    obtain ⟨h1, h2⟩ := lr_vals R hx.2
    refine ⟨by simp [h1], fun i c u hc hu => ?_⟩
    cases i with
    | zero => simp only [List.map_cons, List.getElem?_cons_zero, Option.some.injEq] at hc hu; subst hc hu; exact R.val hx.1
    | succ i => simp only [List.map_cons, List.getElem?_cons_succ] at hc hu; exact h2 i c u hc hu
  | [], _ :: _, hx => by simp [okXs] at hx
  | _ :: _, [], hx => by simp [okXs] at hx

theorem sound_mkfn (R : Rel base w0 ρ0 h0 ρ s a w) {f : FuncId} {xs : List AX} {ys : Array Operand} (ho : o.op = .makeFunc (.func f) #[] ys) (hx : okXs xs ys.toList = true) :
    Sound P o a w ρ s.h (.fn f (xs.map fun x => x.val s)) := by
  obtain ⟨h1, h2⟩ := lr_vals R hx
  refine .same (z := .func (.func f) #[] (ys.map a.eval)) (by simp [execOp, ho, Instr.makeFunc]) (.fn (by simp [h1]) fun i c u hc hu => h2 i c u hc ?_)
  rw [← hu]
  simp

end
end Go.Tw
