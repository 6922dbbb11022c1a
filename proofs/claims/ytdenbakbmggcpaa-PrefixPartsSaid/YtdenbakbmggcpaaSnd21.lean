/- Which operation of the evaluator's stands for which of the model's: a test; and that it may be trusted: the quiet ones. -/
import Derived.Test.YtdenbakbmggcpaaSndN
set_option linter.unusedVariables false
set_option linter.unusedSectionVars false
set_option linter.unusedSimpArgs false
namespace Go.Tw
open Go.RowKit

def asB1 : Op → Option (Builtin × Operand × TypeId)
  | .call ⟨.builtin b, ⟨[y]⟩, ⟨[t]⟩⟩ => some (b, y, t)
  | _ => none
def asB2 : Op → Option (Builtin × Operand × Operand × TypeId × TypeId)
  | .call ⟨.builtin b, ⟨[y, z]⟩, ⟨[t, u]⟩⟩ => some (b, y, z, t, u)
  | _ => none
def asV : Op → Option (Operand × Array Operand × Array TypeId)
  | .call ⟨.value f, ys, ts⟩ => some (f, ys, ts)
  | _ => none
theorem of_asB1 {p : Op} {b : Builtin} {y : Operand} {t : TypeId} (h : asB1 p = some (b, y, t)) : p = .call { callee := .builtin b, args := #[y], argTypes := #[t] } := by
  unfold asB1 at h
  split at h
  · simp only [Option.some.injEq, Prod.mk.injEq] at h
    obtain ⟨rfl, rfl, rfl⟩ := h
    rfl
  · cases h
theorem of_asB2 {p : Op} {b : Builtin} {y z : Operand} {t u : TypeId} (h : asB2 p = some (b, y, z, t, u)) : p = .call { callee := .builtin b, args := #[y, z], argTypes := #[t, u] } := by
  unfold asB2 at h
  split at h
  · simp only [Option.some.injEq, Prod.mk.injEq] at h
    obtain ⟨rfl, rfl, rfl, rfl, rfl⟩ := h
    rfl
  · cases h
theorem of_asV {p : Op} {f : Operand} {ys : Array Operand} {ts : Array TypeId} (h : asV p = some (f, ys, ts)) : p = .call { callee := .value f, args := ys, argTypes := ts } := by
  unfold asV at h
  split at h
  · simp only [Option.some.injEq, Prod.mk.injEq] at h
    obtain ⟨rfl, rfl, rfl⟩ := h
    rfl
  · cases h

/-- May this operation of the evaluator's stand for that one of the model's? -/
def okOp (P : Program) (p : Op) : AOp → Bool
  | .mov x => (match p with | .move y => okX x y | .assign y => okX x y | _ => false)
  | .not x => (match p with | .unOp .not _ y => okX x y | _ => false)
  | .neg x => (match p with | .unOp .neg _ y => okX x y | _ => false)
  | .pand c b => (match p with | .pick c' b' (.const (.bool false)) => okX c c' && okX b b' | _ => false)
  | .por c b => (match p with | .pick c' (.const (.bool true)) b' => okX c c' && okX b b' | _ => false)
  | .bin op x y => (match p with | .binOp op' _ x' y' _ => decide (op' = op) && (okX x x' && okX y y') | _ => false)
  | .eqs ng ks x y => (match p with | .binOp op' t x' y' _ => decide (op' = if ng then .neq else .eql) && (eqsOk P t ks && (okX x x' && okX y y')) | _ => false)
  | .eqb ng x y => (match p with | .binOp op' t x' y' _ => decide (op' = if ng then .neq else .eql) && (isBoolT P t && (okX x x' && okX y y')) | _ => false)
  | .min x y => (match asB2 p with | some (b, x', y', _, _) => decide (b = .min) && (okX x x' && okX y y') | none => false)
  | .max x y => (match asB2 p with | some (b, x', y', _, _) => decide (b = .max) && (okX x x' && okX y y') | none => false)
  | .conv k x => (match p with | .convert t u y => anyIntT P t && (isIntT P u k && okX x y) | _ => false)
  | .load x n agg => (match p with | .load t y => sizeT P t == some n && (aggT P t == some agg && okX x y) | _ => false)
  | .fa x q => (match p with
    | .fieldAddr t y f => faOk P t f q && okX x y
    | .indexAddr t y (.const (.int _ i)) => decide (0 ≤ i) && (faiOk P t i.toNat q && okX x y)
    | _ => false)
  | .ia x i n => (match p with | .indexAddr t y j => (match elemT P t with | some e => sizeT P e == some n && (okX x y && okX i j) | none => false) | _ => false)
  | .fld x q n agg => (match p with | .field t y f => fldOk P t f q n agg && okX x y | _ => false)
  | .len x => (match asB1 p with | some (b, y, t) => decide (b = .len) && ((elemT P t).isSome && okX x y) | none => false)
  | .lens x => (match asB1 p with | some (b, y, t) => decide (b = .len) && (isStrT P t && okX x y) | none => false)
  | .build ps => (match p with | .build t parts => buildOk P t ps parts.toList | _ => false)
  | .ext x i => (match p with | .extract y j => decide (i = j) && okX x y | _ => false)
  | .slc T x lo hi => (match p with | .slice t y yl yh none => slcOk P t T.size && (okX x y && (okO lo yl && okO hi yh)) | _ => false)
  | .slc3 T x lo hi mx => (match p with | .slice t y yl (some yh) (some ym) => slcOk P t T.size && (okX x y && (okO lo yl && (okX hi yh && okX mx ym))) | _ => false)
  | .litf T xs => (match p with | .buildSlice t n parts => litOk P t n T.size xs parts.toList | _ => false)
  | .lit T xs => (match p with | .buildSlice t n parts => litOk P t n T.size xs parts.toList | _ => false)
  | .appf T l x lim => (match asB2 p with | some (b, y, y', t, t') => decide (b = .append) && (appOk P t t' T.size lim && (okX l y && okX x y')) | none => false)
  | .app T l x lim => (match asB2 p with | some (b, y, y', t, t') => decide (b = .append) && (appOk P t t' T.size lim && (okX l y && okX x y')) | none => false)
  | .copy T d x => (match asB2 p with | some (b, y, y', t, t') => decide (b = .copy) && (copyOk P t T.size && (okX d y && okX x y')) | none => false)
  | .pcall f xs => (match asV p with | some (y, ys, _) => okX f y && okXs xs ys.toList | none => false)
  | .call f xs => (match asV p with | some (.func g, ys, _) => decide (g = f) && okXs xs ys.toList | _ => false)
  | .icall f xs => (match asV p with | some (.func g, ys, _) => decide (g = f) && okXs xs ys.toList | _ => false)
  | .vcall f xs => (match asV p with | some (y, ys, _) => okX f y && okXs xs ys.toList | none => false)
  | .mkfn f cs => (match p with | .makeFunc (.func g) ⟨[]⟩ ys => decide (g = f) && okXs cs ys.toList | _ => false)
  | .new cs => (match p with | .alloc t => newOk P t cs | _ => false)
  | .box x n => (match p with | .box _ y => okX x y | _ => false)
  | .mk T n lim => (match p with | .makeSlice t y y' => mkOk P t T lim && (okX n y && okX n y') | _ => false)
  | .store x y n => (match p with | .store t x' y' => storeOk P t n && (okX x x' && okX y y') | _ => false)
  | .idx x i n sz agg => (match p with | .index t y j => (match arrOk P t n sz with | some e => aggT P e == some agg && (okX x y && okX i j) | none => false) | _ => false)
  | .iarr x i n sz => (match p with | .indexAddr t y j => (arrOk P t n sz).isSome && (okX x y && okX i j) | _ => false)
  | .trunc T x n => (match p with | .slice t y none (some y') none => slcOk P t T.size && (okX x y && okX n y') | _ => false)
  | .mlook ag A B m x => (match p with | .lookup t y y' false => mapOk P t ag A B && (okX m y && okX x y') | _ => false)
  | .mlen m => (match asB1 p with | some (b, y, t) => decide (b = .len) && (mapT P t && okX m y) | none => false)
  | .mkmap ex ag A B => (match p with | .makeMap t none => mapOk P t ag A B | _ => false)
  | .mset ag A B m x v => (match p with | .mapUpdate t y y' y'' => mapOk P t ag A B && (okX m y && (okX x y' && okX v y'')) | _ => false)

section
variable [Ban] {base : Nat} {w0 : World} {ρ0 : List RV} {h0 : AHeap} {ρ : List RV} {s : St} {a : Act} {w : World} {P : Program} {gd : Option (Nat × Bool)} {o : Oper} {v : AV} {h : AHeap} {K : Nat → Prop}

theorem sound_pure {Γ : GEnv} (hG : GOk P Γ) (R : Rel base w0 ρ0 h0 ρ s a w) (hg : GH gd a) {x : AOp} (hok : okOp P o.op x = true) (hp : x.pure Γ gd s = some (some (true, v))) : Sound P o a w ρ s.h v := by
  cases x <;> simp only [AOp.pure, Option.some.injEq, reduceCtorEq] at hp <;> simp only [okOp] at hok
  case mov x =>
    have h1 : (x.get gd s).1 = true := by rw [hp]
    have h2 : (x.get gd s).2 = v := by rw [hp]
    rw [← h2]
    split at hok
    · rename_i y ho; exact sound_mov R hg (.inl ho) hok h1
    · rename_i y ho; exact sound_mov R hg (.inr ho) hok h1
    · cases hok
  case not x =>
    split at hok
    · rename_i t y ho; exact sound_not R hg ho hok hp
    · cases hok
  case neg x =>
    split at hok
    · rename_i t y ho; exact sound_neg R hg ho hok hp
    · cases hok
  case pand c b =>
    split at hok
    · rename_i c' b' ho
      simp only [Bool.and_eq_true] at hok
      exact sound_pand R hg ho hok.1 hok.2 hp
    · cases hok
  case por c b =>
    split at hok
    · rename_i c' b' ho
      simp only [Bool.and_eq_true] at hok
      exact sound_por R hg ho hok.1 hok.2 hp
    · cases hok
  case bin op x y =>
    split at hok
    · rename_i op' t x' y' u ho
      simp only [Bool.and_eq_true, decide_eq_true_eq] at hok
      obtain ⟨rfl, h1, h2⟩ := hok
      exact sound_bin R hg ho h1 h2 hp
    · cases hok
  case eqs ng ks x y =>
    split at hok
    · rename_i op' t x' y' u ho
      simp only [Bool.and_eq_true, decide_eq_true_eq] at hok
      obtain ⟨rfl, h1, h2, h3⟩ := hok
      exact sound_eqs R hg ho h1 h2 h3 hp
    · cases hok
  case eqb ng x y =>
    split at hok
    · rename_i op' t x' y' u ho
      simp only [Bool.and_eq_true, decide_eq_true_eq] at hok
      obtain ⟨rfl, h1, h2, h3⟩ := hok
      exact sound_eqb R hg ho h1 h2 h3 hp
    · cases hok
  case min x y =>
    split at hok
    · rename_i b x' y' t t' ho
      simp only [Bool.and_eq_true, decide_eq_true_eq] at hok
      obtain ⟨rfl, h1, h2⟩ := hok
      exact sound_min R hg (of_asB2 ho) h1 h2 hp
    · cases hok
  case max x y =>
    split at hok
    · rename_i b x' y' t t' ho
      simp only [Bool.and_eq_true, decide_eq_true_eq] at hok
      obtain ⟨rfl, h1, h2⟩ := hok
      exact sound_max R hg (of_asB2 ho) h1 h2 hp
    · cases hok
  case conv k x =>
    split at hok
    · rename_i t u y ho
      simp only [Bool.and_eq_true] at hok
      exact sound_conv R hg ho hok.1 hok.2.1 hok.2.2 hp
    · cases hok
  case load x n agg =>
    split at hok
    · rename_i t y ho
      simp only [Bool.and_eq_true, beq_iff_eq] at hok
      exact sound_load R hg ho hok.1 hok.2.1 hok.2.2 hp
    · cases hok
  case fa x q =>
    split at hok
    · rename_i t y f ho
      simp only [Bool.and_eq_true] at hok
      exact sound_fa R hg ho hok.1 hok.2 hp
    · rename_i t y k i ho
      simp only [Bool.and_eq_true, decide_eq_true_eq] at hok
      obtain ⟨h0', h1, h2⟩ := hok
      obtain ⟨j, rfl⟩ : ∃ j : Nat, i = j := ⟨i.toNat, by omega⟩
      exact sound_fai R hg ho h1 h2 hp
    · cases hok
  case ia x i n =>
    split at hok
    · rename_i t y j ho
      split at hok
      · rename_i e he
        simp only [Bool.and_eq_true, beq_iff_eq] at hok
        exact sound_ia R hg ho he hok.1 hok.2.1 hok.2.2 hp
      · cases hok
    · cases hok
  case fld x q n agg =>
    split at hok
    · rename_i t y f ho
      simp only [Bool.and_eq_true] at hok
      exact sound_fld R hg ho hok.1 hok.2 hp
    · cases hok
  case len x =>
    split at hok
    · rename_i b y t ho
      simp only [Bool.and_eq_true, decide_eq_true_eq] at hok
      obtain ⟨rfl, h1, h2⟩ := hok
      obtain ⟨e, he⟩ := Option.isSome_iff_exists.1 h1
      exact sound_len R hg (of_asB1 ho) he h2 hp
    · cases hok
  case lens x =>
    split at hok
    · rename_i b y t ho
      simp only [Bool.and_eq_true, decide_eq_true_eq] at hok
      obtain ⟨rfl, h1, h2⟩ := hok
      exact sound_lens R hg (of_asB1 ho) h1 h2 hp
    · cases hok
  case build ps =>
    split at hok
    · rename_i t parts ho; exact sound_build R hg ho hok hp
    · cases hok
  case ext x i =>
    split at hok
    · rename_i y j ho
      simp only [Bool.and_eq_true, decide_eq_true_eq] at hok
      obtain ⟨rfl, h1⟩ := hok
      exact sound_ext R hg ho h1 hp
    · cases hok
  case slc T x lo hi =>
    split at hok
    · rename_i t y yl yh ho
      simp only [Bool.and_eq_true] at hok
      exact sound_slc R hg ho hok.1 hok.2.1 hok.2.2.1 hok.2.2.2 hp
    · cases hok
  case slc3 T x lo hi mx =>
    split at hok
    · rename_i t y yl yh ym ho
      simp only [Bool.and_eq_true] at hok
      exact sound_slc3 R hg ho hok.1 hok.2.1 hok.2.2.1 hok.2.2.2.1 hok.2.2.2.2 hp
    · cases hok
  case litf T xs =>
    split at hok
    · rename_i t n parts ho; exact sound_litf R hg ho hok hp
    · cases hok
  case appf T l x lim =>
    split at hok
    · rename_i b y y' t t' ho
      simp only [Bool.and_eq_true, decide_eq_true_eq] at hok
      obtain ⟨rfl, h1, h2, h3⟩ := hok
      exact sound_appf R hg (of_asB2 ho) h1 h2 h3 hp
    · cases hok
  case pcall f xs =>
    split at hok
    · rename_i y ys ts ho
      simp only [Bool.and_eq_true] at hok
      exact sound_pcall hG R hg (of_asV ho) hok.1 hok.2 hp
    · cases hok
  case call f xs =>
    split at hok
    · rename_i g ys ts ho
      simp only [Bool.and_eq_true, decide_eq_true_eq] at hok
      obtain ⟨rfl, h1⟩ := hok
      exact sound_call hG R hg (of_asV ho) h1 hp
    · cases hok
  case mkfn f cs =>
    split at hok
    · rename_i g ys ho
      simp only [Bool.and_eq_true, decide_eq_true_eq] at hok
      obtain ⟨rfl, h1⟩ := hok
      simp only [Prod.mk.injEq, true_and] at hp
      subst hp
      exact sound_mkfn R ho h1
    · cases hok
  case mlook ag A B m x =>
    split at hok
    · rename_i t y y' ho
      simp only [Bool.and_eq_true] at hok
      exact sound_mlook R hg ho hok.1 hok.2.1 hok.2.2 hp
    · cases hok
  case mlen m =>
    split at hok
    · rename_i b y t ho
      simp only [Bool.and_eq_true, decide_eq_true_eq] at hok
      obtain ⟨rfl, h1, h2⟩ := hok
      exact sound_mlen R hg (of_asB1 ho) h1 h2 hp
    · cases hok

end
end Go.Tw
