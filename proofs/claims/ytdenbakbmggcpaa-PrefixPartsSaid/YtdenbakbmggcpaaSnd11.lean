/- The world grows; a temporary is written. -/
import Derived.Test.YtdenbakbmggcpaaSnd10
set_option linter.unusedVariables false
set_option linter.unusedSectionVars false
set_option linter.unusedSimpArgs false
namespace Go.Tw
open Go.RowKit

theorem Keeps.below {w w' : World} {X : Nat → Prop} (hb : Below w.heap.size w w') : Keeps w X w' X := ⟨hb.size, fun b h _ => hb.block b h, fun _ _ h => h⟩

section
variable [Ban] {base : Nat} {w0 : World} {ρ0 : List RV} {h0 : AHeap} {ρ : List RV} {s : St} {a : Act} {w w' : World} {P : Program} {h : AHeap} {K : Nat → Prop}

theorem Evo.below (hb : Below w.heap.size w w') (n : Nat) (hn : n ≤ h.length) : Evo n [] w ρ h w' ρ h :=
  ⟨hb.os, hb.tape, hb.output, Keeps.below hb, hn, fun _ _ _ _ => rfl, fun _ _ _ cs h => ⟨cs, h⟩, fun _ _ _ U ys h => ⟨ys, h, rfl⟩, fun _ _ _ _ _ _ _ es h => ⟨es, h⟩⟩
theorem LR.grow (hb : Below w.heap.size w w') {c : AV} {v : Value} (hl : LR w ρ h K0 c v) : LR w' ρ h K0 c v := hl.evo0 (Evo.below hb _ (Nat.le_refl _))
theorem grown_below (hb : Below w.heap.size w w') : w.grownBy w' none := ⟨hb.os, hb.tape, hb.output, hb.size, fun k hk _ => hb.block k hk⟩
theorem lt_of_get {b : Nat} {x : Obj} (h : w.heap[b]? = some x) : b < w.heap.size := (Array.getElem?_eq_some_iff.1 h).1

theorem ObjR.below (hb : Below w.heap.size w w') {r : Nat} {o : AObj} (ho : ObjR base w ρ h r o) : ObjR base w' ρ h r o := by
  cases o with
  | vars cs =>
    obtain ⟨b, vs, e, h1, h2, h3, h4, h5, h6⟩ := ho
    exact ⟨b, vs, e, h1, h2, (hb.block b (lt_of_get h3)).trans h3, h4, fun i c v hc hv => (h5 i c v hc hv).grow hb, h6⟩
  | row U ys =>
    obtain ⟨h0, v, e, xs, h1, h2, h3, h4, h5⟩ := ho
    exact ⟨h0, v, e, xs, h1, h2.kept (grown_below hb) (by cases v.ownBlock <;> simp), h3, h4, fun i y hy => (h5 i y hy).move (Keeps.below hb)⟩
  | map ex ag A B es =>
    obtain ⟨b, arr, clock, ds, h1, h2, h3, h4, h5, h6, h7⟩ := ho
    exact ⟨b, arr, clock, ds, h1, h2, (hb.block b (lt_of_get h3)).trans h3, h4, h5, h6.move (Keeps.below hb), h7⟩
  | gone => trivial
theorem HR.below (H : HR base w ρ h) (hb : Below w.heap.size w w') : HR base w' ρ h :=
  ⟨H.len, Nat.le_trans H.base_le hb.size, H.ban, fun r o ho => (H.obj r o ho).below hb, H.inj⟩

theorem Rel.below (R : Rel base w0 ρ0 h0 ρ s a w) (hb : Below w.heap.size w w') : Rel base w0 ρ0 h0 ρ s a w' :=
  ⟨R.tl, fun i c v hc hv => (R.tm i c v hc hv).grow hb, R.df, R.hp.below hb, R.ev.trans (Evo.below hb s.b R.ev.len) (Nat.le_refl _) (fun r _ h => h.elim id (by simp)), R.b0, R.op⟩

/-- What is written to a temporary. -/
def optOk (s : St) : AV → Prop
  | .opt j w g v => j ∈ s.g ∧ gval w (nth .any s.t j) = some g
  | _ => True

omit [Ban] in
theorem setNth_get {α : Type} (l : List α) (i j : Nat) (y : α) : (setNth l i y)[j]? = if i = j then (if j < l.length then some y else none) else l[j]? := by
  rw [setNth_eq, List.getElem?_set]
  split
  · rename_i h; subst h; rfl
  · rfl
omit [Ban] in
theorem setNth_len {α : Type} (l : List α) (i : Nat) (y : α) : (setNth l i y).length = l.length := by rw [setNth_eq]; simp
omit [Ban] in
theorem nth_set_ne {α : Type} (z : α) (l : List α) (i j : Nat) (y : α) (hij : i ≠ j) : nth z (setNth l i y) j = nth z l j := by
  rw [nth_get, nth_get, setNth_get, if_neg hij]

theorem Rel.put (R : Rel base w0 ρ0 h0 ρ s a w) {d : Option Nat} {v : AV} {z : Value} (hl : LR w ρ s.h K0 v z) (ho : optOk s v) (hd : ∀ i, d = some i → i ∉ s.g) :
    Rel base w0 ρ0 h0 ρ (s.put d v) (a.put d z) w := by
  cases d with
  | none => exact R
  | some d =>
    refine ⟨by simp only [St.put, Act.put, setNth_len, Array.size_setIfInBounds]; exact R.tl, fun i c u hc hu => ?_, R.df, R.hp, R.ev, R.b0, fun i j wt g c hc => ?_⟩
    · simp only [St.put, Act.put] at hc hu
      rw [setNth_get] at hc
      rw [Array.getElem?_setIfInBounds] at hu
      by_cases hid : d = i
      · subst hid
        simp only [if_true] at hc hu
        split at hc
        · rename_i hlt
          rw [if_pos (by rw [R.tl]; exact hlt)] at hu
          simp only [Option.some.injEq] at hc hu
          subst hc hu
          exact hl
        · cases hc
      · rw [if_neg hid] at hc hu
        exact R.tm i c u hc hu
    · simp only [St.put] at hc ⊢
      rw [setNth_get] at hc
      have key : j ∈ s.g ∧ Tw.gval wt (nth .any s.t j) = some g := by
        by_cases hid : d = i
        · subst hid
          simp only [if_true] at hc
          split at hc
          · simp only [Option.some.injEq] at hc
            subst hc
            exact ho
          · cases hc
        · rw [if_neg hid] at hc
          exact R.op i j wt g c hc
      refine ⟨key.1, ?_⟩
      rw [nth_set_ne _ _ _ _ _ (fun e => hd d rfl (by rw [e]; exact key.1))]
      exact key.2

theorem Rel.guards (R : Rel base w0 ρ0 h0 ρ s a w) (j : Nat) : Rel base w0 ρ0 h0 ρ (s.guards j) a w := by
  unfold St.guards
  split
  · exact R
  · exact ⟨R.tl, R.tm, R.df, R.hp, R.ev, R.b0, fun i k wt g c hc => ⟨List.mem_cons_of_mem _ (R.op i k wt g c hc).1, (R.op i k wt g c hc).2⟩⟩
omit [Ban] in
theorem mem_guards (s : St) (j : Nat) : j ∈ (s.guards j).g := by
  unfold St.guards
  split
  · rename_i h; simpa using h
  · simp

end
end Go.Tw
