/- Operations one by one: slices of lists; and how the world grows. -/
import Derived.Test.YtdenbakbmggcpaaSnd9
import Derived.Laws.Slices
set_option linter.unusedVariables false
set_option linter.unusedSectionVars false
set_option linter.unusedSimpArgs false
namespace Go.Tw
open Go.RowKit

/-- A part of a list that is not written any more. -/
theorem VR.sub {w X} {T : Ty} {ys : List T.D} {A : Option Addr} {n c l h m : Nat} (hv : VR w X (.sl T) ys [.slice A n c]) (hl : l ≤ h) (hh : h ≤ ys.length) (hm : h ≤ m) :
    VR w X (.sl T) ((ys.take h).drop l) [.slice (if m = l then A else A.map (·.add (l * T.size))) (h - l) (m - l)] := by
  simp only [VR] at hv ⊢
  obtain ⟨A', c', he, hmx, hcap, hv⟩ := hv
  simp only [List.cons.injEq, Value.slice.injEq, and_true] at he
  obtain ⟨rfl, rfl, rfl⟩ := he
  have hlen : ((ys.take h).drop l).length = h - l := by simp; omega
  refine ⟨_, _, by rw [hlen], by omega, by omega, fun hn => ?_⟩
  rw [hlen] at hn
  obtain ⟨ad, rfl, hX, hlt, hel⟩ := hv (by omega)
  rw [if_neg (by omega)]
  refine ⟨ad.add (l * T.size), rfl, by rw [add_block]; exact hX, by rw [add_block]; exact hlt, fun i y hy => ?_⟩
  have hi : i < h - l := by have := (List.getElem?_eq_some_iff.1 hy).1; omega
  rw [List.getElem?_drop, List.getElem?_take_of_lt (by omega)] at hy
  obtain ⟨es, h1, h2, h3⟩ := hel _ y hy
  refine ⟨es, h1, fun j u hu => ?_, h3⟩
  rw [add_add]
  have := h2 j u hu
  rwa [show l * T.size + (i * T.size + j) = (l + i) * T.size + j by rw [Nat.add_mul]; omega]

section
variable [Ban] {base : Nat} {w0 : World} {ρ0 : List RV} {h0 : AHeap} {ρ : List RV} {s : St} {a : Act} {w : World} {P : Program} {gd : Option (Nat × Bool)} {o : Oper} {v : AV} {h : AHeap} {K : Nat → Prop}

/-- A list that is not written any more. -/
theorem lr_frozen {T : Ty} {c : AV} {u : Value} {ys : List T.D} (hl : LR w ρ h K c u) (hx : asD [] (.sl T) c = some ys) : VR w (XO ρ h) (.sl T) ys [u] := by
  unfold asD at hx
  split at hx
  · rename_i U x
    split at hx
    · rename_i e
      subst e
      simp only [Option.some.injEq] at hx
      subst hx
      cases hl with
      | d hv => exact hv
    · cases hx
  · rename_i U
    cases hl
    simp only at hx
    split at hx
    · simp only [Option.some.injEq] at hx
      subst hx
      simp [VR]
    · cases hx
  · rename_i U ys'
    split at hx
    · rename_i e
      have e' : U = T := by simpa using e
      subst e'
      simp only [Option.some.injEq] at hx
      subst hx
      cases hl with
      | fr hv => exact hv
    · cases hx
  · simp at hx
  · simp only at hx
    cases hx
  · cases hx

theorem VR.slice {X} {T : Ty} {ys : List T.D} {u : Value} (hv : VR w X (.sl T) ys [u]) : ∃ A c, u = .slice A ys.length c ∧ ys.length ≤ c := by
  simp only [VR] at hv
  obtain ⟨A, c, he, _, hc, _⟩ := hv
  exact ⟨A, c, by simpa using he, hc⟩

def okO : Option AX → Option Operand → Bool
  | some x, some y => okX x y
  | none, none => true
  | _, _ => false

/-- The type of a slice that is cut, and its elements' size. -/
def slcOk (P : Program) (t : TypeId) (n : Nat) : Bool := match elemT P t with
  | some e => sizeT P e == some n
  | none => false

theorem run_slc {t : TypeId} {T : Ty} (ht : slcOk P t T.size = true) {ys : List T.D} {u : Value} (hv : VR w (XO ρ h) (.sl T) ys [u]) {l hh : Int} {lo hi : Option Value}
    (hlo : (∃ k, lo = some (.int k l)) ∨ (lo = none ∧ l = 0)) (hhi : (∃ k, hi = some (.int k hh)) ∨ (hi = none ∧ hh = ys.length)) (h0 : 0 ≤ l) (h1 : l ≤ hh) (h2 : hh ≤ ys.length) :
    ∃ z, (Instr.sliceAt t u lo hi none).run P w = .ok z w ∧ LR w ρ h K (.d (.sl T) ((ys.take hh.toNat).drop l.toNat)) z := by
  obtain ⟨A, c, rfl, hc⟩ := hv.slice
  unfold slcOk at ht
  split at ht
  · rename_i e he
    have hs : sizeT P e = some T.size := by simpa using ht
    have hu := of_elemT he
    have hel : P.elem t = e := by simp [Program.elem, hu]
    have hu' : P.underlying t = some (.slice (P.elem t)) := by rw [hel]; exact hu
    have hsub := hv.sub (l := l.toNat) (h := hh.toNat) (m := c) (by omega) (by omega) (by omega)
    refine ⟨_, ?_, .d hsub⟩
    rw [run_sliceAt_slice w t _ lo hi none hu']
    rcases hlo with ⟨k, rfl⟩ | ⟨rfl, rfl⟩ <;> rcases hhi with ⟨k', rfl⟩ | ⟨rfl, rfl⟩
    · rw [run_slice_lh w t A ys.length c hu' k k' l hh h0 h1 (by omega), hel, run_sizeOf hs]; rfl
    · rw [run_slice_l w t A ys.length c hu' k l h0 h1, hel, run_sizeOf hs]; simp [Result.andThen, sliced]
    · rw [run_slice_h w t A ys.length c hu' k' hh h1 (by omega), hel, run_sizeOf hs]; rfl
    · rw [run_slice_all w t A ys.length c hu', hel, run_sizeOf hs]; simp [Result.andThen, sliced]
  · cases ht

theorem run_slc3 {t : TypeId} {T : Ty} (ht : slcOk P t T.size = true) {ys : List T.D} {u : Value} (hv : VR w (XO ρ h) (.sl T) ys [u]) {l hh m : Int} {lo : Option Value} {k' k'' : IntKind}
    (hlo : (∃ k, lo = some (.int k l)) ∨ (lo = none ∧ l = 0)) (h0 : 0 ≤ l) (h1 : l ≤ hh) (h2 : hh ≤ m) (h3 : m ≤ ys.length) :
    ∃ z, (Instr.sliceAt t u lo (some (.int k' hh)) (some (.int k'' m))).run P w = .ok z w ∧ LR w ρ h K (.d (.sl T) ((ys.take hh.toNat).drop l.toNat)) z := by
  obtain ⟨A, c, rfl, hc⟩ := hv.slice
  unfold slcOk at ht
  split at ht
  · rename_i e he
    have hs : sizeT P e = some T.size := by simpa using ht
    have hu := of_elemT he
    have hel : P.elem t = e := by simp [Program.elem, hu]
    have hu' : P.underlying t = some (.slice (P.elem t)) := by rw [hel]; exact hu
    have hsub := hv.sub (l := l.toNat) (h := hh.toNat) (m := m.toNat) (by omega) (by omega) (by omega)
    refine ⟨_, ?_, .d hsub⟩
    rw [run_sliceAt_slice w t _ lo _ _ hu']
    rcases hlo with ⟨k, rfl⟩ | ⟨rfl, rfl⟩
    · rw [run_slice_lhm w t A ys.length c hu' k k' k'' l hh m h0 h1 h2 (by omega), hel, run_sizeOf hs]; rfl
    · rw [run_slice_hm w t A ys.length c hu' k' k'' hh m h1 h2 (by omega), hel, run_sizeOf hs]; rfl
  · cases ht

theorem low_val (R : Rel base w0 ρ0 h0 ρ s a w) (hg : GH gd a) {lo : Option AX} {y : Option Operand} (ho : okO lo y = true) (hc : (lowOf gd s lo).1 = true) {k : IntKind} {l : Int} (hl : (lowOf gd s lo).2 = .d (.int k) l) :
    (∃ k, y.map a.eval = some (.int k l)) ∨ (y.map a.eval = none ∧ l = 0) := by
  cases lo with
  | some x =>
    cases y with
    | some y =>
      simp only [okO] at ho
      simp only [lowOf] at hc hl
      have := R.get hg ho hc
      rw [hl] at this
      exact .inl ⟨k, by simp [int_of_lr this]⟩
    | none => cases ho
  | none =>
    cases y with
    | some y => cases ho
    | none =>
      refine .inr ⟨rfl, ?_⟩
      simp only [lowOf, AV.d.injEq, Ty.int.injEq] at hl
      obtain ⟨rfl, hl⟩ := hl
      exact (eq_of_heq hl).symm

theorem slcV_some {T : Ty} {x l hi : AV} (hp : slcV T x l hi = some (true, v)) : ∃ k j lo hh ys, l = .d (.int k) lo ∧ hi = .d (.int j) hh ∧ asD [] (.sl T) x = some ys ∧ 0 ≤ lo ∧ lo ≤ hh ∧ hh ≤ (ys.length : Int) ∧ v = .d (.sl T) ((ys.take hh.toNat).drop lo.toNat) := by
  unfold slcV at hp
  split at hp
  · split at hp
    · split at hp
      · rename_i k lo _ j hh _ ys hys
        simp only [Option.some.injEq, Prod.mk.injEq, Bool.and_eq_true, decide_eq_true_eq] at hp
        obtain ⟨⟨h0, h1, h2⟩, rfl⟩ := hp
        exact ⟨k, j, lo, hh, ys, rfl, rfl, hys, h0, h1, h2, rfl⟩
      · cases hp
    · cases hp
  · cases hp

theorem sound_slc (R : Rel base w0 ρ0 h0 ρ s a w) (hg : GH gd a) {T : Ty} {x : AX} {lo hi : Option AX} {y : Operand} {yl yh : Option Operand} {t : TypeId} (ho : o.op = .slice t y yl yh none) (ht : slcOk P t T.size = true) (hx : okX x y = true) (hlo : okO lo yl = true) (hhi : okO hi yh = true)
    (hp : (match (generalizing := false) hi with
    | some hi => CV.map2 (x.get gd s) ((lowOf gd s lo).1 && (hi.get gd s).1, (lowOf gd s lo).2) fun x l => slcV T x l (hi.get gd s).2
    | none => CV.map2 (x.get gd s) (lowOf gd s lo) fun x l => (match asD [] (.sl T) x with
      | some ys => slcV T x l (.d (.int .i64) (ys.length : Int))
      | none => none)) = some (true, v)) : Sound P o a w ρ s.h v := by
  have fin : ∀ {z : Value}, (Instr.sliceAt t (a.eval y) (yl.map a.eval) (yh.map a.eval) none).run P w = .ok z w → LR w ρ s.h K0 v z → Sound P o a w ρ s.h v := fun hz hlz =>
    .same (by unfold execOp; simp only [ho, Option.map_none]; exact run_v hz) hlz
  cases hi with
  | some hi =>
    simp only at hp
    obtain ⟨hc, hc', hp⟩ := map2_some hp
    simp only [Bool.and_eq_true] at hc'
    obtain ⟨k, j, l, hh, ys, e1, e2, e3, q0, q1, q2, rfl⟩ := slcV_some hp
    cases yh with
    | none => cases hhi
    | some yh =>
      have hh' := R.get hg (show okX hi yh = true from hhi) hc'.2
      rw [e2] at hh'
      obtain ⟨z, hz, hlz⟩ := run_slc (P := P) (K := K0) (hi := (some yh).map a.eval) ht (lr_frozen (R.get hg hx hc) e3) (low_val R hg hlo hc'.1 e1) (.inl ⟨j, by simp [int_of_lr hh']⟩) q0 q1 q2
      exact fin hz hlz
  | none =>
    simp only at hp
    obtain ⟨hc, hc', hp⟩ := map2_some hp
    split at hp
    · rename_i ys0 hys
      obtain ⟨k, j, l, hh, ys, e1, e2, e3, q0, q1, q2, rfl⟩ := slcV_some hp
      rw [hys] at e3
      simp only [Option.some.injEq] at e3
      subst e3
      cases yh with
      | some yh => cases hhi
      | none =>
        simp only [AV.d.injEq, Ty.int.injEq] at e2
        obtain ⟨rfl, e2⟩ := e2
        have e2' := eq_of_heq e2
        obtain ⟨z, hz, hlz⟩ := run_slc (P := P) (K := K0) (hi := (none : Option Operand).map a.eval) ht (lr_frozen (R.get hg hx hc) hys) (low_val R hg hlo hc' e1) (.inr ⟨rfl, e2'.symm⟩) q0 q1 q2
        exact fin hz hlz
    · cases hp

theorem sound_slc3 (R : Rel base w0 ρ0 h0 ρ s a w) (hg : GH gd a) {T : Ty} {x hi mx : AX} {lo : Option AX} {y yh ym : Operand} {yl : Option Operand} {t : TypeId} (ho : o.op = .slice t y yl (some yh) (some ym)) (ht : slcOk P t T.size = true) (hx : okX x y = true) (hlo : okO lo yl = true) (hhi : okX hi yh = true) (hmx : okX mx ym = true)
    (hp : (match (mx.get gd s).2, (hi.get gd s).2 with
    | .d (.int _) m, .d (.int k) hh => CV.map2 (x.get gd s) ((lowOf gd s lo).1 && ((hi.get gd s).1 && (mx.get gd s).1), (lowOf gd s lo).2) fun x l => (match slcV T x l (.d (.int k) hh), asD [] (.sl T) x with
      | some (c, v), some ys => some (c && (decide (hh ≤ m) && decide (m ≤ (ys.length : Int))), v)
      | _, _ => none)
    | _, _ => none) = some (true, v)) : Sound P o a w ρ s.h v := by
  split at hp
  · rename_i k m k' hh em eh
    obtain ⟨hc, hc', hp⟩ := map2_some hp
    simp only [Bool.and_eq_true] at hc'
    split at hp
    · rename_i c v' ys hsl hys
      simp only [Option.some.injEq, Prod.mk.injEq, Bool.and_eq_true, decide_eq_true_eq] at hp
      obtain ⟨⟨rfl, p1, p2⟩, rfl⟩ := hp
      obtain ⟨k1, j, l, hh', ys', e1, e2, e3, q0, q1, q2, rfl⟩ := slcV_some hsl
      rw [hys] at e3
      simp only [Option.some.injEq] at e3
      subst e3
      simp only [AV.d.injEq, Ty.int.injEq] at e2
      obtain ⟨rfl, e2⟩ := e2
      have e2' : hh = hh' := eq_of_heq e2
      subst e2'
      have h1 := R.get hg hhi hc'.2.1
      have h2 := R.get hg hmx hc'.2.2
      rw [eh] at h1
      rw [em] at h2
      obtain ⟨z, hz, hlz⟩ := run_slc3 (P := P) (K := K0) (k' := k') (k'' := k) ht (lr_frozen (R.get hg hx hc) hys) (low_val R hg hlo hc'.1 e1) q0 q1 p1 p2
      refine .same (z := z) (by unfold execOp; simp only [ho, Option.map_some, int_of_lr h1, int_of_lr h2]; exact run_v hz) hlz
    · cases hp
  · cases hp

end
end Go.Tw
