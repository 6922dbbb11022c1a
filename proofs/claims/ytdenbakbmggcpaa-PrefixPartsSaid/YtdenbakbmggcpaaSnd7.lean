/- Operations one by one: addresses, parts. -/
import Derived.Test.YtdenbakbmggcpaaSnd6
set_option linter.unusedVariables false
set_option linter.unusedSectionVars false
set_option linter.unusedSimpArgs false
namespace Go.Tw
open Go.RowKit

section
variable [Ban] {base : Nat} {w0 : World} {ρ0 : List RV} {h0 : AHeap} {ρ : List RV} {s : St} {a : Act} {w : World} {P : Program} {gd : Option (Nat × Bool)} {o : Oper} {v : AV} {h : AHeap} {K : Nat → Prop}

theorem lr_faV {x v : AV} {u : Value} {o : Nat} (hl : LR w ρ h K0 x u) (hv : faV h x o = some (true, v)) : ∃ ad, u = .pointer (some ad) ∧ LR w ρ h K0 v (.pointer (some (ad.add o))) := by
  unfold faV at hv
  split at hv
  · rename_i r q
    split at hv
    · rename_i cs hr
      simp only [Option.some.injEq, Prod.mk.injEq, true_and] at hv
      subst hv
      cases hl with
      | box hb =>
        obtain ⟨hlt, hb⟩ := hb id
        obtain ⟨b, hρ, rfl⟩ := hb cs hr
        refine ⟨_, rfl, ?_⟩
        rw [add_lit]
        exact .box fun _ => ⟨hlt, fun cs' hcs => ⟨b, hρ, rfl⟩⟩
    · cases hv
  · rename_i T x q
    simp only [Option.some.injEq, Prod.mk.injEq, true_and] at hv
    subst hv
    cases hl with
    | @pfz _ _ _ ad cs h1 h2 h3 =>
      refine ⟨ad, rfl, .pfz cs h1 (fun ho => by rw [add_block]; exact h2 (by omega)) fun j u hu => ?_⟩
      rw [add_add]
      exact h3 _ _ (by rw [← hu]; congr 1; omega)
  · rename_i r i q
    split at hv
    · rename_i T ys hr
      simp only [Option.some.injEq, Prod.mk.injEq, decide_eq_true_eq] at hv
      obtain ⟨hi, rfl⟩ := hv
      cases hl with
      | pel hb =>
        obtain ⟨hlt, hb⟩ := hb id
        obtain ⟨g, n, c, hρ, rfl⟩ := hb T ys hr hi
        refine ⟨_, rfl, .pel fun _ => ⟨hlt, fun U zs hz hiz => ?_⟩⟩
        obtain ⟨rfl, hz⟩ : T = U ∧ HEq ys zs := by rw [hr] at hz; simpa using hz
        exact ⟨g, n, c, hρ, by rw [add_add, Nat.add_assoc]⟩
    · cases hv
  · cases hv

/-- The field's place among its struct's cells. -/
def faOk (P : Program) (t : TypeId) (f o : Nat) : Bool := match fieldT P t f with
  | some fl => fl.offset == o && (match sizeT P fl.type with | some n => n != 0 | none => false)
  | none => false
/-- An array's element of a fixed number. -/
def faiOk (P : Program) (t : TypeId) (i o : Nat) : Bool := match P.underlying t with
  | some (.array n e) => decide (i < n) && (match sizeT P e with | some m => i * m == o | none => false)
  | _ => false

theorem sound_fa (R : Rel base w0 ρ0 h0 ρ s a w) (hg : GH gd a) {x : AX} {y : Operand} {t : TypeId} {f n : Nat} (ho : o.op = .fieldAddr t y f) (ht : faOk P t f n = true) (hx : okX x y = true)
    (hp : CV.map1 (x.get gd s) (fun x => faV s.h x n) = some (true, v)) : Sound P o a w ρ s.h v := by
  obtain ⟨hc, hp⟩ := map1_some hp
  obtain ⟨ad, he, hl⟩ := lr_faV (R.get hg hx hc) hp
  unfold faOk at ht
  split at ht
  · rename_i fl hf
    obtain ⟨fs, hu, hf⟩ := of_fieldT hf
    simp only [Bool.and_eq_true, beq_iff_eq] at ht
    obtain ⟨rfl, hs⟩ := ht
    split at hs
    · rename_i m hm
      have hm0 : m ≠ 0 := by simpa using hs
      exact .same (z := .pointer (some (ad.add fl.offset))) (by simp [execOp, ho, Instr.fieldAt, run_underlying hu, hf, he, Instr.sureAddr, fieldPlace, run_sizeOf hm, hm0]) hl
    · cases hs
  · cases ht

theorem sound_fai (R : Rel base w0 ρ0 h0 ρ s a w) (hg : GH gd a) {x : AX} {y : Operand} {t : TypeId} {k : IntKind} {i n : Nat} (ho : o.op = .indexAddr t y (.const (.int k (i : Int)))) (ht : faiOk P t i n = true) (hx : okX x y = true)
    (hp : CV.map1 (x.get gd s) (fun x => faV s.h x n) = some (true, v)) : Sound P o a w ρ s.h v := by
  obtain ⟨hc, hp⟩ := map1_some hp
  obtain ⟨ad, he, hl⟩ := lr_faV (R.get hg hx hc) hp
  unfold faiOk at ht
  split at ht
  · rename_i m e hu
    simp only [Bool.and_eq_true, decide_eq_true_eq] at ht
    obtain ⟨hi, hs⟩ := ht
    split at hs
    · rename_i q hq
      simp only [beq_iff_eq] at hs
      subst hs
      exact .same (z := .pointer (some (ad.add (i * q)))) (by simp [execOp, ho, Instr.indexAt, run_underlying hu, he, Instr.sureAddr, run_sizeOf hq, asIntOf, eval_const, hi]) hl
    · cases hs
  · cases ht

/-- An element's address. -/
theorem sound_ia (R : Rel base w0 ρ0 h0 ρ s a w) (hg : GH gd a) {x i : AX} {y j : Operand} {t e : TypeId} {n : Nat} (ho : o.op = .indexAddr t y j) (ht : elemT P t = some e) (hs : sizeT P e = some n) (hx : okX x y = true) (hi : okX i j = true)
    (hp : CV.map2 (x.get gd s) (i.get gd s) (fun x i => iaV s.h n x i) = some (true, v)) : Sound P o a w ρ s.h v := by
  obtain ⟨hc, hc', hp⟩ := map2_some hp
  have hl := R.get hg hx hc
  have hli := R.get hg hi hc'
  have hu := of_elemT ht
  generalize (x.get gd s).2 = X at *
  generalize (i.get gd s).2 = I at *
  unfold iaV at hp
  split at hp
  · rename_i k i'
    have hj := int_of_lr hli
    have frozen : ∀ {T : Ty} {ys : List T.D} {A : Option Addr} {c : Nat}, VR w (XO ρ s.h) (.sl T) ys [.slice A ys.length c] → a.eval y = .slice A ys.length c →
        (if T.size = n then some (inside i' ys.length, AV.pfz T (ys.getD i'.toNat T.z) 0) else none) = some (true, v) → Sound P o a w ρ s.h v := by
      intro T ys A c hv hy hp
      split at hp
      · rename_i hn
        simp only [Option.some.injEq, Prod.mk.injEq] at hp
        obtain ⟨hin, rfl⟩ := hp
        simp only [inside, Bool.and_eq_true, decide_eq_true_eq] at hin
        obtain ⟨h0, h1⟩ := hin
        simp only [VR] at hv
        obtain ⟨A', c', he, hm, hcap, hv⟩ := hv
        simp only [List.cons.injEq, Value.slice.injEq, and_true] at he
        obtain ⟨rfl, _, rfl⟩ := he
        obtain ⟨ad, rfl, hX, hlt, hel⟩ := hv (by omega)
        have hi' : i'.toNat < ys.length := by omega
        obtain ⟨es, hl1, hl2, hl3⟩ := hel i'.toNat ys[i'.toNat] (by simp [hi'])
        have hyd : ys.getD i'.toNat T.z = ys[i'.toNat] := by simp [List.getD, hi']
        refine .same (z := .pointer (some (ad.add (i'.toNat * n)))) (by simp [execOp, ho, Instr.indexAt, run_underlying hu, hy, hj, run_sizeOf hs, asIntOf, h0, h1]) ?_
        rw [hyd]
        refine .pfz es hl3 (fun _ => by rw [add_block]; exact hX) fun q u hu => ?_
        rw [add_add, ← hn]
        exact hl2 q u (by simpa using hu)
      · cases hp
    split at hp
    · rename_i T ys
      cases hl with
      | d hv =>
        have hv' := hv
        simp only [VR] at hv'
        obtain ⟨A, c, he, _⟩ := hv'
        simp only [List.cons.injEq, and_true] at he
        rw [he] at hv
        exact frozen hv he hp
    · rename_i T ys
      generalize hq : a.eval y = u at *
      cases hl with
      | fr hv => exact frozen hv rfl hp
    · rename_i T
      simp only [Option.some.injEq, Prod.mk.injEq] at hp
      obtain ⟨hin, _⟩ := hp
      simp only [inside, Bool.and_eq_true, decide_eq_true_eq] at hin
      omega
    · rename_i r
      split at hp
      · rename_i T ys hr
        split at hp
        · rename_i hn
          simp only [Option.some.injEq, Prod.mk.injEq] at hp
          obtain ⟨hin, rfl⟩ := hp
          simp only [inside, Bool.and_eq_true, decide_eq_true_eq] at hin
          obtain ⟨h0, h1⟩ := hin
          cases hl with
          | own hb =>
            obtain ⟨hlt, hb⟩ := hb id
            have hρ := hb T ys hr
            obtain ⟨hsz, v0, e0, xs, hρ', hown, hone, hm, hel⟩ := R.hp.obj r _ hr
            have : v0 = a.eval y := by rw [hρ] at hρ'; simpa using hρ'.symm
            subst this
            obtain ⟨g, cap, hv, hcell⟩ := own_elem hown (show i'.toNat < ys.length by omega) hsz
            refine .same (z := .pointer (some ((⟨g, 0, none⟩ : Addr).add (i'.toNat * n)))) (by simp [execOp, ho, Instr.indexAt, run_underlying hu, hv, hj, run_sizeOf hs, asIntOf, h0, h1]) ?_
            refine .pel fun _ => ⟨hlt, fun U zs hz hiz => ?_⟩
            obtain ⟨rfl, hz⟩ : T = U ∧ HEq ys zs := by rw [hr] at hz; simpa using hz
            exact ⟨g, ys.length, cap, by rw [hρ, hv], by rw [hn, Nat.add_zero]⟩
        · cases hp
      · cases hp
    · cases hp
  · cases hp

end
end Go.Tw
