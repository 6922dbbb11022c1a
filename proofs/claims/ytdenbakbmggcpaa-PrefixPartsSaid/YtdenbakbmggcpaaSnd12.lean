/- Values as data; literals and appends that are never written again. -/
import Derived.Test.YtdenbakbmggcpaaSnd11
set_option linter.unusedVariables false
set_option linter.unusedSectionVars false
set_option linter.unusedSimpArgs false
namespace Go.Tw
open Go.RowKit

section
variable [Ban] {base : Nat} {w0 : World} {ρ0 : List RV} {h0 : AHeap} {ρ : List RV} {s : St} {a : Act} {w : World} {P : Program} {gd : Option (Nat × Bool)} {o : Oper} {v : AV} {h h' : AHeap} {K : Nat → Prop} {X' : Nat → Prop}

theorem lr_prim {T : Ty} {c : AV} {u : Value} {x : T.D} (hT : ∀ U, T ≠ .sl U) (hl : LR w ρ h K0 c u) (hx : asD h' T c = some x) : VR w (XO ρ h) T x [u] := by
  unfold asD at hx
  split at hx
  · rename_i U x'
    split at hx
    · rename_i e
      subst e
      simp only [Option.some.injEq] at hx
      subst hx
      cases hl with
      | d hv => exact hv
    · cases hx
  · split at hx
    · exact absurd rfl (hT _)
    · cases hx
  · split at hx
    · rename_i e; exact absurd e.symm (hT _)
    · cases hx
  · split at hx
    · split at hx
      · rename_i e; exact absurd e.symm (hT _)
      · cases hx
    · cases hx
  · split at hx
    · simp only [Option.some.injEq] at hx
      subst hx
      cases hl with
      | fn h1 h2 =>
        rename_i vs
        have : vs = #[] := by simpa using h1.symm
        subst this
        simp [VR]
    · cases hx
  · cases hx

theorem asD_notown {T : Ty} {c : AV} {x : T.D} (hc : ∀ r, c ≠ .own r) (hx : asD h T c = some x) : asD [] T c = some x := by
  unfold asD at hx ⊢
  split at hx
  · exact hx
  · exact hx
  · exact hx
  · exact absurd rfl (hc _)
  · exact hx
  · cases hx

/-- A list of the call's own that it doesn't write any more. -/
theorem own_vr (H : HR base w ρ h) (hX : ∀ b, X' b → XO ρ h b) {T : Ty} {r : Nat} {ys : List T.D} {u : Value} (hl : LR w ρ h K0 (.own r) u) (hr : h[r]? = some (.row T ys)) (hown : ∀ rv b, ρ[r]? = some rv → rv.block = some b → ¬ X' b) :
    VR w X' (.sl T) ys [u] := by
  cases hl with
  | own ho =>
    have hρ := (ho id).2 T ys hr
    obtain ⟨hsz, v0, e, xs, hρ', hown', h1, hm, hel⟩ := H.obj r _ hr
    obtain rfl : u = v0 := by rw [hρ] at hρ'; simpa using hρ'
    rcases hown'.2 with ⟨rfl, hn⟩ | ⟨g, cap, cur, rfl, hb, hh, hnc, hmc, hcs, htk⟩
    · have : ys = [] := List.eq_nil_of_length_eq_zero hn
      subst this
      simp [VR]
    · have hc : Cells w X' T ys (some ⟨g, 0, none⟩) xs := ⟨hown'.1, fun _ => ⟨_, rfl, hown'.cells rfl⟩, h1, fun i y hy => (hel i y hy).less hX⟩
      exact hc.vr hm hnc fun ad had hn => by
        simp only [Option.some.injEq] at had
        subst had
        exact ⟨hown _ g hρ rfl, lt_of_get hh⟩

/-- One cell as a datum. -/
theorem asD_vr (H : HR base w ρ h) (hX : ∀ b, X' b → XO ρ h b) (hh : h' = h ∨ h' = []) {T : Ty} {c : AV} {u : Value} {x : T.D} (hl : LR w ρ h K0 c u) (hx : asD h' T c = some x)
    (hown : h' = h → ∀ r, c = .own r → ∀ rv b, ρ[r]? = some rv → rv.block = some b → ¬ X' b) : VR w X' T x [u] := by
  cases T with
  | sl T =>
    by_cases hc : ∃ r, c = .own r
    · obtain ⟨r, rfl⟩ := hc
      rcases hh with rfl | rfl
      · simp only [asD] at hx
        split at hx
        · rename_i U ys hr
          split at hx
          · rename_i e
            have e' : U = T := by simpa using e
            subst e'
            simp only [Option.some.injEq] at hx
            subst hx
            exact own_vr H hX hl hr (hown rfl r rfl)
          · cases hx
        · cases hx
      · simp [asD] at hx
    · exact (lr_frozen hl (asD_notown (fun r hr => hc ⟨r, hr⟩) hx)).less hX
  | _ => exact (lr_prim (by intro U; simp) hl hx).less hX

theorem LRs.cons {c : AV} {cs : List AV} {vs : List Value} (hl : LRs w ρ h K (c :: cs) vs) : ∃ u us, vs = u :: us ∧ LR w ρ h K c u ∧ u.oneCell' = true ∧ LRs w ρ h K cs us := by
  cases vs with
  | nil => have := hl.1; simp at this
  | cons u us =>
    refine ⟨u, us, rfl, hl.2.1 0 c u rfl rfl, hl.2.2 u (by simp), ?_⟩
    have := hl.drop 1
    simpa using this

/-- Cells as a datum; the rest. -/
theorem implode_vr (H : HR base w ρ h) (hX : ∀ b, X' b → XO ρ h b) (hh : h' = h ∨ h' = []) : ∀ {T : Ty} {cs rest : List AV} {vs : List Value} {x : T.D}, LRs w ρ h K0 cs vs → implode h' T cs = some (x, rest) →
    (h' = h → ∀ r, AV.own r ∈ cs → ∀ rv b, ρ[r]? = some rv → rv.block = some b → ¬ X' b) → ∃ v1 v2, vs = v1 ++ v2 ∧ VR w X' T x v1 ∧ LRs w ρ h K0 rest v2 ∧ ∀ c ∈ rest, c ∈ cs := by
  intro T
  have leaf : ∀ {T : Ty} {c : AV} {rest : List AV} {vs : List Value} {x : T.D}, LRs w ρ h K0 (c :: rest) vs → asD h' T c = some x →
      (h' = h → ∀ r, AV.own r ∈ c :: rest → ∀ rv b, ρ[r]? = some rv → rv.block = some b → ¬ X' b) → ∃ v1 v2, vs = v1 ++ v2 ∧ VR w X' T x v1 ∧ LRs w ρ h K0 rest v2 ∧ ∀ d ∈ rest, d ∈ c :: rest := by
    intro T c rest vs x hl hy hown
    obtain ⟨u, us, rfl, h1, h2, h3⟩ := hl.cons
    exact ⟨[u], us, rfl, asD_vr H hX hh h1 hy (fun e q hq => hown e q (by rw [← hq]; simp)), h3, fun c hc => List.mem_cons_of_mem _ hc⟩
  induction T with
  | unit =>
    intro cs rest vs x hl hi hown
    simp only [implode, Option.some.injEq, Prod.mk.injEq] at hi
    obtain ⟨_, rfl⟩ := hi
    exact ⟨[], vs, rfl, by simp [VR], hl, fun c hc => hc⟩
  | pair A B ihA ihB =>
    intro cs rest vs x hl hi hown
    simp only [implode] at hi
    split at hi
    · rename_i xa cs1 h1
      split at hi
      · rename_i xb cs2 h2
        simp only [Option.some.injEq, Prod.mk.injEq] at hi
        obtain ⟨rfl, rfl⟩ := hi
        obtain ⟨v1, v2, rfl, hv1, hr1, hm1⟩ := ihA hl h1 hown
        obtain ⟨v3, v4, rfl, hv2, hr2, hm2⟩ := ihB hr1 h2 (fun e r hr => hown e r (hm1 _ hr))
        refine ⟨v1 ++ v3, v4, by simp, ?_, hr2, fun c hc => hm1 _ (hm2 _ hc)⟩
        simp only [VR]
        exact ⟨v1, v3, rfl, hv1, hv2⟩
      · cases hi
    · cases hi
  | _ =>
    intro cs rest vs x hl hi hown
    simp only [implode] at hi
    split at hi
    · split at hi
      · rename_i y hy
        simp only [Option.some.injEq, Prod.mk.injEq] at hi
        obtain ⟨rfl, rfl⟩ := hi
        exact leaf hl hy hown
      · cases hi
    · cases hi

omit [Ban] in
theorem implode_pre : ∀ {T : Ty} {cs rest : List AV} {x : T.D}, implode h' T cs = some (x, rest) → ∃ pre, cs = pre ++ rest ∧ ∀ c ∈ pre, ∃ (U : Ty) (y : U.D), asD h' U c = some y := by
  intro T
  induction T with
  | unit =>
    intro cs rest x hi
    simp only [implode, Option.some.injEq, Prod.mk.injEq] at hi
    exact ⟨[], by simp [hi.2], by simp⟩
  | pair A B ihA ihB =>
    intro cs rest x hi
    simp only [implode] at hi
    split at hi
    · rename_i xa cs1 h1
      split at hi
      · rename_i xb cs2 h2
        simp only [Option.some.injEq, Prod.mk.injEq] at hi
        obtain ⟨rfl, rfl⟩ := hi
        obtain ⟨p1, rfl, q1⟩ := ihA h1
        obtain ⟨p2, rfl, q2⟩ := ihB h2
        exact ⟨p1 ++ p2, by simp, fun c hc => (List.mem_append.1 hc).elim (q1 c) (q2 c)⟩
      · cases hi
    · cases hi
  | _ =>
    intro cs rest x hi
    simp only [implode] at hi
    split at hi
    · rename_i c r
      split at hi
      · rename_i y hy
        simp only [Option.some.injEq, Prod.mk.injEq] at hi
        obtain ⟨rfl, rfl⟩ := hi
        exact ⟨[c], rfl, fun d hd => by rw [List.mem_singleton.1 hd]; exact ⟨_, y, hy⟩⟩
      · cases hi
    · cases hi

/-- A value wanted whole. -/
theorem whole_vr (H : HR base w ρ h) (hX : ∀ b, X' b → XO ρ h b) (hh : h' = h ∨ h' = []) {T : Ty} {c : AV} {u : Value} {x : T.D} (hl : LR w ρ h K0 c u) (hw : whole h' T c = some x)
    (hown : h' = h → ∀ r, r ∈ c.owns → ∀ rv b, ρ[r]? = some rv → rv.block = some b → ¬ X' b) : VR w X' T x u.cells.toList := by
  unfold whole at hw
  split at hw
  · rename_i x' hi
    simp only [Option.some.injEq] at hw
    subst hw
    by_cases hag : ∃ ds, c = .agg ds
    · obtain ⟨ds, rfl⟩ := hag
      obtain ⟨vs, rfl, hls⟩ := LRs.of_agg hl
      obtain ⟨v1, v2, e, hv, hr, _⟩ := implode_vr H hX hh hls hi (fun e r hr => hown e r (by simp only [AV.owns, List.mem_filterMap]; exact ⟨_, hr, rfl⟩))
      have : v2 = [] := by have := hr.1; exact List.eq_nil_of_length_eq_zero this.symm
      subst this
      simp only [List.append_nil] at e
      subst e
      exact hv
    · have hcells : c.cells = [c] := by cases c <;> first | rfl | (exact absurd ⟨_, rfl⟩ hag)
      rw [hcells] at hi
      -- a value of no cells is no aggregate here
      by_cases h1 : u.oneCell' = true
      · rw [one_cells h1]
        obtain ⟨v1, v2, e, hv, hr, _⟩ := implode_vr H hX hh (LRs.one hl h1) hi (fun e r hr => hown e r (by simp only [List.mem_singleton] at hr; rw [← hr]; simp [AV.owns]))
        have : v2 = [] := by have := hr.1; exact List.eq_nil_of_length_eq_zero this.symm
        subst this
        simp only [List.append_nil] at e
        rw [← e] at hv
        exact hv
      · exfalso
        apply h1
        obtain ⟨pre, e, hpre⟩ := implode_pre hi
        simp only [List.append_nil] at e
        obtain ⟨U, y, hy⟩ := hpre c (by rw [← e]; simp)
        exact (asD_vr (X' := fun _ => False) H (fun _ hf => hf.elim) hh hl hy (fun _ _ _ _ _ _ _ hf => hf)).one u (by simp)
  · cases hw

end
end Go.Tw
