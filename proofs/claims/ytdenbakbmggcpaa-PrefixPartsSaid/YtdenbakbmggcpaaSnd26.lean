/- Control, loops, functions: the evaluator may be trusted. -/
import Derived.Test.YtdenbakbmggcpaaSndR
import Derived.LoopN
import Derived.Scope
set_option linter.unusedVariables false
set_option linter.unusedSectionVars false
set_option linter.unusedSimpArgs false
namespace Go.Tw
open Go.RowKit

def qpre (r : List GOp) : Nat := (r.takeWhile fun q => q.op.quiet).length
/-- May this code of the evaluator's stand for that of the model's? -/
def okCode (P : Program) : AC → Code → Bool
  | .skip, .skip => true
  | .ret, .ret => true
  | .lab, .label _ => true
  | .exit i, .exit j => i == j
  | .reg d r, .region _ ops d' => d == d' && (okOps P ops ops.toList r && (!d || (drawB ops.toList r || drawTB ops.toList r (qpre r))))
  | .mreg r ag A B m x v d1 d2, .region _ ops true => mregB P ops.toList r ag A B m x v d1 d2
  | .seq (.pro p) b, c => p.pos && okCode P b c
  | .seq a b, .seq x y => okCode P a x && okCode P b y
  | .cond x a b, .cond y u v => okX x y && (okCode P a u && okCode P b v)
  | .blk i a, .block j c => i == j && okCode P a c
  | .loop _ _ a, .loop c => okCode P a c
  | .unr _ _ a, .loop c => okCode P a c
  | .scope a, .scope c => okCode P a c
  | _, _ => false

def EM : Exit → AE → Prop
  | .normal, .normal => True
  | .exit i, .exit j => i = j
  | .ret, .ret => True
  | _, _ => False

section
variable [Ban] {base : Nat} {w0 : World} {ρ0 : List RV} {h0 : AHeap} {ρ ρ' : List RV} {s s1 : St} {a : Act} {w w' : World} {P : Program} {O : Type} {Γ : GEnv} {Λ : LEnv O} {I : Inl O} {x : O}

/-- What is told behind a code. -/
def Post (base : Nat) (w0 : World) (ρ0 : List RV) (h0 : AHeap) (κ : AE → St → Option O) (x : O) (e : Exit) (a : Act) (w : World) : Prop :=
  ∃ (ae : AE) (ρ : List RV) (s : St), EM e ae ∧ Rel base w0 ρ0 h0 ρ s a w ∧ s.g = [] ∧ κ ae s = some x

theorem EM.normal {ae : AE} (h : EM .normal ae) : ae = .normal := by cases ae <;> simp [EM] at h ⊢
theorem EM.exit {i : Nat} {ae : AE} (h : EM (.exit i) ae) : ae = .exit i := by cases ae <;> simp [EM] at h ⊢; exact h.symm
theorem EM.ret {ae : AE} (h : EM .ret ae) : ae = .ret := by cases ae <;> simp [EM] at h ⊢

/-- What is to be known of the loops in a code. -/
def LOk (Γ : GEnv) (Λ : LEnv O) (I : Inl O) : AC → Prop
  | .seq a b => LOk Γ Λ I a ∧ LOk Γ Λ I b
  | .cond _ a b => LOk Γ Λ I a ∧ LOk Γ Λ I b
  | .blk _ a => LOk Γ Λ I a
  | .scope a => LOk Γ Λ I a
  | .unr _ _ a => LOk Γ Λ I a
  | .loop key L a => (∀ s κ x, Λ key s κ = some x → ∃ N, loopN (ev Γ Λ I a) L N s κ = some x) ∧ LOk Γ Λ I a
  | _ => True

theorem loopN_sound {c : Code} {f : St → (AE → St → Option O) → Option O} {L : LAnn}
    (hf : ∀ {ρ : List RV} {s : St} {a : Act} {w : World} {κ : AE → St → Option O} {x : O}, Rel base w0 ρ0 h0 ρ s a w → s.g = [] → f s κ = some x → c.wp P (Post base w0 ρ0 h0 κ x) a w) :
    ∀ (N : Nat) {ρ : List RV} {s : St} {a : Act} {w : World} {κ : AE → St → Option O} {x : O}, Rel base w0 ρ0 h0 ρ s a w → s.g = [] → loopN f L N s κ = some x → Code.rounds P c (Post base w0 ρ0 h0 κ x) N a w
  | 0, _, _, _, _, _, _, _, _, h => by cases h
  | N + 1, ρ, s, a, w, κ, x, R, hg, h => by
    simp only [loopN] at h
    rw [rounds_succ]
    refine wp_mono (hf R hg h) fun e a' w' ⟨ae, ρ', s', hem, R', hg', hκ⟩ => ?_
    cases e with
    | normal =>
      have := EM.normal hem
      subst this
      simp only [kloop] at hκ
      obtain ⟨ρ2, R2, g2⟩ := R'.head hg' L
      exact loopN_sound hf N R2 g2 hκ
    | exit i =>
      have := EM.exit hem
      subst this
      simp only [kloop] at hκ
      obtain ⟨ρ2, R2, g2⟩ := R'.gc hg' (L.keepE i)
      exact ⟨_, ρ2, _, hem, R2, g2, hκ⟩
    | ret =>
      have := EM.ret hem
      subst this
      simp only [kloop] at hκ
      obtain ⟨ρ2, R2, g2⟩ := R'.gc hg' L.ret
      exact ⟨_, ρ2, _, hem, R2, g2, hκ⟩
    | goto l => cases ae <;> simp [EM] at hem
    | panic c => cases ae <;> simp [EM] at hem
    | outgrown => cases ae <;> simp [EM] at hem

/-- Of a slot nothing is told. -/
theorem Rel.anyAt (R : Rel base w0 ρ0 h0 ρ s a w) (hg : s.g = []) (d : Nat) : Rel base w0 ρ0 h0 ρ ⟨setNth s.t d .any, s.h, s.k, s.b, s.g⟩ a w := by
  refine ⟨by simp only [setNth_len]; exact R.tl, fun i c v hc hv => ?_, R.df, R.hp, R.ev, R.b0, fun i j wt g v hc => ?_⟩
  · simp only [setNth_get] at hc
    split at hc
    · split at hc
      · simp only [Option.some.injEq] at hc; subst hc; exact .any
      · cases hc
    · exact R.tm i c v hc hv
  · simp only [setNth_get] at hc
    split at hc
    · split at hc
      · simp at hc
      · cases hc
    · have := (R.op i j wt g v hc).1
      rw [hg] at this
      cases this

theorem ev_sound (hm : P.follows .mixedOrders = true) (hG : GOk P Γ) (hI : IOk P I) : ∀ (ac : AC) {c : Code} {ρ : List RV} {s : St} {a : Act} {w : World} {κ : AE → St → Option O} {x : O}, okCode P ac c = true → LOk Γ Λ I ac → Rel base w0 ρ0 h0 ρ s a w → s.g = [] → ev Γ Λ I ac s κ = some x →
    c.wp P (Post base w0 ρ0 h0 κ x) a w := by
  intro ac
  induction ac with
  | skip =>
    intro c ρ s a w κ x hok _ R hg he
    cases c <;> simp only [okCode, Bool.false_eq_true] at hok
    exact wp_skip ⟨.normal, ρ, s, trivial, R, hg, he⟩
  | ret =>
    intro c ρ s a w κ x hok _ R hg he
    cases c <;> simp only [okCode, Bool.false_eq_true] at hok
    exact wp_ret ⟨.ret, ρ, s, trivial, R, hg, he⟩
  | lab =>
    intro c ρ s a w κ x hok _ R hg he
    cases c <;> simp only [okCode, Bool.false_eq_true] at hok
    exact wp_label ⟨.normal, ρ, s, trivial, R, hg, he⟩
  | exit i =>
    intro c ρ s a w κ x hok _ R hg he
    cases c <;> simp only [okCode, Bool.false_eq_true] at hok
    rename_i j
    have : i = j := by simpa using hok
    subst this
    exact wp_exit ⟨.exit i, ρ, s, rfl, R, hg, he⟩
  | pro p =>
    intro c ρ s a w κ x hok _ R hg he
    cases c <;> simp [okCode] at hok
  | reg d r =>
    intro c ρ s a w κ x hok _ R hg he
    cases c <;> simp only [okCode, Bool.false_eq_true] at hok
    rename_i id ops d'
    simp only [Bool.and_eq_true, beq_iff_eq, Bool.or_eq_true, Bool.not_eq_true'] at hok
    obtain ⟨rfl, h1, h2⟩ := hok
    simp only [ev] at he
    have hgo : Goes base w0 ρ0 h0 (fun s => κ .normal s.unguard) x (Post base w0 ρ0 h0 κ x .normal) := fun ρ' s' a' w' R' hκ => by
      obtain ⟨R2, g2⟩ := R'.unguard
      exact ⟨.normal, ρ', _, trivial, R2, g2, hκ⟩
    cases d with
    | false => exact wp_region_list (evOps_sound hG hI h1 R he hgo)
    | true =>
      rcases h2.resolve_left (by simp) with h2' | h2'
      · have := region_draw (l := ops.toList) (id := id) hm hG (by simpa using h1) h2' R hg he hgo
        simpa using this
      · have := region_drawT (l := ops.toList) (id := id) hm hG hI (by simpa using h1) h2' R hg he hgo
        simpa using this
  | mreg r ag A B m v0 u0 d1 d2 =>
    intro c ρ s a w κ x hok _ R hg he
    cases c <;> first | (simp only [okCode, Bool.false_eq_true] at hok; done) | skip
    rename_i id ops d'
    cases d' with
    | false => exact absurd hok (by simp [okCode])
    | true =>
      replace hok : mregB P ops.toList r ag A B m v0 u0 d1 d2 = true := by simpa [okCode] using hok
      simp only [ev] at he
      have hgo : Goes base w0 ρ0 h0 (fun s => κ .normal s.unguard) x (Post base w0 ρ0 h0 κ x .normal) := fun ρ' s' a' w' R' hκ => by
        obtain ⟨R2, g2⟩ := R'.unguard
        exact ⟨.normal, ρ', _, trivial, R2, g2, hκ⟩
      obtain ⟨hlen, he⟩ := cond_true he
      simp only [Bool.and_eq_true, decide_eq_true_eq] at hlen
      have R1 := (R.anyAt hg d1).anyAt hg d2
      have := region_mreg (l := ops.toList) (id := id) hm hG hok R1 hg (by simp only [nth_get, setNth_get, setNth_len]; split <;> simp_all) (by simp only [nth_get, setNth_get, setNth_len]; simp [hlen.2]) (by simp only [setNth_len]; exact hlen.1) (by simp only [setNth_len]; exact hlen.2) he hgo
      simpa using this
  | seq a1 b1 iha ihb =>
    intro c ρ s a w κ x hok hL R hg he
    have key : (∃ p, a1 = .pro p ∧ p.pos = true ∧ okCode P b1 c = true) ∨ (∃ u v, c = .seq u v ∧ okCode P a1 u = true ∧ okCode P b1 v = true) := by
      cases a1 with
      | pro p => simp only [okCode, Bool.and_eq_true] at hok; exact .inl ⟨p, rfl, hok⟩
      | _ =>
        cases c <;> simp only [okCode, Bool.false_eq_true, Bool.and_eq_true] at hok
        exact .inr ⟨_, _, rfl, hok⟩
    simp only [LOk] at hL
    simp only [ev] at he
    rcases key with ⟨p, rfl, hp, hb⟩ | ⟨u, v, rfl, ha, hb⟩
    · simp only [ev] at he
      split at he
      · rename_i s1 hs1
        obtain ⟨ρ', R', g'⟩ := R.pro hg hp hs1
        exact ihb hb hL.2 R' g' he
      · cases he
    · refine wp_seq (wp_mono (iha ha hL.1 R hg he) fun e a' w' ⟨ae, ρ', s', hem, R', hg', hκ⟩ => ?_)
      cases e with
      | normal =>
        have := EM.normal hem
        subst this
        exact ihb hb hL.2 R' hg' hκ
      | exit i =>
        have := EM.exit hem
        subst this
        exact ⟨_, ρ', s', hem, R', hg', hκ⟩
      | ret =>
        have := EM.ret hem
        subst this
        exact ⟨_, ρ', s', hem, R', hg', hκ⟩
      | goto l => cases ae <;> simp [EM] at hem
      | panic c => cases ae <;> simp [EM] at hem
      | outgrown => cases ae <;> simp [EM] at hem
  | cond q a1 b1 iha ihb =>
    intro c ρ s a w κ x hok hL R hg he
    cases c <;> simp only [okCode, Bool.false_eq_true, Bool.and_eq_true] at hok
    obtain ⟨hx, ha, hb⟩ := hok
    simp only [LOk] at hL
    simp only [ev] at he
    split at he
    · rename_i g p hget
      replace he := chk_some he
      obtain ⟨rfl, he⟩ := he
      have hl := R.get GH.none hx (by rw [hget])
      rw [hget] at hl
      have hv := bool_of_lr hl
      cases p with
      | true => exact wp_cond_true hv (iha ha hL.1 R hg he)
      | false => exact wp_cond_false hv (ihb hb hL.2 R hg he)
    · cases he
  | blk i a1 iha =>
    intro c ρ s a w κ x hok hL R hg he
    cases c <;> simp only [okCode, Bool.false_eq_true, Bool.and_eq_true, beq_iff_eq] at hok
    obtain ⟨rfl, ha⟩ := hok
    simp only [ev] at he
    refine wp_block (wp_mono (iha ha hL R hg he) fun e a' w' ⟨ae, ρ', s', hem, R', hg', hκ⟩ => ?_)
    cases e with
    | normal =>
      have := EM.normal hem
      subst this
      exact ⟨_, ρ', s', hem, R', hg', hκ⟩
    | exit j =>
      have := EM.exit hem
      subst this
      simp only [kblk] at hκ
      simp only [Exit.inBlock]
      split
      · rename_i hj; rw [if_pos hj] at hκ; exact ⟨.normal, ρ', s', trivial, R', hg', hκ⟩
      · rename_i hj; rw [if_neg hj] at hκ; exact ⟨_, ρ', s', hem, R', hg', hκ⟩
    | ret =>
      have := EM.ret hem
      subst this
      exact ⟨_, ρ', s', hem, R', hg', hκ⟩
    | goto l => cases ae <;> simp [EM] at hem
    | panic c => cases ae <;> simp [EM] at hem
    | outgrown => cases ae <;> simp [EM] at hem
  | loop key L a1 iha =>
    intro c ρ s a w κ x hok hL R hg he
    cases c <;> simp only [okCode, Bool.false_eq_true] at hok
    simp only [LOk] at hL
    simp only [ev] at he
    obtain ⟨N, hN⟩ := hL.1 _ _ _ he
    obtain ⟨ρ', R', g'⟩ := R.head hg L
    exact wp_loop_rounds N (loopN_sound (fun R hg h => iha hok hL.2 R hg h) N R' g' hN)
  | unr n L a1 iha =>
    intro c ρ s a w κ x hok hL R hg he
    cases c <;> simp only [okCode, Bool.false_eq_true] at hok
    simp only [ev] at he
    obtain ⟨ρ', R', g'⟩ := R.head hg L
    exact wp_loop_rounds n (loopN_sound (fun R hg h => iha hok hL R hg h) n R' g' he)
  | scope a1 iha =>
    intro c ρ s a w κ x hok hL R hg he
    cases c <;> simp only [okCode, Bool.false_eq_true] at hok
    simp only [ev] at he
    refine wp_scope_straight (wp_mono (iha hok hL R hg he) fun e a' w' ⟨ae, ρ', s', hem, R', hg', hκ⟩ => ?_)
    cases e with
    | normal => exact ⟨_, ρ', s', hem, R', hg', hκ⟩
    | exit j => exact ⟨_, ρ', s', hem, R', hg', hκ⟩
    | ret => exact ⟨_, ρ', s', hem, R', hg', hκ⟩
    | goto l => cases ae <;> simp [EM] at hem
    | panic c => cases ae <;> simp [EM] at hem
    | outgrown => cases ae <;> simp [EM] at hem

/-! ### results -/
def okRes (P : Program) : List ARes → List ResultVar → Bool
  | [], [] => true
  | .tmp i :: l, .tmp j :: r => i == j && okRes P l r
  | .cell i n agg :: l, .cell j t :: r => i == j && (sizeT P t == some n && (aggT P t == some agg && okRes P l r))
  | _, _ => false

theorem lr_pointer {A v : AV} {u : Value} {n : Nat} {agg : Bool} {h : AHeap} (hl : LR w ρ h K0 A u) (hv : loadV h A n agg = some (true, v)) : ∃ ad, u = .pointer (some ad) := by
  unfold loadV at hv
  split at hv
  · split at hv
    · rename_i r o cs hr
      cases hl with
      | box hb => obtain ⟨b, _, rfl⟩ := (hb id).2 cs hr; exact ⟨_, rfl⟩
    · cases hv
  · cases hl; exact ⟨_, rfl⟩
  · split at hv
    · rename_i r i o T ys hr
      split at hv
      · simp only [Option.some.injEq, Prod.mk.injEq, decide_eq_true_eq] at hv
        cases hl with
        | pel hb => obtain ⟨g, n, c, _, rfl⟩ := (hb id).2 T ys hr hv.1; exact ⟨_, rfl⟩
      · cases hv
    · cases hv
  · cases hv

theorem res_sound (R : Rel base w0 ρ0 h0 ρ s a w) : ∀ {l : List ARes} {r : List ResultVar} {vs : List AV}, okRes P l r = true → resVals s l = some vs →
    ∃ zs : List Value, (List.mapM (fun (x : ResultVar) => match x with | .tmp t => (pure (a.tmps.getD t undef) : Sem Value) | .cell c t => do loadVar t (← asAddr (a.tmps.getD c undef))) r).run P w = .ok zs w ∧ vs.length = zs.length ∧
      ∀ (i : Nat) (c : AV) (v : Value), vs[i]? = some c → zs[i]? = some v → LR w ρ s.h K0 c v
  | [], [], vs, _, hv => by
    simp only [resVals, Option.some.injEq] at hv
    subst hv
    exact ⟨[], by simp, rfl, by simp⟩
  | q :: l, p :: r, vs, hok, hv => by
    simp only [resVals] at hv
    split at hv
    · rename_i v hval
      split at hv
      · rename_i vs' hvs
        simp only [Option.some.injEq] at hv
        subst hv
        have key : okRes P l r = true ∧ ∃ z, ((match p with | .tmp t => (pure (a.tmps.getD t undef) : Sem Value) | .cell c t => do loadVar t (← asAddr (a.tmps.getD c undef))) : Sem Value).run P w = .ok z w ∧ LR w ρ s.h K0 v z := by
          cases q with
          | tmp i =>
            cases p with
            | tmp j =>
              simp only [okRes, Bool.and_eq_true, beq_iff_eq] at hok
              obtain ⟨rfl, h2⟩ := hok
              refine ⟨h2, _, rfl, ?_⟩
              simp only [ARes.val] at hval
              have hs := R.slot i
              split at hval
              · cases hval
              · cases hval
              · simp only [Option.some.injEq] at hval
                subst hval
                exact hs
            | cell c t => simp [okRes] at hok
          | cell i n agg =>
            cases p with
            | tmp j => simp [okRes] at hok
            | cell j t =>
              simp only [okRes, Bool.and_eq_true, beq_iff_eq] at hok
              obtain ⟨rfl, hs, ha, h2⟩ := hok
              refine ⟨h2, ?_⟩
              simp only [ARes.val] at hval
              split at hval
              · rename_i v' hv'
                simp only [Option.some.injEq] at hval
                subst hval
                have hsl := R.slot i
                obtain ⟨ad, hu⟩ := lr_pointer hsl hv'
                obtain ⟨z, hz, hlz⟩ := run_loadV (P := P) R.hp hs ha hsl hv' rfl
                refine ⟨z, ?_, hlz⟩
                rw [hu] at hz
                simp only [hu]
                simpa [Instr.loadAt, Instr.sureAddr, asAddr] using hz
              · cases hval
        obtain ⟨h2, z, hz, hlz⟩ := key
        obtain ⟨zs, hzs, h3, h4⟩ := res_sound R h2 hvs
        refine ⟨z :: zs, ?_, by simp [h3], fun i c u hc hu => ?_⟩
        · rw [List.mapM_cons]
          simp only [Sem.run_bind]
          rw [hz]
          simp only [Result.andThen_ok]
          rw [hzs]
          rfl
        · cases i with
          | zero => simp only [List.getElem?_cons_zero, Option.some.injEq] at hc hu; subst hc hu; exact hlz
          | succ i => simp only [List.getElem?_cons_succ] at hc hu; exact h4 i c u hc hu
      · cases hv
    · cases hv
  | [], _ :: _, _, hok, _ => by simp [okRes] at hok
  | .tmp _ :: _, [], _, hok, _ => by simp [okRes] at hok
  | .cell _ _ _ :: _, [], _, hok, _ => by simp [okRes] at hok

/-- May this function of the evaluator's stand for that of the model's? -/
def okFn (P : Program) (f : FuncId) (q : AFn) : Bool := match P.funcs[f]? with
  | some fn => (match fn.body with
    | some c => entersB P f && (decide (fn.ntmps = q.nt) && (okRes P q.res fn.results.toList && okCode P q.body c))
    | none => false)
  | none => false

theorem run_results {fn : Func} {tmps : Array Value} {zs : List Value} (h : (List.mapM (fun (x : ResultVar) => match x with | .tmp t => (pure (tmps.getD t undef) : Sem Value) | .cell c t => do loadVar t (← asAddr (tmps.getD c undef))) fn.results.toList).run P w = .ok zs w) :
    (results fn tmps).run P w = .ok (retV zs) w := by
  unfold results
  rw [Array.mapM_eq_mapM_toList, Sem.run_bind]
  have key : ∀ (m : Sem (List Value)), m.run P w = .ok zs w → ((m.run P w).andThen fun a w' => Result.ok a.toArray w').andThen (fun (a : Array Value) w' => Result.ok (if h : a.size = 1 then a[0] else Value.tuple a) w') = .ok (retV zs) w := by
    intro m hm
    rw [hm]
    match zs with
    | [] => rfl
    | [z] => rfl
    | z :: y :: l => simp [retV, Result.andThen]
  simp only [map_eq_pure_bind, Sem.run_bind, Sem.run_pure]
  exact key _ h

/-- A function of which the evaluator tells, in place. -/
theorem fn_in_place (hm : P.follows .mixedOrders = true) (hG : GOk P Γ) (hI : IOk P I) {f : FuncId} {q : AFn} (hok : okFn P f q = true) (hL : LOk Γ Λ I q.body) {cs : List AV} {h : AHeap} {κ : List AV → AHeap → List Nat → Option O} {x : O}
    (he : ev Γ Λ I q.body (q.enter cs h) (kfn q κ) = some x) {us : List Value} (H : HR base w ρ h) (hlen : cs.length = us.length) (hlr : ∀ (i : Nat) (c : AV) (v : Value), cs[i]? = some c → us[i]? = some v → LR w ρ h K0 c v) :
    entersB P f = true ∧ Calls P f us.toArray w fun e w' => ∃ (zs : List Value) (rs : List AV) (h' : AHeap) (ks : List Nat) (ρ' : List RV), e = .returned (retV zs) ∧ HR base w' ρ' h' ∧ Evo h.length ks w ρ h w' ρ' h' ∧ rs.length = zs.length ∧
      (∀ (i : Nat) (c : AV) (v : Value), rs[i]? = some c → zs[i]? = some v → LR w' ρ' h' K0 c v) ∧ κ rs h' ks = some x := by
  unfold okFn at hok
  split at hok
  · rename_i fn hf
    split at hok
    · rename_i c hc
      simp only [Bool.and_eq_true, decide_eq_true_eq] at hok
      obtain ⟨hent, hnt, hres, hcode⟩ := hok
      refine ⟨hent, calls_of_wp hf hc ?_⟩
      have R : Rel base w ρ h ρ (q.enter cs h) { tmps := us.toArray ++ Array.replicate (fn.ntmps - us.toArray.size) undef, defers := [] } w := by
        refine ⟨by simp [AFn.enter, hlen, hnt], fun i c v hc hv => ?_, rfl, H, Evo.refl w ρ h h.length (Nat.le_refl _) [], rfl, fun i j wt g v hc => ?_⟩
        · simp only [AFn.enter] at hc
          by_cases hi : i < cs.length
          · rw [List.getElem?_append_left (by simpa using hi), List.getElem?_map] at hc
            obtain ⟨c', hc', rfl⟩ := Option.map_eq_some_iff.1 hc
            refine noOpt_lr (hlr i c' v hc' ?_)
            rw [Array.getElem?_append_left (by simpa [← hlen] using hi)] at hv
            simpa using hv
          · rw [List.getElem?_append_right (by simpa using Nat.le_of_not_lt hi), List.getElem?_replicate] at hc
            split at hc
            · simp only [Option.some.injEq] at hc; subst hc; exact .any
            · cases hc
        · exfalso
          simp only [AFn.enter] at hc
          by_cases hi : i < cs.length
          · rw [List.getElem?_append_left (by simpa using hi), List.getElem?_map] at hc
            obtain ⟨c', hc', h2⟩ := Option.map_eq_some_iff.1 hc
            cases c' <;> simp only [AV.noOpt, reduceCtorEq] at h2
          · rw [List.getElem?_append_right (by simpa using Nat.le_of_not_lt hi), List.getElem?_replicate] at hc
            split at hc
            · simp only [Option.some.injEq, reduceCtorEq] at hc
            · cases hc
      refine wp_mono (ev_sound hm hG hI q.body hcode hL R rfl he) fun e a' w' ⟨ae, ρ', s', hem, R', hg', hκ⟩ => ?_
      have fin : (∀ i, ae ≠ .exit i) → a'.defers = [] ∧ ∃ v, (results fn a'.tmps).run P w' = .ok v w' ∧ ∃ (zs : List Value) (rs : List AV) (h' : AHeap) (ks : List Nat) (ρ' : List RV), Ending.returned v = .returned (retV zs) ∧ HR base w' ρ' h' ∧ Evo h.length ks w ρ h w' ρ' h' ∧ rs.length = zs.length ∧
          (∀ (i : Nat) (c : AV) (v : Value), rs[i]? = some c → zs[i]? = some v → LR w' ρ' h' K0 c v) ∧ κ rs h' ks = some x := by
        intro hne
        have hk : ∃ vs, resVals s' q.res = some vs ∧ κ vs s'.h s'.k = some x := by
          unfold kfn at hκ
          split at hκ
          · exact absurd rfl (hne _)
          · split at hκ
            · exact ⟨_, by assumption, hκ⟩
            · cases hκ
        obtain ⟨vs, hvs, hκ'⟩ := hk
        obtain ⟨zs, hzs, h1, h2⟩ := res_sound R' hres hvs
        refine ⟨R'.df, _, run_results hzs, zs, vs, s'.h, s'.k, ρ', rfl, R'.hp, ?_, h1, h2, hκ'⟩
        have := R'.ev
        rw [R'.b0] at this
        exact this
      cases e with
      | normal => have := EM.normal hem; subst this; exact fin (by intro i; simp)
      | ret => have := EM.ret hem; subst this; exact fin (by intro i; simp)
      | exit i => have := EM.exit hem; subst this; simp [kfn] at hκ
      | goto l => cases ae <;> simp [EM] at hem
      | panic c => cases ae <;> simp [EM] at hem
      | outgrown => cases ae <;> simp [EM] at hem
    · cases hok
  · cases hok

end

section
variable {P : Program} {O : Type} {Γ : GEnv} {Λ : Nat → LEnv O} {A : ITab} {x : O}

/-- What is to be known of the functions that are carried out in place. -/
def AOk (P : Program) (Γ : GEnv) (Λ : Nat → LEnv O) (A : ITab) : Prop := ∀ f q, A f = some q → okFn P f q = true ∧ ∀ n, LOk Γ (Λ n) (inl Γ Λ A n) q.body

variable [Ban]
theorem inl_ok (hm : P.follows .mixedOrders = true) (hG : GOk P Γ) (hA : AOk P Γ Λ A) : ∀ n, IOk P (inl Γ Λ A n)
  | 0 => fun f cs h κ x he => by simp [inl] at he
  | n + 1 => fun f cs h κ x he base w ρ us H hlen hlr => by
    simp only [inl] at he
    split at he
    · rename_i q hq
      obtain ⟨h1, h2⟩ := hA f q hq
      exact fn_in_place hm hG (inl_ok hm hG hA n) h1 (h2 n) he H hlen hlr
    · cases he
end

theorem frzR_some {h : AHeap} : ∀ {vs rs : List AV}, frzR h vs = some rs → rs.length = vs.length ∧ ∀ (i : Nat) (c d : AV), vs[i]? = some c → rs[i]? = some d → frz h c = some d
  | [], rs, hf => by simp only [frzR, Option.some.injEq] at hf; subst hf; exact ⟨rfl, by simp⟩
  | c :: cs, rs, hf => by
    simp only [frzR] at hf
    split at hf
    · rename_i v hv
      split at hf
      · rename_i vs hvs
        simp only [Option.some.injEq] at hf
        subst hf
        obtain ⟨h1, h2⟩ := frzR_some hvs
        refine ⟨by simp [h1], fun i c' d hc hd => ?_⟩
        cases i with
        | zero => simp only [List.getElem?_cons_zero, Option.some.injEq] at hc hd; subst hc hd; exact hv
        | succ i => simp only [List.getElem?_cons_succ] at hc hd; exact h2 i c' d hc hd
      · cases hf
    · cases hf

/-- **A function of which the evaluator tells, at data.** -/
theorem fn_sound {P : Program} {Γ : GEnv} {Λ : Nat → LEnv (List AV)} {A : ITab} (hm : P.follows .mixedOrders = true) (hG : GOk P Γ) (hA : AOk P Γ Λ A) {f : FuncId} {q : AFn} {d : Nat} (hok : okFn P f q = true) (hL : LOk Γ (Λ d) (inl Γ Λ A d) q.body) {vs rs : List AV} (he : runFn Γ Λ A d q vs = some rs)
    (X : Nat → Prop) (w : World) (us : List Value) (hX : ∀ b, X b → b < w.heap.size) (hl : LRXs w X vs us) :
    entersB P f = true ∧ Calls P f us.toArray w fun e w' => ∃ zs : List Value, e = .returned (retV zs) ∧ Below w.heap.size w w' ∧ LRXs w' X rs zs := by
  have H : @HR ⟨X⟩ w.heap.size w [] [] := @HR.mk ⟨X⟩ w.heap.size w [] [] rfl (Nat.le_refl _) hX (fun r o ho => by cases ho) (fun r q o p a b k ho => by cases ho)
  obtain ⟨h1, h2⟩ := @fn_in_place ⟨X⟩ w.heap.size [] w P (List AV) Γ (Λ d) (inl Γ Λ A d) hm hG (@inl_ok P (List AV) Γ Λ A ⟨X⟩ hm hG hA d) f q hok hL vs [] _ rs he us H hl.1 hl.2
  refine ⟨h1, h2.mono fun e w' ⟨zs, cs, h', ks, ρ', hez, H', ev, h3, h4, hf⟩ => ⟨zs, hez, ⟨ev.os, ev.tape, ev.output, ev.own.size, fun k hk => ev.own.block k hk fun ⟨r, o, rv, hr, _⟩ => by simp at hr⟩, ?_⟩⟩
  obtain ⟨g1, g2⟩ := frzR_some hf
  refine ⟨g1.trans h3, fun i d v hd hv => ?_⟩
  have hlt : i < cs.length := by rw [← g1]; exact (List.getElem?_eq_some_iff.1 hd).1
  have hc : cs[i]? = some cs[i] := by simp [hlt]
  refine @frz_lr ⟨X⟩ w.heap.size ρ' w' h' X H' (fun b hb => Or.inl hb) cs[i] d v (h4 i _ v hc hv) (g2 i _ d hc hd) fun r hr rv b hρ hb hx => ?_
  obtain ⟨U, ys, hz⟩ := frz_owns (g2 i _ d hc hd) hr
  have := @live_base ⟨X⟩ w.heap.size ρ' w' h' H' r _ hz rfl rv b hρ hb
  have := hX b hx
  omega

end Go.Tw
