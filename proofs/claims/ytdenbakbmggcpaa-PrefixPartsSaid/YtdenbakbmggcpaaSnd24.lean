/- Regions that draw their order: every order leads to the same. -/
import Derived.Test.YtdenbakbmggcpaaSnd23
import Derived.StillTail
set_option linter.unusedVariables false
set_option linter.unusedSectionVars false
set_option linter.unusedSimpArgs false
namespace Go.Tw
open Go.RowKit

/-- Who writes a slot. -/
def writer (r : List GOp) (t : Nat) : Option Nat := r.findIdx? (fun q => decide (q.dst = some t))
theorem writer_some {r : List GOp} {t j : Nat} (h : writer r t = some j) : ∃ q, r[j]? = some q ∧ q.dst = some t := by
  unfold writer at h
  rw [List.findIdx?_eq_some_iff_getElem] at h
  obtain ⟨hj, h1, _⟩ := h
  exact ⟨r[j], by simp [hj], by simpa using h1⟩
theorem writer_none {r : List GOp} {t : Nat} (h : writer r t = none) : ∀ q ∈ r, q.dst ≠ some t := by
  unfold writer at h
  rw [List.findIdx?_eq_none_iff] at h
  intro q hq e
  have := h q hq
  simp [e] at this

/-- What a region must meet, operation by operation. -/
def drawAt (r : List GOp) (i : Nat) (o : Oper) (q : GOp) : Bool :=
  o.after.toList.all (fun e => !Region.binds .any e || decide (e.on < i)) &&
  (q.looks.all (fun t => match writer r t with | some j => o.after.toList.any (fun e => Region.binds .any e && e.on == j) | none => true) &&
  (match q.dst with | some d => (match writer r d with | some j => j == i | none => false) | none => true))
def drawL (r : List GOp) : Nat → List Oper → List GOp → Bool
  | _, [], [] => true
  | i, o :: l, q :: p => drawAt r i o q && drawL r (i + 1) l p
  | _, _, _ => false
theorem drawL_at {r : List GOp} : ∀ {i : Nat} {l : List Oper} {p : List GOp}, drawL r i l p = true → ∀ (k : Nat) (o : Oper) (q : GOp), l[k]? = some o → p[k]? = some q → drawAt r (i + k) o q = true
  | i, o :: l, q :: p, h, k, o', q', ho, hq => by
    simp only [drawL, Bool.and_eq_true] at h
    cases k with
    | zero => simp only [List.getElem?_cons_zero, Option.some.injEq] at ho hq; subst ho hq; exact h.1
    | succ k =>
      simp only [List.getElem?_cons_succ] at ho hq
      have := drawL_at h.2 k o' q' ho hq
      rwa [show i + (k + 1) = i + 1 + k by omega]
  | _, [], [], _, k, o', q', ho, _ => by simp at ho
  | _, [], _ :: _, h, _, _, _, _, _ => by simp [drawL] at h
  | _, _ :: _, [], h, _, _, _, _, _ => by simp [drawL] at h
def drawB (l : List Oper) (r : List GOp) : Bool := drawL r 0 l r && quietL r
theorem drawT_at {r : List GOp} {l : List Oper} (hd : drawL r 0 (l.take r.length) r = true) {i : Nat} {o : Oper} {q : GOp} (ho : l[i]? = some o) (hq : r[i]? = some q) : drawAt r i o q = true := by
  have hi := (List.getElem?_eq_some_iff.1 hq).1
  have := drawL_at hd i o q (by rw [List.getElem?_take_of_lt hi]; exact ho) hq
  rwa [Nat.zero_add] at this

theorem okOps_at {P : Program} {ops : Array Oper} : ∀ {l : List Oper} {r : List GOp}, okOps P ops l r = true → l.length = r.length ∧ ∀ (k : Nat) (o : Oper) (q : GOp), l[k]? = some o → r[k]? = some q → okGOp P ops o q = true
  | [], [], _ => ⟨rfl, by simp⟩
  | o :: l, q :: r, h => by
    simp only [okOps, Bool.and_eq_true] at h
    obtain ⟨h1, h2⟩ := okOps_at h.2
    refine ⟨by simp [h1], fun k o' q' ho hq => ?_⟩
    cases k with
    | zero => simp only [List.getElem?_cons_zero, Option.some.injEq] at ho hq; subst ho hq; exact h.1
    | succ k => simp only [List.getElem?_cons_succ] at ho hq; exact h2 k o' q' ho hq
  | [], _ :: _, h => by simp [okOps] at h
  | _ :: _, [], h => by simp [okOps] at h

/-- What slot t holds once some operations have come up. -/
def slotE (r : List GOp) (s S : St) (listed : Array Bool) (t : Nat) : AV := match writer r t with
  | some j => (match listed.getD j false with | true => nth .any S.t t | false => .any)
  | none => nth .any s.t t
def stE (r : List GOp) (s S : St) (listed : Array Bool) : St := ⟨(List.range s.t.length).map (slotE r s S listed), s.h, s.k, s.b, S.g⟩
theorem stE_get (r : List GOp) (s S : St) (listed : Array Bool) (t : Nat) : (stE r s S listed).t[t]? = if t < s.t.length then some (slotE r s S listed t) else none := by
  simp only [stE, List.getElem?_map]
  by_cases h : t < s.t.length
  · rw [List.getElem?_range h]; simp [h]
  · simp [h]

section
variable [Ban] {base : Nat} {w0 : World} {ρ0 : List RV} {h0 : AHeap} {ρ : List RV} {s S : St} {a a' : Act} {w w' : World} {P : Program} {r : List GOp} {l : List Oper} {listed : Array Bool}

structure Inv (base : Nat) (ρ : List RV) (r : List GOp) (l : List Oper) (s S : St) (w : World) (listed : Array Bool) (a : Act) (w' : World) : Prop where
  size : listed.size = l.length
  tl : a.tmps.size = s.t.length
  tm : ∀ (t : Nat) (v : Value), a.tmps[t]? = some v → LR w' ρ s.h K0 (slotE r s S listed t) v
  df : a.defers = []
  hp : HR base w' ρ s.h
  ev : Evo s.h.length [] w ρ s.h w' ρ s.h
  closed : ∀ (i : Nat) (o : Oper), l[i]? = some o → listed.getD i false = true → ∀ e ∈ o.after, Region.binds .any e = true → listed.getD e.on false = true

theorem Inv.looks (I : Inv base ρ r l s S w listed a w') (hL : Lead r s S) (hd : drawL r 0 (l.take r.length) r = true) {i : Nat} {o : Oper} {q : GOp} (ho : l[i]? = some o) (hq : r[i]? = some q) (hall : ∀ e ∈ o.after, Region.binds .any e = true → listed.getD e.on false = true) {t : Nat} (ht : t ∈ q.looks) :
    nth .any (stE r s S listed).t t = nth .any S.t t := by
  rw [nth_get, stE_get]
  split
  · rename_i hlt
    simp only [Option.getD_some, slotE]
    have h1 := drawT_at hd ho hq
    simp only [drawAt, Bool.and_eq_true, List.all_eq_true] at h1
    have h2 := h1.2.1 t ht
    split
    · rename_i j hj
      rw [hj] at h2
      simp only [List.any_eq_true, Bool.and_eq_true, beq_iff_eq] at h2
      obtain ⟨e, he, hb, rfl⟩ := h2
      rw [hall e (by simpa using he) hb]
    · rename_i hj
      exact (hL.old t (writer_none hj)).symm
  · rename_i hlt
    rw [nth_get, List.getElem?_eq_none (by rw [hL.len]; omega)]

theorem Inv.rel (R : Rel base w0 ρ0 h0 ρ s a' w) (hs : s.g = []) (I : Inv base ρ r l s S w listed a w') {Γ : GEnv} (hF : ∀ q ∈ r, Fact Γ q S) (hL : Lead r s S) (hd : drawL r 0 (l.take r.length) r = true) (hlen : r.length ≤ l.length) : Rel base w0 ρ0 h0 ρ (stE r s S listed) a w' := by
  have Rb := R.move I.hp I.ev
  refine ⟨by simp [stE, I.tl], fun i c v hc hv => ?_, I.df, Rb.hp, Rb.ev, Rb.b0, fun i j wt g v hc => ?_⟩
  · rw [stE_get] at hc
    split at hc
    · simp only [Option.some.injEq] at hc
      subst hc
      exact I.tm i v hv
    · cases hc
  · rw [stE_get] at hc
    split at hc
    · rename_i hlt
      simp only [Option.some.injEq, slotE] at hc
      split at hc
      · rename_i k hk
        obtain ⟨q, hq, hqd⟩ := writer_some hk
        split at hc
        · rename_i hli
          have hkl : k < l.length := Nat.lt_of_lt_of_le (List.getElem?_eq_some_iff.1 hq).1 hlen
          have ho : l[k]? = some l[k] := by simp [hkl]
          have hf := hF q (List.mem_of_getElem? hq)
          have hlk := fun t (ht : t ∈ q.looks) => I.looks hL hd ho hq (I.closed k _ ho hli) ht
          unfold Fact at hf
          split at hf
          · obtain ⟨v', _, h2, h3⟩ := hf
            have := h3 i hqd (by rw [hL.len]; exact hlt)
            rw [hc] at this
            rw [← this] at h2
            cases h2
          · rename_i j' b' hg
            obtain ⟨g', c', v', h1, h2, h3, h4, h5⟩ := hf
            have := h5 i hqd (by rw [hL.len]; exact hlt)
            rw [hc] at this
            simp only [AV.opt.injEq] at this
            obtain ⟨rfl, rfl, rfl, _⟩ := this
            exact ⟨h4, by rw [hlk _ (by unfold GOp.looks; rw [hg]; simp)]; exact h1⟩
        · cases hc
      · have hi : s.t[i]? = some (.opt j wt g v) := by
          rw [nth_get] at hc
          have : i < s.t.length := hlt
          rw [List.getElem?_eq_getElem this] at hc ⊢
          simpa using hc
        have := (R.op i j wt g v hi).1
        rw [hs] at this
        cases this
    · cases hc

theorem getD_set_true' {listed : Array Bool} {i j : Nat} {b : Bool} (h : listed.getD j b = true) : (listed.setIfInBounds i true).getD j b = true := by
  simp only [Array.getD_eq_getD_getElem?, Array.getElem?_setIfInBounds] at h ⊢
  split
  · split
    · rfl
    · rename_i hij hlt
      subst hij
      rw [Array.getElem?_eq_none (by omega)] at h
      exact h
  · exact h
theorem getD_set_self {listed : Array Bool} {i : Nat} {b : Bool} (h : i < listed.size) : (listed.setIfInBounds i true).getD i b = true := by
  simp [Array.getD_eq_getD_getElem?, Array.getElem?_setIfInBounds, h]
theorem getD_set_other {listed : Array Bool} {i j : Nat} {b : Bool} (h : i ≠ j) : (listed.setIfInBounds i true).getD j b = listed.getD j b := by
  simp [Array.getD_eq_getD_getElem?, Array.getElem?_setIfInBounds, h]

/-- One operation has come up. -/
theorem Inv.step (I : Inv base ρ r l s S w listed a w') (hL : Lead r s S) (hd : drawL r 0 (l.take r.length) r = true) {i : Nat} {o : Oper} {q : GOp} (ho : l[i]? = some o) (hq : r[i]? = some q) (hall : ∀ e ∈ o.after, Region.binds .any e = true → listed.getD e.on false = true)
    {z : Value} {w2 : World} (hb : Below w'.heap.size w' w2) (hz : ∀ d, q.dst = some d → d < S.t.length → LR w2 ρ s.h K0 (nth .any S.t d) z) : Inv base ρ r l s S w (listed.setIfInBounds i true) (a.put q.dst z) w2 := by
  have hil : i < listed.size := by rw [I.size]; exact (List.getElem?_eq_some_iff.1 ho).1
  have h1 := drawT_at hd ho hq
  simp only [drawAt, Bool.and_eq_true] at h1
  have hw := h1.2.2
  refine ⟨by simpa using I.size, by cases q.dst <;> simp [Act.put, I.tl], fun t v hv => ?_, by cases q.dst <;> exact I.df, I.hp.below hb, I.ev.trans (Evo.below hb _ (Nat.le_refl _)) (Nat.le_refl _) (fun q _ h => h.elim id id), fun j oj hj hli e he hbe => ?_⟩
  · by_cases htd : q.dst = some t
    · rw [htd] at hv hw
      simp only [Act.put, Array.getElem?_setIfInBounds, if_true] at hv
      split at hv
      · rename_i hlt
        simp only [Option.some.injEq] at hv
        subst hv
        have hwt : writer r t = some i := by
          simp only at hw
          split at hw
          · rename_i j hj; rw [hj]; congr 1; simpa using hw
          · cases hw
        have hlt' : t < S.t.length := by rw [hL.len, ← I.tl]; exact hlt
        simp only [slotE, hwt]
        rw [getD_set_self hil]
        exact hz t htd hlt'
      · cases hv
    · have hv' : a.tmps[t]? = some v := by
        cases hqd : q.dst with
        | none => rw [hqd] at hv; exact hv
        | some d =>
          rw [hqd] at hv htd
          simp only [Act.put, Array.getElem?_setIfInBounds] at hv
          rw [if_neg (fun e => htd (by rw [e]))] at hv
          exact hv
      have : slotE r s S (listed.setIfInBounds i true) t = slotE r s S listed t := by
        unfold slotE
        split
        · rename_i j hj
          have hji : i ≠ j := fun e => by
            subst e
            obtain ⟨q', hq', hqd'⟩ := writer_some hj
            rw [hq] at hq'
            simp only [Option.some.injEq] at hq'
            subst hq'
            exact htd hqd'
          rw [getD_set_other hji]
        · rfl
      rw [this]
      exact (I.tm t v hv').grow hb
  · by_cases hij : i = j
    · subst hij
      rw [ho] at hj
      simp only [Option.some.injEq] at hj
      subst hj
      exact getD_set_true' (hall e he hbe)
    · rw [getD_set_other hij] at hli
      exact getD_set_true' (I.closed j oj hj hli e he hbe)

/-- How many have not come up. -/
def left (listed : Array Bool) : Nat := listed.toList.countP (fun b => !b)
theorem left_set {listed : Array Bool} {i : Nat} (h : i < listed.size) (hi : listed[i]? = some false) : left (listed.setIfInBounds i true) + 1 = left listed := by
  unfold left
  rw [Array.toList_setIfInBounds, List.countP_set (by simpa using h)]
  have he : listed.toList[i]'(by simpa using h) = false := by
    have := (Array.getElem?_eq_some_iff.1 hi).2
    simpa using this
  have hpos : 0 < listed.toList.countP (fun b => !b) := List.countP_pos_iff.2 ⟨false, by rw [← he]; exact List.getElem_mem _, rfl⟩
  rw [he]
  simp only [Bool.not_false, if_true, Bool.not_true, Bool.false_eq_true, if_false]
  omega

theorem ready_not {i : Nat} (hsz : listed.size = l.toArray.size) (h : i ∈ Region.ready .any l.toArray listed) : ∃ o, l[i]? = some o ∧ (∀ e ∈ o.after, Region.binds .any e = true → listed.getD e.on false = true) ∧ i < listed.size ∧ listed[i]? = some false := by
  obtain ⟨h1, o, h2, h3⟩ := mem_ready.1 h
  have ho : l[i]? = some o := by simpa using h2
  have hi : i < listed.size := by rw [hsz]; simpa using (List.getElem?_eq_some_iff.1 ho).1
  refine ⟨o, ho, h3, hi, ?_⟩
  simp only [Array.getD_eq_getD_getElem?, Array.getElem?_eq_getElem hi, Option.getD_some] at h1
  rw [Array.getElem?_eq_getElem hi, h1]

/-- While one of the first has not come up, one of them can. -/
theorem some_ready (hd : drawL r 0 (l.take r.length) r = true) (hlen : r.length ≤ l.length) (hsz : listed.size = l.length) (hr : Region.ready .any l.toArray listed = []) : ∀ i, i < r.length → listed.getD i false = true := by
  intro i
  induction i using Nat.strongRecOn with
  | _ i ih =>
    intro hi
    have hil : i < l.length := by omega
    have ho : l[i]? = some l[i] := by simp [hil]
    have hq : r[i]? = some r[i] := by simp [hi]
    have h1 := drawT_at hd ho hq
    simp only [drawAt, Bool.and_eq_true, List.all_eq_true] at h1
    cases hl : listed.getD i false with
    | true => rfl
    | false =>
      exfalso
      have hlt : i < listed.size := by omega
      have h2 : listed.getD i true = false := by
        simp only [Array.getD_eq_getD_getElem?, Array.getElem?_eq_getElem hlt, Option.getD_some] at hl ⊢
        exact hl
      have : i ∈ Region.ready .any l.toArray listed := mem_ready.2 ⟨h2, l[i], by simp [hil], fun e he hb => by
        have := h1.1 e (by simpa using he)
        rw [hb] at this
        simp only [Bool.not_true, Bool.false_or, decide_eq_true_eq] at this
        exact ih e.on this (by omega)⟩
      rw [hr] at this
      cases this

theorem stE_all (hL : Lead r s S) (h : ∀ i, i < r.length → listed.getD i false = true) : stE r s S listed = S := by
  have ht : (List.range s.t.length).map (slotE r s S listed) = S.t := by
    apply List.ext_getElem?
    intro t
    have h1 := stE_get r s S listed t
    simp only [stE] at h1
    rw [h1]
    split
    · rename_i hlt
      have hltS : t < S.t.length := by rw [hL.len]; exact hlt
      have e1 : S.t[t]? = some (nth .any S.t t) := by rw [nth_get, List.getElem?_eq_getElem hltS]; rfl
      rw [e1]
      congr 1
      unfold slotE
      split
      · rename_i j hj
        obtain ⟨q, hq, _⟩ := writer_some hj
        rw [h j (List.getElem?_eq_some_iff.1 hq).1]
      · rename_i hj
        exact (hL.old t (writer_none hj)).symm
    · rename_i hlt
      rw [List.getElem?_eq_none (by rw [hL.len]; omega)]
  unfold stE
  rw [ht, ← hL.h, ← hL.k, ← hL.b]

/-- One of the quiet operations comes up. -/
theorem draw_step {Γ : GEnv} (hG : GOk P Γ) (hlen : r.length ≤ l.length) (hat : ∀ (k : Nat) (o : Oper) (q : GOp), l[k]? = some o → r[k]? = some q → okGOp P l.toArray o q = true) (hd : drawL r 0 (l.take r.length) r = true) (R : Rel base w0 ρ0 h0 ρ s a' w) (hs : s.g = []) (hF : ∀ q ∈ r, Fact Γ q S) (hL : Lead r s S) {Q : Exit → Act → World → Prop} :
    ∀ (K : Act → World → Prop) (listed : Array Bool) (a : Act) (w' : World), Inv base ρ r l s S w listed a w' → ∀ i, i ∈ Region.ready .any l.toArray listed → i < r.length → (∀ (q : GOp) (z : Value) (w2 : World), r[i]? = some q → Below w'.heap.size w' w2 → Inv base ρ r l s S w (listed.setIfInBounds i true) (a.put q.dst z) w2 → K (a.put q.dst z) w2) → wpOp P l.toArray Q i K a w' := by
  intro K listed a w' I i hi hir hK
  obtain ⟨o, ho, hall, hil, hif⟩ := ready_not (by simpa using I.size) hi
  have hq : r[i]? = some r[i] := by simp [hir]
  generalize r[i] = q at hq
  have hoq := hat i o q ho hq
  simp only [okGOp, Bool.and_eq_true, decide_eq_true_eq] at hoq
  obtain ⟨hgd, hdst, hop⟩ := hoq
  have Re := I.rel R hs hF hL hd hlen
  have hlk := fun t (ht : t ∈ q.looks) => I.looks hL hd ho hq hall ht
  have hf := hF q (List.mem_of_getElem? hq)
  have hsame : ∀ gd, q.op.pure Γ gd (stE r s S listed) = q.op.pure Γ gd S := fun gd => pure_same gd ⟨hL.h.symm, fun t ht => hlk t (by unfold GOp.looks; simp [ht])⟩
  unfold wpOp
  have hot : l.toArray[i]? = some o := by simpa using ho
  simp only [hot]
  unfold Fact at hf
  split at hf
  · rename_i hg
    obtain ⟨v, h1, h2, h3⟩ := hf
    rw [hg] at hgd
    rw [if_pos (wanted_none hgd)]
    refine .inl (sound_pure (v := v) hG Re GH.none hop (by rw [hsame]; exact h1) _ Q fun z w2 ⟨hb, hl⟩ => ?_)
    rw [hdst]
    exact hK q z w2 hq hb (I.step hL hd ho hq hall hb fun d hd' hdl => by rw [h3 d hd' hdl]; exact hl)
  · rename_i j b hg
    obtain ⟨g, c, v, h1, h2, h3, h4, h5⟩ := hf
    rw [hg] at hgd
    have hw := wanted_some (a := a) hgd
    have hgv := Re.gval (wt := b) (g := g) (j := j) (by rw [hlk j (by unfold GOp.looks; rw [hg]; simp)]; exact h1)
    cases g with
    | true =>
      rw [if_pos (hw.2 (hgv.2 rfl))]
      simp only [Bool.not_true, Bool.or_false] at h3
      subst h3
      refine .inl (sound_pure (v := v) hG Re (gd := some (j, b)) (fun i' c' hi' => by
        simp only [Option.some.injEq, Prod.mk.injEq] at hi'
        obtain ⟨rfl, rfl⟩ := hi'
        exact hgv.2 rfl) hop (by rw [hsame]; exact h2) _ Q fun z w2 ⟨hb, hl⟩ => ?_)
      rw [hdst]
      exact hK q z w2 hq hb (I.step hL hd ho hq hall hb fun d hd' hdl => by rw [h5 d hd' hdl]; exact .opt (fun _ => hl) (fun h => by cases h))
    | false =>
      rw [if_neg (fun h => by have := hgv.1 (hw.1 h); cases this)]
      rw [hdst]
      exact hK q undef w' hq (Below.refl _ _) (I.step hL hd ho hq hall (Below.refl _ _) fun d hd' hdl => by rw [h5 d hd' hdl]; exact .opt (fun h => by cases h) (fun _ => rfl))
theorem any_order {Γ : GEnv} (hG : GOk P Γ) (hlen : r.length ≤ l.length) (hat : ∀ (k : Nat) (o : Oper) (q : GOp), l[k]? = some o → r[k]? = some q → okGOp P l.toArray o q = true) (hd : drawL r 0 (l.take r.length) r = true) (R : Rel base w0 ρ0 h0 ρ s a' w) (hs : s.g = []) (hF : ∀ q ∈ r, Fact Γ q S) (hL : Lead r s S) {Q : Exit → Act → World → Prop}
    (hT : ∀ listed : Array Bool, listed.size = l.length → (∀ (i : Nat) (o : Oper), l[i]? = some o → listed.getD i false = true → ∀ e ∈ o.after, Region.binds .any e = true → listed.getD e.on false = true) → (∀ t, r.length ≤ t → t < l.length → listed.getD t true = false) → (∃ i, i < r.length ∧ listed.getD i false = false) → ∀ i ∈ Region.ready .any l.toArray listed, i < r.length)
    (hfin : ∀ (fuel : Nat) (listed : Array Bool) (a : Act) (w' : World), left listed = fuel → listed.size = l.length → (∀ i, i < r.length → listed.getD i false = true) → (∀ t, r.length ≤ t → t < l.length → listed.getD t true = false) → Rel base w0 ρ0 h0 ρ S a w' → wpAny P .any l.toArray Q fuel listed a w') :
    ∀ (fuel : Nat) (listed : Array Bool) (a : Act) (w' : World), left listed = fuel → Inv base ρ r l s S w listed a w' → (∀ t, r.length ≤ t → t < l.length → listed.getD t true = false) → wpAny P .any l.toArray Q fuel listed a w' := by
  have one := draw_step (Q := Q) hG hlen hat hd R hs hF hL
  intro fuel
  induction fuel with
  | zero =>
    intro listed a w' hle I ht
    have hall : ∀ i, i < r.length → listed.getD i false = true := by
      intro i hi
      cases hl : listed.getD i false with
      | true => rfl
      | false =>
        have hlt : i < listed.size := by rw [I.size]; omega
        have hif : listed[i]? = some false := by
          simp only [Array.getD_eq_getD_getElem?, Array.getElem?_eq_getElem hlt, Option.getD_some] at hl
          rw [Array.getElem?_eq_getElem hlt, hl]
        have := left_set hlt hif
        omega
    have Re := I.rel R hs hF hL hd hlen
    rw [stE_all hL hall] at Re
    exact hfin 0 listed a w' hle I.size hall ht Re
  | succ fuel ih =>
    intro listed a w' hle I ht
    by_cases hall : ∀ i, i < r.length → listed.getD i false = true
    · have Re := I.rel R hs hF hL hd hlen
      rw [stE_all hL hall] at Re
      exact hfin _ listed a w' hle I.size hall ht Re
    · obtain ⟨i0, hi0, hl0⟩ : ∃ i, i < r.length ∧ listed.getD i false = false := by
        apply Classical.byContradiction
        intro hn
        apply hall
        intro i hi
        cases hl : listed.getD i false with
        | true => rfl
        | false => exact absurd ⟨i, hi, hl⟩ hn
      refine ⟨fun hr => absurd (some_ready hd hlen I.size hr) hall, fun i hi => ?_⟩
      have hir := hT listed I.size I.closed ht ⟨i0, hi0, hl0⟩ i hi
      obtain ⟨o, _, _, hil, hif⟩ := ready_not (by simpa using I.size) hi
      have := left_set hil hif
      exact one _ listed a w' I i hi hir fun q z w2 _ _ I2 => ih _ _ w2 (by omega) I2 fun t h1 h2 => by rw [getD_set_other (by omega)]; exact ht t h1 h2

theorem getD_rep_false (n j : Nat) : (Array.replicate n false).getD j false = false := by
  simp only [Array.getD_eq_getD_getElem?, Array.getElem?_replicate]
  split <;> rfl

theorem left_replicate (n : Nat) : left (Array.replicate n false) = n := by
  unfold left
  rw [Array.toList_replicate]
  induction n with
  | zero => rfl
  | succ n ih => rw [List.replicate_succ, List.countP_cons, ih]; simp

theorem inv_start (R : Rel base w0 ρ0 h0 ρ s a w) : Inv base ρ r l s S w (Array.replicate l.toArray.size false) a w.drew := by
  refine ⟨by simp, R.tl, fun t v hv => ?_, R.df, R.hp.below (Below.refl _ w).drew, Evo.below (Below.refl _ w).drew _ (Nat.le_refl _), fun i o _ hli => by rw [getD_rep_false] at hli; cases hli⟩
  have ht : t < s.t.length := by rw [← R.tl]; exact (Array.getElem?_eq_some_iff.1 hv).1
  have hb : Below w.heap.size w w.drew := (Below.refl _ w).drew
  have : LR w ρ s.h K0 (slotE r s S (Array.replicate l.toArray.size false) t) v := by
    unfold slotE
    split
    · rw [getD_rep_false]; exact .any
    · have h1 : s.t[t]? = some (nth .any s.t t) := by rw [nth_get, List.getElem?_eq_getElem ht]; rfl
      exact R.tm t _ v h1 hv
  exact this.grow hb

theorem region_draw {O : Type} {Γ : GEnv} {I : Inl O} (hm : P.follows .mixedOrders = true) (hG : GOk P Γ) {id : Nat} (hok : okOps P l.toArray l r = true) (hdr : drawB l r = true) (R : Rel base w0 ρ0 h0 ρ s a w) (hs : s.g = []) {κ : St → Option O} {x : O} (he : evOps Γ I r s κ = some x)
    {Q : Exit → Act → World → Prop} (hn : Goes base w0 ρ0 h0 κ x (Q .normal)) : (Code.region id l.toArray true).wp P Q a w := by
  simp only [drawB, Bool.and_eq_true] at hdr
  obtain ⟨S, hκ, hL, hF⟩ := evOps_quiet hdr.2 he
  obtain ⟨hlen, hat⟩ := okOps_at hok
  refine wp_region_any hm ?_
  refine any_order hG (Nat.le_of_eq hlen.symm) hat (by rw [← hlen, List.take_length]; exact hdr.1) R hs hF hL (fun listed hsz _ _ _ i hi => ?_) (fun fuel listed a2 w2 hle hsz hall _ Re => ?_) _ _ _ _ ?_ (inv_start R) (fun t h1 h2 => by omega)
  · obtain ⟨o, ho, _⟩ := ready_not (by simpa using hsz) hi
    rw [← hlen]
    exact (List.getElem?_eq_some_iff.1 ho).1
  · have hr : Region.ready .any l.toArray listed = [] := by
      refine List.eq_nil_iff_forall_not_mem.2 fun i hi => ?_
      obtain ⟨o, ho, _, hil, hif⟩ := ready_not (by simpa using hsz) hi
      have h1 := hall i (by rw [← hlen]; exact (List.getElem?_eq_some_iff.1 ho).1)
      simp [Array.getD_eq_getD_getElem?, hif] at h1
    have hq := hn ρ S a2 w2 Re hκ
    cases fuel with
    | zero => exact ⟨hr, hq⟩
    | succ fuel => exact ⟨fun _ => hq, fun i hi => by rw [hr] at hi; cases hi⟩
  · simpa using left_replicate l.toArray.size

/-! ### quiet operations, and then others, one behind the other -/
def drawTB (l : List Oper) (r : List GOp) (n : Nat) : Bool :=
  decide (n < l.length) && (decide (l.length = r.length) && (drawL (r.take n) 0 (l.take n) (r.take n) && (quietL (r.take n) && (Region.sinkB .any l.toArray n && (Region.chainB .any l.toArray n && Region.seqB .any l.toArray (l.length - n) n ((List.range l.length).map fun i => decide (i < n)).toArray)))))

theorem evOps_append {O : Type} {Γ : GEnv} {I : Inl O} : ∀ (r t : List GOp) (s : St) (κ : St → Option O), evOps Γ I (r ++ t) s κ = evOps Γ I r s fun s => evOps Γ I t s κ
  | [], t, s, κ => rfl
  | q :: r, t, s, κ => by
    simp only [List.cons_append, evOps]
    congr 1
    funext s1
    exact evOps_append r t s1 κ

theorem okOps_drop {ops : Array Oper} : ∀ {l : List Oper} {r : List GOp} (n : Nat), okOps P ops l r = true → okOps P ops (l.drop n) (r.drop n) = true
  | l, r, 0, h => h
  | [], [], n + 1, h => rfl
  | o :: l, q :: r, n + 1, h => by
    simp only [okOps, Bool.and_eq_true] at h
    exact okOps_drop n h.2
  | [], _ :: _, n + 1, h => by simp [okOps] at h
  | _ :: _, [], n + 1, h => by simp [okOps] at h

theorem region_drawT {O : Type} {Γ : GEnv} {I : Inl O} (hm : P.follows .mixedOrders = true) (hG : GOk P Γ) (hI : IOk P I) {id n : Nat} (hok : okOps P l.toArray l r = true) (hdr : drawTB l r n = true) (R : Rel base w0 ρ0 h0 ρ s a w) (hs : s.g = []) {κ : St → Option O} {x : O} (he : evOps Γ I r s κ = some x)
    {Q : Exit → Act → World → Prop} (hn : Goes base w0 ρ0 h0 κ x (Q .normal)) : (Code.region id l.toArray true).wp P Q a w := by
  simp only [drawTB, Bool.and_eq_true, decide_eq_true_eq] at hdr
  obtain ⟨hnl, hlr, hdl, hql, hsk, hch, hsq⟩ := hdr
  obtain ⟨hlen, hat⟩ := okOps_at hok
  have htl : (r.take n).length = n := by rw [List.length_take]; omega
  rw [← List.take_append_drop n r, evOps_append] at he
  obtain ⟨S, hκ, hL, hF⟩ := evOps_quiet hql he
  refine wp_region_any hm ?_
  refine any_order (r := r.take n) hG (by rw [htl]; omega) (fun k o q ho hq => hat k o q ho (by
      have hk : k < n := by have := (List.getElem?_eq_some_iff.1 hq).1; rw [htl] at this; exact this
      rwa [List.getElem?_take_of_lt hk] at hq)) (by rw [htl]; exact hdl) R hs hF hL (fun listed hsz hcl ht ⟨i0, hi0, hl0⟩ i hi => ?_) (fun fuel listed a2 w2 hle hsz hall ht Re => ?_) _ _ _ _ ?_ (inv_start R) (fun t h1 h2 => ?_)
  · rw [htl] at *
    apply Nat.lt_of_not_le
    intro hge
    have hlt0 : i0 < listed.size := by rw [hsz]; omega
    refine tail_waits (md := .any) hsk hch (by simpa using hnl) ⟨by simpa using hsz, fun j oj hj => hcl j oj (by simpa using hj), fun t h1 h2 => ht t h1 (by simpa using h2)⟩ _ i0 rfl hi0 ?_ i hge hi
    simp only [Array.getD_eq_getD_getElem?, Array.getElem?_eq_getElem hlt0, Option.getD_some] at hl0 ⊢
    exact hl0
  · rw [htl] at hall ht
    have e : listed = ((List.range l.length).map fun i => decide (i < n)).toArray := by
      apply Array.ext_getElem?
      intro i
      by_cases hi : i < l.length
      · have hil : i < listed.size := by rw [hsz]; exact hi
        rw [Array.getElem?_eq_getElem hil]
        simp only [List.getElem?_toArray, List.getElem?_map, List.getElem?_range hi, Option.map_some, Option.some.injEq]
        by_cases hin : i < n
        · have := hall i hin
          simp only [Array.getD_eq_getD_getElem?, Array.getElem?_eq_getElem hil, Option.getD_some] at this
          simp [this, hin]
        · have := ht i (by omega) hi
          simp only [Array.getD_eq_getD_getElem?, Array.getElem?_eq_getElem hil, Option.getD_some] at this
          simp [this, hin]
      · rw [Array.getElem?_eq_none (by omega), Array.getElem?_eq_none (by simp; omega)]
    have hfuel : fuel = (l.drop n).length := by
      rw [← hle, e]
      unfold left
      simp only [List.length_drop]
      have : ∀ m, n ≤ m → ((List.range m).map fun i => decide (i < n)).countP (fun b => !b) = m - n := by
        intro m
        induction m with
        | zero => intro _; simp
        | succ m ih =>
          intro hm
          rw [List.range_succ, List.map_append, List.countP_append]
          rcases Nat.lt_or_ge m n with h | h
          · have hmn : m + 1 = n := by omega
            have hz : ((List.range m).map fun i => decide (i < n)).countP (fun b => !b) = 0 := by
              rw [List.countP_eq_zero]
              intro b hb
              obtain ⟨i, hi, rfl⟩ := List.mem_map.1 hb
              have := List.mem_range.1 hi
              simp; omega
            have h1 : ¬ n ≤ m := by omega
            rw [hz]
            simp [h1]
            omega
          · have h1 : n ≤ m := h
            rw [ih h]
            simp [h1]
            omega
      exact this l.length (by omega)
    have hw := evOps_sound (Q := Q) hG hI (okOps_drop n hok) Re hκ hn
    rw [hfuel, e]
    refine wpAny_of_seq (md := .any) (l.drop n) n _ a2 w2 (fun j => by simp [List.getElem?_drop]) ?_ hw
    rw [List.length_drop]
    exact hsq
  · simpa using left_replicate l.toArray.size
  · rw [Array.getD_eq_getD_getElem?, Array.getElem?_replicate, if_pos (by simpa using h2)]
    rfl

end
end Go.Tw
