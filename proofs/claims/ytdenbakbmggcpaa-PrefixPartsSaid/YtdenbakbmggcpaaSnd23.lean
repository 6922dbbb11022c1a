/- Regions that draw their order. -/
import Derived.Test.YtdenbakbmggcpaaSnd22
import Derived.Orders
set_option linter.unusedVariables false
set_option linter.unusedSectionVars false
set_option linter.unusedSimpArgs false
namespace Go.Tw
open Go.RowKit

/-! ### an operation looks at its slots alone -/
def AX.slots : AX → List Nat
  | .tmp i => [i]
  | .cst _ => []
def slotsO : Option AX → List Nat
  | some x => x.slots
  | none => []
def slotsP : List (List AV ⊕ (AX × Nat)) → List Nat
  | [] => []
  | .inl _ :: ps => slotsP ps
  | .inr (x, _) :: ps => x.slots ++ slotsP ps
def slotsL (xs : List AX) : List Nat := xs.flatMap AX.slots
def AOp.slots : AOp → List Nat
  | .mov x | .not x | .neg x | .conv _ x | .load x _ _ | .fa x _ | .fld x _ _ _ | .len x | .lens x | .mlen x | .ext x _ | .box x _ | .mk _ x _ => x.slots
  | .pand x y | .por x y | .bin _ x y | .eqs _ _ x y | .eqb _ x y | .min x y | .max x y | .ia x y _ | .appf _ x y _ | .app _ x y _ | .copy _ x y | .store x y _ | .iarr x y _ _ | .idx x y _ _ _ | .trunc _ x y => x.slots ++ y.slots
  | .build ps => slotsP ps
  | .slc _ x lo hi => x.slots ++ (slotsO lo ++ slotsO hi)
  | .slc3 _ x lo hi mx => x.slots ++ (slotsO lo ++ (hi.slots ++ mx.slots))
  | .litf _ xs | .lit _ xs | .mkfn _ xs | .call _ xs | .icall _ xs => slotsL xs
  | .pcall f xs | .vcall f xs => f.slots ++ slotsL xs
  | .mlook _ _ _ m x => m.slots ++ x.slots
  | .mset _ _ _ m x v => m.slots ++ (x.slots ++ v.slots)
  | .new _ | .mkmap _ _ _ _ => []
def AOp.quiet : AOp → Bool
  | .new _ | .box _ _ | .lit _ _ | .mk _ _ _ | .store _ _ _ | .app _ _ _ _ | .copy _ _ _ | .icall _ _ | .vcall _ _ | .iarr _ _ _ _ | .idx _ _ _ _ _ | .trunc _ _ _ | .mkmap _ _ _ _ | .mset _ _ _ _ _ _ => false
  | _ => true

/-- The slots ts hold the same. -/
def SameOn (ts : List Nat) (s s' : St) : Prop := s.h = s'.h ∧ ∀ t, t ∈ ts → nth .any s.t t = nth .any s'.t t
theorem SameOn.left {ts us : List Nat} {s s' : St} (h : SameOn (ts ++ us) s s') : SameOn ts s s' := ⟨h.1, fun t ht => h.2 t (List.mem_append.2 (.inl ht))⟩
theorem SameOn.right {ts us : List Nat} {s s' : St} (h : SameOn (ts ++ us) s s') : SameOn us s s' := ⟨h.1, fun t ht => h.2 t (List.mem_append.2 (.inr ht))⟩
theorem val_same {x : AX} {s s' : St} (h : SameOn x.slots s s') : x.val s = x.val s' := by
  cases x with
  | tmp i => exact h.2 i (by simp [AX.slots])
  | cst v => rfl
theorem get_same {x : AX} {s s' : St} (h : SameOn x.slots s s') (gd : Option (Nat × Bool)) : x.get gd s = x.get gd s' := by simp only [AX.get, val_same h]
theorem low_same {x : Option AX} {s s' : St} (h : SameOn (slotsO x) s s') (gd : Option (Nat × Bool)) : lowOf gd s x = lowOf gd s' x := by
  cases x with
  | some x => exact get_same h gd
  | none => rfl
theorem parts_same {s s' : St} (gd : Option (Nat × Bool)) : ∀ {ps : List (List AV ⊕ (AX × Nat))}, SameOn (slotsP ps) s s' → parts gd s ps = parts gd s' ps
  | [], _ => rfl
  | .inl cs :: ps, h => by simp only [parts]; rw [parts_same gd (ps := ps) h]
  | .inr (x, n) :: ps, h => by
    simp only [slotsP] at h
    simp only [parts]
    rw [get_same h.left, h.1, parts_same gd h.right]
theorem elems_same {s s' : St} (gd : Option (Nat × Bool)) (h : AHeap) (T : Ty) : ∀ {xs : List AX}, SameOn (slotsL xs) s s' → elems gd s h T xs = elems gd s' h T xs
  | [], _ => rfl
  | x :: xs, hs => by
    simp only [slotsL, List.flatMap_cons] at hs
    simp only [elems]
    rw [get_same hs.left, elems_same gd h T (xs := xs) hs.right]
theorem args_same {s s' : St} (gd : Option (Nat × Bool)) : ∀ {xs : List AX}, SameOn (slotsL xs) s s' → argsOf gd s xs = argsOf gd s' xs
  | [], _ => rfl
  | x :: xs, hs => by
    simp only [slotsL, List.flatMap_cons] at hs
    simp only [argsOf]
    rw [get_same hs.left, hs.1, args_same gd (xs := xs) hs.right]
theorem lends_same {s s' : St} (gd : Option (Nat × Bool)) : ∀ {xs : List AX}, SameOn (slotsL xs) s s' → lends gd s xs = lends gd s' xs
  | [], _ => rfl
  | x :: xs, hs => by
    simp only [slotsL, List.flatMap_cons] at hs
    simp only [lends]
    rw [get_same hs.left, lends_same gd (xs := xs) hs.right]
theorem tame_same {s s' : St} (gd : Option (Nat × Bool)) {xs : List AX} (hs : SameOn (slotsL xs) s s') (r : List AV) (v : CV) : tame gd s xs r v = tame gd s' xs r v := by simp only [tame, lends_same gd hs]
theorem vals_same {s s' : St} : ∀ {xs : List AX}, SameOn (slotsL xs) s s' → (xs.map fun x => x.val s) = xs.map fun x => x.val s'
  | [], _ => rfl
  | x :: xs, hs => by
    simp only [slotsL, List.flatMap_cons] at hs
    simp only [List.map_cons]
    rw [val_same hs.left, vals_same (xs := xs) hs.right]

theorem pure_same {Γ : GEnv} {s s' : St} (gd : Option (Nat × Bool)) {x : AOp} (h : SameOn x.slots s s') : x.pure Γ gd s = x.pure Γ gd s' := by
  cases x <;> simp only [AOp.slots] at h <;> simp only [AOp.pure]
  case mov x => rw [get_same h]
  case not x => rw [get_same h]
  case neg x => rw [get_same h]
  case conv k x => rw [get_same h]
  case load x n agg => rw [get_same h, h.1]
  case fa x n => rw [get_same h, h.1]
  case fld x n m agg => rw [get_same h]
  case len x => rw [get_same h, h.1]
  case lens x => rw [get_same h]
  case ext x i => rw [get_same h]
  case pand x y => rw [get_same h.left, get_same h.right]
  case por x y => rw [get_same h.left, get_same h.right]
  case bin op x y => rw [get_same h.left, get_same h.right]
  case eqs ng ks x y => rw [get_same h.left, get_same h.right]
  case eqb ng x y => rw [get_same h.left, get_same h.right]
  case min x y => rw [get_same h.left, get_same h.right]
  case max x y => rw [get_same h.left, get_same h.right]
  case ia x y n => rw [get_same h.left, get_same h.right, h.1]
  case appf T x y lim => rw [get_same h.left, get_same h.right, h.1]
  case build ps => rw [parts_same gd h]
  case slc T x lo hi =>
    cases hi with
    | some hi => simp only [slotsO] at h; simp only [get_same h.left, low_same h.right.left, get_same h.right.right]
    | none => simp only [get_same h.left, low_same h.right.left]
  case slc3 T x lo hi mx => rw [get_same h.left, low_same h.right.left, get_same h.right.right.left, get_same h.right.right.right]
  case litf T xs => rw [elems_same gd [] T h]
  case mkfn f xs => rw [vals_same h]
  case call f xs => simp only [args_same gd h, tame_same gd h]
  case pcall f xs => simp only [get_same h.left, args_same gd h.right, tame_same gd h.right]
  case mlook ag A B m x => rw [get_same h.left, get_same h.right, h.1]
  case mlen m => rw [get_same h, h.1]

/-! ### the region in the text's order -/
def GOp.looks (q : GOp) : List Nat := (match q.guard with | some (j, _) => [j] | none => []) ++ q.op.slots
/-- What an operation leaves told, seen from the end. -/
def Fact (Γ : GEnv) (q : GOp) (S : St) : Prop := match q.guard with
  | none => ∃ v, q.op.pure Γ none S = some (some (true, v)) ∧ v.isOpt = false ∧ ∀ d, q.dst = some d → d < S.t.length → nth .any S.t d = v
  | some (j, b) => ∃ g c v, gval b (nth .any S.t j) = some g ∧ q.op.pure Γ (some (j, b)) S = some (some (c, v)) ∧ (c || !g) = true ∧ j ∈ S.g ∧ ∀ d, q.dst = some d → d < S.t.length → nth .any S.t d = .opt j b g v

theorem guards_t (s : St) (j : Nat) : (s.guards j).t = s.t := by unfold St.guards; split <;> rfl
theorem guards_h (s : St) (j : Nat) : (s.guards j).h = s.h := by unfold St.guards; split <;> rfl
theorem guards_k (s : St) (j : Nat) : (s.guards j).k = s.k := by unfold St.guards; split <;> rfl
theorem guards_b (s : St) (j : Nat) : (s.guards j).b = s.b := by unfold St.guards; split <;> rfl
theorem put_t (s : St) (d : Option Nat) (v : AV) (t : Nat) : nth .any (s.put d v).t t = if d = some t ∧ t < s.t.length then v else nth .any s.t t := by
  cases d with
  | none => simp [St.put]
  | some i =>
    simp only [St.put, nth_get, setNth_get, Option.some.injEq]
    by_cases hi : i = t
    · subst hi
      by_cases hl : i < s.t.length
      · simp [hl]
      · simp [hl]
    · simp [hi]

/-- From S0 on the quiet operations lead to S: who has not been written is as he was. -/
structure Lead (r : List GOp) (S0 S : St) : Prop where
  h : S.h = S0.h
  k : S.k = S0.k
  b : S.b = S0.b
  len : S.t.length = S0.t.length
  g : ∀ j, j ∈ S0.g → j ∈ S.g
  old : ∀ t, (∀ q ∈ r, q.dst ≠ some t) → nth .any S.t t = nth .any S0.t t
theorem Lead.refl (s : St) : Lead [] s s := ⟨rfl, rfl, rfl, rfl, fun _ h => h, fun _ _ => rfl⟩
theorem put_len (s : St) (d : Option Nat) (v : AV) : (s.put d v).t.length = s.t.length := by cases d <;> simp [St.put, setNth_len]

/-- No slot that has been looked at is written later, and no slot twice. -/
def fresh1 (q : GOp) (r : List GOp) : Bool := r.all fun p => match p.dst with
  | some d => !(q.looks.contains d) && q.dst != some d
  | none => true
def quietL : List GOp → Bool
  | [] => true
  | q :: r => q.op.quiet && (fresh1 q r && ((match q.dst with | some d => !(q.looks.contains d) | none => true) && quietL r))

theorem fact_same {Γ : GEnv} {q : GOp} {S S' : St} (hs : SameOn q.looks S S') (hlen : S.t.length = S'.t.length) (hg : ∀ j, j ∈ S.g → j ∈ S'.g) (hd : ∀ d, q.dst = some d → nth .any S.t d = nth .any S'.t d) (h : Fact Γ q S) : Fact Γ q S' := by
  unfold Fact GOp.looks at *
  split at h
  · rename_i hq
    rw [hq] at hs
    obtain ⟨v, h1, h2, h3⟩ := h
    exact ⟨v, by rw [← pure_same none hs.right]; exact h1, h2, fun d hdd hl => by rw [← hd d hdd]; exact h3 d hdd (by omega)⟩
  · rename_i j b hq
    rw [hq] at hs
    obtain ⟨g, c, v, h1, h2, h3, h4, h5⟩ := h
    exact ⟨g, c, v, by rw [← hs.2 j (by simp)]; exact h1, by rw [← pure_same _ hs.right]; exact h2, h3, hg j h4, fun d hdd hl => by rw [← hd d hdd]; exact h5 d hdd (by omega)⟩

theorem quiet_pure {Γ : GEnv} {gd : Option (Nat × Bool)} {s : St} {x : AOp} (h : x.quiet = true) : ∃ r, x.pure Γ gd s = some r := by
  cases x <;> simp only [AOp.quiet, Bool.false_eq_true] at h <;> exact ⟨_, rfl⟩

/-- One quiet operation. -/
theorem evOp_quiet {O : Type} {Γ : GEnv} {I : Inl O} {q : GOp} (hq : q.op.quiet = true) (hself : ∀ d, q.dst = some d → d ∉ q.looks) {s : St} {κ : St → Option O} {x : O} (he : evOp Γ I q s κ = some x) :
    ∃ s1, κ s1 = some x ∧ Fact Γ q s1 ∧ Lead [q] s s1 := by
  unfold evOp at he
  split at he
  · rename_i hg
    obtain ⟨r, hr⟩ := quiet_pure (Γ := Γ) (gd := none) (s := s) hq
    rw [hr] at he
    split at he
    · rename_i c v hp
      obtain ⟨hf, he⟩ := free_some he
      obtain ⟨hpl, he⟩ := plainV_some he
      obtain ⟨rfl, he⟩ := chk_some he
      rw [Option.some.injEq] at hp
      subst hp
      refine ⟨_, he, ?_, ⟨by cases q.dst <;> rfl, by cases q.dst <;> rfl, by cases q.dst <;> rfl, put_len _ _ _, fun j hj => by cases q.dst <;> exact hj, fun t ht => ?_⟩⟩
      · unfold Fact
        rw [hg]
        refine ⟨v, ?_, hpl, fun d hd hl => by rw [put_t, if_pos ⟨hd, by rw [put_len] at hl; exact hl⟩]⟩
        rw [← hr]
        refine (pure_same none ⟨by cases q.dst <;> rfl, fun t ht => ?_⟩).symm
        rw [put_t, if_neg]
        rintro ⟨h1, _⟩
        exact hself t h1 (by unfold GOp.looks; simp [ht])
      · rw [put_t, if_neg]
        rintro ⟨h1, _⟩
        exact ht q (by simp) h1
    · cases he
    · rename_i hp; cases hp
  · rename_i j b hg
    split at he
    · rename_i g hgv
      obtain ⟨r, hr⟩ := quiet_pure (Γ := Γ) (gd := some (j, b)) (s := s) hq
      rw [hr] at he
      split at he
      · rename_i c v hp
        obtain ⟨hf, he⟩ := free_some he
        obtain ⟨hc, he⟩ := chk_some he
        rw [Option.some.injEq] at hp
        subst hp
        have hne : ∀ t, t ∈ q.looks → nth .any ((s.guards j).put q.dst (.opt j b g v)).t t = nth .any s.t t := fun t ht => by
          rw [put_t, if_neg, guards_t]
          rintro ⟨h1, _⟩
          exact hself t h1 ht
        have hjl : j ∈ q.looks := by unfold GOp.looks; rw [hg]; simp
        refine ⟨_, he, ?_, ⟨?_, ?_, ?_, by rw [put_len, guards_t], fun i hi => ?_, fun t ht => ?_⟩⟩
        · unfold Fact
          rw [hg]
          refine ⟨g, c, v, by rw [hne j hjl]; exact hgv, ?_, hc, ?_, fun d hd hl => by rw [put_t, if_pos ⟨hd, by rw [put_len] at hl; exact hl⟩]⟩
          · rw [← hr]
            refine (pure_same _ ⟨?_, fun t ht => ?_⟩).symm
            · rw [← guards_h s j]; cases q.dst <;> rfl
            · exact (hne t (by unfold GOp.looks; simp [ht])).symm
          · have := mem_guards s j
            cases q.dst <;> exact this
        · rw [← guards_h s j]; cases q.dst <;> rfl
        · rw [← guards_k s j]; cases q.dst <;> rfl
        · rw [← guards_b s j]; cases q.dst <;> rfl
        · have : i ∈ (s.guards j).g := by
            unfold St.guards
            split
            · exact hi
            · exact List.mem_cons_of_mem _ hi
          cases q.dst <;> exact this
        · rw [put_t, if_neg, guards_t]
          rintro ⟨h1, _⟩
          exact ht q (by simp) h1
      · cases he
      · rename_i hp; cases hp
    · cases he

theorem evOps_quiet {O : Type} {Γ : GEnv} {I : Inl O} : ∀ {r : List GOp}, quietL r = true → ∀ {s : St} {κ : St → Option O} {x : O}, evOps Γ I r s κ = some x → ∃ S, κ S = some x ∧ Lead r s S ∧ ∀ q ∈ r, Fact Γ q S
  | [], _, s, κ, x, he => ⟨s, he, .refl s, by simp⟩
  | q :: r, hq, s, κ, x, he => by
    simp only [quietL, Bool.and_eq_true] at hq
    obtain ⟨h1, h2, h3, h4⟩ := hq
    simp only [evOps] at he
    obtain ⟨s1, he1, hf, hl⟩ := evOp_quiet h1 (fun d hd => by rw [hd] at h3; simpa using h3) he
    obtain ⟨S, hS, hL, hF⟩ := evOps_quiet h4 he1
    have hfr : ∀ t, t ∈ q.looks ∨ q.dst = some t → ∀ p ∈ r, p.dst ≠ some t := fun t ht p hp hpd => by
      have := List.all_eq_true.1 h2 p hp
      rw [hpd] at this
      simp only [Bool.and_eq_true, Bool.not_eq_true', bne_iff_ne, ne_eq] at this
      rcases ht with ht | ht
      · have h5 := this.1
        simp [ht] at h5
      · exact this.2 ht
    refine ⟨S, hS, ⟨hL.h.trans hl.h, hL.k.trans hl.k, hL.b.trans hl.b, hL.len.trans hl.len, fun j hj => hL.g j (hl.g j hj), fun t ht => ?_⟩, fun p hp => ?_⟩
    · rw [hL.old t fun p hp => ht p (List.mem_cons_of_mem _ hp)]
      exact hl.old t fun p hp => ht p (by rw [List.mem_singleton.1 hp]; simp)
    · rcases List.mem_cons.1 hp with rfl | hp
      · exact fact_same ⟨hL.h.symm, fun t ht => (hL.old t (hfr t (.inl ht))).symm⟩ hL.len.symm hL.g (fun d hd => (hL.old d (hfr d (.inr hd))).symm) hf
      · exact hF p hp

end Go.Tw
