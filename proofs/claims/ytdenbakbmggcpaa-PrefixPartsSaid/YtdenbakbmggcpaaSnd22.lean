/- Operations under guards; regions in the order of the text. -/
import Derived.Test.YtdenbakbmggcpaaSnd21
set_option linter.unusedVariables false
set_option linter.unusedSectionVars false
set_option linter.unusedSimpArgs false
namespace Go.Tw
open Go.RowKit

section
variable [Ban] {base : Nat} {w0 : World} {ρ0 : List RV} {h0 : AHeap} {ρ ρ' : List RV} {s s1 : St} {a : Act} {w w' : World} {P : Program} {gd : Option (Nat × Bool)} {o : Oper} {v : AV} {h h' : AHeap} {K : Nat → Prop}

/-! ### what is killed behind a call in place -/
theorem HR.killed (H : HR base w ρ h) (r : Nat) : HR base w ρ (h.map (AObj.kill r)) := by
  have e : Evo h.length [] w ρ h w ρ (h.map (AObj.kill r)) := (Evo.refl w ρ h h.length (Nat.le_refl _) []).killed r
  refine ⟨by rw [List.length_map]; exact H.len, H.base_le, H.ban, fun q o hq => ?_, fun p q o1 o2 r1 r2 b hp hq l1 l2 => ?_⟩
  · obtain ⟨o1, h1, rfl⟩ := kill_get hq
    exact ObjR.turn (fun c v hl => (hl.evo0 e).kill (fun q hq => .inl hq)) e.keeps rfl (fun _ _ _ _ _ => rfl) (H.obj q o1 h1)
  · obtain ⟨p1, g1, rfl⟩ := kill_get hp
    obtain ⟨p2, g2, rfl⟩ := kill_get hq
    rw [AObj.turn_live] at l1 l2
    exact H.inj p q p1 p2 r1 r2 b g1 g2 l1 l2

/-- Slots of which some lead to blocks of which nothing is told. -/
structure RelK (K : Nat → Prop) (ρ : List RV) (s : St) (a : Act) (w : World) : Prop where
  tl : a.tmps.size = s.t.length
  tm : ∀ (i : Nat) (c : AV) (v : Value), s.t[i]? = some c → a.tmps[i]? = some v → LR w ρ s.h K c v
  op : ∀ (i j : Nat) (wt g : Bool) (v : AV), s.t[i]? = some (.opt j wt g v) → j ∈ s.g ∧ gval wt (nth .any s.t j) = some g

theorem RelK.kill {K K' : Nat → Prop} {r : Nat} (R : RelK K ρ s a w) (hk : ∀ q, K q → K' q ∨ q = r) : RelK K' ρ (s.kill r) a w := by
  have e : Evo s.h.length [] w ρ s.h w ρ (s.h.map (AObj.kill r)) := (Evo.refl w ρ s.h s.h.length (Nat.le_refl _) []).killed r
  refine ⟨by simpa [St.kill] using R.tl, fun i c v hc hv => ?_, fun i j wt g v hc => ?_⟩
  · simp only [St.kill, List.getElem?_map] at hc ⊢
    obtain ⟨c', hc', rfl⟩ := Option.map_eq_some_iff.1 hc
    exact ((R.tm i c' v hc' hv).evo e).kill fun q hq => (hq.elim (hk q) (by simp))
  · simp only [St.kill, List.getElem?_map] at hc ⊢
    obtain ⟨c', hc', hk⟩ := Option.map_eq_some_iff.1 hc
    obtain ⟨v0, rfl⟩ := kill_opt hk
    obtain ⟨h1, h2⟩ := R.op i j wt g v0 hc'
    exact ⟨h1, gval_kill h2⟩

theorem killAll_rel : ∀ (ks : List Nat) {s : St} {n : Nat} {k0 : List Nat} {w1 : World} {ρ1 : List RV} {h1 : AHeap}, RelK (fun q => q ∈ ks) ρ s a w → HR base w ρ s.h → Evo n k0 w1 ρ1 h1 w ρ s.h →
    RelK K0 ρ (killAll s ks) a w ∧ HR base w ρ (killAll s ks).h ∧ Evo n k0 w1 ρ1 h1 w ρ (killAll s ks).h ∧ (killAll s ks).b = s.b ∧ (killAll s ks).g = s.g ∧ ∀ q, q ∈ s.k ∨ q ∈ ks → q ∈ (killAll s ks).k
  | [], s, n, k0, w1, ρ1, h1, R, H, e => ⟨⟨R.tl, fun i c v hc hv => (R.tm i c v hc hv).mono (by simp), R.op⟩, H, e, rfl, rfl, fun q hq => hq.elim id (by simp)⟩
  | r :: ks, s, n, k0, w1, ρ1, h1, R, H, e => by
    obtain ⟨g1, g2, g3, g4, g5, g6⟩ := killAll_rel ks (s := s.kill r) (n := n) (k0 := k0) (w1 := w1) (ρ1 := ρ1) (h1 := h1) (R.kill fun q hq => by
      rcases List.mem_cons.1 hq with h | h
      · exact .inr h
      · exact .inl h) (H.killed r) (e.killed r)
    refine ⟨g1, g2, g3, g4, g5, fun q hq => g6 q ?_⟩
    rcases hq with hq | hq
    · exact .inl (mem_kill s r q (.inl hq))
    · rcases List.mem_cons.1 hq with h | h
      · exact .inl (mem_kill s r q (.inr (by rw [h]; simp)))
      · exact .inr h

/-- From a state to a later one in which some are killed. -/
theorem Rel.laters (R : Rel base w0 ρ0 h0 ρ s a w) {ks : List Nat} (e : Evo s.h.length ks w ρ s.h w' ρ' h') (H : HR base w' ρ' h') : Rel base w0 ρ0 h0 ρ' (killAll ⟨s.t, h', s.k, s.b, s.g⟩ ks) a w' := by
  obtain ⟨g1, g2, g3, g4, g5, g6⟩ := killAll_rel (base := base) (a := a) ks (s := ⟨s.t, h', s.k, s.b, s.g⟩) (ρ := ρ') (w := w') ⟨R.tl, fun i c v hc hv => ((R.tm i c v hc hv).evo e).mono fun q hq => hq.elim False.elim id, R.op⟩ H e
  refine ⟨g1.tl, g1.tm, R.df, g2, ?_, by rw [g4]; exact R.b0, fun i j wt g v hc => g1.op i j wt g v hc⟩
  rw [g4]
  exact R.ev.trans g3 R.ev.len (fun q _ hq => g6 q hq)

/-- What is to be known of calls in place. -/
def IOk {O : Type} (P : Program) (I : Inl O) : Prop :=
  ∀ (f : FuncId) (cs : List AV) (h : AHeap) (κ : List AV → AHeap → List Nat → Option O) (x : O), I f cs h κ = some x →
    ∀ (base : Nat) (w : World) (ρ : List RV) (us : List Value), HR base w ρ h → cs.length = us.length → (∀ (i : Nat) (c : AV) (v : Value), cs[i]? = some c → us[i]? = some v → LR w ρ h K0 c v) →
      entersB P f = true ∧ Calls P f us.toArray w fun e w' => ∃ (zs : List Value) (rs : List AV) (h' : AHeap) (ks : List Nat) (ρ' : List RV), e = .returned (retV zs) ∧ HR base w' ρ' h' ∧ Evo h.length ks w ρ h w' ρ' h' ∧ rs.length = zs.length ∧
        (∀ (i : Nat) (c : AV) (v : Value), rs[i]? = some c → zs[i]? = some v → LR w' ρ' h' K0 c v) ∧ κ rs h' ks = some x

omit [Ban] in
theorem plainV_some {O : Type} {v : AV} {k : Option O} {x : O} (h : plainV v k = some x) : v.isOpt = false ∧ k = some x := by
  unfold plainV at h
  split at h
  · cases h
  · rename_i hne
    refine ⟨?_, h⟩
    cases v <;> first | rfl | exact absurd rfl (hne _ _ _ _)

theorem kill_own_free {r : Nat} {c : AV} {v : Value} (hl : LR w ρ h K0 c v) : LR w ρ h K0 (c.kill r) v := hl.kill fun q hq => .inl hq
theorem killed_vals : ∀ (ks : List Nat) {c : AV} {v : Value}, LR w ρ h K0 c v → True := fun _ _ _ _ => trivial

theorem killAll_h_evo : ∀ (ks : List Nat) (s : St), Evo s.h.length [] w ρ s.h w ρ (killAll s ks).h
  | [], s => Evo.refl _ _ _ _ (Nat.le_refl _) _
  | r :: ks, s => by
    have e1 : Evo s.h.length [] w ρ s.h w ρ (s.kill r).h := (Evo.refl w ρ s.h s.h.length (Nat.le_refl _) []).killed r
    have e2 := killAll_h_evo ks (s.kill r)
    have hl : (s.kill r).h.length = s.h.length := by simp [St.kill]
    exact e1.trans e2 (by rw [hl]; exact Nat.le_refl _) (fun q _ hq => hq.elim id id)

theorem call_in_place {O : Type} {I : Inl O} (hI : IOk P I) (R : Rel base w0 ρ0 h0 ρ s a w) {f : FuncId} {cs : List AV} {us : List Value} (hlen : cs.length = us.length) (hlr : ∀ (i : Nat) (c : AV) (v : Value), cs[i]? = some c → us[i]? = some v → LR w ρ s.h K0 c v)
    (hexec : entersB P f = true → (execOp a.eval o).run P w = .ok (.enter f us.toArray) w) (hd : ∀ i, o.dst = some i → i ∉ s.g) {κ : St → Option O} {x : O}
    (he : I f cs s.h (fun rs h ks => plainV (oneV rs) (κ (St.put (killAll ⟨s.t, h, s.k, s.b, s.g⟩ ks) o.dst (oneV rs)))) = some x) {next : Act → World → Prop} {Q : Exit → Act → World → Prop} (hn : Goes base w0 ρ0 h0 κ x next) : o.wp P a w next Q := by
  obtain ⟨hent, hc⟩ := hI f cs s.h _ x he base w ρ us R.hp hlen hlr
  unfold Oper.wp
  rw [hexec hent]
  simp only [Oper.upon]
  refine hc.mono fun e w' ⟨zs, rs, h', ks, ρ', hez, H, ev, h1, h2, hκ⟩ => ?_
  subst hez
  obtain ⟨hop, hκ⟩ := plainV_some hκ
  have R' := R.laters ev H
  have hg : (killAll ⟨s.t, h', s.k, s.b, s.g⟩ ks).g = s.g := by
    obtain ⟨_, _, _, _, g5, _⟩ := killAll_rel (base := base) (a := a) ks (s := ⟨s.t, h', s.k, s.b, s.g⟩) (ρ := ρ') (w := w') ⟨R.tl, fun i c v hc hv => ((R.tm i c v hc hv).evo ev).mono fun q hq => hq.elim False.elim id, R.op⟩ H ev
    exact g5
  exact hn ρ' _ _ w' (R'.put ((lr_oneV h1 h2).evo0 (killAll_h_evo ks ⟨s.t, h', s.k, s.b, s.g⟩)) (optOk_of hop) (by rw [hg]; exact hd)) hκ

/-! ### operations that change the blocks -/
theorem heavy_sound {O : Type} {I : Inl O} (hI : IOk P I) (R : Rel base w0 ρ0 h0 ρ s a w) (hg : GH gd a) {x : AOp} (hok : okOp P o.op x = true) {κ : St → Option O} {out : O} (hp : x.heavy I gd s o.dst κ = some out) (hd : ∀ i, o.dst = some i → i ∉ s.g)
    {next : Act → World → Prop} {Q : Exit → Act → World → Prop} (hn : Goes base w0 ρ0 h0 κ out next) : o.wp P a w next Q := by
  cases x <;> simp only [AOp.heavy, reduceCtorEq] at hp <;> simp only [okOp] at hok
  case new cs =>
    split at hok
    · rename_i t ho; exact (heavy_new R ho hok).go rfl hd hp hn
    · cases hok
  case box x n =>
    split at hok
    · rename_i t y ho
      split at hp
      · rename_i cs hcs
        replace hp := chk_some hp
        obtain ⟨hc, hp⟩ := hp
        exact (heavy_box R hg ho hok hc hcs).go rfl hd hp hn
      · cases hp
    · cases hok
  case lit T xs =>
    split at hok
    · rename_i t n parts ho
      split at hp
      · rename_i c ys he
        replace hp := chk_some hp
        obtain ⟨rfl, hp⟩ := hp
        exact (heavy_lit R hg ho hok he).go rfl hd hp hn
      · cases hp
    · cases hok
  case mk T n lim =>
    split at hok
    · rename_i t y y' ho
      simp only [Bool.and_eq_true] at hok
      split at hp
      · rename_i c k m he
        replace hp := chk_some hp
        obtain ⟨hc, hp⟩ := hp
        simp only [Bool.and_eq_true, decide_eq_true_eq] at hc
        obtain ⟨rfl, h1, h2⟩ := hc
        exact (heavy_mk R hg ho hok.1 hok.2.1 hok.2.2 (by rw [he]) (by rw [he]) h1 h2).go rfl hd hp hn
      · cases hp
    · cases hok
  case store x y n =>
    split at hok
    · rename_i t x' y' ho
      simp only [Bool.and_eq_true] at hok
      split at hp
      · rename_i c h1 he
        replace hp := chk_some hp
        obtain ⟨hc, hp⟩ := hp
        simp only [Bool.and_eq_true] at hc
        obtain ⟨h2, h3, rfl⟩ := hc
        exact heavy_store R hg ho hok.1 hok.2.1 hok.2.2 h2 h3 he fun w' R' => hn ρ _ _ w' (R'.put .any trivial hd) hp
      · cases hp
    · cases hok
  case app T l x lim =>
    split at hok
    · rename_i b y y' t t' ho
      simp only [Bool.and_eq_true, decide_eq_true_eq] at hok
      obtain ⟨rfl, k1, k2, k3⟩ := hok
      split at hp
      · rename_i zs hzs
        split at hp
        · rename_i U hl
          split at hp
          · obtain ⟨hc, hp⟩ := chk_some hp
            simp only [Bool.and_eq_true, decide_eq_true_eq] at hc
            exact (heavy_app_nil R hg (of_asB2 ho) k1 k2 k3 hc.1 hc.2.1 hzs hl hc.2.2).go rfl hd hp hn
          · cases hp
        · rename_i U ys hl
          split at hp
          · rename_i e
            subst e
            replace hp := chk_some hp
            obtain ⟨hc, hp⟩ := hp
            simp only [Bool.and_eq_true, decide_eq_true_eq] at hc
            exact (heavy_app_fr R hg (of_asB2 ho) k1 k2 k3 hc.1 hc.2.1 hzs hl hc.2.2.1 hc.2.2.2).go rfl hd hp hn
          · cases hp
        · rename_i r hl
          split at hp
          · rename_i U ys hr
            split at hp
            · rename_i e
              subst e
              replace hp := chk_some hp
              obtain ⟨hc, hp⟩ := hp
              simp only [Bool.and_eq_true, decide_eq_true_eq] at hc
              exact (heavy_app_own R hg (of_asB2 ho) k1 k2 k3 hc.1 hc.2.1 hzs hl hr hc.2.2).go rfl hd hp hn
            · cases hp
          · cases hp
        · cases hp
      · cases hp
    · cases hok
  case copy T d x =>
    split at hok
    · rename_i b y y' t t' ho
      simp only [Bool.and_eq_true, decide_eq_true_eq] at hok
      obtain ⟨rfl, k1, k2, k3⟩ := hok
      split at hp
      · rename_i r hl
        split at hp
        · rename_i U ys hr
          split at hp
          · rename_i zs hzs
            split at hp
            · rename_i e
              subst e
              replace hp := chk_some hp
              obtain ⟨hc, hp⟩ := hp
              simp only [Bool.and_eq_true] at hc
              exact (heavy_copy R hg (of_asB2 ho) k1 k2 k3 hc.1 hc.2 hzs hl hr).go rfl hd hp hn
            · cases hp
          · cases hp
        · cases hp
      · cases hp
    · cases hok
  case icall f xs =>
    split at hok
    · rename_i g ys ts ho
      simp only [Bool.and_eq_true, decide_eq_true_eq] at hok
      obtain ⟨rfl, hx⟩ := hok
      obtain ⟨h1, h2⟩ := lr_vals R hx
      refine call_in_place hI R (us := ys.toList.map a.eval) (by simp [h1]) h2 (fun he => ?_) hd hp hn
      rw [exec_call (of_asV ho) rfl he]
      congr 2
      apply Array.toList_inj.1
      simp
    · cases hok
  case vcall f xs =>
    split at hok
    · rename_i y ys ts ho
      simp only [Bool.and_eq_true] at hok
      split at hp
      · rename_i c F cap hf
        replace hp := chk_some hp
        obtain ⟨rfl, hp⟩ := hp
        have hl := R.get hg hok.1 (by rw [hf])
        rw [hf] at hl
        generalize hy : a.eval y = u at *
        cases hl with
        | @fn _ _ vs g1 g2 =>
          obtain ⟨h1, h2⟩ := lr_vals R hok.2
          refine call_in_place hI R (us := ys.toList.map a.eval ++ vs.toList) (by simp [h1, g1]) (fun i c v hc hv => ?_) (fun he => ?_) hd hp hn
          · by_cases hi : i < (xs.map fun x => x.val s).length
            · rw [List.getElem?_append_left hi] at hc
              rw [List.getElem?_append_left (by rw [List.length_map] at hi ⊢; omega)] at hv
              exact h2 i c v hc hv
            · rw [List.getElem?_append_right (by omega)] at hc
              rw [List.getElem?_append_right (by rw [List.length_map] at hi ⊢; omega)] at hv
              refine g2 (i - (xs.map fun x => x.val s).length) c v hc ?_
              rw [← hv, List.length_map, List.length_map, h1]
              simp
          · rw [exec_call (of_asV ho) hy he]
            congr 2
            apply Array.toList_inj.1
            simp
      · cases hp
    · cases hok
  case iarr x i n sz =>
    split at hok
    · rename_i t y j ho
      simp only [Bool.and_eq_true] at hok
      obtain ⟨e, he⟩ := Option.isSome_iff_exists.1 hok.1
      split at hp
      · rename_i c A k e' i' hA hi
        replace hp := chk_some hp
        obtain ⟨hc, hp⟩ := hp
        simp only [Bool.and_eq_true] at hc
        replace hp := branch_some _ _ hp
        obtain ⟨q, _, hq, rfl, hp⟩ := hp
        split at hp
        · rename_i c2 v hv
          replace hp := chk_some hp
          obtain ⟨rfl, hp⟩ := hp
          replace hp := plainV_some hp
          obtain ⟨hop, hp⟩ := hp
          have hx : (x.get gd s).2 = A := by rw [hA]
          refine sound_iarr (v := v) (j := q) (n := n) (sz := sz) R hg ho he hok.2.1 hok.2.2 (by rw [hA]; exact hc.1) (by rw [hi]; exact hc.2) (by rw [hi]) (by omega) (by rw [hx]; exact hv) next Q fun z w' ⟨hb, hl⟩ => ?_
          exact hn ρ _ _ w' ((R.below hb).put hl (optOk_of hop) hd) hp
        · cases hp
      · cases hp
    · cases hok
  case idx x i n sz agg =>
    split at hok
    · rename_i t y j ho
      split at hok
      · rename_i e he
        simp only [Bool.and_eq_true, beq_iff_eq] at hok
        split at hp
        · rename_i c cs k e' i' hA hi
          replace hp := chk_some hp
          obtain ⟨hc, hp⟩ := hp
          simp only [Bool.and_eq_true] at hc
          replace hp := branch_some _ _ hp
          obtain ⟨q, _, hq, rfl, hp⟩ := hp
          split at hp
          · rename_i v hv
            replace hp := plainV_some hp
            obtain ⟨hop, hp⟩ := hp
            refine sound_idx (v := v) (cs := cs) (k := e') (j := q) (n := n) (sz := sz) (agg := agg) R hg ho he hok.1 hok.2.1 hok.2.2 (by rw [hA]; exact hc.1) (by rw [hi]; exact hc.2) (by rw [hA]) (by rw [hi]) (by omega) hv next Q fun z w' ⟨hb, hl⟩ => ?_
            exact hn ρ _ _ w' ((R.below hb).put hl (optOk_of hop) hd) hp
          · cases hp
        · cases hp
      · cases hok
    · cases hok
  case trunc T x n =>
    split at hok
    · rename_i t y y' ho
      simp only [Bool.and_eq_true] at hok
      split at hp
      · rename_i c r e k m hx hm
        split at hp
        · rename_i U ys hr
          split at hp
          · rename_i e'
            subst e'
            replace hp := chk_some hp
            obtain ⟨hc, hp⟩ := hp
            simp only [Bool.and_eq_true, decide_eq_true_eq] at hc
            exact (heavy_trunc R hg ho hok.2.1 hok.2.2 (by rw [hx]; exact hc.1) (by rw [hm]; exact hc.2.1) hok.1 (by rw [hx]) hr (by rw [hm]) hc.2.2.1 hc.2.2.2).go rfl (by simpa [St.kill] using hd) hp hn
          · cases hp
        · cases hp
      · cases hp
    · cases hok
  case mkmap ex ag A B =>
    split at hok
    · rename_i t ho
      exact (heavy_mkmap R ho hok).go rfl hd hp hn
    · cases hok
  case mset ag A B m x v =>
    split at hok
    · rename_i t y y' y'' ho
      simp only [Bool.and_eq_true] at hok
      split at hp
      · rename_i h1 he
        replace hp := chk_some hp
        obtain ⟨hc, hp⟩ := hp
        simp only [Bool.and_eq_true] at hc
        exact (heavy_mset R hg ho hok.1 hok.2.1 hok.2.2.1 hok.2.2.2 hc.1 hc.2.1 hc.2.2 he).go rfl hd hp hn
      · cases hp
    · cases hok

/-! ### one operation, under its guard -/
def okG (ops : Array Oper) (g : Option (Nat × Bool)) (q : Option (Nat × Bool)) : Bool := match g, q with
  | none, none => true
  | some (i, b), some (j, c) => b == c && (match (ops[i]?).bind (·.dst) with | some d => d == j | none => false)
  | _, _ => false
def okGOp (P : Program) (ops : Array Oper) (o : Oper) (q : GOp) : Bool := okG ops o.guard q.guard && (decide (o.dst = q.dst) && okOp P o.op q.op)

omit [Ban] in
theorem wanted_none {ops : Array Oper} {o : Oper} {a : Act} (h : okG ops o.guard none = true) : Region.wanted o (yielded ops a.tmps) = true := by
  unfold okG at h
  unfold Region.wanted
  split at h
  · rename_i hg _; rw [hg]
  · rename_i hq; cases hq
  · cases h
omit [Ban] in
theorem wanted_some {ops : Array Oper} {o : Oper} {a : Act} {j : Nat} {b : Bool} (h : okG ops o.guard (some (j, b)) = true) : Region.wanted o (yielded ops a.tmps) = true ↔ a.tmps[j]? = some (.bool b) := by
  unfold okG at h
  split at h
  · rename_i hq; cases hq
  · rename_i i b' j' c hg hq
    simp only [Option.some.injEq, Prod.mk.injEq] at hq
    obtain ⟨rfl, rfl⟩ := hq
    simp only [Bool.and_eq_true, beq_iff_eq] at h
    obtain ⟨rfl, h2⟩ := h
    unfold Region.wanted yielded
    rw [hg]
    simp only
    split at h2
    · rename_i d hd
      simp only [beq_iff_eq] at h2
      subst h2
      rw [hd]
      simp only [Option.bind_some, beq_iff_eq]
      split
      · rename_i b2 hb2
        rw [hb2]
        simp
      · rename_i hne
        constructor
        · intro h; cases h
        · intro h; exact absurd h (hne _)
    · cases h2
  · cases h

omit [Ban] in
theorem free_some {O : Type} {s : St} {d : Option Nat} {k : Option O} {x : O} (h : free s d k = some x) : (∀ i, d = some i → i ∉ s.g) ∧ k = some x := by
  unfold free at h
  split at h
  · rename_i i
    split at h
    · cases h
    · rename_i hc
      exact ⟨fun j hj => by simp only [Option.some.injEq] at hj; subst hj; simpa using hc, h⟩
  · exact ⟨fun i hi => (by cases hi), h⟩

theorem evOp_sound {O : Type} {Γ : GEnv} {I : Inl O} (hG : GOk P Γ) (hI : IOk P I) {ops : Array Oper} {q : GOp} (hok : okGOp P ops o q = true) (R : Rel base w0 ρ0 h0 ρ s a w) {κ : St → Option O} {x : O} (he : evOp Γ I q s κ = some x)
    {next : Act → World → Prop} {Q : Exit → Act → World → Prop} (hn : Goes base w0 ρ0 h0 κ x next) : if Region.wanted o (yielded ops a.tmps) then o.wp P a w next Q else next (a.put o.dst undef) w := by
  simp only [okGOp, Bool.and_eq_true, decide_eq_true_eq] at hok
  obtain ⟨hgd, hdst, hop⟩ := hok
  unfold evOp at he
  split at he
  · rename_i hq
    rw [hq] at hgd
    rw [if_pos (wanted_none hgd)]
    split at he
    · rename_i c v hp
      replace he := free_some he
      obtain ⟨hf, he⟩ := he
      replace he := plainV_some he
      obtain ⟨hpl, he⟩ := he
      replace he := chk_some he
      obtain ⟨rfl, he⟩ := he
      refine sound_pure hG R GH.none hop hp next Q fun z w' ⟨hb, hl⟩ => ?_
      rw [hdst]
      exact hn ρ _ _ w' ((R.below hb).put hl (optOk_of hpl) hf) he
    · cases he
    · obtain ⟨hf, he⟩ := free_some he
      rw [← hdst] at he hf
      exact heavy_sound hI R GH.none hop he hf hn
  · rename_i j b hq
    rw [hq] at hgd
    have hw := wanted_some (a := a) hgd
    split at he
    · rename_i g hg
      have hgv := R.gval hg
      have hgh : g = true → GH (some (j, b)) a := fun h i c hi => by
        simp only [Option.some.injEq, Prod.mk.injEq] at hi
        obtain ⟨rfl, rfl⟩ := hi
        exact hgv.2 h
      split at he
      · rename_i c v hp
        replace he := free_some he
        obtain ⟨hf, he⟩ := he
        replace he := chk_some he
        obtain ⟨hc, he⟩ := he
        have hpo : ∀ (v : AV), optOk (s.guards j) (.opt j b g v) := fun v => ⟨mem_guards s j, by
          have : (s.guards j).t = s.t := by unfold St.guards; split <;> rfl
          rw [this]; exact hg⟩
        cases g with
        | true =>
          rw [if_pos (hw.2 (hgv.2 rfl))]
          simp only [Bool.not_true, Bool.or_false] at hc
          subst hc
          refine sound_pure hG R (hgh rfl) hop hp next Q fun z w' ⟨hb, hl⟩ => ?_
          rw [hdst]
          have hh : (s.guards j).h = s.h := by unfold St.guards; split <;> rfl
          exact hn ρ _ _ w' (((R.below hb).guards j).put (.opt (fun _ => by rw [hh]; exact hl) (fun h => by cases h)) (hpo v) hf) he
        | false =>
          rw [if_neg (fun h => by have := hgv.1 (hw.1 h); cases this)]
          rw [hdst]
          exact hn ρ _ _ w ((R.guards j).put (.opt (fun h => by cases h) (fun _ => rfl)) (hpo v) hf) he
      · cases he
      · obtain ⟨hf, he⟩ := free_some he
        cases g with
        | true =>
          rw [if_pos (hw.2 (hgv.2 rfl))]
          rw [← hdst] at he hf
          exact heavy_sound hI R (hgh rfl) hop he hf hn
        | false =>
          rw [if_neg (fun h => by have := hgv.1 (hw.1 h); cases this)]
          rw [hdst]
          exact hn ρ _ _ w (R.put .any trivial hf) he
    · cases he

/-! ### a region in the order of the text -/
def okOps (P : Program) (ops : Array Oper) : List Oper → List GOp → Bool
  | [], [] => true
  | o :: l, q :: r => okGOp P ops o q && okOps P ops l r
  | _, _ => false

theorem evOps_sound {O : Type} {Γ : GEnv} {I : Inl O} (hG : GOk P Γ) (hI : IOk P I) {ops : Array Oper} {x : O} {Q : Exit → Act → World → Prop} : ∀ {l : List Oper} {r : List GOp} {s : St} {ρ : List RV} {a : Act} {w : World} {κ : St → Option O}, okOps P ops l r = true → Rel base w0 ρ0 h0 ρ s a w → evOps Γ I r s κ = some x →
    Goes base w0 ρ0 h0 κ x (Q .normal) → wpList P ops Q l a w
  | [], [], s, ρ, a, w, κ, _, R, he, hn => hn ρ s a w R he
  | o :: l, q :: r, s, ρ, a, w, κ, hok, R, he, hn => by
    simp only [okOps, Bool.and_eq_true] at hok
    simp only [evOps] at he
    have := evOp_sound (Q := Q) hG hI hok.1 R he (next := wpList P ops Q l) fun ρ' s' a' w' R' he' => evOps_sound hG hI hok.2 R' he' hn
    unfold wpList
    split
    · rename_i hw
      rw [if_pos hw] at this
      exact .inl this
    · rename_i hw
      rw [if_neg hw] at this
      exact this
  | [], _ :: _, _, _, _, _, _, hok, _, _, _ => by simp [okOps] at hok
  | _ :: _, [], _, _, _, _, _, hok, _, _, _ => by simp [okOps] at hok

end
end Go.Tw
