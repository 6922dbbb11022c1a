/- How the blocks change: a new one, one that is written, some that are given away. -/
import Derived.Test.YtdenbakbmggcpaaSnd14
set_option linter.unusedVariables false
set_option linter.unusedSectionVars false
set_option linter.unusedSimpArgs false
namespace Go.Tw
open Go.RowKit

theorem ownsRow_blk {w w' : World} {base : Nat} {e : TypeId} {size n : Nat} {v : Value} {xs : List Value} (ho : w.ownsRow base e size v n xs) (hb : ∀ b, v.ownBlock = some b → w'.heap[b]? = w.heap[b]?) : w'.ownsRow base e size v n xs := by
  refine ⟨ho.1, ?_⟩
  rcases ho.2 with h | ⟨g, cap, cur, rfl, h1, h2, h3⟩
  · exact .inl h
  · exact .inr ⟨g, cap, cur, rfl, h1, (hb g rfl).trans h2, h3⟩

/-- A block with its cells turned. -/
def AObj.turn (f : AV → AV) : AObj → AObj
  | .vars cs => .vars (cs.map f)
  | o => o
theorem AObj.turn_id (o : AObj) : o.turn id = o := by cases o <;> simp [AObj.turn]
theorem AObj.kill_turn (r : Nat) (o : AObj) : o.kill r = o.turn (AV.kill r) := by cases o <;> rfl
theorem AObj.turn_live (f : AV → AV) (o : AObj) : (o.turn f).live = o.live := by cases o <;> rfl

section
variable [Ban] {base : Nat} {w0 : World} {ρ0 : List RV} {h0 : AHeap} {ρ ρ' : List RV} {s : St} {a : Act} {w w' : World} {P : Program} {h h' : AHeap} {K : Nat → Prop}

theorem ObjR.turn {f : AV → AV} (hf : ∀ c v, LR w ρ h K0 c v → LR w' ρ' h' K0 (f c) v) (k : Keeps w (XO ρ h) w' (XO ρ' h')) {r : Nat} {o : AObj} (hρ : ρ'[r]? = ρ[r]?)
    (hb : o.live = true → ∀ rv b, ρ[r]? = some rv → rv.block = some b → w'.heap[b]? = w.heap[b]?) (ho : ObjR base w ρ h r o) : ObjR base w' ρ' h' r (o.turn f) := by
  cases o with
  | vars cs =>
    obtain ⟨b, vs, e, h1, h2, h3, h4, h5, h6⟩ := ho
    refine ⟨b, vs, e, hρ.trans h1, h2, (hb rfl _ b h1 rfl).trans h3, by simpa using h4, fun i c v hc hv => ?_, h6⟩
    rw [List.getElem?_map] at hc
    obtain ⟨c', hc', rfl⟩ := Option.map_eq_some_iff.1 hc
    exact hf _ _ (h5 i c' v hc' hv)
  | row U ys =>
    obtain ⟨h0, v, e, xs, h1, h2, h3, h4, h5⟩ := ho
    exact ⟨h0, v, e, xs, hρ.trans h1, ownsRow_blk h2 (fun b hvb => hb rfl _ b h1 hvb), h3, h4, fun i y hy => (h5 i y hy).move k⟩
  | map ex ag A B es =>
    obtain ⟨b, arr, clock, ds, h1, h2, h3, h4, h5, h6, h7⟩ := ho
    exact ⟨b, arr, clock, ds, hρ.trans h1, h2, (hb rfl _ b h1 rfl).trans h3, h4, h5, h6.move k, h7⟩
  | gone => trivial

theorem live_block (H : HR base w ρ h) {r : Nat} {o : AObj} (hr : h[r]? = some o) (hl : o.live = true) {rv : RV} {b : Nat} (hρ : ρ[r]? = some rv) (hb : rv.block = some b) : b < w.heap.size := XO_lt H (.inr ⟨r, o, rv, hr, hl, hρ, hb⟩)
theorem live_base (H : HR base w ρ h) {r : Nat} {o : AObj} (hr : h[r]? = some o) (hl : o.live = true) {rv : RV} {b : Nat} (hρ : ρ[r]? = some rv) (hb : rv.block = some b) : base ≤ b := by
  have ho := H.obj r o hr
  cases o with
  | gone => simp [AObj.live] at hl
  | vars cs =>
    obtain ⟨b', vs, e, h1, h2, _⟩ := ho
    rw [hρ] at h1
    simp only [Option.some.injEq] at h1
    subst h1
    simp only [RV.block, Option.some.injEq] at hb
    subst hb
    exact h2
  | row U ys =>
    obtain ⟨_, v, e, xs, h1, h2, _⟩ := ho
    rw [hρ] at h1
    simp only [Option.some.injEq] at h1
    subst h1
    exact (h2.lt b hb).1
  | map ex ag A B es =>
    obtain ⟨b', arr, clock, ds, h1, h2, _⟩ := ho
    rw [hρ] at h1
    simp only [Option.some.injEq] at h1
    subst h1
    simp only [RV.block, Option.some.injEq] at hb
    subst hb
    exact h2
theorem live_rv (H : HR base w ρ h) {r : Nat} {o : AObj} (hr : h[r]? = some o) : ∃ rv, ρ[r]? = some rv := by
  have hlt : r < ρ.length := by rw [H.len]; exact (List.getElem?_eq_some_iff.1 hr).1
  exact ⟨_, List.getElem?_eq_getElem hlt⟩

/-! ### a new block -/
theorem get_snoc {α : Type} {l : List α} {x y : α} {r : Nat} (hr : (l ++ [x])[r]? = some y) : (r < l.length ∧ l[r]? = some y) ∨ (r = l.length ∧ y = x) := by
  by_cases hlt : r < l.length
  · rw [List.getElem?_append_left hlt] at hr
    exact .inl ⟨hlt, hr⟩
  · rw [List.getElem?_append_right (by omega)] at hr
    by_cases h0 : r - l.length = 0
    · rw [h0] at hr
      simp only [List.getElem?_cons_zero, Option.some.injEq] at hr
      exact .inr ⟨by omega, hr.symm⟩
    · obtain ⟨n, hn⟩ : ∃ n, r - l.length = n + 1 := ⟨r - l.length - 1, by omega⟩
      rw [hn] at hr
      simp at hr

theorem XO_new (H : HR base w ρ h) {rv : RV} {o : AObj} (hrv : ∀ b, rv.block = some b → w.heap.size ≤ b) {b : Nat} (hlt : b < w.heap.size) (hx : OO (ρ ++ [rv]) (h ++ [o]) b) : OO ρ h b := by
  obtain ⟨r, o', rv', hr, hl, hρ, hb⟩ := hx
  rcases get_snoc hr with ⟨h1, h2⟩ | ⟨rfl, rfl⟩
  · rw [List.getElem?_append_left (by rw [H.len]; exact h1)] at hρ
    exact ⟨r, o', rv', h2, hl, hρ, hb⟩
  · rw [← H.len, List.getElem?_append_right (Nat.le_refl _)] at hρ
    simp only [Nat.sub_self, List.getElem?_cons_zero, Option.some.injEq] at hρ
    subst hρ
    have := hrv b hb
    omega

theorem Evo.new (H : HR base w ρ h) (hb : Below w.heap.size w w') {rv : RV} {o : AObj} (hrv : ∀ b, rv.block = some b → w.heap.size ≤ b) : Evo h.length [] w ρ h w' (ρ ++ [rv]) (h ++ [o]) := by
  refine ⟨hb.os, hb.tape, hb.output, ⟨hb.size, fun b h _ => hb.block b h, fun b hlt hx => XO_new H hrv hlt hx⟩, by simp, fun r hr _ _ => List.getElem?_append_left (by rw [H.len]; exact hr), fun r hr _ cs hc => ?_, fun r hr _ U ys hc => ?_, fun r hr _ ex ag A B es hc => ?_⟩
  · rw [List.getElem?_append_left hr] at hc; exact ⟨cs, hc⟩
  · rw [List.getElem?_append_left hr] at hc; exact ⟨ys, hc, rfl⟩
  · rw [List.getElem?_append_left hr] at hc; exact ⟨es, hc⟩

theorem HR.new (H : HR base w ρ h) (hb : Below w.heap.size w w') {rv : RV} {o : AObj} (hrv : ∀ b, rv.block = some b → w.heap.size ≤ b) (ho : ObjR base w' (ρ ++ [rv]) (h ++ [o]) h.length o) : HR base w' (ρ ++ [rv]) (h ++ [o]) := by
  have e := Evo.new (rv := rv) (o := o) H hb hrv
  refine ⟨by simp [H.len], Nat.le_trans H.base_le hb.size, H.ban, fun r o' hr => ?_, fun r q o1 o2 r1 r2 k hr hq l1 l2 hρr hρq b1 b2 => ?_⟩
  · rcases get_snoc hr with ⟨h1, h2⟩ | ⟨rfl, rfl⟩
    · have := ObjR.turn (f := id) (fun c v hl => hl.evo0 e) e.keeps (ρ' := ρ ++ [rv]) (h' := h ++ [o]) (List.getElem?_append_left (by rw [H.len]; exact h1)) (fun hl rv b hρ hbl => hb.block b (live_block H h2 hl hρ hbl)) (H.obj r o' h2)
      rwa [AObj.turn_id] at this
    · exact ho
  · have old : ∀ {r : Nat} {o' : AObj} {r1 : RV}, r < h.length → h[r]? = some o' → o'.live = true → (ρ ++ [rv])[r]? = some r1 → r1.block = some k → ρ[r]? = some r1 ∧ k < w.heap.size := fun h1 h2 hl hρ hbl => by
      rw [List.getElem?_append_left (by rw [H.len]; exact h1)] at hρ
      exact ⟨hρ, live_block H h2 hl hρ hbl⟩
    have nw : ∀ {r : Nat} {r1 : RV}, r = h.length → (ρ ++ [rv])[r]? = some r1 → r1 = rv := fun h1 hρ => by
      subst h1
      rw [← H.len, List.getElem?_append_right (Nat.le_refl _)] at hρ
      simpa using hρ.symm
    rcases get_snoc hr with ⟨a1, a2⟩ | ⟨a1, a2⟩ <;> rcases get_snoc hq with ⟨c1, c2⟩ | ⟨c1, c2⟩
    · exact H.inj r q o1 o2 r1 r2 k a2 c2 l1 l2 (old a1 a2 l1 hρr b1).1 (old c1 c2 l2 hρq b2).1 b1 b2
    · have h1 := (old a1 a2 l1 hρr b1).2
      have h2 := nw c1 hρq
      subst h2
      have := hrv k b2
      omega
    · have h1 := (old c1 c2 l2 hρq b2).2
      have h2 := nw a1 hρr
      subst h2
      have := hrv k b1
      omega
    · omega

theorem Rel.new (R : Rel base w0 ρ0 h0 ρ s a w) (hb : Below w.heap.size w w') {rv : RV} {o : AObj} (hrv : ∀ b, rv.block = some b → w.heap.size ≤ b) (ho : ObjR base w' (ρ ++ [rv]) (s.h ++ [o]) s.h.length o) :
    Rel base w0 ρ0 h0 (ρ ++ [rv]) ⟨s.t, s.h ++ [o], s.k, s.b, s.g⟩ a w' := by
  have e := Evo.new (rv := rv) (o := o) R.hp hb hrv
  exact ⟨R.tl, fun i c v hc hv => (R.tm i c v hc hv).evo0 e, R.df, R.hp.new hb hrv ho, R.ev.trans e R.ev.len (fun r _ h => h.elim id (by simp)), R.b0, R.op⟩

/-! ### blocks that are given away -/
theorem goneAll_get : ∀ (rs : List Nat) (h : AHeap) (r : Nat), (goneAll h rs)[r]? = if r ∈ rs then (h[r]?).map (fun _ => AObj.gone) else h[r]?
  | [], h, r => by simp [goneAll]
  | q :: rs, h, r => by
    rw [goneAll, goneAll_get rs, setNth_get]
    by_cases hq : q = r
    · subst hq
      by_cases hr : q ∈ rs
      · by_cases hlt : q < h.length <;> simp [hr, hlt]
      · by_cases hlt : q < h.length <;> simp [hr, hlt]
    · have hq' : r ≠ q := fun e => hq e.symm
      simp [hq, hq']
theorem goneAll_len : ∀ (rs : List Nat) (h : AHeap), (goneAll h rs).length = h.length
  | [], h => rfl
  | q :: rs, h => by rw [goneAll, goneAll_len rs, setNth_len]
theorem goneAll_live {rs : List Nat} {h : AHeap} {r : Nat} {o : AObj} (hr : (goneAll h rs)[r]? = some o) (hl : o.live = true) : r ∉ rs ∧ h[r]? = some o := by
  rw [goneAll_get] at hr
  split at hr
  · obtain ⟨_, _, rfl⟩ := Option.map_eq_some_iff.1 hr
    simp [AObj.live] at hl
  · exact ⟨by assumption, hr⟩
theorem OO_gone {rs : List Nat} {b : Nat} (hx : OO ρ (goneAll h rs) b) : OO ρ h b := by
  obtain ⟨r, o, rv, hr, hl, hρ, hb⟩ := hx
  exact ⟨r, o, rv, (goneAll_live hr hl).2, hl, hρ, hb⟩
theorem XO_gone {rs : List Nat} {b : Nat} (hx : XO ρ (goneAll h rs) b) : XO ρ h b := hx.elim .inl fun h => .inr (OO_gone h)
/-- What was given away may no longer be written. -/
theorem XO_not_gone (H : HR base w ρ h) {rs : List Nat} {r : Nat} (hr : r ∈ rs) {o : AObj} (ho : h[r]? = some o) (hl : o.live = true) {rv : RV} {b : Nat} (hρ : ρ[r]? = some rv) (hb : rv.block = some b) : ¬ XO ρ (goneAll h rs) b := by
  rintro (hx | ⟨q, o', rv', hq, hl', hρ', hb'⟩)
  · have h1 := H.ban b hx
    have h2 := live_base H ho hl hρ hb
    omega
  · obtain ⟨h1, h2⟩ := goneAll_live hq hl'
    exact h1 ((H.inj r q o o' rv rv' b ho h2 hl hl' hρ hρ' hb hb') ▸ hr)

theorem Evo.gone (rs : List Nat) : Evo h.length [] w ρ h w ρ (goneAll h rs) :=
  ⟨rfl, rfl, rfl, ⟨Nat.le_refl _, fun _ _ _ => rfl, fun b _ hx => OO_gone hx⟩, by rw [goneAll_len]; exact Nat.le_refl _, fun _ _ _ _ => rfl, fun r _ _ cs hc => ⟨cs, (goneAll_live hc rfl).2⟩, fun r _ _ U ys hc => ⟨ys, (goneAll_live hc rfl).2, rfl⟩, fun r _ _ ex ag A B es hc => ⟨es, (goneAll_live hc rfl).2⟩⟩
theorem HR.gone (H : HR base w ρ h) (rs : List Nat) : HR base w ρ (goneAll h rs) := by
  have e : Evo h.length [] w ρ h w ρ (goneAll h rs) := Evo.gone rs
  refine ⟨by rw [goneAll_len]; exact H.len, H.base_le, H.ban, fun r o hr => ?_, fun r q o1 o2 r1 r2 k hr hq l1 l2 => H.inj r q o1 o2 r1 r2 k (goneAll_live hr l1).2 (goneAll_live hq l2).2 l1 l2⟩
  cases hl : o.live with
  | false => cases o <;> simp [AObj.live] at hl; trivial
  | true =>
    have := ObjR.turn (f := id) (fun c v hl => hl.evo0 e) e.keeps (r := r) (o := o) rfl (fun _ _ _ _ _ => rfl) (H.obj r o (goneAll_live hr hl).2)
    rwa [AObj.turn_id] at this
theorem Rel.gone (R : Rel base w0 ρ0 h0 ρ s a w) (rs : List Nat) : Rel base w0 ρ0 h0 ρ ⟨s.t, goneAll s.h rs, s.k, s.b, s.g⟩ a w :=
  ⟨R.tl, fun i c v hc hv => (R.tm i c v hc hv).evo0 (Evo.gone rs), R.df, R.hp.gone rs, R.ev.trans (Evo.gone rs) R.ev.len (fun r _ h => h.elim id (by simp)), R.b0, R.op⟩

/-! ### a block that is written -/
/-- A block of the same make. -/
def AObj.alike (o0 o : AObj) : Prop := (∀ cs, o = .vars cs → ∃ cs0, o0 = .vars cs0) ∧ (∀ (U : Ty) (ys : List U.D), o = .row U ys → ∃ ys0 : List U.D, o0 = .row U ys0 ∧ ys0.length = ys.length) ∧
  ∀ (ex ag : Bool) (A B : Ty) (es : List (A.D × B.D)), o = .map ex ag A B es → ∃ es0 : List (A.D × B.D), o0 = .map ex ag A B es0

theorem XO_chg {r : Nat} {o0 o' : AObj} {rv rv' : RV} (hr : h[r]? = some o0) (hl0 : o0.live = true) (hρ : ρ[r]? = some rv) (hb : ∀ b, rv'.block = some b → rv.block = some b ∨ w.heap.size ≤ b) {b : Nat} (hlt : b < w.heap.size) (hx : OO (setNth ρ r rv') (setNth h r o') b) : OO ρ h b := by
  obtain ⟨q, oq, rq, hq, hl, hρq, hbq⟩ := hx
  rw [setNth_get] at hq hρq
  by_cases hrq : r = q
  · subst hrq
    simp only [if_true] at hq hρq
    split at hρq
    · simp only [Option.some.injEq] at hρq
      subst hρq
      rcases hb b hbq with h1 | h1
      · exact ⟨r, o0, rv, hr, hl0, hρ, h1⟩
      · omega
    · cases hρq
  · rw [if_neg hrq] at hq hρq
    exact ⟨q, oq, rq, hq, hl, hρq, hbq⟩

theorem Evo.chg {ks : List Nat} {r : Nat} {o0 o' : AObj} {rv rv' : RV} (hr : h[r]? = some o0) (hl0 : o0.live = true) (hρ : ρ[r]? = some rv) (hg : w.grownBy w' rv.block) (hb : ∀ b, rv'.block = some b → rv.block = some b ∨ w.heap.size ≤ b)
    (hk : r ∈ ks ∨ rv' = rv ∧ o0.alike o') : Evo h.length ks w ρ h w' (setNth ρ r rv') (setNth h r o') := by
  refine ⟨hg.os, hg.tape, hg.output, ⟨hg.size, fun b hlt hx => hg.block b hlt fun e => hx ⟨r, o0, rv, hr, hl0, hρ, e.symm⟩, fun b hlt hx => XO_chg hr hl0 hρ hb hlt hx⟩, by rw [setNth_len]; exact Nat.le_refl _, fun q hq hnk _ => ?_, fun q hq hnk cs hc => ?_, fun q hq hnk U ys hc => ?_, fun q hq hnk ex ag A B es hc => ?_⟩
  · rw [setNth_get]
    split
    · rename_i e
      subst e
      rcases hk with h1 | ⟨rfl, _⟩
      · exact absurd h1 hnk
      · rw [if_pos (List.getElem?_eq_some_iff.1 hρ).1, hρ]
    · rfl
  · rw [setNth_get] at hc
    split at hc
    · rename_i e
      subst e
      rcases hk with h1 | ⟨_, h1⟩
      · exact absurd h1 hnk
      · simp only [hq, if_true, Option.some.injEq] at hc
        obtain ⟨cs0, rfl⟩ := h1.1 cs hc
        exact ⟨cs0, hr⟩
    · exact ⟨cs, hc⟩
  · rw [setNth_get] at hc
    split at hc
    · rename_i e
      subst e
      rcases hk with h1 | ⟨_, h1⟩
      · exact absurd h1 hnk
      · simp only [hq, if_true, Option.some.injEq] at hc
        obtain ⟨ys0, rfl, hl⟩ := h1.2.1 U ys hc
        exact ⟨ys0, hr, hl⟩
    · exact ⟨ys, hc, rfl⟩
  · rw [setNth_get] at hc
    split at hc
    · rename_i e
      subst e
      rcases hk with h1 | ⟨_, h1⟩
      · exact absurd h1 hnk
      · simp only [hq, if_true, Option.some.injEq] at hc
        obtain ⟨es0, rfl⟩ := h1.2.2 ex ag A B es hc
        exact ⟨es0, hr⟩
    · exact ⟨es, hc⟩

theorem HR.chg {f : AV → AV} (H : HR base w ρ h) {r : Nat} {o0 o' : AObj} {rv rv' : RV} (hr : h[r]? = some o0) (hl0 : o0.live = true) (hρ : ρ[r]? = some rv) (hg : w.grownBy w' rv.block) (hb : ∀ b, rv'.block = some b → rv.block = some b ∨ w.heap.size ≤ b)
    (h' : AHeap) (hh : h' = (setNth h r o').map (AObj.turn f)) (k : Keeps w (XO ρ h) w' (XO (setNth ρ r rv') h')) (hf : ∀ c v, LR w ρ h K0 c v → LR w' (setNth ρ r rv') h' K0 (f c) v) (ho : ObjR base w' (setNth ρ r rv') h' r (o'.turn f)) : HR base w' (setNth ρ r rv') h' := by
  have get : ∀ {q : Nat} {o : AObj}, h'[q]? = some o → (q = r ∧ o = o'.turn f) ∨ (q ≠ r ∧ ∃ o1, h[q]? = some o1 ∧ o = o1.turn f) := by
    intro q o hq
    rw [hh, List.getElem?_map, setNth_get] at hq
    obtain ⟨o1, ho1, rfl⟩ := Option.map_eq_some_iff.1 hq
    split at ho1
    · rename_i e
      subst e
      split at ho1
      · simp only [Option.some.injEq] at ho1
        subst ho1
        exact .inl ⟨rfl, rfl⟩
      · cases ho1
    · rename_i e
      exact .inr ⟨fun h => e h.symm, o1, ho1, rfl⟩
  refine ⟨by rw [hh, List.length_map, setNth_len, setNth_len]; exact H.len, Nat.le_trans H.base_le hg.size, H.ban, fun q o hq => ?_, fun p q o1 o2 r1 r2 b hp hq l1 l2 hρp hρq b1 b2 => ?_⟩
  · rcases get hq with ⟨rfl, rfl⟩ | ⟨hne, o1, h1, rfl⟩
    · exact ho
    · refine ObjR.turn hf k (by rw [setNth_get, if_neg (fun e => hne e.symm)]) (fun hl rq b hρq hbq => ?_) (H.obj q o1 h1)
      refine hg.block b (live_block H h1 hl hρq hbq) fun e => hne ?_
      exact H.inj q r o1 o0 rq rv b h1 hr hl hl0 hρq hρ hbq e.symm
  · have far : ∀ {q : Nat} {o1 : AObj} {r1 : RV}, q ≠ r → h[q]? = some o1 → o1.live = true → (setNth ρ r rv')[q]? = some r1 → r1.block = some b → rv'.block = some b → False := by
      intro q o1 r1 hne h1 hl hρ1 hb1 hb2
      rw [setNth_get, if_neg (fun e => hne e.symm)] at hρ1
      rcases hb b hb2 with h3 | h3
      · exact hne (H.inj q r o1 o0 r1 rv b h1 hr hl hl0 hρ1 hρ hb1 h3)
      · have := live_block H h1 hl hρ1 hb1
        omega
    have own : ∀ {r1 : RV}, (setNth ρ r rv')[r]? = some r1 → r1 = rv' := by
      intro r1 h1
      rw [setNth_get] at h1
      simp only [if_true] at h1
      split at h1
      · simpa using h1.symm
      · cases h1
    rcases get hp with ⟨rfl, e1⟩ | ⟨n1, p1, g1, e1⟩ <;> rcases get hq with ⟨rfl, e2⟩ | ⟨n2, p2, g2, e2⟩
    · rfl
    · exfalso
      have := own hρp
      subst this
      exact far n2 g2 (by rw [e2, AObj.turn_live] at l2; exact l2) hρq b2 b1
    · exfalso
      have := own hρq
      subst this
      exact far n1 g1 (by rw [e1, AObj.turn_live] at l1; exact l1) hρp b1 b2
    · rw [setNth_get, if_neg (fun e => n1 e.symm)] at hρp
      rw [setNth_get, if_neg (fun e => n2 e.symm)] at hρq
      rw [e1, AObj.turn_live] at l1
      rw [e2, AObj.turn_live] at l2
      exact H.inj p q p1 p2 r1 r2 b g1 g2 l1 l2 hρp hρq b1 b2

theorem map_turn_id (h : AHeap) : h.map (AObj.turn id) = h := by
  have : (AObj.turn id) = id := funext fun o => AObj.turn_id o
  rw [this, List.map_id]
theorem setNth_same {α : Type} {l : List α} {r : Nat} {x : α} (h : l[r]? = some x) : setNth l r x = l := by
  apply List.ext_getElem?
  intro i
  rw [setNth_get]
  split
  · rename_i e
    subst e
    rw [if_pos (List.getElem?_eq_some_iff.1 h).1, h]
  · rfl

/-- A block is written; it stays where it is. -/
theorem Rel.chg0 (R : Rel base w0 ρ0 h0 ρ s a w) {r : Nat} {o0 o' : AObj} {rv : RV} (hr : s.h[r]? = some o0) (hl0 : o0.live = true) (hρ : ρ[r]? = some rv) (hg : w.grownBy w' rv.block) (hal : o0.alike o')
    (ho : ObjR base w' ρ (setNth s.h r o') r o') : Rel base w0 ρ0 h0 ρ ⟨s.t, setNth s.h r o', s.k, s.b, s.g⟩ a w' := by
  have hs := setNth_same hρ
  have e : Evo s.h.length [] w ρ s.h w' ρ (setNth s.h r o') := by
    have := Evo.chg (ks := []) (o' := o') hr hl0 hρ hg (fun b hb => .inl hb) (.inr ⟨rfl, hal⟩)
    rwa [hs] at this
  have H : HR base w' (setNth ρ r rv) (setNth s.h r o') := R.hp.chg (f := id) hr hl0 hρ hg (fun b hb => .inl hb) _ (map_turn_id _).symm (by rw [hs]; exact e.keeps) (fun c v hl => by rw [hs]; exact hl.evo0 e) (by rw [hs, AObj.turn_id]; exact ho)
  rw [hs] at H
  exact ⟨R.tl, fun i c v hc hv => (R.tm i c v hc hv).evo0 e, R.df, H, R.ev.trans e R.ev.len (fun r _ h => h.elim id (by simp)), R.b0, R.op⟩

omit [Ban] in
theorem gval_kill {r j : Nat} {t : List AV} {wt g : Bool} (h : gval wt (nth .any t j) = some g) : gval wt (nth .any (t.map (AV.kill r)) j) = some g := by
  rw [nth_get] at h ⊢
  rw [List.getElem?_map]
  cases hj : t[j]? with
  | none => rw [hj] at h; simp [gval] at h
  | some c =>
    rw [hj] at h
    simp only [Option.getD_some, Option.map_some] at h ⊢
    unfold gval at h
    split at h
    · simpa [AV.kill, gval] using h
    · simpa [AV.kill, gval] using h
    · cases h
omit [Ban] in
theorem kill_opt {r : Nat} {c : AV} {j : Nat} {wt g : Bool} {v : AV} (h : c.kill r = .opt j wt g v) : ∃ v0, c = .opt j wt g v0 := by
  cases c <;> simp only [AV.kill] at h <;> first | (simp only [reduceCtorEq] at h; done) | (split at h <;> simp only [reduceCtorEq] at h; done) | skip
  simp only [AV.opt.injEq] at h
  obtain ⟨rfl, rfl, rfl, _⟩ := h
  exact ⟨_, rfl⟩

/-- What is killed. -/
theorem mem_kill (s : St) (r q : Nat) : q ∈ s.k ∨ q ∈ [r] → q ∈ (s.kill r).k := by
  intro h
  unfold St.kill
  simp only
  split
  · rename_i hc
    rcases h with h | h
    · exact h
    · rw [List.mem_singleton.1 h]; simpa using hc
  · rcases h with h | h
    · exact List.mem_cons_of_mem _ h
    · rw [List.mem_singleton.1 h]; simp

/-- From a state to a later one in which r is killed. -/
theorem Rel.later1 (R : Rel base w0 ρ0 h0 ρ s a w) {r : Nat} (e : Evo s.h.length [r] w ρ s.h w' ρ' h') (H : HR base w' ρ' (h'.map (AObj.kill r))) (hx : ∀ b, XO ρ' (h'.map (AObj.kill r)) b ↔ XO ρ' h' b)
    (e' : Evo s.h.length [r] w ρ s.h w' ρ' (h'.map (AObj.kill r))) : Rel base w0 ρ0 h0 ρ' (St.kill ⟨s.t, h', s.k, s.b, s.g⟩ r) a w' := by
  refine ⟨by simpa [St.kill] using R.tl, fun i c v hc hv => ?_, R.df, H, R.ev.trans e' R.ev.len (fun q _ h => mem_kill ⟨s.t, h', s.k, s.b, s.g⟩ r q h), R.b0, fun i j wt g v hc => ?_⟩
  · simp only [St.kill, List.getElem?_map] at hc ⊢
    obtain ⟨c', hc', rfl⟩ := Option.map_eq_some_iff.1 hc
    exact (R.tm i c' v hc' hv).evo1 e'
  · simp only [St.kill, List.getElem?_map] at hc ⊢
    obtain ⟨c', hc', hk⟩ := Option.map_eq_some_iff.1 hc
    obtain ⟨v0, rfl⟩ := kill_opt hk
    obtain ⟨h1, h2⟩ := R.op i j wt g v0 hc'
    exact ⟨h1, gval_kill h2⟩

theorem kill_get {h : AHeap} {r q : Nat} {o : AObj} (hq : (h.map (AObj.kill r))[q]? = some o) : ∃ o1, h[q]? = some o1 ∧ o = o1.turn (AV.kill r) := by
  rw [List.getElem?_map] at hq
  obtain ⟨o1, h1, rfl⟩ := Option.map_eq_some_iff.1 hq
  exact ⟨o1, h1, AObj.kill_turn r o1⟩
theorem OO_kill {r : Nat} {b : Nat} (hx : OO ρ (h.map (AObj.kill r)) b) : OO ρ h b := by
  obtain ⟨q, o, rv, hq, hl, hρ, hb⟩ := hx
  obtain ⟨o1, h1, rfl⟩ := kill_get hq
  exact ⟨q, o1, rv, h1, by rw [AObj.turn_live] at hl; exact hl, hρ, hb⟩
theorem XO_kill (r : Nat) (b : Nat) : XO ρ (h.map (AObj.kill r)) b ↔ XO ρ h b := by
  constructor
  · rintro (hx | ⟨q, o, rv, hq, hl, hρ, hb⟩)
    · exact .inl hx
    · obtain ⟨o1, h1, rfl⟩ := kill_get hq
      exact .inr ⟨q, o1, rv, h1, by rw [AObj.turn_live] at hl; exact hl, hρ, hb⟩
  · rintro (hx | ⟨q, o, rv, hq, hl, hρ, hb⟩)
    · exact .inl hx
    · exact .inr ⟨q, o.kill r, rv, by rw [List.getElem?_map, hq]; rfl, by rw [AObj.kill_turn, AObj.turn_live]; exact hl, hρ, hb⟩
theorem Evo.killed {n : Nat} {ks : List Nat} (e : Evo n ks w ρ h w' ρ' h') (r : Nat) : Evo n ks w ρ h w' ρ' (h'.map (AObj.kill r)) := by
  refine ⟨e.os, e.tape, e.output, ⟨e.own.size, fun b hlt hx => e.own.block b hlt hx, fun b hlt hx => e.own.fresh b hlt (OO_kill hx)⟩, by simpa using e.len, fun q hq hn ⟨o, ho, hl⟩ => ?_, fun q hq hn cs hc => ?_, fun q hq hn U ys hc => ?_, fun q hq hn ex ag A B es hc => ?_⟩
  · obtain ⟨o1, h1, rfl⟩ := kill_get ho
    exact e.place q hq hn ⟨o1, h1, by rw [AObj.turn_live] at hl; exact hl⟩
  · obtain ⟨o1, h1, h2⟩ := kill_get hc
    cases o1 <;> simp only [AObj.turn, reduceCtorEq] at h2
    exact e.vars q hq hn _ h1
  · obtain ⟨o1, h1, h2⟩ := kill_get hc
    cases o1 <;> simp only [AObj.turn, reduceCtorEq] at h2
    cases h2
    exact e.row q hq hn _ _ h1
  · obtain ⟨o1, h1, h2⟩ := kill_get hc
    cases o1 <;> simp only [AObj.turn, reduceCtorEq] at h2
    cases h2
    exact e.map q hq hn _ _ _ _ _ h1

/-- A block is written, and may lie elsewhere then: what led to it leads there no more. -/
theorem Rel.chg1 (R : Rel base w0 ρ0 h0 ρ s a w) {r : Nat} {o0 : AObj} {U : Ty} {ys : List U.D} {rv rv' : RV} (hr : s.h[r]? = some o0) (hl0 : o0.live = true) (hρ : ρ[r]? = some rv) (hg : w.grownBy w' rv.block) (hb : ∀ b, rv'.block = some b → rv.block = some b ∨ w.heap.size ≤ b)
    (ho : ∀ h', (∀ b, XO (setNth ρ r rv') h' b ↔ XO (setNth ρ r rv') (setNth s.h r (.row U ys)) b) → ObjR base w' (setNth ρ r rv') h' r (.row U ys)) : Rel base w0 ρ0 h0 (setNth ρ r rv') (St.kill ⟨s.t, setNth s.h r (.row U ys), s.k, s.b, s.g⟩ r) a w' := by
  have e : Evo s.h.length [r] w ρ s.h w' (setNth ρ r rv') (setNth s.h r (.row U ys)) := Evo.chg (ks := [r]) hr hl0 hρ hg hb (.inl (by simp))
  have e' := e.killed r
  have hm : (setNth s.h r (AObj.row U ys)).map (AObj.kill r) = (setNth s.h r (AObj.row U ys)).map (AObj.turn (AV.kill r)) := by
    congr 1
  refine R.later1 e ?_ (fun b => XO_kill r b) e'
  exact R.hp.chg (f := AV.kill r) hr hl0 hρ hg hb _ hm e'.keeps (fun c v hl => hl.evo1 e') (ho _ fun b => XO_kill r b)

end
end Go.Tw
