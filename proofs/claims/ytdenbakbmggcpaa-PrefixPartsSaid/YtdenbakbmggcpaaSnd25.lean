/- Where ways meet: what is kept; blocks numbered anew; lists that are not written any more. -/
import Derived.Test.YtdenbakbmggcpaaSnd24
set_option linter.unusedVariables false
set_option linter.unusedSectionVars false
set_option linter.unusedSimpArgs false
namespace Go.Tw
open Go.RowKit

/-! ### the kept blocks -/
theorem addIds_ok (b : Nat) : ∀ (l acc : List Nat), acc.Nodup → (∀ r ∈ acc, b ≤ r) → (addIds b acc l).Nodup ∧ ∀ r ∈ addIds b acc l, b ≤ r
  | [], acc, h1, h2 => ⟨h1, h2⟩
  | r :: l, acc, h1, h2 => by
    simp only [addIds]
    refine addIds_ok b l _ ?_ ?_
    · split
      · exact h1
      · split
        · exact h1
        · rename_i hc
          rw [List.nodup_append]
          refine ⟨h1, by simp, fun x hx y hy e => hc ?_⟩
          rw [List.mem_singleton] at hy
          subst hy e
          simpa using hx
    · split
      · exact h2
      · split
        · exact h2
        · intro q hq
          rcases List.mem_append.1 hq with hq | hq
          · exact h2 q hq
          · rw [List.mem_singleton.1 hq]; omega
theorem closeIds_ok (h : AHeap) (b : Nat) : ∀ (n j : Nat) (acc : List Nat), acc.Nodup → (∀ r ∈ acc, b ≤ r) → (closeIds h b n j acc).Nodup ∧ ∀ r ∈ closeIds h b n j acc, b ≤ r
  | 0, _, acc, h1, h2 => ⟨h1, h2⟩
  | n + 1, j, acc, h1, h2 => by
    simp only [closeIds]
    split
    · exact ⟨h1, h2⟩
    · obtain ⟨g1, g2⟩ := addIds_ok b _ acc h1 h2
      exact closeIds_ok h b n (j + 1) _ g1 g2

theorem newId_some {b : Nat} {acc : List Nat} {r q : Nat} (h : newId b acc r = some q) : (r < b ∧ q = r) ∨ (b ≤ r ∧ ∃ i, q = b + i ∧ acc[i]? = some r) := by
  unfold newId at h
  split at h
  · simp only [Option.some.injEq] at h; exact .inl ⟨by assumption, h.symm⟩
  · rename_i hb
    split at h
    · rename_i i hi
      simp only [Option.some.injEq] at h
      rw [List.idxOf?_eq_some_iff] at hi
      obtain ⟨hi, hr⟩ := hi
      refine .inr ⟨by omega, i, h.symm, ?_⟩
      have hr' : acc[i] = r := hr.1
      rw [List.getElem?_eq_getElem hi, hr']
    · cases h

/-- The places, numbered anew. -/
def renρ (ρ : List RV) (b : Nat) (acc : List Nat) : List RV := ρ.take b ++ acc.map fun r => nth (.blk 0) ρ r
def renh (h : AHeap) (b : Nat) (acc : List Nat) : AHeap := ((h.take b) ++ (acc.map fun r => nth .gone h r)).map (AObj.ren b acc)

section
variable [Ban] {base : Nat} {w0 : World} {ρ0 : List RV} {h0 : AHeap} {ρ ρ' : List RV} {s s1 : St} {a : Act} {w w' : World} {P : Program} {gd : Option (Nat × Bool)} {v : AV} {h h' : AHeap} {b : Nat} {acc ks : List Nat}

omit [Ban] in
/-- An old number of each new one. -/
theorem ren_get (hb : b ≤ h.length) {q : Nat} {o : AObj} (hq : (renh h b acc)[q]? = some o) : ∃ r o1, o = o1.ren b acc ∧ (h[r]? = some o1 ∨ o1 = .gone) ∧ ((q < b ∧ r = q) ∨ (b ≤ q ∧ acc[q - b]? = some r)) := by
  unfold renh at hq
  rw [List.getElem?_map] at hq
  obtain ⟨o1, h1, rfl⟩ := Option.map_eq_some_iff.1 hq
  have hl : (h.take b).length = b := by rw [List.length_take]; omega
  by_cases hqb : q < b
  · rw [List.getElem?_append_left (by omega), List.getElem?_take_of_lt hqb] at h1
    exact ⟨q, o1, rfl, .inl h1, .inl ⟨hqb, rfl⟩⟩
  · rw [List.getElem?_append_right (by omega), hl, List.getElem?_map] at h1
    obtain ⟨r, hr, rfl⟩ := Option.map_eq_some_iff.1 h1
    refine ⟨r, _, rfl, ?_, .inr ⟨by omega, hr⟩⟩
    rw [nth_get]
    cases hh : h[r]? with
    | none => exact .inr rfl
    | some o => exact .inl rfl
omit [Ban] in
theorem renρ_get (hb : b ≤ ρ.length) {q r : Nat} (h : (q < b ∧ r = q) ∨ (b ≤ q ∧ acc[q - b]? = some r)) (hr : r < ρ.length) : (renρ ρ b acc)[q]? = ρ[r]? := by
  have hl : (ρ.take b).length = b := by rw [List.length_take]; omega
  unfold renρ
  rcases h with ⟨h1, rfl⟩ | ⟨h1, h2⟩
  · rw [List.getElem?_append_left (by omega), List.getElem?_take_of_lt h1]
  · rw [List.getElem?_append_right (by omega), hl, List.getElem?_map, h2, Option.map_some, nth_get, List.getElem?_eq_getElem hr]
    rfl
omit [Ban] in
theorem ren_live (o : AObj) : (o.ren b acc).live = o.live := by cases o <;> rfl

omit [Ban] in
theorem OO_ren (H : ρ.length = h.length) (hb : b ≤ h.length) {k : Nat} (hx : OO (renρ ρ b acc) (renh h b acc) k) : OO ρ h k := by
  obtain ⟨q, o, rv, hq, hl, hρ, hk⟩ := hx
  obtain ⟨r, o1, rfl, h1, h2⟩ := ren_get hb hq
  rw [ren_live] at hl
  rcases h1 with h1 | rfl
  · have hr : r < ρ.length := by rw [H]; exact (List.getElem?_eq_some_iff.1 h1).1
    rw [renρ_get (by omega) h2 hr] at hρ
    exact ⟨r, o1, rv, h1, hl, hρ, hk⟩
  · simp [AObj.live] at hl

omit [Ban] in
theorem renL_get (b : Nat) (acc : List Nat) : ∀ (cs : List AV) (i : Nat), (AV.renL b acc cs)[i]? = (cs[i]?).map (AV.ren b acc)
  | [], i => by simp [AV.renL]
  | c :: cs, 0 => by simp [AV.renL]
  | c :: cs, i + 1 => by simp [AV.renL, renL_get b acc cs i]
omit [Ban] in
theorem renL_len (b : Nat) (acc : List Nat) : ∀ (cs : List AV), (AV.renL b acc cs).length = cs.length
  | [] => rfl
  | c :: cs => by simp [AV.renL, renL_len b acc cs]

omit [Ban] in
/-- The object at a new number. -/
theorem ren_at (H : ρ.length = h.length) (hb : b ≤ h.length) {r q : Nat} (hn : newId b acc r = some q) (hr : r < h.length) : q < (renh h b acc).length ∧ (renh h b acc)[q]? = (h[r]?).map (AObj.ren b acc) ∧ (renρ ρ b acc)[q]? = ρ[r]? := by
  have hl : (h.take b).length = b := by rw [List.length_take]; omega
  have key : (q < b ∧ r = q) ∨ (b ≤ q ∧ acc[q - b]? = some r) := by
    rcases newId_some hn with ⟨h1, rfl⟩ | ⟨h1, i, rfl, hi⟩
    · exact .inl ⟨h1, rfl⟩
    · exact .inr ⟨by omega, by rw [Nat.add_sub_cancel_left]; exact hi⟩
  refine ⟨?_, ?_, renρ_get (by omega) key (by omega)⟩
  · unfold renh
    rw [List.length_map, List.length_append, hl, List.length_map]
    rcases key with ⟨h1, _⟩ | ⟨h1, h2⟩
    · omega
    · have := (List.getElem?_eq_some_iff.1 h2).1; omega
  · unfold renh
    rw [List.getElem?_map]
    congr 1
    rcases key with ⟨h1, rfl⟩ | ⟨h1, h2⟩
    · rw [List.getElem?_append_left (by omega), List.getElem?_take_of_lt h1]
    · rw [List.getElem?_append_right (by omega), hl, List.getElem?_map, h2, Option.map_some, nth_get, List.getElem?_eq_getElem hr]
      rfl

theorem LR.ren (H : ρ.length = h.length) (hb : b ≤ h.length) {c : AV} {u : Value} (hl : LR w ρ h K0 c u) : LR w (renρ ρ b acc) (renh h b acc) K0 (c.ren b acc) u := by
  have hx : ∀ k, XO (renρ ρ b acc) (renh h b acc) k → XO ρ h k := fun k hk => hk.elim .inl fun h => .inr (OO_ren H hb h)
  induction hl with
  | d hv => exact .d (hv.less hx)
  | fr hv => exact .fr (hv.less hx)
  | nil => exact .nil
  | @own r u hv =>
    simp only [AV.ren]
    split
    · rename_i q hq
      obtain ⟨hr, hv⟩ := hv id
      obtain ⟨g1, g2, g3⟩ := ren_at (acc := acc) H hb hq hr
      refine .own fun _ => ⟨g1, fun U ys hy => ?_⟩
      rw [g2] at hy
      obtain ⟨o1, h1, h2⟩ := Option.map_eq_some_iff.1 hy
      cases o1 <;> simp only [AObj.ren, reduceCtorEq] at h2
      rw [h2] at h1
      exact g3.trans (hv U ys h1)
    · exact .any
  | @box r o u hv =>
    simp only [AV.ren]
    split
    · rename_i q hq
      obtain ⟨hr, hv⟩ := hv id
      obtain ⟨g1, g2, g3⟩ := ren_at (acc := acc) H hb hq hr
      refine .box fun _ => ⟨g1, fun cs hy => ?_⟩
      rw [g2] at hy
      obtain ⟨o1, h1, h2⟩ := Option.map_eq_some_iff.1 hy
      cases o1 <;> simp only [AObj.ren, reduceCtorEq] at h2
      obtain ⟨k, hk, he⟩ := hv _ h1
      exact ⟨k, g3.trans hk, he⟩
    · exact .any
  | @pel r i o u hv =>
    simp only [AV.ren]
    split
    · rename_i q hq
      obtain ⟨hr, hv⟩ := hv id
      obtain ⟨g1, g2, g3⟩ := ren_at (acc := acc) H hb hq hr
      refine .pel fun _ => ⟨g1, fun U ys hy hi => ?_⟩
      rw [g2] at hy
      obtain ⟨o1, h1, h2⟩ := Option.map_eq_some_iff.1 hy
      cases o1 <;> simp only [AObj.ren, reduceCtorEq] at h2
      rw [h2] at h1
      obtain ⟨g, n, c, hk, he⟩ := hv U ys h1 hi
      exact ⟨g, n, c, g3.trans hk, he⟩
    · exact .any
  | @mp r u hv =>
    simp only [AV.ren]
    split
    · rename_i q hq
      obtain ⟨hr, hv⟩ := hv id
      obtain ⟨g1, g2, g3⟩ := ren_at (acc := acc) H hb hq hr
      refine .mp fun _ => ⟨g1, fun ex ag A B es hy => ?_⟩
      rw [g2] at hy
      obtain ⟨o1, h1, h2⟩ := Option.map_eq_some_iff.1 hy
      cases o1 <;> simp only [AObj.ren, reduceCtorEq] at h2
      rw [h2] at h1
      obtain ⟨k, hk, he⟩ := hv ex ag A B es h1
      exact ⟨k, g3.trans hk, he⟩
    · exact .any
  | pfz cs h1 h2 h3 => exact .pfz cs (h1.less hx) (fun ho hk => h2 ho (hx _ hk)) h3
  | fn h1 h2 ih =>
    refine .fn (by rw [renL_len]; exact h1) fun i c v hc hv => ?_
    rw [renL_get] at hc
    obtain ⟨c', hc', rfl⟩ := Option.map_eq_some_iff.1 hc
    exact ih i c' v hc' hv
  | agg h1 h2 h3 ih =>
    refine .agg (by rw [renL_len]; exact h1) (fun i c v hc hv => ?_) h3
    rw [renL_get] at hc
    obtain ⟨c', hc', rfl⟩ := Option.map_eq_some_iff.1 hc
    exact ih i c' v hc' hv
  | tup h1 h2 ih =>
    refine .tup (by rw [renL_len]; exact h1) fun i c v hc hv => ?_
    rw [renL_get] at hc
    obtain ⟨c', hc', rfl⟩ := Option.map_eq_some_iff.1 hc
    exact ih i c' v hc' hv
  | opt h1 h2 ih => exact .opt ih h2
  | any => exact .any

theorem ObjR.ren (H : ρ.length = h.length) (hb : b ≤ h.length) {r q : Nat} {o : AObj} (hρ : (renρ ρ b acc)[q]? = ρ[r]?) (ho : ObjR base w ρ h r o) : ObjR base w (renρ ρ b acc) (renh h b acc) q (o.ren b acc) := by
  have hx : ∀ k, XO (renρ ρ b acc) (renh h b acc) k → XO ρ h k := fun k hk => hk.elim .inl fun h => .inr (OO_ren H hb h)
  cases o with
  | vars cs =>
    obtain ⟨k, vs, e, h1, h2, h3, h4, h5, h6⟩ := ho
    refine ⟨k, vs, e, hρ.trans h1, h2, h3, by simpa using h4, fun i c v hc hv => ?_, h6⟩
    rw [List.getElem?_map] at hc
    obtain ⟨c', hc', rfl⟩ := Option.map_eq_some_iff.1 hc
    exact (h5 i c' v hc' hv).ren H hb
  | row U ys =>
    obtain ⟨h0, v, e, xs, h1, h2, h3, h4, h5⟩ := ho
    exact ⟨h0, v, e, xs, hρ.trans h1, h2, h3, h4, fun i y hy => (h5 i y hy).less hx⟩
  | map ex ag A B es =>
    obtain ⟨k, arr, clock, ds, h1, h2, h3, h4, h5, h6, h7⟩ := ho
    exact ⟨k, arr, clock, ds, hρ.trans h1, h2, h3, h4, h5, h6.move ⟨Nat.le_refl _, fun _ _ _ => rfl, fun b _ hb => hx b hb⟩, h7⟩
  | gone => trivial

theorem HR.ren (H : HR base w ρ h) (hb : b ≤ h.length) (hn : acc.Nodup) (hge : ∀ r ∈ acc, b ≤ r) : HR base w (renρ ρ b acc) (renh h b acc) := by
  refine ⟨?_, H.base_le, H.ban, fun q o hq => ?_, fun p q o1 o2 r1 r2 k hp hq l1 l2 hρp hρq b1 b2 => ?_⟩
  · unfold renρ renh
    simp only [List.length_map, List.length_append, List.length_take, H.len]
  · obtain ⟨r, o1, rfl, h1, h2⟩ := ren_get hb hq
    rcases h1 with h1 | rfl
    · have hr : r < ρ.length := by rw [H.len]; exact (List.getElem?_eq_some_iff.1 h1).1
      exact (H.obj r o1 h1).ren H.len hb (renρ_get (by rw [H.len]; exact hb) h2 hr)
    · trivial
  · obtain ⟨r, p1, rfl, h1, h2⟩ := ren_get hb hp
    obtain ⟨r', p2, rfl, h3, h4⟩ := ren_get hb hq
    rw [ren_live] at l1 l2
    rcases h1 with h1 | rfl
    · rcases h3 with h3 | rfl
      · have hr : r < ρ.length := by rw [H.len]; exact (List.getElem?_eq_some_iff.1 h1).1
        have hr' : r' < ρ.length := by rw [H.len]; exact (List.getElem?_eq_some_iff.1 h3).1
        rw [renρ_get (by rw [H.len]; exact hb) h2 hr] at hρp
        rw [renρ_get (by rw [H.len]; exact hb) h4 hr'] at hρq
        have e := H.inj r r' p1 p2 r1 r2 k h1 h3 l1 l2 hρp hρq b1 b2
        subst e
        rcases h2 with ⟨g1, rfl⟩ | ⟨g1, g2⟩ <;> rcases h4 with ⟨g3, g4⟩ | ⟨g3, g4⟩
        · exact g4
        · exact absurd (hge _ (List.mem_of_getElem? g4)) (by omega)
        · subst g4; exact absurd (hge _ (List.mem_of_getElem? g2)) (by omega)
        · have hlt := (List.getElem?_eq_some_iff.1 g2).1
          have hlt' := (List.getElem?_eq_some_iff.1 g4).1
          have : p - b = q - b := (List.getElem_inj hn).1 (by
            have e1 := (List.getElem?_eq_some_iff.1 g2).2
            have e2 := (List.getElem?_eq_some_iff.1 g4).2
            rw [e1, e2])
          omega
      · simp [AObj.live] at l2
    · simp [AObj.live] at l1

theorem Evo.ren (e : Evo b ks w0 ρ0 h0 w ρ h) (H : ρ.length = h.length) : Evo b (ks.filter fun r => decide (r < b)) w0 ρ0 h0 w (renρ ρ b acc) (renh h b acc) := by
  have hl : (h.take b).length = b := by rw [List.length_take]; have := e.len; omega
  have hlρ : (ρ.take b).length = b := by rw [List.length_take]; have := e.len; omega
  have get : ∀ {r : Nat} {o : AObj}, r < b → (renh h b acc)[r]? = some o → ∃ o1, h[r]? = some o1 ∧ o = o1.ren b acc := fun hr ho => by
    obtain ⟨r', o1, rfl, h1, h2⟩ := ren_get e.len ho
    rcases h2 with ⟨_, rfl⟩ | ⟨h2, _⟩
    · rcases h1 with h1 | rfl
      · exact ⟨o1, h1, rfl⟩
      · have : r' < h.length := by have := e.len; omega
        unfold renh at ho
        rw [List.getElem?_map, List.getElem?_append_left (by omega), List.getElem?_take_of_lt hr, List.getElem?_eq_getElem this] at ho
        simp only [Option.map_some, Option.some.injEq] at ho
        exact ⟨_, List.getElem?_eq_getElem this, ho.symm⟩
    · omega
  have nk : ∀ {r : Nat}, r < b → r ∉ (ks.filter fun r => decide (r < b)) → r ∉ ks := fun hr hn hk => hn (List.mem_filter.2 ⟨hk, by simpa using hr⟩)
  refine ⟨e.os, e.tape, e.output, ⟨e.own.size, e.own.block, fun k hk hx => e.own.fresh k hk (OO_ren H e.len hx)⟩, by unfold renh; simp only [List.length_map, List.length_append]; omega, fun r hr hn ⟨o, ho, hlv⟩ => ?_, fun r hr hn cs hc => ?_, fun r hr hn U ys hc => ?_, fun r hr hn ex ag A B es hc => ?_⟩
  · obtain ⟨o1, h1, rfl⟩ := get hr ho
    rw [ren_live] at hlv
    rw [renρ_get (by rw [H]; exact e.len) (.inl ⟨hr, rfl⟩) (by rw [H]; have := e.len; omega)]
    exact e.place r hr (nk hr hn) ⟨o1, h1, hlv⟩
  · obtain ⟨o1, h1, h2⟩ := get hr hc
    cases o1 <;> simp only [AObj.ren, reduceCtorEq] at h2
    exact e.vars r hr (nk hr hn) _ h1
  · obtain ⟨o1, h1, h2⟩ := get hr hc
    cases o1 <;> simp only [AObj.ren, reduceCtorEq] at h2
    rw [← h2] at h1
    exact e.row r hr (nk hr hn) U ys h1
  · obtain ⟨o1, h1, h2⟩ := get hr hc
    cases o1 <;> simp only [AObj.ren, reduceCtorEq] at h2
    rw [← h2] at h1
    exact e.map r hr (nk hr hn) ex ag A B es h1

omit [Ban] in
theorem trimT_get (keep : List Nat) : ∀ (l : List AV) (i j : Nat), (trimT keep i l)[j]? = (l[j]?).map fun v => if keep.contains (i + j) then v else .any
  | [], i, j => by simp [trimT]
  | v :: l, i, 0 => by simp [trimT]
  | v :: l, i, j + 1 => by
    simp only [trimT, List.getElem?_cons_succ]
    rw [trimT_get keep l (i + 1) j, show i + 1 + j = i + (j + 1) by omega]
omit [Ban] in
theorem trimT_len (keep : List Nat) : ∀ (l : List AV) (i : Nat), (trimT keep i l).length = l.length
  | [], _ => rfl
  | _ :: l, i => by simp [trimT, trimT_len keep l]

/-- No values under guards: where no slot is a guard. -/
theorem Rel.noOpt (R : Rel base w0 ρ0 h0 ρ s a w) (hg : s.g = []) {i j : Nat} {wt g : Bool} {v : AV} (h : s.t[i]? = some (.opt j wt g v)) : False := by
  have := (R.op i j wt g v h).1
  rw [hg] at this
  cases this

omit [Ban] in
theorem ren_opt {c : AV} {j : Nat} {wt g : Bool} {v : AV} (h : c.ren b acc = .opt j wt g v) : ∃ v0, c = .opt j wt g v0 := by
  cases c <;> simp only [AV.ren] at h <;> first | (simp only [reduceCtorEq] at h; done) | (split at h <;> simp only [reduceCtorEq] at h; done) | skip
  simp only [AV.opt.injEq] at h
  obtain ⟨rfl, rfl, rfl, _⟩ := h
  exact ⟨_, rfl⟩

theorem Rel.gc (R : Rel base w0 ρ0 h0 ρ s a w) (hg : s.g = []) (keep : List Nat) : ∃ ρ', Rel base w0 ρ0 h0 ρ' (s.gc keep) a w ∧ (s.gc keep).g = [] := by
  unfold St.gc
  generalize hacc : closeIds s.h s.b s.h.length 0 (addIds s.b [] ((trimT keep 0 s.t).flatMap AV.ids)) = acc
  obtain ⟨a1, a2⟩ := addIds_ok s.b ((trimT keep 0 s.t).flatMap AV.ids) [] (by simp) (by simp)
  obtain ⟨hn, hge⟩ := closeIds_ok s.h s.b s.h.length 0 _ a1 a2
  rw [hacc] at hn hge
  have hb := R.ev.len
  refine ⟨renρ ρ s.b acc, ⟨by simp [St.renum, trimT_len, R.tl], fun i c v hc hv => ?_, R.df, R.hp.ren hb hn hge, R.ev.ren R.hp.len, R.b0, fun i j wt g v hc => ?_⟩, hg⟩
  · simp only [St.renum, List.getElem?_map, trimT_get] at hc
    obtain ⟨c1, hc1, rfl⟩ := Option.map_eq_some_iff.1 hc
    obtain ⟨c2, hc2, rfl⟩ := Option.map_eq_some_iff.1 hc1
    have := (R.tm i c2 v hc2 hv).ren (acc := acc) R.hp.len hb
    split
    · exact this
    · exact .any
  · exfalso
    simp only [St.renum, List.getElem?_map, trimT_get] at hc
    obtain ⟨c1, hc1, hc3⟩ := Option.map_eq_some_iff.1 hc
    obtain ⟨c2, hc2, rfl⟩ := Option.map_eq_some_iff.1 hc1
    obtain ⟨v0, hv0⟩ := ren_opt hc3
    split at hv0
    · subst hv0; exact R.noOpt hg hc2
    · cases hv0

/-! ### lists that are not written any more -/
theorem Rel.kill1 (R : Rel base w0 ρ0 h0 ρ s a w) (r : Nat) : Rel base w0 ρ0 h0 ρ (s.kill r) a w := by
  have e : Evo s.h.length [r] w ρ s.h w ρ (s.h.map (AObj.kill r)) := (Evo.refl w ρ s.h s.h.length (Nat.le_refl _) [r]).killed r
  have K := RelK.kill (K := K0) (K' := K0) (r := r) ⟨R.tl, R.tm, R.op⟩ (fun q hq => .inl hq)
  exact ⟨K.tl, K.tm, R.df, R.hp.killed r, R.ev.trans e R.ev.len (fun q _ h => mem_kill s r q h), R.b0, K.op⟩

/-- A slot is told otherwise; the model's stays. -/
theorem Rel.retell (R : Rel base w0 ρ0 h0 ρ s a w) (hg : s.g = []) {i : Nat} {v : AV} (hv : v.isOpt = false) (hl : ∀ u, a.tmps[i]? = some u → LR w ρ s.h K0 v u) : Rel base w0 ρ0 h0 ρ (s.put (some i) v) a w := by
  by_cases hi : i < a.tmps.size
  · have := R.put (d := some i) (hl _ (Array.getElem?_eq_getElem hi)) (optOk_of hv) (fun j hj => by rw [hg]; simp)
    have e : a.put (some i) a.tmps[i] = a := by
      simp only [Act.put]
      congr 1
      apply Array.ext_getElem?
      intro k
      rw [Array.getElem?_setIfInBounds]
      split
      · rename_i hk; subst hk; simp [hi]
      · rfl
    rwa [e] at this
  · have hlt : ¬ i < s.t.length := by rw [← R.tl]; exact hi
    have : s.put (some i) v = s := by
      simp only [St.put]
      have : setNth s.t i v = s.t := by
        apply List.ext_getElem?
        intro k
        rw [setNth_get]
        split
        · rename_i hk; subst hk; rw [if_neg hlt, List.getElem?_eq_none (by omega)]
        · rfl
      rw [this]
    rw [this]
    exact R

theorem Rel.frz (R : Rel base w0 ρ0 h0 ρ s a w) (hg : s.g = []) (l : List Nat) : Rel base w0 ρ0 h0 ρ (s.frzT l) a w ∧ (s.frzT l).g = [] := by
  induction l generalizing s with
  | nil => exact ⟨R, hg⟩
  | cons i l ih =>
    simp only [St.frzT]
    split
    · rename_i r hr
      split
      · rename_i T ys hrow
        have hgone : goneAll s.h [r] = setNth s.h r .gone := rfl
        have R1 := R.gone [r]
        rw [hgone] at R1
        have R2 := R1.kill1 r
        have R3 := R2.retell hg (i := i) (v := .d (.sl T) ys) rfl (fun u hu => .d (by
          have hs := R.slot i
          rw [hr] at hs
          have hu' : a.tmps.getD i undef = u := by simp [Array.getD_eq_getD_getElem?, hu]
          rw [hu'] at hs
          have hX : ∀ b, XO ρ (St.kill ⟨s.t, setNth s.h r .gone, s.k, s.b, s.g⟩ r).h b → XO ρ (goneAll s.h [r]) b := fun b hb => (XO_kill r b).1 hb
          refine own_vr R.hp (fun b hb => XO_gone (hX b hb)) hs hrow fun rv b hρ hb hx => ?_
          exact XO_not_gone R.hp (rs := [r]) (by simp) hrow rfl hρ hb (hX b hx)))
        exact ih R3 hg
      · exact ih R hg
    · exact ih R hg

theorem Rel.head (R : Rel base w0 ρ0 h0 ρ s a w) (hg : s.g = []) (L : LAnn) : ∃ ρ', Rel base w0 ρ0 h0 ρ' (L.head s) a w ∧ (L.head s).g = [] := by
  obtain ⟨R1, g1⟩ := R.frz hg L.frz
  exact R1.gc g1 L.keep

/-! ### a nil slice becomes a row of the call's own -/
def Promo.pos : Promo → Bool
  | .tmp _ T => decide (0 < T.size)
  | .cell _ _ T => decide (0 < T.size)

theorem Rel.pro (R : Rel base w0 ρ0 h0 ρ s a w) (hg : s.g = []) {p : Promo} (hp : p.pos = true) (h : p.at s = some s1) : ∃ ρ', Rel base w0 ρ0 h0 ρ' s1 a w ∧ s1.g = [] := by
  cases p with
  | tmp i T =>
    have hpos : 0 < T.size := by simpa [Promo.pos] using hp
    simp only [Promo.at] at h
    split at h
    · rename_i U hi
      split at h
      · rename_i hU
        subst hU
        simp only [Option.some.injEq] at h
        subst h
        obtain ⟨ρ', R1, hl⟩ := R.newRow (T := U) (ys := []) (v := .slice none 0 0) (xs := []) (e := 0) (Below.refl _ w) hpos (w.ownsRow_nil base 0 U.size) (fun b hb => by cases hb) (by simp) Els.nil
        refine ⟨ρ', ?_, hg⟩
        have := R1.retell hg (i := i) (v := .own s.h.length) rfl (fun u hu => by
          have hs := R.slot i
          rw [hi] at hs
          have hu' : a.tmps.getD i undef = u := by simp [Array.getD_eq_getD_getElem?, hu]
          rw [hu'] at hs
          cases hs
          exact hl)
        exact this
      · cases h
    · simp only [Option.some.injEq] at h; subst h; exact ⟨ρ, R, hg⟩
    · simp only [Option.some.injEq] at h; subst h; exact ⟨ρ, R, hg⟩
    · cases h
  | cell r o T =>
    have hpos : 0 < T.size := by simpa [Promo.pos] using hp
    simp only [Promo.at] at h
    split at h
    · rename_i cs hr
      split at h
      · rename_i U hi
        split at h
        · rename_i hU
          subst hU
          simp only [Option.some.injEq] at h
          subst h
          obtain ⟨ρ', R1, hl⟩ := R.newRow (T := U) (ys := []) (v := .slice none 0 0) (xs := []) (e := 0) (Below.refl _ w) hpos (w.ownsRow_nil base 0 U.size) (fun b hb => by cases hb) (by simp) Els.nil
          have hrl : r < s.h.length := (List.getElem?_eq_some_iff.1 hr).1
          have hr1 : (s.h ++ [AObj.row U []])[r]? = some (.vars cs) := by rw [List.getElem?_append_left hrl]; exact hr
          obtain ⟨b, vs, e, h1, h2, h3, h4, h5, h6⟩ := R1.hp.obj r _ hr1
          have hal : (AObj.vars cs).alike (.vars (setNth cs o (.own s.h.length))) := ⟨fun _ _ => ⟨cs, rfl⟩, (fun _ _ h => by cases h), fun _ _ _ _ _ h => by cases h⟩
          have hgr : w.grownBy w (RV.blk b).block := ⟨rfl, rfl, rfl, Nat.le_refl _, fun _ _ _ => rfl⟩
          have ev := Evo.chg (ks := []) (o' := .vars (setNth cs o (.own s.h.length))) hr1 rfl h1 hgr (fun b hb => .inl hb) (.inr ⟨rfl, hal⟩)
          rw [setNth_same h1] at ev
          have R2 := R1.chg0 hr1 rfl h1 hgr hal ⟨b, vs, e, h1, h2, h3, by rw [setNth_len]; exact h4, fun i c v hc hv => by
            rw [setNth_get] at hc
            split at hc
            · rename_i hio
              subst hio
              split at hc
              · rename_i hlt
                simp only [Option.some.injEq] at hc
                subst hc
                have hci : cs[o]? = some (.nil U) := by
                  rw [nth_get, List.getElem?_eq_getElem hlt] at hi
                  rw [List.getElem?_eq_getElem hlt]
                  simpa using hi
                have hn := h5 o _ v hci hv
                cases hn
                exact hl.evo0 ev
              · cases hc
            · exact (h5 i c v hc hv).evo0 ev, h6⟩
          refine ⟨ρ', ?_, hg⟩
          have e1 : setNth (s.h ++ [AObj.row U []]) r (.vars (setNth cs o (.own s.h.length))) = setNth s.h r (.vars (setNth cs o (.own s.h.length))) ++ [.row U []] := by
            generalize AObj.vars (setNth cs o (.own s.h.length)) = x
            rw [setNth_eq, setNth_eq, List.set_append_left _ _ hrl]
          rw [e1] at R2
          exact R2
        · cases h
      · simp only [Option.some.injEq] at h; subst h; exact ⟨ρ, R, hg⟩
      · simp only [Option.some.injEq] at h; subst h; exact ⟨ρ, R, hg⟩
      · cases h
    · cases h

/-! ### behind a region -/
theorem noOpt_lr {K : Nat → Prop} {c : AV} {v : Value} (hlr : LR w ρ h K c v) : LR w ρ h K c.noOpt v := by
  cases hlr with
  | d hv => exact .d hv
  | fr hv => exact .fr hv
  | nil => exact .nil
  | own hv => exact .own hv
  | box hv => exact .box hv
  | pel hv => exact .pel hv
  | mp hv => exact .mp hv
  | pfz cs h1 h2 h3 => exact .pfz cs h1 h2 h3
  | fn h1 h2 => exact .fn h1 h2
  | agg h1 h2 h3 => exact .agg h1 h2 h3
  | tup h1 h2 => exact .tup h1 h2
  | opt h1 h2 => exact .any
  | any => exact .any
theorem Rel.unguard (R : Rel base w0 ρ0 h0 ρ s a w) : Rel base w0 ρ0 h0 ρ s.unguard a w ∧ s.unguard.g = [] := by
  unfold St.unguard
  split
  · rename_i hg; exact ⟨R, hg⟩
  · refine ⟨⟨by simpa using R.tl, fun i c v hc hv => ?_, R.df, R.hp, R.ev, R.b0, fun i j wt g v hc => ?_⟩, rfl⟩
    · simp only [List.getElem?_map] at hc
      obtain ⟨c', hc', rfl⟩ := Option.map_eq_some_iff.1 hc
      exact noOpt_lr (R.tm i c' v hc' hv)
    · exfalso
      simp only [List.getElem?_map] at hc
      obtain ⟨c', hc', h2⟩ := Option.map_eq_some_iff.1 hc
      cases c' <;> simp only [AV.noOpt, reduceCtorEq] at h2

end
end Go.Tw
