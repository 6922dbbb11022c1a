/- Appends to what is not written again. -/
import Derived.Test.YtdenbakbmggcpaaSnd13
import Derived.Laws.OwnMore
set_option linter.unusedVariables false
set_option linter.unusedSectionVars false
set_option linter.unusedSimpArgs false
namespace Go.Tw
open Go.RowKit

/-- Elements in a row of cells. -/
structure Els (w : World) (X : Nat → Prop) (T : Ty) (ys : List T.D) (xs : List Value) : Prop where
  len : xs.length = ys.length * T.size
  one : ∀ u ∈ xs, u.oneCell' = true
  el : ∀ (i : Nat) (y : T.D), ys[i]? = some y → VR w X T y ((xs.drop (i * T.size)).take T.size)
theorem Cells.els {w X} {T : Ty} {ys : List T.D} {A : Option Addr} {xs : List Value} (h : Cells w X T ys A xs) : Els w X T ys xs := ⟨h.len, h.one, h.el⟩
theorem Els.move {w X w' X'} {T : Ty} {ys : List T.D} {xs : List Value} (h : Els w X T ys xs) (k : Keeps w X w' X') : Els w' X' T ys xs := ⟨h.len, h.one, fun i y hy => (h.el i y hy).move k⟩
theorem Els.less {w X X'} {T : Ty} {ys : List T.D} {xs : List Value} (h : Els w X T ys xs) (hx : ∀ b, X' b → X b) : Els w X' T ys xs := ⟨h.len, h.one, fun i y hy => (h.el i y hy).less hx⟩
theorem Els.nil {w X} {T : Ty} : Els w X T [] [] := ⟨by simp, by simp, by simp⟩

theorem Els.append {w X} {T : Ty} {ys zs : List T.D} {xs us : List Value} (a : Els w X T ys xs) (b : Els w X T zs us) : Els w X T (ys ++ zs) (xs ++ us) := by
  refine ⟨by simp [a.len, b.len, Nat.add_mul], fun u hu => (List.mem_append.1 hu).elim (a.one u) (b.one u), fun i y hy => ?_⟩
  by_cases hi : i < ys.length
  · rw [List.getElem?_append_left hi] at hy
    have h1 : i * T.size + T.size ≤ ys.length * T.size := by
      have := Nat.mul_le_mul_right T.size (show i + 1 ≤ ys.length by omega)
      rwa [Nat.add_mul, Nat.one_mul] at this
    rw [List.drop_append_of_le_length (by rw [a.len]; omega), List.take_append_of_le_length (by rw [List.length_drop, a.len]; omega)]
    exact a.el i y hy
  · rw [List.getElem?_append_right (by omega)] at hy
    have h1 : i * T.size = xs.length + (i - ys.length) * T.size := by
      rw [a.len, ← Nat.add_mul]; congr 1; omega
    rw [h1, ← List.drop_drop, List.drop_left]
    exact b.el _ y hy

/-- Elements in a new row. -/
theorem Els.cells {w X} {T : Ty} {ys : List T.D} {xs : List Value} (a : Els w X T ys xs) {g : Nat} {e : TypeId} {cur : Array Value} {tl : List Value} (hg : w.heap[g]? = some (.cells cur e (0, 0))) (hx : cur.toList = xs ++ tl) : Cells w X T ys (some ⟨g, 0, none⟩) xs :=
  ⟨a.len, fun _ => ⟨_, rfl, fun j u hu => by
    rw [add_lit, Nat.zero_add, blk_cell hg, ← Array.getElem?_toList, hx, List.getElem?_append_left (List.getElem?_eq_some_iff.1 hu).1]
    exact hu⟩, a.one, a.el⟩

/-- What append is to be told of the types. -/
def appOk (P : Program) (t t' : TypeId) (sz lim : Nat) : Bool := t == t' && (match elemT P t with
  | some e => (match P.info? e with
    | some ie => ie.size == sz && (decide (0 < sz) && (decide (lim * ie.bytes ≤ 140737488355328) && (decide (lim ≤ maxLen) && (match ie.zero with | some z => z.cells.size == sz | none => false))))
    | none => false)
  | none => false)
theorem appOk_out {P : Program} {t t' : TypeId} {sz lim : Nat} (h : appOk P t t' sz lim = true) : t = t' ∧ ∃ e ie z, P.underlying t = some (.slice e) ∧ P.info? e = some ie ∧ ie.zero = some z ∧ ie.size = sz ∧ z.cells.size = sz ∧ 0 < sz ∧ lim * ie.bytes ≤ 140737488355328 ∧ lim ≤ maxLen := by
  unfold appOk at h
  simp only [Bool.and_eq_true, beq_iff_eq] at h
  obtain ⟨rfl, h⟩ := h
  split at h
  · rename_i e he
    split at h
    · rename_i ie hie
      simp only [Bool.and_eq_true, beq_iff_eq, decide_eq_true_eq] at h
      obtain ⟨h1, h2, h3, h4, h5⟩ := h
      split at h5
      · rename_i z hz
        exact ⟨rfl, e, ie, z, of_elemT he, hie, hz, h1, by simpa using h5, h2, h3, h4⟩
      · cases h5
    · cases h
  · cases h

/-- Nothing is appended. -/
theorem run_append_zero {P : Program} {w : World} {t ty e : TypeId} {ie : TypeInfo} (ht : P.underlying t = some (.slice e)) (hi : P.info? e = some ie) (B A : Option Addr) (n cap c : Nat) (hn : n ≤ cap) :
    (Builtin.append_ #[t, t] ty #[.slice B n cap, .slice A 0 c]).run P w = .ok (.slice B n cap) w := by
  cases A with
  | none => cases B <;> simp [Builtin.append_, run_underlying ht, sizeOf, typeInfo, hi, Builtin.lenOf, Builtin.firstCells, hn, storeCells]
  | some ad => cases B <;> simp [Builtin.append_, run_underlying ht, sizeOf, typeInfo, hi, Builtin.lenOf, Builtin.firstCells, hn, storeCells, loadCells, loadCellsFrom]

section
variable [Ban] {base : Nat} {w0 : World} {ρ0 : List RV} {h0 : AHeap} {ρ : List RV} {s : St} {a : Act} {w : World} {P : Program} {gd : Option (Nat × Bool)} {o : Oper} {v : AV} {h h' : AHeap} {K : Nat → Prop} {X' : Nat → Prop}

/-- A new row that is not written again. -/
theorem vr_new (H : HR base w ρ h) {w' : World} (hb : Below w.heap.size w w') {T : Ty} {ys : List T.D} {xs : List Value} (he : Els w (XO ρ h) T ys xs) {e : TypeId} {cur : Array Value} {tl : List Value} (hg : w'.heap[w.heap.size]? = some (.cells cur e (0, 0))) (hx : cur.toList = xs ++ tl)
    (hm : ys.length ≤ maxLen) {cap : Nat} (hc : ys.length ≤ cap) : VR w' (XO ρ h) (.sl T) ys [.slice (some ⟨w.heap.size, 0, none⟩) ys.length cap] :=
  ((he.move (Keeps.below hb)).cells hg hx).vr hm hc fun ad had _ => by
    simp only [Option.some.injEq] at had
    subst had
    exact ⟨fun hx => Nat.lt_irrefl _ (XO_lt H hx), lt_of_get hg⟩

/-- An append that makes a new row: what is there, then what is appended. -/
theorem run_append_new (H : HR base w ρ h) {t ty e : TypeId} {ie : TypeInfo} {z : Value} {T : Ty} {lim : Nat} (ht : P.underlying t = some (.slice e)) (hi : P.info? e = some ie) (hz : ie.zero = some z) (hsz : ie.size = T.size) (hlim : lim * ie.bytes ≤ 140737488355328) (hlm : lim ≤ maxLen)
    {ys zs : List T.D} {A B : Option Addr} {c : Nat} {xs us : List Value} (hy : Cells w (XO ρ h) T ys B xs) (hzs : Cells w (XO ρ h) T zs A us) (h0 : 0 < zs.length) (hle : ys.length + zs.length ≤ lim) :
    ∃ z' w', (Builtin.append_ #[t, t] ty #[.slice B ys.length ys.length, .slice A zs.length c]).run P w = .ok z' w' ∧ Below w.heap.size w w' ∧ VR w' (XO ρ h) (.sl T) (ys ++ zs) [z'] := by
  obtain ⟨ad, rfl, hcz⟩ := hzs.at_ h0
  have hmm : ∀ {n : Nat}, n ≤ lim → n * ie.bytes ≤ 140737488355328 := fun hn => Nat.le_trans (Nat.mul_le_mul_right _ hn) hlim
  have hl63 : ys.length + zs.length ≤ 9223372036854775807 := by simp only [maxLen] at hlm; omega
  have hel := hy.els.append hzs.els
  have hlen : (ys ++ zs).length = ys.length + zs.length := by simp
  by_cases hB : B = none
  · subst hB
    have h1 : ys.length = 0 := by
      rcases Nat.eq_zero_or_pos ys.length with h | h
      · exact h
      · obtain ⟨_, h, _⟩ := hy.at_ h; cases h
    have hys : ys = [] := List.eq_nil_of_length_eq_zero h1
    subst hys
    have hxs : xs = [] := List.eq_nil_of_length_eq_zero (by rw [hy.len]; simp)
    subst hxs
    have hr := run_append_nil (P := P) w t ty e ie z ht hi hz ad zs.length c us (by rw [hzs.len, hsz]) hcz h0 (by have := hl63; simp only [List.length_nil] at this; omega) (by have := hmm (n := zs.length) (by simpa using hle); omega)
    refine ⟨_, _, hr, ((Below.refl _ w).drew).alloc (Nat.le_refl _) _, ?_⟩
    have := vr_new H (w' := w.drew.alloc (.cells (us.toArray ++ Builtin.zeroCells z.cells (grownCap w zs.length 0 e - zs.length)) e)) (((Below.refl _ w).drew).alloc (Nat.le_refl _) _) hel (cur := us.toArray ++ Builtin.zeroCells z.cells (grownCap w zs.length 0 e - zs.length)) (tl := (Builtin.zeroCells z.cells (grownCap w zs.length 0 e - zs.length)).toList) (heap_alloc_new w.drew _) (by simp) (by rw [hlen]; simp only [maxLen]; omega) (cap := grownCap w zs.length 0 e) (by rw [hlen]; simpa using grownCap_ge w zs.length 0 e)
    simpa using this
  · obtain ⟨b, rfl⟩ : ∃ b, B = some b := by cases B with | none => exact absurd rfl hB | some b => exact ⟨b, rfl⟩
    have hcy : ∀ (j : Nat) (u : Value), xs[j]? = some u → w.cell? (b.add j) = some u := by
      intro j u hu
      rcases Nat.eq_zero_or_pos ys.length with h | h
      · have hxl := hy.len
        rw [h, Nat.zero_mul] at hxl
        have : xs = [] := List.eq_nil_of_length_eq_zero hxl
        subst this
        simp at hu
      · obtain ⟨b', hb', hc'⟩ := hy.at_ h
        simp only [Option.some.injEq] at hb'
        subst hb'
        exact hc' j u hu
    have hr := run_append_grow (P := P) w t ty e ie z ht hi hz b ys.length ys.length xs (by rw [hy.len, hsz]) hcy ad zs.length c us (by rw [hzs.len, hsz]) hcz (by omega) (by omega) (growslice_fits (by omega) (hmm hle))
    refine ⟨_, _, hr, ((Below.refl _ w).drew).alloc (Nat.le_refl _) _, ?_⟩
    have := vr_new H (w' := w.drew.alloc (.cells (xs.toArray ++ us.toArray ++ Builtin.zeroCells z.cells (grownCap w (ys.length + zs.length) ys.length e - (ys.length + zs.length))) e)) (((Below.refl _ w).drew).alloc (Nat.le_refl _) _) hel (cur := xs.toArray ++ us.toArray ++ Builtin.zeroCells z.cells (grownCap w (ys.length + zs.length) ys.length e - (ys.length + zs.length))) (tl := (Builtin.zeroCells z.cells (grownCap w (ys.length + zs.length) ys.length e - (ys.length + zs.length))).toList) (heap_alloc_new w.drew _) (by simp) (by rw [hlen]; simp only [maxLen]; omega) (cap := grownCap w (ys.length + zs.length) ys.length e) (by rw [hlen]; exact grownCap_ge w _ _ e)
    rw [hlen] at this
    exact this

theorem VR.nilslice {X} {T : Ty} {c : Nat} : VR w X (.sl T) ([] : List T.D) [.slice none 0 c] := by simp [VR]

theorem sound_appf (R : Rel base w0 ρ0 h0 ρ s a w) (hg : GH gd a) {T : Ty} {l x : AX} {y y' : Operand} {t t' : TypeId} {lim : Nat} (ho : o.op = .call { callee := .builtin .append, args := #[y, y'], argTypes := #[t, t'] }) (hok : appOk P t t' T.size lim = true) (hx : okX l y = true) (hx' : okX x y' = true)
    (hp : CV.map2 (l.get gd s) (x.get gd s) (fun l x => (match listOf s.h T x with
    | some zs => (match l with
      | .nil U => if U = T then some (decide (zs.length ≤ lim), .d (.sl T) zs) else none
      | .fr U ys => if e : U = T then some (decide ((e ▸ ys : List T.D).length + zs.length ≤ lim), .d (.sl T) ((e ▸ ys : List T.D) ++ zs)) else none
      | _ => none)
    | none => none)) = some (true, v)) : Sound P o a w ρ s.h v := by
  obtain ⟨rfl, e, ie, z, ht, hi, hz, hsz, hzs, hpos, hlim, hlm⟩ := appOk_out hok
  obtain ⟨hc, hc', hp⟩ := map2_some hp
  have hl := R.get hg hx hc
  have hl' := R.get hg hx' hc'
  generalize (l.get gd s).2 = L at *
  generalize (x.get gd s).2 = X at *
  have fin : ∀ {z' w'}, (Builtin.append_ #[t, t] o.type #[a.eval y, a.eval y']).run P w = .ok z' w' → Below w.heap.size w w' → LR w' ρ s.h K0 v z' → Sound P o a w ρ s.h v := fun hr hb hlz =>
    Gives.run (exec_builtin2 (f := Builtin.append_) ho (fun _ _ _ => rfl) hr) ⟨hb, hlz⟩
  split at hp
  · rename_i zs hzs'
    obtain ⟨A, c, us, hu, hm, hcap, hcz⟩ := lr_list R.hp hl' hzs'
    rw [hu] at fin
    split at hp
    · rename_i U
      generalize hyv : a.eval y = yv at *
      cases hl
      split at hp
      · simp only [Option.some.injEq, Prod.mk.injEq, decide_eq_true_eq] at hp
        obtain ⟨hle, rfl⟩ := hp
        by_cases h0 : zs.length = 0
        · have : zs = [] := List.eq_nil_of_length_eq_zero h0
          subst this
          exact fin (run_append_zero ht hi none A 0 0 c (Nat.le_refl _)) (Below.refl _ _) (.d VR.nilslice)
        · obtain ⟨z', w', hr, hb, hv⟩ := run_append_new (P := P) (ty := o.type) (c := c) R.hp ht hi hz hsz hlim hlm (ys := []) (B := none) (xs := []) ⟨by simp, fun h => absurd h (by simp), by simp, by simp⟩ hcz (by omega) (by simpa using hle)
          exact fin hr hb (.d (by simpa using hv))
      · cases hp
    · rename_i U ys
      split at hp
      · rename_i e'
        subst e'
        simp only [Option.some.injEq, Prod.mk.injEq, decide_eq_true_eq] at hp
        obtain ⟨hle, rfl⟩ := hp
        generalize hyv : a.eval y = yv at *
        cases hl with
        | @fr _ _ B hv =>
          by_cases h0 : zs.length = 0
          · have : zs = [] := List.eq_nil_of_length_eq_zero h0
            subst this
            exact fin (run_append_zero ht hi B A ys.length ys.length c (Nat.le_refl _)) (Below.refl _ _) (by rw [List.append_nil]; exact .d hv)
          · obtain ⟨_, _, _, xs, hcy⟩ := hv.cells
            obtain ⟨z', w', hr, hb, hv⟩ := run_append_new (P := P) (ty := o.type) (c := c) R.hp ht hi hz hsz hlim hlm hcy hcz (by omega) hle
            exact fin hr hb (.d hv)
      · cases hp
    · cases hp
  · cases hp

end
end Go.Tw
