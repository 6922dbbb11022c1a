/- Addresses, lengths, lists as cells. -/
import Derived.Test.YtdenbakbmggcpaaSnd4
set_option linter.unusedVariables false
set_option linter.unusedSectionVars false
set_option linter.unusedSimpArgs false
namespace Go.Tw
open Go.RowKit

section
variable [Ban] {w : World} {ρ : List RV} {h : AHeap} {P : Program}

end

/-! ### lists as cells -/
theorem flat_len {f : Nat → List Value} {sz : Nat} : ∀ (n : Nat), (∀ i, i < n → (f i).length = sz) → ((List.range n).flatMap f).length = n * sz
  | 0, _ => by simp
  | n + 1, hf => by
    rw [List.range_succ, List.flatMap_append, List.length_append, flat_len n (fun i hi => hf i (by omega))]
    simp [hf n (by omega), Nat.add_mul]
theorem flat_seg {f : Nat → List Value} {sz : Nat} : ∀ (n : Nat), (∀ i, i < n → (f i).length = sz) → ∀ i, i < n → (((List.range n).flatMap f).drop (i * sz)).take sz = f i
  | 0, _, i, hi => by omega
  | n + 1, hf, i, hi => by
    have hlen := flat_len n (fun i hi => hf i (by omega))
    rw [List.range_succ, List.flatMap_append]
    by_cases hin : i = n
    · subst hin
      rw [List.drop_append_of_le_length (by omega), List.drop_of_length_le (by omega)]
      simp [List.take_of_length_le, hf i (by omega)]
    · have h1 : i * sz + sz ≤ n * sz := by
        have := Nat.mul_le_mul_right sz (show i + 1 ≤ n by omega)
        rwa [Nat.add_mul, Nat.one_mul] at this
      rw [List.drop_append_of_le_length (by omega), List.take_append_of_le_length (by rw [List.length_drop]; omega)]
      exact flat_seg n (fun i hi => hf i (by omega)) i (by omega)
theorem seg_get {xs : List Value} {sz i j : Nat} (hj : j < sz) : ((xs.drop (i * sz)).take sz)[j]? = xs[i * sz + j]? := by
  rw [List.getElem?_take_of_lt hj, List.getElem?_drop]

/-- A list's cells in memory: from an address on, or nowhere. -/
structure Cells (w : World) (X : Nat → Prop) (T : Ty) (ys : List T.D) (A : Option Addr) (xs : List Value) : Prop where
  len : xs.length = ys.length * T.size
  at_ : 0 < ys.length → ∃ ad, A = some ad ∧ ∀ (j : Nat) (u : Value), xs[j]? = some u → w.cell? (ad.add j) = some u
  one : ∀ u ∈ xs, u.oneCell' = true
  el : ∀ (i : Nat) (y : T.D), ys[i]? = some y → VR w X T y ((xs.drop (i * T.size)).take T.size)

theorem div_cell {sz n j : Nat} (hs : 0 < sz) (hj : j < n * sz) : j / sz < n ∧ j = j / sz * sz + j % sz ∧ j % sz < sz := by
  refine ⟨Nat.div_lt_of_lt_mul (by rw [Nat.mul_comm]; exact hj), ?_, Nat.mod_lt _ hs⟩
  have := Nat.div_add_mod j sz
  rw [Nat.mul_comm] at this
  exact this.symm

theorem VR.cells {w X} {T : Ty} {ys : List T.D} {A : Option Addr} {n c : Nat} (hv : VR w X (.sl T) ys [.slice A n c]) : n = ys.length ∧ ys.length ≤ maxLen ∧ ys.length ≤ c ∧ ∃ xs, Cells w X T ys A xs := by
  simp only [VR] at hv
  obtain ⟨A', c', he, hm, hc, hv⟩ := hv
  simp only [List.cons.injEq, Value.slice.injEq, and_true] at he
  obtain ⟨rfl, rfl, rfl⟩ := he
  refine ⟨rfl, hm, hc, ?_⟩
  by_cases hn : 0 < ys.length
  · obtain ⟨ad, rfl, hx, hlt, hel⟩ := hv hn
    have hch : ∀ i, ∃ es : List Value, i < ys.length → es.length = T.size ∧ (∀ (j : Nat) (u : Value), es[j]? = some u → w.cell? (ad.add (i * T.size + j)) = some u) ∧ ∀ y, ys[i]? = some y → VR w X T y es := by
      intro i
      by_cases hi : i < ys.length
      · obtain ⟨es, h1, h2, h3⟩ := hel i ys[i] (by simp [hi])
        exact ⟨es, fun _ => ⟨h1, h2, fun y hy => by simp [hi] at hy; subst hy; exact h3⟩⟩
      · exact ⟨[], fun h => absurd h hi⟩
    obtain ⟨f, hf⟩ := Classical.axiomOfChoice hch
    have hl : ∀ i, i < ys.length → (f i).length = T.size := fun i hi => (hf i hi).1
    refine ⟨(List.range ys.length).flatMap f, flat_len _ hl, fun _ => ⟨ad, rfl, fun j u hu => ?_⟩, fun u hu => ?_, fun i y hy => ?_⟩
    · have hjl : j < ys.length * T.size := by
        have := (List.getElem?_eq_some_iff.1 hu).1
        rwa [flat_len _ hl] at this
      have hs : 0 < T.size := by
        rcases Nat.eq_zero_or_pos T.size with h | h
        · rw [h] at hjl; omega
        · exact h
      obtain ⟨h1, h2, h3⟩ := div_cell hs hjl
      have hseg := flat_seg _ hl _ h1
      have := seg_get (xs := (List.range ys.length).flatMap f) (i := j / T.size) h3
      rw [hseg, ← h2, hu] at this
      have hc := (hf _ h1).2.1 _ _ this
      rwa [← h2] at hc
    · obtain ⟨i, hi, hu⟩ := List.mem_flatMap.1 hu
      have hi : i < ys.length := by simpa using hi
      exact ((hf i hi).2.2 ys[i] (by simp [hi])).one u hu
    · have hi := (List.getElem?_eq_some_iff.1 hy).1
      rw [flat_seg _ hl i hi]
      exact (hf i hi).2.2 y hy
  · have : ys = [] := List.eq_nil_of_length_eq_zero (by omega)
    subst this
    exact ⟨[], by simp, fun h => absurd h (by simp), by simp, by simp⟩

section
variable [Ban] {w : World} {ρ : List RV} {h : AHeap} {P : Program} {base : Nat}

/-- What a list value leads to. -/
theorem lr_list (H : HR base w ρ h) {T : Ty} {c : AV} {u : Value} {ys : List T.D} (hl : LR w ρ h K0 c u) (hx : asD h (.sl T) c = some ys) :
    ∃ A cap xs, u = .slice A ys.length cap ∧ ys.length ≤ maxLen ∧ ys.length ≤ cap ∧ Cells w (XO ρ h) T ys A xs := by
  unfold asD at hx
  split at hx
  · rename_i U x
    split at hx
    · rename_i e
      subst e
      simp only [Option.some.injEq] at hx
      subst hx
      cases hl with
      | d hv =>
        have hv' := hv
        simp only [VR] at hv'
        obtain ⟨A, c, he, _⟩ := hv'
        simp only [List.cons.injEq, and_true] at he
        subst he
        obtain ⟨_, h1, h2, xs, h3⟩ := hv.cells
        exact ⟨A, c, xs, rfl, h1, h2, h3⟩
    · cases hx
  · rename_i U
    cases hl
    simp only at hx
    split at hx
    · simp only [Option.some.injEq] at hx
      subst hx
      exact ⟨none, 0, [], rfl, by simp, by simp, by simp, fun h => absurd h (by simp), by simp, by simp⟩
    · cases hx
  · rename_i U ys'
    split at hx
    · rename_i e
      have e' : U = T := by simpa using e
      subst e'
      simp only [Option.some.injEq] at hx
      subst hx
      cases hl with
      | @fr _ _ A hv =>
        obtain ⟨_, h1, h2, xs, h3⟩ := hv.cells
        exact ⟨A, _, xs, rfl, h1, Nat.le_refl _, h3⟩
    · cases hx
  · rename_i r
    split at hx
    · rename_i U ys' hr
      split at hx
      · rename_i e
        have e' : U = T := by simpa using e
        subst e'
        simp only [Option.some.injEq] at hx
        subst hx
        cases hl with
        | own ho =>
          have hρ := (ho id).2 U ys' hr
          obtain ⟨hsz, v0, e, xs, hρ', hown, h1, hm, hel⟩ := H.obj r _ hr
          obtain rfl : u = v0 := by rw [hρ] at hρ'; simpa using hρ'
          have hxl := hown.1
          rcases hown.2 with ⟨rfl, hn⟩ | ⟨g, cap, cur, rfl, hb, hh, hnc, hmc, hcs, htk⟩
          · have : ys' = [] := List.eq_nil_of_length_eq_zero hn
            subst this
            exact ⟨none, 0, xs, by simp, by simp, by simp, hxl, fun h => absurd h (by simp), h1, hel⟩
          · exact ⟨some ⟨g, 0, none⟩, cap, xs, rfl, hm, hnc, hxl, fun _ => ⟨_, rfl, hown.cells rfl⟩, h1, hel⟩
      · cases hx
    · cases hx
  · simp only at hx
    cases hx
  · cases hx

theorem lr_asD_prim {T : Ty} {c : AV} {u : Value} {x : T.D} (hT : ∀ U, T ≠ .sl U) (hl : LR w ρ h K0 c u) (hx : asD h T c = some x) : VR w (XO ρ h) T x [u] := by
  unfold asD at hx
  split at hx
  · rename_i U x'
    split at hx
    · rename_i e
      subst e
      simp only [Option.some.injEq] at hx
      subst hx
      cases hl with
      | d hv => exact hv
    · cases hx
  · split at hx
    · exact absurd rfl (hT _)
    · cases hx
  · split at hx
    · rename_i e; exact absurd e.symm (hT _)
    · cases hx
  · split at hx
    · split at hx
      · rename_i e; exact absurd e.symm (hT _)
      · cases hx
    · cases hx
  · split at hx
    · simp only [Option.some.injEq] at hx
      subst hx
      cases hl with
      | fn h1 h2 =>
        rename_i vs
        have : vs = #[] := by simpa using h1.symm
        subst this
        simp [VR]
    · cases hx
  · cases hx

/-- A list that the call doesn't write any more. -/
theorem Cells.vr {X : Nat → Prop} {T : Ty} {ys : List T.D} {A : Option Addr} {xs : List Value} {cap : Nat} (hc : Cells w X T ys A xs) (hm : ys.length ≤ maxLen) (hcap : ys.length ≤ cap)
    (hA : ∀ ad, A = some ad → 0 < ys.length → ¬ X ad.block ∧ ad.block < w.heap.size) : VR w X (.sl T) ys [.slice A ys.length cap] := by
  simp only [VR]
  refine ⟨A, cap, rfl, hm, hcap, fun hn => ?_⟩
  obtain ⟨ad, rfl, hcell⟩ := hc.at_ hn
  obtain ⟨h1, h2⟩ := hA ad rfl hn
  refine ⟨ad, rfl, h1, h2, fun i y hy => ⟨_, (hc.el i y hy).len, fun j u hu => ?_, hc.el i y hy⟩⟩
  have hj : j < T.size := by have := (List.getElem?_eq_some_iff.1 hu).1; rwa [(hc.el i y hy).len] at this
  rw [seg_get hj] at hu
  exact hcell _ u hu

end
end Go.Tw
