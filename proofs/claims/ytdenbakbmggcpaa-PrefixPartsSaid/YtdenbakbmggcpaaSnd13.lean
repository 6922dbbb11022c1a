/- Literals of slices. -/
import Derived.Test.YtdenbakbmggcpaaSnd12
set_option linter.unusedVariables false
set_option linter.unusedSectionVars false
set_option linter.unusedSimpArgs false
namespace Go.Tw
open Go.RowKit

abbrev cellsOf (us : List Value) : List Value := us.flatMap fun u => u.cells.toList

theorem cellsOf_len {sz : Nat} : ∀ (us : List Value), (∀ u ∈ us, u.cells.size = sz) → (cellsOf us).length = us.length * sz
  | [], _ => by simp
  | u :: us, hu => by
    have := cellsOf_len us fun v hv => hu v (List.mem_cons_of_mem _ hv)
    simp only [cellsOf, List.flatMap_cons, List.length_append, Array.length_toList, List.length_cons, hu u (by simp), Nat.add_mul] at *
    omega
theorem cellsOf_seg {sz : Nat} : ∀ (us : List Value), (∀ u ∈ us, u.cells.size = sz) → ∀ (i : Nat) (u : Value), us[i]? = some u → ((cellsOf us).drop (i * sz)).take sz = u.cells.toList
  | [], _, i, u, h => by simp at h
  | v :: us, hu, i, u, h => by
    have hv := hu v (by simp)
    cases i with
    | zero =>
      simp only [List.getElem?_cons_zero, Option.some.injEq] at h
      subst h
      simp only [cellsOf, List.flatMap_cons, Nat.zero_mul, List.drop_zero]
      rw [List.take_append_of_le_length (by simp [hv]), List.take_of_length_le (by simp [hv])]
    | succ i =>
      simp only [List.getElem?_cons_succ] at h
      have := cellsOf_seg us (fun v hv => hu v (List.mem_cons_of_mem _ hv)) i u h
      simp only [cellsOf, List.flatMap_cons, Nat.add_mul, Nat.one_mul] at *
      rw [show i * sz + sz = v.cells.toList.length + i * sz by simp [hv]; omega, ← List.drop_drop, List.drop_left]
      exact this

theorem fill_elems {sz : Nat} : ∀ (us : List Value) (i : Nat) (done z : List Value), (∀ u ∈ us, u.cells.size = sz) → done.length = i * sz → z.length = us.length * sz →
    Instr.fill (fun i => some (i * sz, sz)) (done ++ z).toArray ((us.zipIdx i).map fun x => (x.2, x.1)) = some (done ++ cellsOf us).toArray
  | [], i, done, z, hu, hd, hz => by
    have : z = [] := List.eq_nil_of_length_eq_zero (by simpa using hz)
    subst this
    simp [Instr.fill]
  | u :: us, i, done, z, hu, hd, hz => by
    have hs := hu u (by simp)
    simp only [List.zipIdx_cons, List.map_cons]
    simp only [List.length_cons, Nat.add_mul, Nat.one_mul] at hz
    rw [fill_step _ done z i sz u _ (by rw [hd]) hs (by omega), fill_elems us (i + 1) (done ++ u.cells.toList) (z.drop sz) (fun v hv => hu v (List.mem_cons_of_mem _ hv)) (by simp [hd, hs, Nat.add_mul]) (by simp; omega)]
    simp [cellsOf, List.append_assoc]

/-- The parts of a slice's literal: each place once, in order. -/
def okIdx : Nat → List AX → List (Nat × Operand) → Bool
  | _, [], [] => true
  | i, x :: xs, (j, y) :: ys => i == j && (okX x y && okIdx (i + 1) xs ys)
  | _, _, _ => false
theorem okIdx_map (a : Act) : ∀ (i : Nat) (xs : List AX) (ys : List (Nat × Operand)), okIdx i xs ys = true → ys.map (fun p => (p.1, a.eval p.2)) = ((ys.map fun p => a.eval p.2).zipIdx i).map fun x => (x.2, x.1)
  | _, [], [], _ => rfl
  | i, x :: xs, (j, y) :: ys, h => by
    simp only [okIdx, Bool.and_eq_true, beq_iff_eq] at h
    obtain ⟨rfl, _, h⟩ := h
    have := okIdx_map a (i + 1) xs ys h
    simp [this]
  | _, [], _ :: _, h => by simp [okIdx] at h
  | _, _ :: _, [], h => by simp [okIdx] at h
def litOk (P : Program) (t : TypeId) (n sz : Nat) (xs : List AX) (parts : List (Nat × Operand)) : Bool := match elemT P t with
  | some e => (match P.info? e with
    | some ie => ie.size == sz && (decide (0 < sz) && (ie.zero.isSome && (decide (n * sz ≤ 2 ^ 24) && (n == xs.length && okIdx 0 xs parts))))
    | none => false)
  | none => false

theorem run_lit {P : Program} {w : World} {a : Act} {t : TypeId} {n sz : Nat} {xs : List AX} {parts : Array (Nat × Operand)} (hok : litOk P t n sz xs parts.toList = true) (hu : ∀ u ∈ parts.toList.map (fun p => a.eval p.2), u.cells.size = sz) :
    ∃ e, elemT P t = some e ∧ sizeT P e = some sz ∧ 0 < sz ∧ n = xs.length ∧ n * sz ≤ 2 ^ 24 ∧ (Instr.buildSlice t n (parts.map fun (i, x) => (i, a.eval x))).run P w = .ok (.slice (some ⟨w.heap.size, 0, none⟩) n n) (w.alloc (.cells (cellsOf (parts.toList.map fun p => a.eval p.2)).toArray e)) := by
  unfold litOk at hok
  split at hok
  · rename_i e he
    split at hok
    · rename_i ie hie
      simp only [Bool.and_eq_true, beq_iff_eq, decide_eq_true_eq] at hok
      obtain ⟨rfl, hsz, hz, hsmall, hn, hidx⟩ := hok
      obtain ⟨z, hz⟩ := Option.isSome_iff_exists.1 hz
      refine ⟨e, he, by simp [sizeT, hie], hsz, hn, hsmall, ?_⟩
      have hlen : (parts.toList.map fun p => a.eval p.2).length = n := by
        have : ∀ (i : Nat) (xs : List AX) (ys : List (Nat × Operand)), okIdx i xs ys = true → ys.length = xs.length := by
          intro i xs
          induction xs generalizing i with
          | nil => intro ys h; cases ys with | nil => rfl | cons y ys => simp [okIdx] at h
          | cons x xs ih => intro ys h; cases ys with
            | nil => simp [okIdx] at h
            | cons y ys => obtain ⟨j, y⟩ := y; simp only [okIdx, Bool.and_eq_true] at h; simp [ih (i + 1) ys h.2.2]
        rw [List.length_map, this 0 xs _ hidx, hn]
      have hmap : (parts.map fun (i, x) => (i, a.eval x)).toList = ((parts.toList.map fun p => a.eval p.2).zipIdx 0).map fun x => (x.2, x.1) := by
        rw [Array.toList_map]; exact okIdx_map a 0 xs _ hidx
      have hfill : ∀ (zs : Array Value), zs.size = n * ie.size → Instr.fill (fun i => some (i * ie.size, ie.size)) zs (parts.map fun (i, x) => (i, a.eval x)).toList = some (cellsOf (parts.toList.map fun p => a.eval p.2)).toArray := by
        intro zs hzs
        have := fill_elems (parts.toList.map fun p => a.eval p.2) 0 [] zs.toList hu (by simp) (by rw [hlen]; simpa using hzs)
        rw [hmap]
        simpa using this
      by_cases h0 : n * ie.size = 0
      · have hn0 : n = 0 := by rcases Nat.mul_eq_zero.1 h0 with h | h <;> omega
        have hnil : (parts.toList.map fun p => a.eval p.2) = [] := List.eq_nil_of_length_eq_zero (by omega)
        subst hn0
        have hp : parts = #[] := by
          have : parts.toList = [] := by simpa using hnil
          simpa using this
        subst hp
        simp [Instr.buildSlice, run_underlying (of_elemT he), sizeOf, typeInfo, hie, Instr.fill, newRow]
        rw [Array.eq_empty_of_size_eq_zero (xs := Array.map _ _) (by simp)]
      · exact run_buildSlice w t e n _ _ ie z (of_elemT he) hie hz (by omega) h0 (hfill _ (by simp))
    · cases hok
  · cases hok

section
variable [Ban] {base : Nat} {w0 : World} {ρ0 : List RV} {h0 : AHeap} {ρ : List RV} {s : St} {a : Act} {w : World} {P : Program} {gd : Option (Nat × Bool)} {o : Oper} {v : AV} {h h' : AHeap} {K : Nat → Prop} {X' : Nat → Prop}

theorem XO_lt (H : HR base w ρ h) {b : Nat} (hb : XO ρ h b) : b < w.heap.size := by
  rcases hb with hb | ⟨r, o, rv, hr, hlive, hρ, hbl⟩
  · exact Nat.lt_of_lt_of_le (H.ban b hb) H.base_le
  · have ho := H.obj r o hr
    cases o with
    | gone => simp [AObj.live] at hlive
    | map ex ag A B es =>
      obtain ⟨b', arr, clock, ds, h1, h2, h3, _⟩ := ho
      rw [hρ] at h1
      simp only [Option.some.injEq] at h1
      subst h1
      simp only [RV.block, Option.some.injEq] at hbl
      subst hbl
      exact lt_of_get h3
    | vars cs =>
      obtain ⟨b', vs, e, h1, h2, h3, _⟩ := ho
      rw [hρ] at h1
      simp only [Option.some.injEq] at h1
      subst h1
      simp only [RV.block, Option.some.injEq] at hbl
      subst hbl
      exact lt_of_get h3
    | row U ys =>
      obtain ⟨_, v, e, xs, h1, h2, _⟩ := ho
      rw [hρ] at h1
      simp only [Option.some.injEq] at h1
      subst h1
      exact (h2.lt b hbl).2

/-- The elements of a literal. -/
theorem elems_vr (R : Rel base w0 ρ0 h0 ρ s a w) (hg : GH gd a) (hX : ∀ b, X' b → XO ρ s.h b) (hh : h' = s.h ∨ h' = []) {T : Ty} : ∀ {xs : List AX} {i : Nat} {ps : List (Nat × Operand)} {ys : List T.D}, okIdx i xs ps = true → elems gd s h' T xs = some (true, ys) →
    (h' = s.h → ∀ r, r ∈ xs.flatMap (fun x => (x.get gd s).2.owns) → ∀ rv b, ρ[r]? = some rv → rv.block = some b → ¬ X' b) →
    ys.length = ps.length ∧ ∀ (j : Nat) (y : T.D) (u : Value), ys[j]? = some y → (ps.map fun p => a.eval p.2)[j]? = some u → VR w X' T y u.cells.toList
  | [], i, [], ys, _, he, _ => by
    simp only [elems, Option.some.injEq, Prod.mk.injEq, true_and] at he
    subst he
    simp
  | x :: xs, i, (j, y) :: ps, ys, hok, he, hown => by
    simp only [okIdx, Bool.and_eq_true, beq_iff_eq] at hok
    obtain ⟨rfl, hx, hok⟩ := hok
    simp only [elems] at he
    split at he
    · rename_i yv hw
      split at he
      · rename_i c ys' he'
        simp only [Option.some.injEq, Prod.mk.injEq, Bool.and_eq_true] at he
        obtain ⟨⟨hc, rfl⟩, rfl⟩ := he
        obtain ⟨h1, h2⟩ := elems_vr R hg hX hh hok he' (fun e r hr => hown e r (by simp only [List.flatMap_cons, List.mem_append]; exact .inr hr))
        refine ⟨by simp [h1], fun k yk u hyk hu => ?_⟩
        cases k with
        | zero =>
          simp only [List.getElem?_cons_zero, Option.some.injEq, List.map_cons] at hyk hu
          subst hyk hu
          exact whole_vr R.hp hX hh (R.get hg hx hc) hw (fun e r hr => hown e r (by simp only [List.flatMap_cons, List.mem_append]; exact .inl hr))
        | succ k =>
          simp only [List.getElem?_cons_succ, List.map_cons] at hyk hu
          exact h2 k yk u hyk hu
      · cases he
    · cases he
  | [], _, _ :: _, _, hok, _, _ => by simp [okIdx] at hok
  | _ :: _, _, [], _, hok, _, _ => by simp [okIdx] at hok

theorem VR.csize {X} {T : Ty} {y : T.D} {u : Value} (hv : VR w X T y u.cells.toList) : u.cells.size = T.size := by
  have := hv.len
  simpa using this

/-- A new row's cells as a list's. -/
theorem cells_new {X : Nat → Prop} {T : Ty} {ys : List T.D} {us : List Value} {w' : World} {g : Nat} {e : TypeId} {xs : Array Value} {tl : List Value} (hg : w'.heap[g]? = some (.cells xs e (0, 0))) (hx : xs.toList = cellsOf us ++ tl) (hl : ys.length = us.length)
    (hv : ∀ (j : Nat) (y : T.D) (u : Value), ys[j]? = some y → us[j]? = some u → VR w' X T y u.cells.toList) : Cells w' X T ys (some ⟨g, 0, none⟩) (cellsOf us) := by
  have hsz : ∀ u ∈ us, u.cells.size = T.size := fun u hu => by
    obtain ⟨j, hj⟩ := List.getElem?_of_mem hu
    have hlt : j < ys.length := by rw [hl]; exact (List.getElem?_eq_some_iff.1 hj).1
    exact (hv j ys[j] u (by simp [hlt]) hj).csize
  refine ⟨by rw [cellsOf_len us hsz, hl], fun _ => ⟨_, rfl, fun j u hu => ?_⟩, fun u hu => ?_, fun i y hy => ?_⟩
  · rw [add_lit, Nat.zero_add, blk_cell hg, ← Array.getElem?_toList, hx, List.getElem?_append_left (List.getElem?_eq_some_iff.1 hu).1]
    exact hu
  · obtain ⟨v, hv', hu⟩ := List.mem_flatMap.1 hu
    obtain ⟨j, hj⟩ := List.getElem?_of_mem hv'
    have hlt : j < ys.length := by rw [hl]; exact (List.getElem?_eq_some_iff.1 hj).1
    exact (hv j ys[j] v (by simp [hlt]) hj).one u hu
  · have hlt : i < us.length := by rw [← hl]; exact (List.getElem?_eq_some_iff.1 hy).1
    rw [cellsOf_seg us hsz i us[i] (by simp [hlt])]
    exact hv i y us[i] hy (by simp [hlt])

theorem sound_litf (R : Rel base w0 ρ0 h0 ρ s a w) (hg : GH gd a) {T : Ty} {xs : List AX} {t : TypeId} {n : Nat} {parts : Array (Nat × Operand)} (ho : o.op = .buildSlice t n parts) (hok : litOk P t n T.size xs parts.toList = true)
    (hp : (match elems gd s [] T xs with | some (c, ys) => (some (c, .fr T ys) : CV) | none => none) = some (true, v)) : Sound P o a w ρ s.h v := by
  split at hp
  · rename_i c ys he
    simp only [Option.some.injEq, Prod.mk.injEq] at hp
    obtain ⟨rfl, rfl⟩ := hp
    have hidx : okIdx 0 xs parts.toList = true := by
      unfold litOk at hok
      split at hok
      · split at hok
        · simp only [Bool.and_eq_true] at hok; exact hok.2.2.2.2.2
        · cases hok
      · cases hok
    obtain ⟨hl, hv⟩ := elems_vr (X' := XO ρ s.h) R hg (fun _ h => h) (.inr rfl) hidx he (fun e r hr rv b hrv _ => by
      have := R.hp.len
      rw [← e] at this
      have : ρ = [] := List.eq_nil_of_length_eq_zero (by simpa using this)
      subst this
      simp at hrv)
    have hus : ∀ u ∈ parts.toList.map (fun p => a.eval p.2), u.cells.size = T.size := fun u hu => by
      obtain ⟨j, hj⟩ := List.getElem?_of_mem hu
      have hlt : j < ys.length := by rw [hl]; have := (List.getElem?_eq_some_iff.1 hj).1; simpa using this
      exact (hv j ys[j] u (by simp [hlt]) hj).csize
    obtain ⟨e, he, hse, hsz, hn, hsm, hrun⟩ := run_lit (w := w) hok hus
    have hnl : ys.length = n := by
      rw [hl, hn]
      have : ∀ (i : Nat) (xs : List AX) (ys : List (Nat × Operand)), okIdx i xs ys = true → ys.length = xs.length := by
        intro i xs
        induction xs generalizing i with
        | nil => intro ys h; cases ys with | nil => rfl | cons y ys => simp [okIdx] at h
        | cons x xs ih => intro ys h; cases ys with
          | nil => simp [okIdx] at h
          | cons y ys => obtain ⟨j, y⟩ := y; simp only [okIdx, Bool.and_eq_true] at h; simp [ih (i + 1) ys h.2.2]
      exact this 0 xs _ hidx
    have hb : Below w.heap.size w (w.alloc (.cells (cellsOf (parts.toList.map fun p => a.eval p.2)).toArray e)) := (Below.refl _ w).alloc (Nat.le_refl _) _
    refine Gives.run (by unfold execOp; simp only [ho]; exact run_v hrun) ⟨hb, ?_⟩
    have hc := cells_new (w' := w.alloc (.cells (cellsOf (parts.toList.map fun p => a.eval p.2)).toArray e)) (X := XO ρ s.h) (ys := ys) (us := parts.toList.map fun p => a.eval p.2) (tl := []) (heap_alloc_new w _) (by simp) (by simpa using hl) (fun j y u hy hu => (hv j y u hy hu).move (Keeps.below hb))
    have hmul : n ≤ n * T.size := Nat.le_mul_of_pos_right n hsz
    have hm : ys.length ≤ maxLen := by simp only [maxLen]; omega
    have := hc.vr (cap := ys.length) hm (Nat.le_refl _) (fun ad had _ => by
      simp only [Option.some.injEq] at had
      subst had
      refine ⟨fun hx => ?_, by simp⟩
      exact Nat.lt_irrefl _ (XO_lt R.hp hx))
    rw [← hnl]
    exact .fr this
  · cases hp

end
end Go.Tw
