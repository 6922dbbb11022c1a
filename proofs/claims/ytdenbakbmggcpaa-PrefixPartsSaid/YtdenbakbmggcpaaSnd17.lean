/- Operations that write blocks: stores, appends, copies, cuts. -/
import Derived.Test.YtdenbakbmggcpaaSnd16
import Derived.Maps.AppendAt
set_option linter.unusedVariables false
set_option linter.unusedSectionVars false
set_option linter.unusedSimpArgs false
namespace Go.Tw
open Go.RowKit

/-- vs laid into l from place k on. -/
def splice {α : Type} (l : List α) (k : Nat) (vs : List α) : List α := l.take k ++ vs ++ l.drop (k + vs.length)
theorem splice_len {α : Type} {l vs : List α} {k : Nat} (h : k + vs.length ≤ l.length) : (splice l k vs).length = l.length := by
  simp only [splice, List.length_append, List.length_take, List.length_drop]
  omega
theorem splice_get {α : Type} {l vs : List α} {k : Nat} (h : k + vs.length ≤ l.length) (j : Nat) : (splice l k vs)[j]? = if j < k then l[j]? else if j < k + vs.length then vs[j - k]? else l[j]? := by
  have hk : (l.take k).length = k := by rw [List.length_take]; omega
  unfold splice
  by_cases h1 : j < k
  · rw [if_pos h1, List.append_assoc, List.getElem?_append_left (by omega), List.getElem?_take_of_lt h1]
  · rw [if_neg h1]
    by_cases h2 : j < k + vs.length
    · rw [if_pos h2, List.append_assoc, List.getElem?_append_right (by omega), hk, List.getElem?_append_left (by omega)]
    · rw [if_neg h2, List.getElem?_append_right (by rw [List.length_append]; omega), List.length_append, hk, List.getElem?_drop]
      congr 1
      omega
theorem splice_mem {α : Type} {l vs : List α} {k : Nat} {x : α} (h : x ∈ splice l k vs) : x ∈ l ∨ x ∈ vs := by
  simp only [splice, List.mem_append] at h
  rcases h with (h | h) | h
  · exact .inl (List.mem_of_mem_take h)
  · exact .inr h
  · exact .inl (List.mem_of_mem_drop h)
theorem splice_take {α : Type} {l vs : List α} {k n : Nat} (h : k + vs.length ≤ n) (hn : n ≤ l.length) : (splice l k vs).take n = splice (l.take n) k vs := by
  apply List.ext_getElem?
  intro j
  have hl : (l.take n).length = n := by rw [List.length_take]; omega
  rw [splice_get (by rw [hl]; exact h)]
  by_cases hj : j < n
  · rw [List.getElem?_take_of_lt hj, splice_get (by omega), List.getElem?_take_of_lt hj]
  · rw [List.getElem?_take_eq_none (by omega), if_neg (by omega), if_neg (by omega), List.getElem?_take_eq_none (by omega)]
theorem setCells_splice (cs : List AV) (o : Nat) (vs : List AV) : setCells cs o vs = splice cs o vs := rfl

/-- The parts of a row of cells, one of which is written. -/
theorem seg_same {l vs : List Value} {sz i i' o : Nat} (h : o + vs.length ≤ sz) (hl : i' * sz + sz ≤ l.length) (hi : i * sz + sz ≤ l.length) (hne : i ≠ i') :
    (((splice l (i' * sz + o) vs).drop (i * sz)).take sz) = (l.drop (i * sz)).take sz := by
  apply List.ext_getElem?
  intro j
  by_cases hj : j < sz
  · rw [seg_get hj, seg_get hj, splice_get (by omega)]
    rcases Nat.lt_or_gt_of_ne hne with h1 | h1
    · have := Nat.mul_le_mul_right sz (show i + 1 ≤ i' by omega)
      rw [Nat.add_mul, Nat.one_mul] at this
      rw [if_pos (by omega)]
    · have := Nat.mul_le_mul_right sz (show i' + 1 ≤ i by omega)
      rw [Nat.add_mul, Nat.one_mul] at this
      rw [if_neg (by omega), if_neg (by omega)]
  · rw [List.getElem?_take_eq_none (by omega), List.getElem?_take_eq_none (by omega)]
theorem seg_this {l vs : List Value} {sz i o : Nat} (h : o + vs.length ≤ sz) (hl : i * sz + sz ≤ l.length) :
    (((splice l (i * sz + o) vs).drop (i * sz)).take sz) = splice ((l.drop (i * sz)).take sz) o vs := by
  apply List.ext_getElem?
  intro j
  have hsl : ((l.drop (i * sz)).take sz).length = sz := by rw [List.length_take, List.length_drop]; omega
  rw [splice_get (by rw [hsl]; exact h)]
  by_cases hj : j < sz
  · rw [seg_get hj, splice_get (by omega), seg_get hj]
    by_cases h1 : j < o
    · rw [if_pos (by omega), if_pos h1]
    · rw [if_neg (by omega), if_neg h1]
      by_cases h2 : j < o + vs.length
      · rw [if_pos (by omega), if_pos h2]
        congr 1
        omega
      · rw [if_neg (by omega), if_neg h2]
  · rw [List.getElem?_take_eq_none (by omega), if_neg (by omega), if_neg (by omega), List.getElem?_take_eq_none (by omega)]

section
variable [Ban] {base : Nat} {w0 : World} {ρ0 : List RV} {h0 : AHeap} {ρ : List RV} {s s1 : St} {a : Act} {w w' : World} {P : Program} {gd : Option (Nat × Bool)} {o : Oper} {v : AV} {h : AHeap} {K : Nat → Prop}

theorem LRs.splice {cs ds : List AV} {vs us : List Value} {k : Nat} (a : LRs w ρ h K cs vs) (b : LRs w ρ h K ds us) : LRs w ρ h K (Tw.splice cs k ds) (Tw.splice vs k us) := by
  unfold Tw.splice
  rw [b.1]
  exact ((a.take k).append b).append (a.drop _)

omit [Ban] in
theorem grownBy_setRow (w : World) (g : Nat) (cs : Array Value) : w.grownBy (w.setRow g cs) (some g) :=
  ⟨rfl, rfl, rfl, by simp [World.setRow], fun k _ hk => setRow_other w g k cs (fun e => hk (by rw [e]))⟩

/-- A store. -/
theorem run_storeAt_row {t : TypeId} {n : Nat} (hs : sizeT P t = some n) {g k : Nat} {cur : Array Value} {e : TypeId} (hg : w.heap[g]? = some (.cells cur e (0, 0))) {u : Value} (hu : u.cells.size = n) (hfit : k + n ≤ cur.size) (h1 : ∀ v ∈ u.cells.toList, v.oneCell' = true) :
    (Instr.storeAt t (.pointer (some ⟨g, k, none⟩)) u).run P w = .ok () (w.setRow g (splice cur.toList k u.cells.toList).toArray) := by
  have hst := run_storeCells_at P g k e u.cells.toList 0 cur w hg (by simpa [hu] using hfit) h1
  simp only [Nat.add_zero] at hst
  simp [Instr.storeAt, Instr.sureAddr, storeVar, run_sizeOf hs, hu, hst, splice]

/-- Several objects of one row; the row is written in place. -/
theorem Rel.setVars (R : Rel base w0 ρ0 h0 ρ s a w) {r : Nat} {cs xs : List AV} (hr : s.h[r]? = some (.vars cs)) {b : Nat} (hρ : ρ[r]? = some (.blk b)) {k : Nat} {us : List Value} (hk : k + xs.length ≤ cs.length) (hl : LRs w ρ s.h K0 xs us) :
    ∃ cur e, w.heap[b]? = some (.cells cur e (0, 0)) ∧ cur.size = cs.length ∧ Rel base w0 ρ0 h0 ρ ⟨s.t, setNth s.h r (.vars (setCells cs k xs)), s.k, s.b, s.g⟩ a (w.setRow b (splice cur.toList k us).toArray) := by
  obtain ⟨b', vs, e, hρ', hbase, hblk, hsz, hlr, h1⟩ := R.hp.obj r _ hr
  obtain rfl : b' = b := by rw [hρ] at hρ'; simpa using hρ'.symm
  refine ⟨vs, e, hblk, hsz, ?_⟩
  have hls : LRs w ρ s.h K0 cs vs.toList := ⟨by simpa using hsz.symm, fun i c v hc hv => hlr i c v hc (by simpa using hv), by simpa using h1⟩
  have hnew := hls.splice (k := k) hl
  have hal : (AObj.vars cs).alike (.vars (setCells cs k xs)) := ⟨fun _ _ => ⟨cs, rfl⟩, (fun _ _ h => by cases h), fun _ _ _ _ _ h => by cases h⟩
  have hg : w.grownBy (w.setRow b' (splice vs.toList k us).toArray) (RV.blk b').block := grownBy_setRow w b' _
  have ev := Evo.chg (ks := []) (o' := .vars (setCells cs k xs)) hr rfl hρ hg (fun b hb => .inl hb) (.inr ⟨rfl, hal⟩)
  rw [setNth_same hρ] at ev
  have hn' := hnew.evo0 ev
  refine R.chg0 hr rfl hρ hg hal ⟨b', _, e, hρ, hbase, setRow_heap w b' vs _ e (0, 0) hblk, ?_, fun i c v hc hv => hn'.2.1 i c v hc (by simpa using hv), by simpa using hn'.2.2⟩
  rw [List.size_toArray]
  exact hnew.1.symm

def storeOk (P : Program) (t : TypeId) (n : Nat) : Bool := sizeT P t == some n && decide (0 < n)

theorem cells_len_of {xs : List AV} {u : Value} (hl : LRs w ρ h K0 xs u.cells.toList) : u.cells.size = xs.length := by simpa using hl.1.symm

omit [Ban] in
theorem explode_own {T : Ty} {x : T.D} {r : Nat} (h : AV.own r ∈ explode T x) : False := by
  induction T with
  | unit => simp [explode] at h
  | pair A B ihA ihB =>
    simp only [explode, List.mem_append] at h
    exact h.elim ihA ihB
  | _ => simp [explode] at h
theorem goneAll_set {r : Nat} {o : AObj} {rs : List Nat} (hr : r ∉ rs) : goneAll (setNth h r o) rs = setNth (goneAll h rs) r o := by
  apply List.ext_getElem?
  intro i
  rw [goneAll_get, setNth_get, setNth_get, goneAll_get, goneAll_len]
  by_cases hi : r = i
  · subst hi; simp [hr]
  · simp [hi]
omit [Ban] in
theorem cells_owns {c : AV} {r : Nat} (h : AV.own r ∈ c.cells) : r ∈ c.owns := by
  cases c <;> simp only [AV.cells, List.mem_singleton, AV.own.injEq, reduceCtorEq] at h
  · subst h; simp [AV.owns]
  · simp only [AV.owns, List.mem_filterMap]; exact ⟨_, h, rfl⟩

theorem heavy_store (R : Rel base w0 ρ0 h0 ρ s a w) (hg : GH gd a) {t : TypeId} {x y : AX} {x' y' : Operand} {n : Nat} (ho : o.op = .store t x' y') (hok : storeOk P t n = true) (hx : okX x x' = true) (hy : okX y y' = true) (hc : (x.get gd s).1 = true) (hc' : (y.get gd s).1 = true) {h1 : AHeap}
    (hst : storeH s.h n (x.get gd s).2 (y.get gd s).2 = some (true, h1)) {next : Act → World → Prop} {Q : Exit → Act → World → Prop} (hn : ∀ w', Rel base w0 ρ0 h0 ρ ⟨s.t, h1, s.k, s.b, s.g⟩ a w' → next (a.put o.dst undef) w') : o.wp P a w next Q := by
  obtain ⟨hs, hn0⟩ : sizeT P t = some n ∧ 0 < n := by simpa [storeOk] using hok
  have hl := R.get hg hx hc
  have hl' := R.get hg hy hc'
  generalize (x.get gd s).2 = A at *
  generalize (y.get gd s).2 = Y at *
  have fin : ∀ {w'}, (Instr.storeAt t (a.eval x') (a.eval y')).run P w = .ok () w' → Rel base w0 ρ0 h0 ρ ⟨s.t, h1, s.k, s.b, s.g⟩ a w' → o.wp P a w next Q := by
    intro w' hr hR
    have : (execOp a.eval o).run P w = .ok .skip w' := by unfold execOp; simp only [ho]; simp [hr]
    unfold Oper.wp
    rw [this]
    exact hn w' hR
  unfold storeH at hst
  split at hst
  · rename_i xs htk
    obtain ⟨hlen, hcells, hls⟩ := take_cells R.hp hl' htk
    have hcl := cells_len_of hls
    split at hst
    · rename_i r q
      split at hst
      · rename_i cs hr
        split at hst
        · rename_i hfit
          simp only [Option.some.injEq, Prod.mk.injEq, true_and] at hst
          subst hst
          generalize hu : a.eval x' = u at *
          cases hl with
          | box hb =>
            obtain ⟨b, hρ, rfl⟩ := (hb id).2 cs hr
            obtain ⟨cur, e, hblk, hsz, hR⟩ := R.setVars hr hρ (k := q) (by omega) hls
            exact fin (run_storeAt_row hs hblk (by omega) (by omega) hls.2.2) hR
        · cases hst
      · cases hst
    · rename_i r i q
      split at hst
      · rename_i T ys hr
        split at hst
        · rename_i yv himp
          cases hcon : Y.owns.contains r with
          | true => rw [hcon] at hst; simp at hst
          | false =>
            rw [hcon] at hst
            simp only [cond_false, Option.some.injEq, Prod.mk.injEq, decide_eq_true_eq] at hst
            obtain ⟨hi, rfl⟩ := hst
            have hrn : r ∉ Y.owns := by simpa using hcon
            rw [goneAll_set hrn] at fin
            generalize hu : a.eval x' = u at *
            cases hl with
            | pel hb =>
              obtain ⟨g, n', c', hρ, rfl⟩ := (hb id).2 T ys hr hi
              have R1 := R.gone Y.owns
              have hr1 : (goneAll s.h Y.owns)[r]? = some (.row T ys) := by rw [goneAll_get, if_neg hrn]; exact hr
              obtain ⟨hpos, v0, e, cs0, hρ', hown, hone, hm, hel⟩ := R.hp.obj r _ hr
              obtain ⟨_, _, _, _, hρ1, hown1, hone1, _, hel1⟩ := R1.hp.obj r _ hr1
              obtain rfl : v0 = .slice (some ⟨g, 0, none⟩) n' c' := by rw [hρ] at hρ'; simpa using hρ'.symm
              rcases hown.2 with ⟨hv, _⟩ | ⟨g', cap, cur, hv, hbase, hh, hnc, hmc, hcs, htk'⟩
              · cases hv
              · simp only [Value.slice.injEq, Option.some.injEq, Addr.mk.injEq, and_true] at hv
                obtain ⟨rfl, rfl, rfl⟩ := hv
                have hcl0 : cs0.length = ys.length * T.size := hown.1
                have hseglen : i * T.size + T.size ≤ ys.length * T.size := by
                  have := Nat.mul_le_mul_right T.size (show i + 1 ≤ ys.length by omega)
                  rwa [Nat.add_mul, Nat.one_mul] at this
                have hcapl : ys.length * T.size ≤ c' * T.size := Nat.mul_le_mul_right _ hnc
                have hyi : ys[i]? = some (ys.getD i T.z) := by simp [List.getD, hi]
                have hold := (hel i _ hyi).explode (K := K0)
                have hseg := hold.splice (k := q) hls
                -- it fits
                have hq : q + n ≤ T.size := by
                  obtain ⟨v1, v2, e1, e2, e3, _⟩ := implode_vr R.hp (X' := fun _ => False) (fun _ h => h.elim) (.inl rfl) hseg himp (fun _ _ _ _ _ _ _ h => h)
                  have e4 := e3.1
                  have : v2 = [] := List.eq_nil_of_length_eq_zero e4.symm
                  subst this
                  have e5 := e2.len
                  have e6 := hseg.1
                  rw [e1] at e6
                  simp only [List.append_nil] at e6
                  rw [e5] at e6
                  have e7 := hold.1
                  rw [explode_len] at e7
                  simp only [splice, List.length_append, List.length_take, List.length_drop, explode_len] at e6
                  by_cases hqT : q ≤ T.size
                  · omega
                  · omega
                have hnewvr : VR w (XO ρ (goneAll s.h Y.owns)) T yv (splice ((cs0.drop (i * T.size)).take T.size) q (a.eval y').cells.toList) := by
                  obtain ⟨v1, v2, e1, e2, e3, _⟩ := implode_vr R.hp (X' := XO ρ (goneAll s.h Y.owns)) (fun _ h => XO_gone h) (.inl rfl) hseg himp (fun _ r' hr' rv b hρ' hb' => by
                    rcases splice_mem hr' with h3 | h3
                    · exact (explode_own h3).elim
                    · rw [hcells] at h3
                      have h4 := cells_owns h3
                      obtain ⟨pre, e, hpre⟩ := implode_pre himp
                      rw [List.append_nil] at e
                      have h5 : AV.own r' ∈ pre := by rw [← e]; exact hr'
                      obtain ⟨U, z, hz⟩ := hpre _ h5
                      unfold asD at hz
                      simp only at hz
                      split at hz
                      · rename_i V zs hz2
                        exact XO_not_gone R.hp h4 hz2 rfl hρ' hb'
                      · cases hz)
                  have : v2 = [] := List.eq_nil_of_length_eq_zero e3.1.symm
                  subst this
                  rw [List.append_nil] at e1
                  rw [e1]
                  exact e2
                have hcur : cur.toList.take (ys.length * T.size) = cs0 := htk'
                have hal : (AObj.row T ys).alike (.row T (ys.set i yv)) := ⟨fun _ h => (by cases h), (fun U zs h => (by cases h; exact ⟨ys, rfl, by simp⟩)), fun _ _ _ _ _ h => (by cases h)⟩
                have hgr : w.grownBy (w.setRow g (splice cur.toList (i * T.size + q) (a.eval y').cells.toList).toArray) (RV.sl (.slice (some ⟨g, 0, none⟩) ys.length c')).block := grownBy_setRow w g _
                have ev := Evo.chg (ks := []) (o' := .row T (ys.set i yv)) hr1 rfl hρ hgr (fun b hb => .inl hb) (.inr ⟨rfl, hal⟩)
                rw [setNth_same hρ] at ev
                refine fin (w' := w.setRow g (splice cur.toList (i * T.size + q) (a.eval y').cells.toList).toArray) ?_ ?_
                · rw [add_lit, Nat.zero_add]
                  exact run_storeAt_row hs hh (by omega) (by omega) hls.2.2
                · refine R1.chg0 hr1 rfl hρ hgr hal ⟨hpos, _, e, splice cs0 (i * T.size + q) (a.eval y').cells.toList, hρ, ⟨?_, .inr ⟨g, c', _, by simp, hbase, setRow_heap w g cur _ e (0, 0) hh, by simpa using hnc, hmc, ?_, ?_⟩⟩, fun u hu => (splice_mem hu).elim (hone u) (hls.2.2 u), by simpa using hm, fun j z hz => ?_⟩
                  · rw [splice_len (by simp only [Array.length_toList]; omega)]; simpa using hcl0
                  · rw [List.size_toArray, splice_len (by simp only [Array.length_toList]; omega)]; simpa using hcs
                  · rw [List.length_set, ← hcur]
                    exact splice_take (by simp only [Array.length_toList]; omega) (by simp only [Array.length_toList]; omega)
                  · have hj : j < ys.length := by have := (List.getElem?_eq_some_iff.1 hz).1; simpa using this
                    have hjl : j * T.size + T.size ≤ cs0.length := by
                      rw [hcl0]
                      have := Nat.mul_le_mul_right T.size (show j + 1 ≤ ys.length by omega)
                      rwa [Nat.add_mul, Nat.one_mul] at this
                    by_cases hji : j = i
                    · subst hji
                      rw [List.getElem?_set_self hj] at hz
                      simp only [Option.some.injEq] at hz
                      subst hz
                      rw [seg_this (by simp only [Array.length_toList]; omega) (by omega)]
                      exact hnewvr.move ev.keeps
                    · rw [List.getElem?_set_ne (fun e => hji e.symm)] at hz
                      rw [seg_same (by simp only [Array.length_toList]; omega) (by omega) hjl hji]
                      exact ((hel j z hz).less (fun _ h => XO_gone h)).move ev.keeps
        · cases hst
      · cases hst
    · cases hst
  · cases hst

end
end Go.Tw
