/- Operations that change the blocks: variables, literals, makes. -/
import Derived.Test.YtdenbakbmggcpaaSnd15
set_option linter.unusedVariables false
set_option linter.unusedSectionVars false
set_option linter.unusedSimpArgs false
namespace Go.Tw
open Go.RowKit

section
variable [Ban] {base : Nat} {w0 : World} {ρ0 : List RV} {h0 : AHeap} {ρ : List RV} {s s1 : St} {a : Act} {w w' : World} {P : Program} {gd : Option (Nat × Bool)} {o : Oper} {v : AV} {h : AHeap} {K : Nat → Prop}

/-- An operation turns the state into s1, and gives a value. -/
def Heavy (P : Program) (o : Oper) (a : Act) (w : World) (base : Nat) (w0 : World) (ρ0 : List RV) (h0 : AHeap) (s1 : St) (v : AV) : Prop :=
  Gives P o a w fun z w' => ∃ ρ', Rel base w0 ρ0 h0 ρ' s1 a w' ∧ LR w' ρ' s1.h K0 v z

/-- What stands behind an operation. -/
def Goes (base : Nat) (w0 : World) (ρ0 : List RV) (h0 : AHeap) {O : Type} (κ : St → Option O) (x : O) (next : Act → World → Prop) : Prop :=
  ∀ ρ s a w, Rel base w0 ρ0 h0 ρ s a w → κ s = some x → next a w

def AV.isOpt : AV → Bool
  | .opt _ _ _ _ => true
  | _ => false
omit [Ban] in
theorem optOk_of {s : St} {v : AV} (h : v.isOpt = false) : optOk s v := by cases v <;> simp [AV.isOpt] at h <;> trivial

theorem Heavy.go {O : Type} (H : Heavy P o a w base w0 ρ0 h0 s1 v) (hv : v.isOpt = false) (hd : ∀ i, o.dst = some i → i ∉ s1.g) {κ : St → Option O} {x : O} (hκ : κ (s1.put o.dst v) = some x) {next : Act → World → Prop} {Q : Exit → Act → World → Prop}
    (hn : Goes base w0 ρ0 h0 κ x next) : o.wp P a w next Q :=
  H next Q fun z w' ⟨ρ', R, hl⟩ => hn ρ' _ _ w' (R.put hl (optOk_of hv) hd) hκ

omit [Ban] in
theorem chk_some {O : Type} {c : Bool} {k : Option O} {x : O} (h : chk c k = some x) : c = true ∧ k = some x := by
  unfold chk at h
  cases c with
  | true => exact ⟨rfl, h⟩
  | false => cases h

/-! ### variables -/
theorem LRs.evo0 {ρ' : List RV} {h' : AHeap} (e : Evo h.length [] w ρ h w' ρ' h') {cs : List AV} {vs : List Value} (hl : LRs w ρ h K0 cs vs) : LRs w' ρ' h' K0 cs vs :=
  ⟨hl.1, fun i c v hc hv => (hl.2.1 i c v hc hv).evo0 e, hl.2.2⟩

theorem Rel.newVars (R : Rel base w0 ρ0 h0 ρ s a w) {cs : List AV} {vs : Array Value} (e : TypeId) (hl : LRs w ρ s.h K0 cs vs.toList) :
    ∃ ρ', Rel base w0 ρ0 h0 ρ' ⟨s.t, s.h ++ [.vars cs], s.k, s.b, s.g⟩ a (w.alloc (.cells vs e)) ∧ LR (w.alloc (.cells vs e)) ρ' (s.h ++ [.vars cs]) K0 (.box s.h.length 0) (.pointer (some ⟨w.heap.size, 0, none⟩)) := by
  have hb : Below w.heap.size w (w.alloc (.cells vs e)) := (Below.refl _ w).alloc (Nat.le_refl _) _
  have hrv : ∀ b, (RV.blk w.heap.size).block = some b → w.heap.size ≤ b := fun b hb => by simp only [RV.block, Option.some.injEq] at hb; omega
  have ev := Evo.new (rv := .blk w.heap.size) (o := .vars cs) R.hp hb hrv
  have hl' := hl.evo0 ev
  have hρ : (ρ ++ [RV.blk w.heap.size])[s.h.length]? = some (.blk w.heap.size) := by rw [← R.hp.len]; simp
  refine ⟨_, R.new hb hrv ⟨w.heap.size, vs, e, hρ, R.hp.base_le, heap_alloc_new w _, by simpa using hl.1.symm, fun i c v hc hv => hl'.2.1 i c v hc (by simpa using hv), by simpa using hl.2.2⟩, .box fun _ => ⟨by simp, fun cs' _ => ⟨_, hρ, rfl⟩⟩⟩

theorem run_alloc {t : TypeId} {z : Value} (hz : zeroT P t = some z) : (Instr.alloc t true (.tuple #[])).run P w = .ok (.pointer (some ⟨w.heap.size, 0, none⟩)) (w.alloc (.cells z.cells t)) := by
  unfold zeroT at hz
  obtain ⟨it, hit, hz⟩ := Option.bind_eq_some_iff.1 hz
  simp [Instr.alloc, zeroValue, typeInfo, hit, hz, newVar, newRow]

def newOk (P : Program) (t : TypeId) (cs : List AV) : Bool := match zeroT P t with
  | some z => okZ cs z.cells.toList
  | none => false
theorem heavy_new (R : Rel base w0 ρ0 h0 ρ s a w) {t : TypeId} {cs : List AV} (ho : o.op = .alloc t) (hok : newOk P t cs = true) :
    Heavy P o a w base w0 ρ0 h0 ⟨s.t, s.h ++ [.vars cs], s.k, s.b, s.g⟩ (.box s.h.length 0) := by
  unfold newOk at hok
  split at hok
  · rename_i z hz
    exact Gives.run (by unfold execOp; simp only [ho]; exact run_v (run_alloc hz)) (R.newVars t (okZ_lrs R hok))
  · cases hok

theorem run_box {t : TypeId} {u : Value} : (Instr.box t u).run P w = .ok (.pointer (some ⟨w.heap.size, 0, none⟩)) (w.alloc (.cells u.cells t)) := by
  simp [Instr.box, newVar, newRow]
theorem heavy_box (R : Rel base w0 ρ0 h0 ρ s a w) (hg : GH gd a) {t : TypeId} {x : AX} {y : Operand} {n : Nat} {cs : List AV} (ho : o.op = .box t y) (hx : okX x y = true) (hc : (x.get gd s).1 = true) (ht : (x.get gd s).2.take s.h n = some cs) :
    Heavy P o a w base w0 ρ0 h0 ⟨s.t, s.h ++ [.vars cs], s.k, s.b, s.g⟩ (.box s.h.length 0) := by
  obtain ⟨_, _, hl⟩ := take_cells R.hp (R.get hg hx hc) ht
  exact Gives.run (by unfold execOp; simp only [ho]; exact run_v run_box) (R.newVars t hl)

/-! ### rows -/
/-- A new row of the call's own. -/
theorem Rel.newRow (R : Rel base w0 ρ0 h0 ρ s a w) (hb : Below w.heap.size w w') {T : Ty} {ys : List T.D} {v : Value} {e : TypeId} {xs : List Value} (hpos : 0 < T.size) (hown : w'.ownsRow base e T.size v ys.length xs) (hv : ∀ b, v.ownBlock = some b → w.heap.size ≤ b) (hm : ys.length ≤ maxLen)
    (hel : Els w (XO ρ s.h) T ys xs) : ∃ ρ', Rel base w0 ρ0 h0 ρ' ⟨s.t, s.h ++ [.row T ys], s.k, s.b, s.g⟩ a w' ∧ LR w' ρ' (s.h ++ [.row T ys]) K0 (.own s.h.length) v := by
  have hrv : ∀ b, (RV.sl v).block = some b → w.heap.size ≤ b := hv
  have ev := Evo.new (rv := .sl v) (o := .row T ys) R.hp hb hrv
  have hρ : (ρ ++ [RV.sl v])[s.h.length]? = some (.sl v) := by rw [← R.hp.len]; simp
  refine ⟨_, R.new hb hrv ⟨hpos, v, e, xs, hρ, hown, hel.one, hm, fun i y hy => (hel.el i y hy).move ev.keeps⟩, .own fun _ => ⟨by simp, fun U zs _ => hρ⟩⟩

theorem okIdx_len : ∀ {i : Nat} {xs : List AX} {ys : List (Nat × Operand)}, okIdx i xs ys = true → ys.length = xs.length
  | _, [], [], _ => rfl
  | i, x :: xs, (j, y) :: ys, h => by
    simp only [okIdx, Bool.and_eq_true] at h
    simp [okIdx_len h.2.2]
  | _, [], _ :: _, h => by simp [okIdx] at h
  | _, _ :: _, [], h => by simp [okIdx] at h

omit [Ban] in
theorem whole_owns {T : Ty} {c : AV} {x : T.D} (hw : whole h T c = some x) {r : Nat} (hr : r ∈ c.owns) : ∃ (U : Ty) (zs : List U.D), h[r]? = some (.row U zs) := by
  unfold whole at hw
  split at hw
  · rename_i x' hi
    obtain ⟨pre, e, hpre⟩ := implode_pre hi
    rw [List.append_nil] at e
    have hmem : AV.own r ∈ c.cells := by
      cases c <;> simp only [AV.owns, List.not_mem_nil, List.mem_singleton] at hr
      · subst hr; simp [AV.cells]
      · simp only [List.mem_filterMap] at hr
        obtain ⟨d, hd, hd2⟩ := hr
        cases d <;> simp only [Option.some.injEq, reduceCtorEq] at hd2
        subst hd2
        exact hd
    rw [e] at hmem
    obtain ⟨U, y, hy⟩ := hpre _ hmem
    unfold asD at hy
    simp only at hy
    split at hy
    · exact ⟨_, _, by assumption⟩
    · cases hy
  · cases hw
omit [Ban] in
theorem elems_owns {T : Ty} : ∀ {xs : List AX} {c : Bool} {ys : List T.D}, elems gd s h T xs = some (c, ys) → ∀ {r : Nat}, r ∈ xs.flatMap (fun x => (x.get gd s).2.owns) → ∃ (U : Ty) (zs : List U.D), h[r]? = some (.row U zs)
  | [], _, _, _, r, hr => by simp at hr
  | x :: xs, c, ys, he, r, hr => by
    simp only [elems] at he
    split at he
    · rename_i y hy
      split at he
      · rename_i c' ys' he'
        rw [List.flatMap_cons, List.mem_append] at hr
        rcases hr with hr | hr
        · exact whole_owns hy hr
        · exact elems_owns he' hr
      · cases he
    · cases he

theorem els_of {X : Nat → Prop} {T : Ty} {ys : List T.D} {us : List Value} (hl : ys.length = us.length) (hv : ∀ (j : Nat) (y : T.D) (u : Value), ys[j]? = some y → us[j]? = some u → VR w X T y u.cells.toList) : Els w X T ys (cellsOf us) := by
  have hsz : ∀ u ∈ us, u.cells.size = T.size := fun u hu => by
    obtain ⟨j, hj⟩ := List.getElem?_of_mem hu
    have hlt : j < ys.length := by rw [hl]; exact (List.getElem?_eq_some_iff.1 hj).1
    exact (hv j ys[j] u (by simp [hlt]) hj).csize
  refine ⟨by rw [cellsOf_len us hsz, hl], fun u hu => ?_, fun i y hy => ?_⟩
  · obtain ⟨v, hv', hu⟩ := List.mem_flatMap.1 hu
    obtain ⟨j, hj⟩ := List.getElem?_of_mem hv'
    have hlt : j < ys.length := by rw [hl]; exact (List.getElem?_eq_some_iff.1 hj).1
    exact (hv j ys[j] v (by simp [hlt]) hj).one u hu
  · have hlt : i < us.length := by rw [← hl]; exact (List.getElem?_eq_some_iff.1 hy).1
    rw [cellsOf_seg us hsz i us[i] (by simp [hlt])]
    exact hv i y us[i] hy (by simp [hlt])

theorem heavy_lit (R : Rel base w0 ρ0 h0 ρ s a w) (hg : GH gd a) {T : Ty} {xs : List AX} {t : TypeId} {n : Nat} {parts : Array (Nat × Operand)} (ho : o.op = .buildSlice t n parts) (hok : litOk P t n T.size xs parts.toList = true) {ys : List T.D}
    (he : elems gd s s.h T xs = some (true, ys)) : Heavy P o a w base w0 ρ0 h0 ⟨s.t, goneAll s.h (xs.flatMap fun x => (x.get gd s).2.owns) ++ [.row T ys], s.k, s.b, s.g⟩ (.own s.h.length) := by
  have hidx : okIdx 0 xs parts.toList = true := by
    unfold litOk at hok
    split at hok
    · split at hok
      · simp only [Bool.and_eq_true] at hok; exact hok.2.2.2.2.2
      · cases hok
    · cases hok
  have hrs : ∀ r, r ∈ (xs.flatMap fun x => (x.get gd s).2.owns) → ∃ (U : Ty) (zs : List U.D), s.h[r]? = some (.row U zs) := fun r hr => elems_owns he hr
  obtain ⟨hl, hv⟩ := elems_vr (X' := XO ρ (goneAll s.h (xs.flatMap fun x => (x.get gd s).2.owns))) R hg (fun _ h => XO_gone h) (.inl rfl) hidx he (fun _ r hr rv b hρ hb => by
    obtain ⟨U, zs, hz⟩ := hrs r hr
    exact XO_not_gone R.hp hr hz rfl hρ hb)
  generalize (xs.flatMap fun x => (x.get gd s).2.owns) = rs at *
  have hels := els_of (us := parts.toList.map fun p => a.eval p.2) (by simpa using hl) hv
  have hus : ∀ u ∈ parts.toList.map (fun p => a.eval p.2), u.cells.size = T.size := fun u hu => by
    obtain ⟨j, hj⟩ := List.getElem?_of_mem hu
    have hlt : j < ys.length := by rw [hl]; have := (List.getElem?_eq_some_iff.1 hj).1; simpa using this
    exact (hv j ys[j] u (by simp [hlt]) hj).csize
  obtain ⟨e, _, hse, hsz, hn, hsm, hrun⟩ := run_lit (w := w) hok hus
  have hnl : ys.length = n := by rw [hl, hn]; exact okIdx_len hidx
  have hmul : n ≤ n * T.size := Nat.le_mul_of_pos_right n hsz
  have hm : ys.length ≤ maxLen := by simp only [maxLen]; omega
  have hb : Below w.heap.size w (w.alloc (.cells (cellsOf (parts.toList.map fun p => a.eval p.2)).toArray e)) := (Below.refl _ w).alloc (Nat.le_refl _) _
  have hown : (w.alloc (.cells (cellsOf (parts.toList.map fun p => a.eval p.2)).toArray e)).ownsRow base e T.size (.slice (some ⟨w.heap.size, 0, none⟩) n n) ys.length (cellsOf (parts.toList.map fun p => a.eval p.2)) := by
    have := World.ownsRow_lit (base := base) (e := e) (size := T.size) w (cellsOf (parts.toList.map fun p => a.eval p.2)).toArray n R.hp.base_le (by omega) (by rw [List.size_toArray, hels.len, hnl])
    rw [hnl]
    simpa using this
  refine Gives.run (by unfold execOp; simp only [ho]; exact run_v hrun) ?_
  have := (R.gone rs).newRow hb hsz hown (fun b hb => by simp only [Value.ownBlock, Option.some.injEq] at hb; omega) hm hels
  simp only [goneAll_len] at this
  exact this

/-! ### makes -/
/-- The cells of a zero value. -/
def zOk : Ty → List Value → Bool
  | .int k, [.int j n] => j == k && n == 0
  | .bool, [.bool b] => !b
  | .str, [.string b] => decide (b = ⟨#[]⟩)
  | .unit, [] => true
  | .pair a b, vs => zOk a (vs.take a.size) && zOk b (vs.drop a.size)
  | .sl _, [.slice none 0 0] => true
  | _, _ => false
theorem zOk_vr {X : Nat → Prop} : ∀ {T : Ty} {vs : List Value}, zOk T vs = true → VR w X T T.z vs
  | .int k, vs, h => by
    unfold zOk at h
    split at h <;> simp_all [VR, Ty.z]
  | .bool, vs, h => by
    unfold zOk at h
    split at h <;> simp_all [VR, Ty.z]
  | .str, vs, h => by
    unfold zOk at h
    split at h <;> simp_all [VR, Ty.z]
    simp [maxLen, ByteArray.size]
  | .unit, vs, h => by
    unfold zOk at h
    split at h <;> simp_all [VR, Ty.z]
  | .fn, vs, h => by simp [zOk] at h
  | .pair A B, vs, h => by
    simp only [zOk, Bool.and_eq_true] at h
    simp only [VR]
    exact ⟨vs.take A.size, vs.drop A.size, (List.take_append_drop _ _).symm, zOk_vr h.1, zOk_vr h.2⟩
  | .sl A, vs, h => by
    unfold zOk at h
    split at h <;> simp_all [VR, Ty.z]

theorem madeCells_seg (z : Array Value) (n : Nat) (i : Nat) (hi : i < n) : (((madeCells z (n * z.size)).toList.drop (i * z.size)).take z.size) = z.toList := by
  apply List.ext_getElem?
  intro j
  by_cases hj : j < z.size
  · rw [List.getElem?_take_of_lt hj, List.getElem?_drop]
    have hlt : i * z.size + j < n * z.size := by
      have := Nat.mul_le_mul_right z.size (show i + 1 ≤ n by omega)
      rw [Nat.add_mul, Nat.one_mul] at this
      omega
    have hmod : (i * z.size + j) % z.size = j := by rw [Nat.mul_comm, Nat.mul_add_mod, Nat.mod_eq_of_lt hj]
    rw [Array.getElem?_toList]
    simp [madeCells, hlt, hj, hmod]
  · rw [List.getElem?_take_eq_none (by omega), List.getElem?_eq_none (by simpa using hj)]

def mkOk (P : Program) (t : TypeId) (T : Ty) (lim : Nat) : Bool := match elemT P t with
  | some e => (match P.info? e with
    | some ie => (match ie.zero with
      | some z => zOk T z.cells.toList && (ie.size == T.size && (decide (0 < T.size) && (decide (ie.bytes * lim ≤ 281474976710656) && decide (lim ≤ maxLen))))
      | none => false)
    | none => false)
  | none => false
theorem heavy_mk (R : Rel base w0 ρ0 h0 ρ s a w) (hg : GH gd a) {T : Ty} {x : AX} {y y' : Operand} {t : TypeId} {lim : Nat} (ho : o.op = .makeSlice t y y') (hok : mkOk P t T lim = true) (hx : okX x y = true) (hx' : okX x y' = true) (hc : (x.get gd s).1 = true) {k : IntKind} {m : Int}
    (hm : (x.get gd s).2 = .d (.int k) m) (h0' : 0 ≤ m) (h1 : m ≤ (lim : Int)) : Heavy P o a w base w0 ρ0 h0 ⟨s.t, s.h ++ [.row T (List.replicate m.toNat T.z)], s.k, s.b, s.g⟩ (.own s.h.length) := by
  have hl := R.get hg hx hc
  have hl' := R.get hg hx' hc
  rw [hm] at hl hl'
  unfold mkOk at hok
  split at hok
  · rename_i e he
    split at hok
    · rename_i ie hie
      split at hok
      · rename_i z hz
        simp only [Bool.and_eq_true, beq_iff_eq, decide_eq_true_eq] at hok
        obtain ⟨hzo, hsz, hpos, hby, hlm⟩ := hok
        obtain ⟨n, rfl⟩ : ∃ n : Nat, m = n := ⟨m.toNat, by omega⟩
        have hn : n ≤ lim := by omega
        have hb' : ie.bytes * n ≤ 281474976710656 := Nat.le_trans (Nat.mul_le_mul_left _ hn) hby
        have hzl := (zOk_vr (w := w) (X := fun _ => False) hzo).len
        simp only [Array.length_toList] at hzl
        obtain ⟨w', hr, hown, hgr⟩ := run_make_full (P := P) w base t e ie z T.size (of_elemT he) hie hz hsz k k n hb' (by omega) R.hp.base_le
        have hb : Below w.heap.size w w' := (Below.refl _ w).grown hgr (Nat.le_refl _) (fun _ h => by cases h)
        refine Gives.run (by unfold execOp; simp only [ho]; exact run_v (by rw [int_of_lr hl, int_of_lr hl']; exact hr)) ?_
        have hseg : ∀ i, i < n → (((madeCells z.cells (n * T.size)).toList.drop (i * T.size)).take T.size) = z.cells.toList := fun i hi => by
          rw [← hzl]; exact madeCells_seg z.cells n i hi
        have := R.newRow (T := T) (ys := List.replicate n T.z) (xs := (madeCells z.cells (n * T.size)).toList) hb hpos (by rw [List.length_replicate]; exact hown) (fun b hb => by simp only [Value.ownBlock, Option.some.injEq] at hb; omega) (by rw [List.length_replicate]; omega)
          ⟨by simp [size_madeCells], fun u hu => by
            obtain ⟨j, hj⟩ := List.getElem?_of_mem hu
            have hjl : j < n * T.size := by have := (List.getElem?_eq_some_iff.1 hj).1; simpa [size_madeCells] using this
            obtain ⟨d1, d2, d3⟩ := div_cell hpos hjl
            have hs := seg_get (xs := (madeCells z.cells (n * T.size)).toList) (i := j / T.size) d3
            rw [← d2, hj, hseg _ d1] at hs
            exact (zOk_vr (w := w) (X := fun _ => False) hzo).one u (List.mem_of_getElem? hs),
          fun i y hy => by
            obtain ⟨hi, rfl⟩ := List.getElem?_eq_some_iff.1 hy
            rw [List.length_replicate] at hi
            rw [List.getElem_replicate, hseg i hi]
            exact zOk_vr hzo⟩
        simpa using this
      · cases hok
    · cases hok
  · cases hok

end
end Go.Tw
