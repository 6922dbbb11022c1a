/- From what is read of a call's arguments to what the evaluator takes; and a law's contract. -/
import Derived.Test.YtdenbakbmggcpaaSnd27
import Derived.Deep.Slices
import Derived.Carry
import Derived.ProofKit
set_option linter.unusedVariables false
set_option linter.unusedSectionVars false
set_option linter.unusedSimpArgs false
namespace Go.Tw
open Go.RowKit Go.ChangeShapes Go.WideShapes

def isFs (g : TypeId → Ty → Bool) (P : Program) : List Field → Nat → Ty → Bool
  | [], _, .unit => true
  | [f], o, T => f.offset == o && (P.cellsOf f.type == T.size && g f.type T)
  | f :: f2 :: fs, o, .pair A B => f.offset == o && (P.cellsOf f.type == A.size && (g f.type A && isFs g P (f2 :: fs) (o + A.size) B))
  | _, _, _ => false
def isAr (g : Ty → Bool) : Nat → Ty → Bool
  | 0, .unit => true
  | 1, T => g T
  | n + 2, .pair A B => g A && isAr g (n + 1) B
  | _, _ => false
/-- A type's kind. -/
def isT (P : Program) : Nat → TypeId → Ty → Bool
  | 0, _, _ => false
  | d + 1, t, T => match P.underlying t with
    | some (.int k) => decide (T = .int k)
    | some .bool => decide (T = .bool)
    | some .string => decide (T = .str)
    | some (.slice e) => (match T with | .sl A => P.cellsOf e == A.size && (decide (0 < A.size) && isT P d e A) | _ => false)
    | some (.struct fs) => P.cellsOf t == T.size && isFs (isT P d) P fs.toList 0 T
    | some (.array n e) => P.cellsOf t == T.size && isAr (fun A => P.cellsOf e == A.size && isT P d e A) n T
    | _ => false
/-- A datum that can be read: numbers lie in their kinds, lists are no longer than lists can be. -/
def Ty.fine : (T : Ty) → T.D → Prop
  | .int k, x => (Lit.int k x).wf = true
  | .str, x => (x : ByteArray).size ≤ maxLen
  | .pair a b, x => a.fine x.1 ∧ b.fine x.2
  | .sl a, ys => (ys : List a.D).length ≤ maxLen ∧ ∀ y ∈ (ys : List a.D), a.fine y
  | _, _ => True

section
variable {H : Type} {enc : TypeId × Value → H} {P : Program} {W : World} {sp : Nat → Bool} {held : Bool}
abbrev X0 : Nat → Prop := fun _ => False

theorem list_of {α : Type} {p : Nat → α → Prop} : ∀ (n : Nat), (∀ i, i < n → ∃ y, p i y) → ∃ ys : List α, ys.length = n ∧ ∀ i y, ys[i]? = some y → p i y
  | 0, _ => ⟨[], rfl, by simp⟩
  | n + 1, h => by
    obtain ⟨ys, h1, h2⟩ := list_of n fun i hi => h i (by omega)
    obtain ⟨y, hy⟩ := h n (by omega)
    refine ⟨ys ++ [y], by simp [h1], fun i z hz => ?_⟩
    by_cases hi : i < ys.length
    · rw [List.getElem?_append_left hi] at hz; exact h2 i z hz
    · rw [List.getElem?_append_right (by omega)] at hz
      by_cases h0 : i - ys.length = 0
      · rw [h0] at hz
        simp only [List.getElem?_cons_zero, Option.some.injEq] at hz
        subst hz
        have : i = n := by omega
        rw [this]; exact hy
      · obtain ⟨k, hk⟩ : ∃ k, i - ys.length = k + 1 := ⟨i - ys.length - 1, by omega⟩
        rw [hk] at hz
        simp at hz

theorem fs_read {d n : Nat} (ih : ∀ (t : TypeId) (T : Ty), isT P d t T = true → ∀ (cs : List Value) (x : DataW H × List MemPlace), DataW.trod enc P W 0 sp held n t cs = some x → ∃ y : T.D, T.fine y ∧ VR W X0 T y cs) :
    ∀ (fs : List Field) (o : Nat) (T : Ty), isFs (isT P d) P fs o T = true → ∀ (cs : List Value) (xs : List (DataW H × List MemPlace)), (cs.drop o).length = T.size →
      (fs.mapM fun f => DataW.trod enc P W 0 sp held n f.type ((cs.drop f.offset).take (P.cellsOf f.type))) = some xs → ∃ y : T.D, T.fine y ∧ VR W X0 T y (cs.drop o)
  | [], o, T, h, cs, xs, hl, hm => by
    cases T <;> simp only [isFs, Bool.false_eq_true] at h
    exact ⟨(), trivial, by have : cs.drop o = [] := List.eq_nil_of_length_eq_zero hl; rw [this]; simp [VR]⟩
  | [f], o, T, h, cs, xs, hl, hm => by
    simp only [isFs, Bool.and_eq_true, beq_iff_eq] at h
    obtain ⟨h1, h2, h3⟩ := h
    simp only [List.mapM_cons, List.mapM_nil, Option.bind_eq_bind, Option.bind_eq_some_iff] at hm
    obtain ⟨x, hx, _⟩ := hm
    rw [h1, h2, List.take_of_length_le (by omega)] at hx
    exact ih _ _ h3 _ _ hx
  | f :: f2 :: fs, o, T, h, cs, xs, hl, hm => by
    cases T <;> simp only [isFs, Bool.false_eq_true] at h
    rename_i A B
    simp only [Bool.and_eq_true, beq_iff_eq] at h
    obtain ⟨h1, h2, h3, h4⟩ := h
    rw [List.mapM_cons] at hm
    simp only [Option.bind_eq_bind, Option.bind_eq_some_iff] at hm
    obtain ⟨x, hx, xs', hxs, _⟩ := hm
    rw [h1, h2] at hx
    obtain ⟨y1, f1, v1⟩ := ih _ _ h3 _ _ hx
    simp only [Ty.size] at hl
    obtain ⟨y2, f2', v2⟩ := fs_read ih (f2 :: fs) (o + A.size) B h4 cs xs' (by rw [← List.drop_drop, List.length_drop]; omega) hxs
    refine ⟨(y1, y2), ⟨f1, f2'⟩, ?_⟩
    simp only [VR]
    exact ⟨_, _, by rw [← List.drop_drop, List.take_append_drop], v1, v2⟩

theorem ar_read {d n : Nat} {e : TypeId} (ih : ∀ (T : Ty), isT P d e T = true → ∀ (cs : List Value) (x : DataW H × List MemPlace), DataW.trod enc P W 0 sp held n e cs = some x → ∃ y : T.D, T.fine y ∧ VR W X0 T y cs) :
    ∀ (m j : Nat) (T : Ty), isAr (fun A => P.cellsOf e == A.size && isT P d e A) m T = true → ∀ (cs : List Value) (xs : List (DataW H × List MemPlace)), (cs.drop (j * P.cellsOf e)).length = T.size →
      ((List.range' j m).mapM fun i => DataW.trod enc P W 0 sp held n e ((cs.drop (i * P.cellsOf e)).take (P.cellsOf e))) = some xs → ∃ y : T.D, T.fine y ∧ VR W X0 T y (cs.drop (j * P.cellsOf e))
  | 0, j, T, h, cs, xs, hl, hm => by
    cases T <;> simp only [isAr, Bool.false_eq_true] at h
    exact ⟨(), trivial, by have : cs.drop (j * P.cellsOf e) = [] := List.eq_nil_of_length_eq_zero hl; rw [this]; simp [VR]⟩
  | 1, j, T, h, cs, xs, hl, hm => by
    simp only [isAr, Bool.and_eq_true, beq_iff_eq] at h
    obtain ⟨h1, h2⟩ := h
    rw [show List.range' j 1 = [j] from rfl] at hm
    simp only [List.mapM_cons, List.mapM_nil, Option.bind_eq_bind, Option.bind_eq_some_iff] at hm
    obtain ⟨x, hx, _⟩ := hm
    rw [List.take_of_length_le (by omega)] at hx
    exact ih _ h2 _ _ hx
  | m + 2, j, T, h, cs, xs, hl, hm => by
    cases T <;> simp only [isAr, Bool.false_eq_true] at h
    rename_i A B
    simp only [Bool.and_eq_true, beq_iff_eq] at h
    obtain ⟨⟨h1, h2⟩, h4⟩ := h
    rw [List.range'_succ, List.mapM_cons] at hm
    simp only [Option.bind_eq_bind, Option.bind_eq_some_iff] at hm
    obtain ⟨x, hx, xs', hxs, _⟩ := hm
    obtain ⟨y1, f1, v1⟩ := ih _ h2 _ _ hx
    simp only [Ty.size] at hl
    have hj : (j + 1) * P.cellsOf e = j * P.cellsOf e + P.cellsOf e := by rw [Nat.add_mul, Nat.one_mul]
    obtain ⟨y2, f2', v2⟩ := ar_read ih (m + 1) (j + 1) B h4 cs xs' (by rw [hj, ← List.drop_drop, List.length_drop]; omega) hxs
    refine ⟨(y1, y2), ⟨f1, f2'⟩, ?_⟩
    simp only [VR]
    exact ⟨_, _, by rw [hj, ← List.drop_drop, List.take_append_drop], v1, v2⟩

/-- What is read as a datum of a kind. -/
theorem read_vr : ∀ (d : Nat) (t : TypeId) (T : Ty), isT P d t T = true → ∀ (n : Nat) (cs : List Value) (x : DataW H × List MemPlace), DataW.trod enc P W 0 sp held n t cs = some x → ∃ y : T.D, T.fine y ∧ VR W X0 T y cs
  | 0, _, _, h, _, _, _, _ => by cases h
  | d + 1, t, T, h, 0, cs, x, hx => by cases hx
  | d + 1, t, T, h, n + 1, cs, x, hx => by
    simp only [isT] at h
    split at h
    · rename_i k hu
      simp only [decide_eq_true_eq] at h
      subst h
      obtain ⟨m, rfl, _, hw⟩ := DataW.trod_int hu hx
      exact ⟨m, hw, by simp [VR]⟩
    · rename_i hu
      simp only [decide_eq_true_eq] at h
      subst h
      obtain ⟨b, rfl, _⟩ := DataW.trod_bool hu hx
      exact ⟨b, trivial, by simp [VR]⟩
    · rename_i hu
      simp only [decide_eq_true_eq] at h
      subst h
      obtain ⟨b, rfl, hb⟩ := DataW.trod_string hu hx
      exact ⟨b, hb.2, by simp [VR, hb.2]⟩
    · rename_i e hu
      split at h
      · rename_i A
        simp only [Bool.and_eq_true, beq_iff_eq, decide_eq_true_eq] at h
        obtain ⟨h1, h2, h3⟩ := h
        rcases Go.Deep.open_slice hu hx with ⟨rfl, _⟩ | ⟨a, len, cap, m, n', D, Pl, rfl, _, hlc, hcm, hm, _, hel⟩
        · exact ⟨([] : List A.D), ⟨by simp, by simp⟩, by simp [VR]⟩
        · have hlm : len ≤ m := by rw [hm]; split <;> omega
          obtain ⟨ys, hl, hy⟩ := list_of (p := fun i (y : A.D) => A.fine y ∧ ∃ es, es.length = A.size ∧ (∀ j u, es[j]? = some u → W.cell? (a.add (i * A.size + j)) = some u) ∧ VR W X0 A y es) len fun i hi => by
            obtain ⟨cs', c1, c2⟩ := hel i (by omega)
            obtain ⟨y, f, v⟩ := read_vr d e A h3 _ _ _ c2
            obtain ⟨_, c3, c4⟩ := World.cells?_some c1
            refine ⟨y, f, cs', by rw [c3, h1], fun j u hu' => ?_, v⟩
            have hj : j < P.cellsOf e := by rw [← c3]; exact (List.getElem?_eq_some_iff.1 hu').1
            have := c4 j hj
            rw [add_add, h1, hu'] at this
            exact this
          refine ⟨ys, ⟨by rw [hl]; omega, fun y hy' => ?_⟩, ?_⟩
          · obtain ⟨i, hi⟩ := List.getElem?_of_mem hy'
            exact (hy i y hi).1
          · simp only [VR]
            refine ⟨some a, cap, by rw [hl], by rw [hl]; omega, by rw [hl]; exact hlc, fun hpos => ⟨a, rfl, fun h => h, ?_, fun i y hi => (hy i y hi).2⟩⟩
            obtain ⟨_, es, e1, e2, _⟩ := hy 0 ys[0] (by simp [hpos])
            have := e2 0 es[0] (by rw [List.getElem?_eq_getElem (by omega)])
            have := World.block_lt_of_cell? W _ this
            rwa [add_block] at this
      · cases h
    · rename_i fs hu
      simp only [Bool.and_eq_true, beq_iff_eq] at h
      unfold DataW.trod at hx
      rw [hu] at hx
      simp only at hx
      split at hx
      · rename_i hl
        obtain ⟨xs, hxs, _⟩ := Option.map_eq_some_iff.1 hx
        have := fs_read (fun t T hT cs x hx => read_vr d t T hT n cs x hx) fs.toList 0 T h.2 cs xs (by simp [hl, h.1]) hxs
        simpa using this
      · cases hx
    · rename_i m e hu
      simp only [Bool.and_eq_true, beq_iff_eq] at h
      unfold DataW.trod at hx
      rw [hu] at hx
      simp only at hx
      split at hx
      · rename_i hl
        obtain ⟨xs, hxs, _⟩ := Option.map_eq_some_iff.1 hx
        rw [List.range_eq_range'] at hxs
        have := ar_read (fun T hT cs x hx => read_vr d e T hT n cs x hx) m 0 T h.2 cs xs (by simp [hl, h.1]) hxs
        simpa using this
      · cases hx
    · cases h

/-! ### the arguments -/
def Ty.fineA : (s : Sig) → Args s → Prop
  | [], _ => True
  | [(T, _)], x => T.fine x
  | (T, _) :: q :: r, x => T.fine x.1 ∧ Ty.fineA (q :: r) x.2
def sigOk (P : Program) (d : Nat) : List TypeId → Sig → Bool
  | [], [] => true
  | t :: ts, (T, g) :: s => isT P d t T && (aggT P t == some g && sigOk P d ts s)
  | _, _ => false

theorem arg_lrx {d : Nat} {t : TypeId} {T : Ty} {g : Bool} (ht : isT P d t T = true) (hg : aggT P t = some g) {v : Value} {x : DataW H} {ps : List MemPlace} {r : Reach} {b0 : Nat} (hval : Value.okWide P W r b0 t v) (h : DataW.Trod enc P W 0 sp held t v x ps) :
    ∃ y : T.D, T.fine y ∧ LRX W X0 (canon T g y) v := by
  obtain ⟨fuel, hf⟩ := h
  obtain ⟨y, hy, hv⟩ := read_vr d t T ht fuel _ _ hf
  refine ⟨y, hy, ?_⟩
  cases g with
  | true =>
    have : ∃ cs, v = .agg cs := by
      unfold Value.okWide at hval
      unfold aggT at hg
      split at hg <;> first | (rename_i hu; rw [hu] at hval; simp only at hval; obtain ⟨cs, rfl, _⟩ := hval; exact ⟨cs, rfl⟩) | (simp at hg; done)
    obtain ⟨cs, rfl⟩ := this
    have h1 := @VR.explode ⟨X0⟩ W [] [] K0 T y _ (hv.less fun b hb => (XO_nil X0 b).1 hb)
    have h2 := @LRs.agg ⟨X0⟩ W [] [] K0 _ _ h1
    have e : (Value.agg cs).cells.toList.toArray = cs := by simp [Value.cells]
    rw [e] at h2
    exact h2
  | false =>
    refine LRX.d ?_
    have hone : v.cells = #[v] := by
      unfold aggT at hg
      cases d with
      | zero => cases ht
      | succ d =>
        simp only [isT] at ht
        split at ht
        · rename_i k hu; obtain ⟨n, rfl⟩ := okWide_int hu hval; rfl
        · rename_i hu
          simp only [Value.okWide, hu, Cell.okWide] at hval
          cases v <;> simp_all [Cell.ok, Value.cells]
        · rename_i hu; obtain ⟨n, rfl⟩ := okWide_string hu hval; rfl
        · rename_i e hu; obtain ⟨a, l, c, rfl⟩ := okWide_slice hu hval; rfl
        · rename_i fs hu; rw [hu] at hg; simp at hg
        · rename_i m e hu; rw [hu] at hg; simp at hg
        · cases ht
    rw [hone] at hv
    exact hv

theorem LRXs.cons1 {w : World} {X : Nat → Prop} {c : AV} {cs : List AV} {v : Value} {vs : List Value} (h : LRX w X c v) (t : LRXs w X cs vs) : LRXs w X (c :: cs) (v :: vs) := .cons h t

theorem args_lrx {d : Nat} {r : Reach} {b0 : Nat} : ∀ {ts : List TypeId} {s : Sig} {vs : List Value} {ds : List (DataW H)} {ps : List MemPlace}, sigOk P d ts s = true → (∀ (j : Nat) t v, ts[j]? = some t → vs[j]? = some v → Value.okWide P W r b0 t v) →
    DataW.TrodAll enc P W 0 sp held ts vs ds ps → ∃ x : Args s, Ty.fineA s x ∧ LRXs W X0 (encA s x) vs
  | [], s, vs, ds, ps, h, hv, ht => by
    cases s with
    | nil =>
      obtain ⟨rfl, rfl, rfl⟩ := trodAll_nil ht
      exact ⟨(), trivial, .nil⟩
    | cons q s => simp [sigOk] at h
  | t :: ts, s, vs, ds, ps, h, hv, ht => by
    match s, h with
    | [], h => simp [sigOk] at h
    | [(T, g)], h =>
      simp only [sigOk, Bool.and_eq_true, beq_iff_eq] at h
      obtain ⟨h1, h2, h3⟩ := h
      obtain ⟨v, vs', x, ds', p, q, rfl, rfl, rfl, g1, g2⟩ := trodAll_cons ht
      obtain ⟨y, f, l⟩ := arg_lrx h1 h2 (hv 0 t v rfl rfl) g1
      cases ts with
      | nil =>
        obtain ⟨rfl, rfl, rfl⟩ := trodAll_nil g2
        exact ⟨y, f, .cons l .nil⟩
      | cons t2 ts => simp [sigOk] at h3
    | (T, g) :: (T2, g2) :: s, h =>
      simp only [sigOk] at h
      rw [Bool.and_eq_true, Bool.and_eq_true, beq_iff_eq] at h
      obtain ⟨h1, h2, h3⟩ := h
      obtain ⟨v, vs', x, ds', p, q, rfl, rfl, rfl, g1, g3⟩ := trodAll_cons ht
      obtain ⟨y, f, l⟩ := arg_lrx h1 h2 (hv 0 t v rfl rfl) g1
      obtain ⟨z, fz, lz⟩ := args_lrx (s := (T2, g2) :: s) h3 (fun j t' v' hj hv' => hv (j + 1) t' v' (by simpa using hj) (by simpa using hv')) g3
      exact ⟨(y, z), ⟨f, fz⟩, .cons l lz⟩

/-- Behind a call that has left alone what was there. -/
theorem trodAll_below (hl : laidOutB P = true) {W' : World} {sp' : Nat → Bool} : ∀ {ts : List TypeId} {vs : List Value} {ds : List (DataW H)} {ps : List MemPlace}, (∀ t ∈ ts, P.readableRec t = true ∧ t < P.types.size) → DataW.TrodAll enc P W 0 (fun _ => true) true ts vs ds ps →
    Below W.heap.size W W' → (∀ p ∈ ps, p.block < W.heap.size) → (∀ p ∈ ps, sp' p.block = true) → DataW.TrodAll enc P W' 0 sp' true ts vs ds ps
  | [], vs, ds, ps, _, h, _, _, _ => by
    obtain ⟨rfl, rfl, rfl⟩ := trodAll_nil h
    exact rfl
  | t :: ts, vs, ds, ps, hr, h, hb, hlt, hsp => by
    obtain ⟨v, vs', d, ds', p, q, rfl, rfl, rfl, h1, h2⟩ := trodAll_cons h
    refine ⟨p, q, WideElems.Trod_stays hl (hr t (by simp)).1 (hr t (by simp)).2 h1 (fun x hx => hb.same (hlt x (by simp [hx]))) (fun x hx => hsp x (by simp [hx])), ?_, rfl⟩
    exact trodAll_below hl (fun t ht => hr t (List.mem_cons_of_mem _ ht)) h2 hb (fun x hx => hlt x (by simp [hx])) (fun x hx => hsp x (by simp [hx]))

/-- A law: what the evaluator says of it, as its row wants it. -/
theorem law_contract {f : FuncId} {fn : Func} {ps : Sig} {F : Args ps → Option (Args [(Ty.bool, false)])} (hok : FnOk P f ps [(Ty.bool, false)] F) {spec : ChangeSpec} (hvars : spec.vars = [])
    (hspec : ∀ ds : List (DataW H), ds.length = fn.params.size → (spec.fn H ds).results = [.lit (.bool true)] ∧ (spec.fn H ds).args = ds ∧ (spec.fn H ds).vars = [])
    (hsig : sigOk P 12 fn.params.toList ps = true) {tb : TypeId} (hres : fn.resultTypes = #[tb]) (htb : P.underlying tb = some .bool) (hl : laidOutB P = true) (hrd : fn.params.toList.all (fun t => P.readableRec t && decide (t < P.types.size)) = true)
    {W : World} {base : Nat} {args : Array Value} {ds gs : List (DataW H)} {before : List MemPlace} (hF : ∀ x : Args ps, Ty.fineA ps x → LRXs W X0 (encA ps x) args.toList → F x = some true)
    (hval : ∀ (j : Nat) t v, fn.params[j]? = some t → args[j]? = some v → Value.okWide P W .any base t v)
    (hW : DataW.Whole enc P fn.params.toList spec.vars false W args.toList ds gs before) :
    Calls P f args W fun e W' => ∃ v, e = .returned v ∧ spec.post enc P fn false true false false W args v W' := by
  have hW' := hW
  have hlt := fun p hp => hW.lt p hp
  obtain ⟨p, q, hA, hV, hpq, hfz, hnd⟩ := hW
  rw [hvars] at hV
  obtain ⟨rfl, rfl⟩ := trodVars_none hV
  obtain ⟨x, hx, hlr⟩ := args_lrx hsig (fun j t v hj hv => hval j t v (by simpa using hj) (by simpa using hv)) hA
  obtain ⟨_, hc⟩ := hok x true (hF x hx hlr) X0 W args.toList (fun b hb => hb.elim) hlr
  have hlen : ds.length = fn.params.size := by
    have : ∀ {ts : List TypeId} {vs : List Value} {ds : List (DataW H)} {ps : List MemPlace}, DataW.TrodAll enc P W 0 (fun _ => true) true ts vs ds ps → ds.length = ts.length := by
      intro ts
      induction ts with
      | nil => intro vs ds ps h; obtain ⟨_, rfl, _⟩ := trodAll_nil h; rfl
      | cons t ts ih =>
        intro vs ds ps h
        obtain ⟨v, vs', d, ds', p, q, rfl, rfl, rfl, _, h2⟩ := trodAll_cons h
        simp [ih h2]
    simpa using this hA
  obtain ⟨s1, s2, s3⟩ := hspec ds hlen
  have hrd' : ∀ t ∈ fn.params.toList, P.readableRec t = true ∧ t < P.types.size := fun t ht => by simpa using List.all_eq_true.1 hrd t ht
  have e : args.toList.toArray = args := by simp
  rw [e] at hc
  refine hc.mono fun e W' ⟨zs, he, hb, hz⟩ => ?_
  have hzs : zs = [.bool true] := by
    match zs, hz with
    | [z], hz =>
      have := hz.2 0 _ z rfl rfl
      cases this with
      | d hv => simp only [VR] at hv; exact hv
    | [], hz => have := hz.1; simp [encA] at this
    | _ :: _ :: _, hz => have := hz.1; simp [encA] at this
  subst hzs
  refine ⟨_, he, ?_⟩
  simp only [List.append_nil] at hpq
  subst hpq
  refine ⟨ds, [], before, [], before, [], hW', ?_, ?_, ?_, hb.frame _, fun h => by cases h⟩
  · simp only [List.append_nil, s1, hres]
    exact trodAll_mk1 (shut_bool htb _)
  · simp only [List.append_nil, s2]
    exact trodAll_below hl hrd' hA hb hlt (fun p hp => by simpa using hlt p hp)
  · simp only [List.append_nil, s3, hvars]
    exact rfl
end
end Go.Tw
