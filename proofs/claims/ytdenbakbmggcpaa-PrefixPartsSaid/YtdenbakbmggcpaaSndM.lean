/- Maps. -/
import Derived.Test.YtdenbakbmggcpaaSnd20
import Derived.MapKept
import Derived.WideKeyEntry
import Derived.ChangeMaps5
set_option linter.unusedVariables false
set_option linter.unusedSectionVars false
set_option linter.unusedSimpArgs false
namespace Go.Tw
open Go.RowKit

/-- The kinds of a datum's cells. -/
def kinds : Ty → List Ty
  | .unit => []
  | .pair a b => kinds a ++ kinds b
  | T => [T]

theorem beq_eq : ∀ {K : Ty} {x y : K.D}, K.key = true → (K.beq x y = true ↔ x = y)
  | .int _, x, y, _ => by simp [Ty.beq]
  | .bool, x, y, _ => by cases x <;> cases y <;> simp [Ty.beq]
  | .unit, _, _, _ => by simp [Ty.beq]
  | .pair a b, x, y, h => by
    simp only [Ty.key, Bool.and_eq_true] at h
    simp only [Ty.beq, Bool.and_eq_true, beq_eq h.1, beq_eq h.2, Prod.ext_iff]

theorem fit_append {ks ls : List Ty} {vs us : List Value} (h : Fit ks vs) (g : Fit ls us) : Fit (ks ++ ls) (vs ++ us) := by
  refine ⟨by simp [h.1, g.1], fun i k v hk hv => ?_⟩
  by_cases hi : i < ks.length
  · rw [List.getElem?_append_left hi] at hk
    rw [List.getElem?_append_left (by rw [← h.1]; exact hi)] at hv
    exact h.2 i k v hk hv
  · rw [List.getElem?_append_right (by omega)] at hk
    rw [List.getElem?_append_right (by rw [← h.1]; omega), ← h.1] at hv
    exact g.2 _ k v hk hv

theorem key_fit [Ban] {w : World} {X : Nat → Prop} : ∀ {K : Ty} {x : K.D} {cs : List Value}, K.key = true → VR w X K x cs → Fit (kinds K) cs
  | .int _, _, _, _, h => by simp only [VR] at h; subst h; exact Fit.cons ⟨_, rfl⟩ ⟨rfl, by simp⟩
  | .bool, _, _, _, h => by simp only [VR] at h; subst h; exact Fit.cons ⟨_, rfl⟩ ⟨rfl, by simp⟩
  | .unit, _, _, _, h => by simp only [VR] at h; subst h; exact ⟨rfl, by simp⟩
  | .pair a b, _, _, hk, h => by
    simp only [Ty.key, Bool.and_eq_true] at hk
    simp only [VR] at h
    obtain ⟨c1, c2, rfl, h1, h2⟩ := h
    exact fit_append (key_fit hk.1 h1) (key_fit hk.2 h2)

theorem key_eq {w : World} {X : Nat → Prop} : ∀ {K : Ty} {x y : K.D} {cs ds : List Value}, K.key = true → VR w X K x cs → VR w X K y ds → eqBs cs ds = K.beq x y
  | .int _, x, y, _, _, _, h, g => by simp only [VR] at h g; subst h g; simp [eqBs, lit1, Ty.beq]; exact (by rw [Bool.eq_iff_iff]; simp)
  | .bool, x, y, _, _, _, h, g => by simp only [VR] at h g; subst h g; cases x <;> cases y <;> rfl
  | .unit, _, _, _, _, _, h, g => by simp only [VR] at h g; subst h g; rfl
  | .pair a b, _, _, _, _, hk, h, g => by
    simp only [Ty.key, Bool.and_eq_true] at hk
    simp only [VR] at h g
    obtain ⟨c1, c2, rfl, h1, h2⟩ := h
    obtain ⟨d1, d2, rfl, g1, g2⟩ := g
    rw [eqBs_append _ _ _ _ (by rw [h1.len, g1.len]), key_eq hk.1 h1 g1, key_eq hk.2 h2 g2]
    rfl

theorem key_prim : ∀ {K : Ty}, K.key = true → K.prim = true
  | .int _, _ => rfl
  | .bool, _ => rfl
  | .unit, _ => rfl
  | .pair a b, h => by
    simp only [Ty.key, Bool.and_eq_true] at h
    simp [Ty.prim, key_prim h.1, key_prim h.2]
/-- A key's cells are told by the key. -/
theorem key_cells {w : World} {X : Nat → Prop} : ∀ {K : Ty} {x : K.D} {cs ds : List Value}, K.key = true → VR w X K x cs → VR w X K x ds → cs = ds
  | .int _, x, _, _, _, h, g => by simp only [VR] at h g; subst h g; rfl
  | .bool, x, _, _, _, h, g => by simp only [VR] at h g; subst h g; rfl
  | .unit, _, _, _, _, h, g => by simp only [VR] at h g; subst h g; rfl
  | .pair a b, _, _, _, hk, h, g => by
    simp only [Ty.key, Bool.and_eq_true] at hk
    simp only [VR] at h g
    obtain ⟨c1, c2, rfl, h1, h2⟩ := h
    obtain ⟨d1, d2, rfl, g1, g2⟩ := g
    rw [key_cells hk.1 h1 g1, key_cells hk.2 h2 g2]

/-! ### entries -/
/-- Where a key stands. -/
def findD (K : Ty) {B : Type} (x : K.D) : List (K.D × B) → Option Nat
  | [] => none
  | d :: ds => cond (K.beq x d.1) (some 0) ((findD K x ds).map (· + 1))
theorem findD_get {K V : Ty} (x : K.D) : ∀ (ds : List (K.D × V.D)), mget K V ds x = match findD K x ds with | some j => (match ds[j]? with | some d => d.2 | none => V.z) | none => V.z
  | [] => rfl
  | (a, v) :: ds => by
    simp only [mget, findD]
    cases K.beq x a with
    | true => rfl
    | false =>
      simp only [Bool.cond_false, findD_get x ds]
      cases findD K x ds <;> simp
theorem findD_put {K V : Ty} (x : K.D) (y : V.D) : ∀ (ds : List (K.D × V.D)), mput K V ds x y = match findD K x ds with | some j => setNth ds j (x, y) | none => ds ++ [(x, y)]
  | [] => rfl
  | (a, v) :: ds => by
    simp only [mput, findD]
    cases K.beq x a with
    | true => rfl
    | false =>
      simp only [Bool.cond_false, findD_put x y ds]
      cases findD K x ds <;> simp [setNth]
theorem findD_some {K : Ty} {B : Type} {x : K.D} : ∀ {ds : List (K.D × B)} {j : Nat}, findD K x ds = some j → ∃ d, ds[j]? = some d ∧ K.beq x d.1 = true
  | [], _, h => by cases h
  | d :: ds, j, h => by
    simp only [findD] at h
    cases hb : K.beq x d.1 with
    | true => rw [hb] at h; simp only [Bool.cond_true, Option.some.injEq] at h; subst h; exact ⟨d, rfl, hb⟩
    | false =>
      rw [hb] at h
      simp only [Bool.cond_false, Option.map_eq_some_iff] at h
      obtain ⟨i, hi, rfl⟩ := h
      obtain ⟨d', h1, h2⟩ := findD_some hi
      exact ⟨d', by simpa using h1, h2⟩
theorem mget_mput {K V : Ty} (hK : K.key = true) (x z : K.D) (y : V.D) : ∀ (ds : List (K.D × V.D)), mget K V (mput K V ds x y) z = cond (K.beq z x) y (mget K V ds z)
  | [] => rfl
  | (a, v) :: ds => by
    cases hb : K.beq x a with
    | true =>
      simp only [mput, hb, Bool.cond_true, mget]
      have := (beq_eq hK).1 hb
      subst this
      cases K.beq z x <;> rfl
    | false =>
      simp only [mput, hb, Bool.cond_false, mget, mget_mput hK x z y ds]
      cases hz : K.beq z a with
      | false => rfl
      | true =>
        have := (beq_eq hK).1 hz
        subst this
        have hne : K.beq z x = false := by
          cases h : K.beq z x with
          | false => rfl
          | true => rw [(beq_eq hK).1 h] at hb; rw [(beq_eq hK).2 rfl] at hb; cases hb
        rw [hne]
        rfl

theorem Ents.len {w : World} {X : Nat → Prop} {ag : Bool} {A B : Ty} : ∀ {ds : List (A.D × B.D)} {es : List MapEntry}, Ents w X ag A B ds es → ds.length = es.length
  | [], [], _ => rfl
  | _ :: _, _ :: _, ⟨_, _, h⟩ => by simp [h.len]
  | [], _ :: _, h => h.elim
  | _ :: _, [], h => h.elim
theorem Ents.at {w : World} {X : Nat → Prop} {ag : Bool} {A B : Ty} : ∀ {ds : List (A.D × B.D)} {es : List MapEntry}, Ents w X ag A B ds es → ∀ {j : Nat} {d : A.D × B.D}, ds[j]? = some d → ∃ e, es[j]? = some e ∧ KeyR w X ag A d.1 e.key ∧ VR w X B d.2 [e.val]
  | d :: _, e :: _, ⟨h1, h2, _⟩, 0, d', hd => by simp only [List.getElem?_cons_zero, Option.some.injEq] at hd; subst hd; exact ⟨e, rfl, h1, h2⟩
  | _ :: _, _ :: _, ⟨_, _, h⟩, j + 1, d', hd => by simpa using h.at (j := j) (by simpa using hd)
  | [], [], _, j, d', hd => by simp at hd
  | [], _ :: _, h, _, _, _ => h.elim
  | _ :: _, [], h, _, _, _ => h.elim
theorem Ents.put {w : World} {X : Nat → Prop} {ag : Bool} {A B : Ty} : ∀ {ds : List (A.D × B.D)} {es : List MapEntry}, Ents w X ag A B ds es → ∀ {d : A.D × B.D} {e : MapEntry}, KeyR w X ag A d.1 e.key → VR w X B d.2 [e.val] → ∀ (j : Nat), Ents w X ag A B (setNth ds j d) (es.set j e)
  | [], [], _, _, _, _, _, _ => trivial
  | _ :: _, _ :: _, ⟨h1, h2, h⟩, d, e, hk, hv, 0 => ⟨hk, hv, h⟩
  | _ :: _, _ :: _, ⟨h1, h2, h⟩, d, e, hk, hv, j + 1 => ⟨h1, h2, h.put hk hv j⟩
  | [], _ :: _, h, _, _, _, _, _ => h.elim
  | _ :: _, [], h, _, _, _, _, _ => h.elim
theorem Ents.push {w : World} {X : Nat → Prop} {ag : Bool} {A B : Ty} : ∀ {ds : List (A.D × B.D)} {es : List MapEntry}, Ents w X ag A B ds es → ∀ {d : A.D × B.D} {e : MapEntry}, KeyR w X ag A d.1 e.key → VR w X B d.2 [e.val] → Ents w X ag A B (ds ++ [d]) (es ++ [e])
  | [], [], _, _, _, hk, hv => ⟨hk, hv, trivial⟩
  | _ :: _, _ :: _, ⟨h1, h2, h⟩, _, _, hk, hv => ⟨h1, h2, h.push hk hv⟩
  | [], _ :: _, h, _, _, _, _ => h.elim
  | _ :: _, [], h, _, _, _, _ => h.elim

/-! ### the model's road to an entry -/
section
variable [Ban] {P : Program} {w : World} {X : Nat → Prop}

theorem key_val {kt : TypeId} {ag : Bool} {K : Ty} {x : K.D} {v : Value} (ha : aggT P kt = some ag) (h : KeyR w X ag K x v) : ∃ cs, VR w X K x cs ∧ v = valOf P kt cs := by
  obtain ⟨cs, h1, h2, _⟩ := h
  refine ⟨cs, h1, ?_⟩
  cases ag <;> simp [valOf, ha, h2, keyW]

theorem run_checkT (em : Bool) : ∀ (d m : Nat) (t : TypeId) (ks : List Ty), eqT P d t = some ks → ∀ (xs : List Value), Fit ks xs → (Instr.checkKey em (d + m) t (valOf P t xs)).run P w = .ok () w
  | 0, _, _, _, h, _, _ => by cases h
  | d + 1, m, t, ks, h, xs, hx => by
    have ih := fun t ks h xs => run_checkT em d m t ks h xs
    have hadd : d + 1 + m = (d + m) + 1 := by omega
    rw [hadd]
    simp only [eqT] at h
    split at h
    · rename_i k hu
      simp only [Option.some.injEq] at h
      subst h
      obtain ⟨_, rfl, x, rfl⟩ := fit_one hx
      simp [valOf, aggT, hu, Instr.checkKey, run_underlying hu]
    · rename_i hu
      simp only [Option.some.injEq] at h
      subst h
      obtain ⟨_, rfl, x, rfl⟩ := fit_one hx
      simp [valOf, aggT, hu, Instr.checkKey, run_underlying hu]
    · rename_i hu
      simp only [Option.some.injEq] at h
      subst h
      obtain ⟨_, rfl, x, rfl⟩ := fit_one hx
      simp [valOf, aggT, hu, Instr.checkKey, run_underlying hu]
    · rename_i fs hu
      split at h
      · cases h
      · rw [Instr.checkKey]
        simp only [valOf, aggT, hu, Sem.run_bind, run_underlying hu, Result.andThen_ok]
        rw [← Array.forIn_toList]
        have key : ∀ (L : List Field) (o : Nat) (ks : List Ty), eqFs (eqT P d) P L o = some ks → Fit ks (xs.drop o) →
            (forIn L PUnit.unit fun f r => do
              if f.name ≠ "_" then
                Instr.checkKey em (d + m) f.type (← part f.type xs.toArray f.offset)
                pure (ForInStep.yield PUnit.unit)
              else pure (ForInStep.yield PUnit.unit) : Sem PUnit).run P w = .ok PUnit.unit w := by
          intro L
          induction L with
          | nil => intro o ks _ _; simp
          | cons f L ihL =>
            intro o ks h hx
            simp only [eqFs] at h
            split at h
            · cases h
            · rename_i hne
              split at h
              · rename_i ho
                split at h
                · rename_i l hl
                  split at h
                  · rename_i hs
                    obtain ⟨hs, hlp⟩ := hs
                    split at h
                    · rename_i r hr
                      simp only [Option.some.injEq] at h
                      subst h
                      have lx := hx.1
                      simp only [List.length_append, List.length_drop] at lx
                      have p1 := run_part_val (w := w) hl hs (xs := xs) (off := o) (by omega)
                      have e1 := ih f.type l hl _ hx.take
                      have e2 := ihL (o + l.length) r hr (by rw [← List.drop_drop]; exact hx.drop)
                      simp only [List.forIn_cons, Sem.run_bind, hne, ne_eq, not_false_eq_true, if_true, ho, Result.andThen_ok, p1, e1, Sem.run_pure]
                      exact e2
                    · cases h
                  · cases h
                · cases h
              · cases h
        have := key fs.toList 0 ks h (by simpa using hx)
        simp at this
        simp [this]
    · rename_i n e hu
      split at h
      · rename_i l hl
        split at h
        · rename_i hs
          obtain ⟨hs, hlp⟩ := hs
          simp only [Option.some.injEq] at h
          subst h
          rw [Instr.checkKey]
          simp only [valOf, aggT, hu, Sem.run_bind, run_underlying hu, Result.andThen_ok]
          simp only [Std.Legacy.Range.forIn_eq_forIn_range', Std.Legacy.Range.size, Nat.sub_zero, Nat.add_one_sub_one, Nat.div_one]
          have key : ∀ (n j : Nat), Fit (List.replicate n l).flatten (xs.drop (j * l.length)) →
              (forIn (List.range' j n) PUnit.unit fun i r => do
                Instr.checkKey em (d + m) e (← part e xs.toArray (i * (← sizeOf e)))
                pure (ForInStep.yield PUnit.unit) : Sem PUnit).run P w = .ok PUnit.unit w := by
            intro n
            induction n with
            | zero => intro j _; simp
            | succ n ihn =>
              intro j hx
              rw [List.replicate_succ, List.flatten_cons] at hx
              have lx := hx.1
              rw [List.length_append, List.length_drop] at lx
              have p1 := run_part_val (w := w) hl hs (xs := xs) (off := j * l.length) (by omega)
              have hj : (j + 1) * l.length = j * l.length + l.length := by rw [Nat.add_mul, Nat.one_mul]
              have e1 := ih e l hl _ hx.take
              have e2 := ihn (j + 1) (by rw [hj, ← List.drop_drop]; exact hx.drop)
              simp only [List.range'_succ, List.forIn_cons, Sem.run_bind, run_sizeOf hs, Result.andThen_ok, p1, e1, Sem.run_pure]
              exact e2
          have := key n 0 (by simpa using hx)
          simp at this
          simp [this]
        · cases h
      · cases h
    · cases h

/-! ### what a key is, for a map's type -/
def keyOk (P : Program) (kt : TypeId) (ag : Bool) (K : Ty) : Bool := (match eqT P 12 kt with | some l => decide (l = kinds K) | none => false) && (aggT P kt == some ag && (K.key && (ag || (match K with | .int _ => true | _ => false))))
def valOk (P : Program) (et : TypeId) (V : Ty) : Bool := match zeroT P et, V with
  | some (.int k n), .int j => k == j && n == 0
  | some (.bool b), .bool => !b
  | _, _ => false
def mapOk (P : Program) (t : TypeId) (ag : Bool) (K V : Ty) : Bool := match P.underlying t with
  | some (.map kt et) => keyOk P kt ag K && valOk P et V
  | _ => false
theorem of_keyOk {kt : TypeId} {ag : Bool} {K : Ty} (h : keyOk P kt ag K = true) : eqT P 12 kt = some (kinds K) ∧ aggT P kt = some ag ∧ K.key = true ∧ (ag = true ∨ ∃ k, K = .int k) := by
  simp only [keyOk, Bool.and_eq_true, beq_iff_eq, Bool.or_eq_true] at h
  obtain ⟨h1, h2, h3, h4⟩ := h
  refine ⟨?_, h2, h3, h4.imp id fun h => ?_⟩
  · split at h1
    · rename_i l hl; rw [hl]; simpa using h1
    · cases h1
  · split at h
    · exact ⟨_, rfl⟩
    · cases h

theorem findAsk_run {kt : TypeId} {ag : Bool} {K V : Ty} (hk : keyOk P kt ag K = true) {x : K.D} {v : Value} (hx : KeyR w X ag K x v) : ∀ {ds : List (K.D × V.D)} {es : List MapEntry}, Ents w X ag K V ds es → ∀ (i : Nat),
    (Instr.findAsking kt v es i).run P w = .ok (match findD K x ds with | some j => (es[j]?).map fun e => (i + j, e.val) | none => none) w
  | [], [], _, i => by simp [Instr.findAsking, findD]
  | d :: ds, e :: es, ⟨h1, h2, h⟩, i => by
    obtain ⟨g1, g2, g3, _⟩ := of_keyOk hk
    obtain ⟨cs, c1, rfl⟩ := key_val g2 hx
    obtain ⟨cs', c2, e2⟩ := key_val g2 h1
    have hr := run_eqT (P := P) (w := w) 12 9988 kt _ g1 cs cs' (key_fit g3 c1) (key_fit g3 c2)
    rw [key_eq g3 c1 c2] at hr
    have ih := findAsk_run hk hx h (i + 1)
    have hr' : (Op.equal kt (valOf P kt cs) e.key).run P w = .ok (K.beq x d.1) w := by rw [e2]; exact hr
    simp only [Instr.findAsking, Sem.run_bind, hr', Result.andThen_ok, findD]
    cases K.beq x d.1 with
    | true => simp
    | false =>
      simp only [Bool.false_eq_true, if_false, Bool.cond_false, ih]
      cases findD K x ds with
      | none => rfl
      | some j => simp [Nat.add_assoc, Nat.add_comm 1 j]
  | [], _ :: _, h, _ => h.elim
  | _ :: _, [], h, _ => h.elim

theorem findNow_run {q : IntKind} {V : Ty} {x : Int} {v : Value} (hx : KeyR w X false (.int q) x v) : ∀ {ds : List (Int × V.D)} {es : List MapEntry}, Ents w X false (.int q) V ds es → ∀ (i : Nat),
    Instr.findNow (.int q) v es i = some (match findD (.int q) x ds with | some j => (es[j]?).map fun e => (i + j, e.val) | none => none)
  | [], [], _, i => by simp [Instr.findNow, findD]
  | d :: ds, e :: es, ⟨h1, h2, h⟩, i => by
    obtain ⟨cs, c1, rfl, _⟩ := hx
    obtain ⟨cs', c2, e2, _⟩ := h1
    simp only [VR] at c1 c2
    subst c1 c2
    have ih := findNow_run (q := q) (V := V) (x := x) ⟨[.int q x], by simp [VR], rfl, fun _ => rfl⟩ h (i + 1)
    simp only [Instr.findNow, e2, keyW, List.getD_cons_zero, Instr.sameNow, if_true, findD, Ty.beq] at ih ⊢
    by_cases hxd : x = d.1
    · simp [hxd]
    · have h1 : (x == d.1) = false := by simpa using hxd
      simp only [h1, decide_eq_false hxd, Bool.cond_false, ih]
      cases findD (.int q) x ds with
      | none => rfl
      | some j => simp [Nat.add_assoc, Nat.add_comm 1 j]
  | [], _ :: _, h, _ => h.elim
  | _ :: _, [], h, _ => h.elim

theorem find_run {kt : TypeId} {ag : Bool} {K V : Ty} (hk : keyOk P kt ag K = true) {x : K.D} {v : Value} (hx : KeyR w X ag K x v) {ds : List (K.D × V.D)} {es : List MapEntry} (h : Ents w X ag K V ds es) :
    (Instr.findKey kt v es).run P w = .ok (match findD K x ds with | some j => (es[j]?).map fun e => (j, e.val) | none => none) w := by
  have hall := findAsk_run hk hx h 0
  simp only [Nat.zero_add] at hall
  obtain ⟨g1, g2, g3, g4⟩ := of_keyOk hk
  unfold aggT at g2
  have hag : ag = true → ∀ d, P.underlying kt = some d → Instr.findNow d v es 0 = none ∨ es = [] := fun ha d hd => by
    cases es with
    | nil => exact .inr rfl
    | cons e es =>
      refine .inl ?_
      obtain ⟨cs, _, e1, _⟩ := hx
      rw [ha] at e1
      simp only [Instr.findNow, e1, keyW]
      cases d <;> simp [Instr.sameNow]
  cases hu : P.underlying kt with
  | none => rw [hu] at g2; cases g2
  | some d =>
    unfold Instr.findKey
    simp only [Sem.run_bind, run_underlying hu, Result.andThen_ok]
    cases ag with
    | true =>
      rcases hag rfl d hu with h1 | rfl
      · rw [h1]; exact hall
      · cases ds with
        | nil => simp [Instr.findNow, findD]
        | cons d ds => exact h.elim
    | false =>
      obtain ⟨q, rfl⟩ := g4.resolve_left (by simp)
      have h1 : eqT P 12 kt = some [.int q] := g1
      simp only [eqT, hu] at h1
      cases d <;> simp [hu] at g2 <;> simp at h1
      subst h1
      rw [findNow_run hx h 0]
      simp

theorem same_cell {k : Ty} {v : Value} (h : fit1 k v) (hk : k ≠ .str) (n : Nat) : Instr.sameBits (n + 1) v v = true := by
  cases k <;> simp only [fit1] at h
  · obtain ⟨x, rfl⟩ := h; simp [Instr.sameBits]
  · obtain ⟨x, rfl⟩ := h; simp [Instr.sameBits]
  · exact absurd rfl hk
theorem kinds_key : ∀ {K : Ty}, K.key = true → ∀ k ∈ kinds K, k ≠ .str
  | .int _, _, k, h => by simp only [kinds, List.mem_singleton] at h; subst h; simp
  | .bool, _, k, h => by simp only [kinds, List.mem_singleton] at h; subst h; simp
  | .unit, _, k, h => by simp [kinds] at h
  | .pair a b, hk, k, h => by
    simp only [Ty.key, Bool.and_eq_true] at hk
    simp only [kinds, List.mem_append] at h
    exact h.elim (kinds_key hk.1 k) (kinds_key hk.2 k)
theorem key_stays {ag : Bool} {K : Ty} (hK : K.key = true) {x : K.D} {v : Value} (hx : KeyR w X ag K x v) : (Instr.keyThatStays v v).run P w = .ok v w := by
  obtain ⟨cs, c1, rfl, c3⟩ := hx
  have hf := key_fit hK c1
  have each : ∀ (n i : Nat) (u : Value), cs[i]? = some u → Instr.sameBits (n + 1) u u = true := fun n i u hu => by
    have hi := (List.getElem?_eq_some_iff.1 hu).1
    have hi' : i < (kinds K).length := by rw [hf.1]; exact hi
    have hk : (kinds K)[i]? = some (kinds K)[i] := List.getElem?_eq_getElem hi'
    exact same_cell (hf.2 i _ u hk hu) (kinds_key hK _ (List.getElem_mem _)) n
  have : Instr.sameBits 10000 (keyW ag cs) (keyW ag cs) = true := by
    cases ag with
    | true =>
      show Instr.sameBits (9999 + 1) (.agg cs.toArray) (.agg cs.toArray) = true
      simp only [Instr.sameBits, beq_self_eq_true, Bool.true_and, List.all_eq_true]
      intro p hp
      obtain ⟨i, hi⟩ := List.getElem?_of_mem hp
      rw [List.getElem?_zip_eq_some] at hi
      have e : p.1 = p.2 := by have := hi.1.symm.trans hi.2; simpa using this
      have := each 9998 i p.1 (by simpa using hi.1)
      rw [← e]
      exact this
    | false =>
      have hl := c3 rfl
      exact each 9999 0 _ (by unfold keyW; simp only [List.getD_eq_getElem?_getD]; rw [List.getElem?_eq_getElem (by omega)]; rfl)
  unfold Instr.keyThatStays
  rw [this]
  simp

theorem run_zero {et : TypeId} {z : Value} (hz : zeroT P et = some z) : (zeroValue et).run P w = .ok z w := by
  unfold zeroT at hz
  obtain ⟨it, hit, hz⟩ := Option.bind_eq_some_iff.1 hz
  simp [zeroValue, typeInfo, hit, hz]
theorem of_valOk {et : TypeId} {V : Ty} (h : valOk P et V = true) : ∃ z, zeroT P et = some z ∧ VR w X V V.z [z] ∧ V.prim = true := by
  unfold valOk at h
  split at h
  · rename_i k n j hz
    simp only [Bool.and_eq_true, beq_iff_eq] at h
    obtain ⟨rfl, rfl⟩ := h
    exact ⟨_, hz, by simp [VR, Ty.z], rfl⟩
  · rename_i b hz
    simp only [Bool.not_eq_true'] at h
    subst h
    exact ⟨_, hz, by simp [VR, Ty.z], rfl⟩
  · cases h
theorem of_mapOk {t : TypeId} {ag : Bool} {K V : Ty} (h : mapOk P t ag K V = true) : ∃ kt et, P.underlying t = some (.map kt et) ∧ keyOk P kt ag K = true ∧ valOk P et V = true := by
  unfold mapOk at h
  split at h
  · rename_i kt et hu; simp only [Bool.and_eq_true] at h; exact ⟨kt, et, hu, h.1, h.2⟩
  · cases h
theorem run_check {kt : TypeId} {ag em : Bool} {K : Ty} (hk : keyOk P kt ag K = true) {x : K.D} {v : Value} (hx : KeyR w X ag K x v) : (Instr.checkKey em 10000 kt v).run P w = .ok () w := by
  obtain ⟨g1, g2, g3, _⟩ := of_keyOk hk
  obtain ⟨cs, c1, rfl⟩ := key_val g2 hx
  exact run_checkT em 12 9988 kt _ g1 cs (key_fit g3 c1)

/-- m[x]. -/
theorem run_lookup {t : TypeId} {ag : Bool} {K V : Ty} (ht : mapOk P t ag K V = true) {b clock : Nat} {arr : Array MapEntry} (hb : w.heap[b]? = some (.map arr clock)) {ds : List (K.D × V.D)} (he : Ents w X ag K V ds arr.toList) {x : K.D} {v : Value} (hx : KeyR w X ag K x v) :
    ∃ u, (Instr.lookup t (.map (some b)) v false).run P w = .ok u w ∧ VR w X V (mget K V ds x) [u] := by
  obtain ⟨kt, et, hu, hk, hv⟩ := of_mapOk ht
  obtain ⟨z, hz, hzv, _⟩ := of_valOk (w := w) (X := X) hv
  have hf := find_run (w := w) hk hx he
  have hc := run_check (em := arr.isEmpty) (w := w) hk hx
  rw [findD_get]
  cases hd : findD K x ds with
  | none =>
    rw [hd] at hf
    exact ⟨z, by simp [Instr.lookup, run_underlying hu, MapKept.run_getObj_map hb, hc, hf, run_zero hz, Result.andThen], hzv⟩
  | some j =>
    rw [hd] at hf
    obtain ⟨d, h1, _⟩ := findD_some hd
    obtain ⟨e, e1, _, e3⟩ := he.at h1
    simp only [e1, Option.map_some] at hf
    exact ⟨e.val, by simp [Instr.lookup, run_underlying hu, MapKept.run_getObj_map hb, hc, hf, Result.andThen], by simpa only [h1] using e3⟩

/-- m[x] = y. -/
theorem run_update {t : TypeId} {ag : Bool} {K V : Ty} (ht : mapOk P t ag K V = true) {b clock : Nat} {arr : Array MapEntry} (hb : w.heap[b]? = some (.map arr clock)) {ds : List (K.D × V.D)} (he : Ents w X ag K V ds arr.toList) {x : K.D} {v : Value} (hx : KeyR w X ag K x v)
    {y : V.D} {u : Value} (hy : VR w X V y [u]) (hlt : ∀ e ∈ arr.toList, e.born < clock) (hnd : (arr.toList.map (·.born)).Nodup) :
    ∃ arr' clock', (Instr.mapUpdate t (.map (some b)) v u).run P w = .ok () (ChangeMaps.setBlock w b (.map arr' clock')) ∧ Ents w X ag K V (mput K V ds x y) arr'.toList ∧ (∀ e ∈ arr'.toList, e.born < clock') ∧ (arr'.toList.map (·.born)).Nodup := by
  obtain ⟨kt, et, hu, hk, hv⟩ := of_mapOk ht
  obtain ⟨g1, g2, g3, _⟩ := of_keyOk hk
  have hf := find_run (w := w) hk hx he
  have hc := run_check (em := false) (w := w) hk hx
  rw [findD_put]
  cases hd : findD K x ds with
  | none =>
    rw [hd] at hf
    refine ⟨arr.push ⟨v, u, clock⟩, clock + 1, by simp [Instr.mapUpdate, run_underlying hu, MapKept.run_getObj_map hb, hc, hf, MapKept.run_setObj_map _ hb, Result.andThen, ChangeMaps.setBlock], ?_, ?_, ?_⟩
    · rw [Array.toList_push]; exact he.push hx hy
    · intro e h
      rw [Array.toList_push] at h
      rcases List.mem_append.1 h with h | h
      · have := hlt e h; omega
      · rw [List.mem_singleton.1 h]; simp
    · rw [Array.toList_push, List.map_append, List.map_singleton]
      refine List.nodup_append.2 ⟨hnd, by simp, fun p hp q hq => ?_⟩
      obtain ⟨e, he', rfl⟩ := List.mem_map.1 hp
      rw [List.mem_singleton.1 hq]
      have := hlt e he'
      exact Nat.ne_of_lt this
  | some j =>
    rw [hd] at hf
    obtain ⟨d, h1, h2⟩ := findD_some hd
    obtain ⟨e, e1, e2, e3⟩ := he.at h1
    simp only [e1, Option.map_some] at hf
    have hkey : e.key = v := by
      have := (beq_eq g3).1 h2
      obtain ⟨cs, c1, c2, _⟩ := hx
      obtain ⟨cs', c1', c2', _⟩ := e2
      rw [← this] at c1'
      rw [c2, c2', key_cells g3 c1 c1']
    have hj : arr[j]? = some e := by simpa using e1
    have hl : (arr.modify j fun e => { e with key := v, val := u }).toList = arr.toList.set j { e with key := v, val := u } := by
      rw [Array.toList_modify]
      apply List.ext_getElem?
      intro i
      rw [List.getElem?_modify, List.getElem?_set]
      by_cases hij : j = i
      · subst hij
        have : j < arr.toList.length := (List.getElem?_eq_some_iff.1 e1).1
        simp only [if_true, this]
        rw [e1]; rfl
      · simp [hij]
    have hs := key_stays (P := P) (w := w) g3 hx
    refine ⟨arr.modify j fun e => { e with key := v, val := u }, clock, by simp [Instr.mapUpdate, run_underlying hu, MapKept.run_getObj_map hb, hc, hf, hj, hkey, hs, MapKept.run_setObj_map _ hb, Result.andThen, ChangeMaps.setBlock], ?_, ?_, ?_⟩
    · rw [hl]; exact he.put (e := { e with key := v, val := u }) hx hy j
    · intro e' h
      rw [hl] at h
      rcases List.mem_or_eq_of_mem_set h with h | h
      · exact hlt e' h
      · rw [h]; exact hlt e (List.mem_of_getElem? e1)
    · have : (arr.modify j fun e => { e with key := v, val := u }).toList.map (·.born) = arr.toList.map (·.born) := by
        rw [hl, List.map_set]
        have := WideElems.set_self (arr.toList.map (·.born)) j e.born (by simp [e1])
        exact this
      rw [this]; exact hnd
end
end Go.Tw
