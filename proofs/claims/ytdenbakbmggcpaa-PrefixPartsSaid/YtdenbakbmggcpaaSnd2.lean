/- How blocks go on: what an operation leaves of the relations. -/
import Derived.Test.YtdenbakbmggcpaaSnd1
set_option linter.unusedVariables false
set_option linter.unusedSectionVars false
set_option linter.unusedSimpArgs false
namespace Go.Tw
open Go.RowKit
variable [Ban]

/-- From one state of the blocks to a later one; of the first n blocks those in ks are killed. -/
structure Evo (n : Nat) (ks : List Nat) (w : World) (ρ : List RV) (h : AHeap) (w' : World) (ρ' : List RV) (h' : AHeap) : Prop where
  os : w'.os = w.os
  tape : w'.tape = w.tape
  output : w'.output = w.output
  own : Keeps w (OO ρ h) w' (OO ρ' h')
  len : n ≤ h'.length
  place : ∀ r, r < n → r ∉ ks → (∃ o, h'[r]? = some o ∧ o.live = true) → ρ'[r]? = ρ[r]?
  vars : ∀ r, r < n → r ∉ ks → ∀ cs, h'[r]? = some (.vars cs) → ∃ cs0, h[r]? = some (.vars cs0)
  row : ∀ r, r < n → r ∉ ks → ∀ (U : Ty) (ys : List U.D), h'[r]? = some (.row U ys) → ∃ ys0 : List U.D, h[r]? = some (.row U ys0) ∧ ys0.length = ys.length
  map : ∀ r, r < n → r ∉ ks → ∀ (ex ag : Bool) (A B : Ty) (es : List (A.D × B.D)), h'[r]? = some (.map ex ag A B es) → ∃ es0 : List (A.D × B.D), h[r]? = some (.map ex ag A B es0)

theorem Evo.keeps {n : Nat} {ks : List Nat} {w ρ h w' ρ' h'} (e : Evo n ks w ρ h w' ρ' h') : Keeps w (XO ρ h) w' (XO ρ' h') := keeps_xo e.own

theorem Evo.refl (w ρ) (h : AHeap) (n : Nat) (hn : n ≤ h.length) (ks : List Nat) : Evo n ks w ρ h w ρ h :=
  ⟨rfl, rfl, rfl, Keeps.refl _ _, hn, fun _ _ _ _ => rfl, fun _ _ _ cs h => ⟨cs, h⟩, fun _ _ _ U ys h => ⟨ys, h, rfl⟩, fun _ _ _ _ _ _ _ es h => ⟨es, h⟩⟩

theorem Evo.trans {n m : Nat} {ks ks' ks'' : List Nat} {w ρ h w' ρ' h' w'' ρ'' h''} (a : Evo n ks w ρ h w' ρ' h') (b : Evo m ks' w' ρ' h' w'' ρ'' h'') (hm : n ≤ m)
    (hk : ∀ r, r < n → r ∈ ks ∨ r ∈ ks' → r ∈ ks'') : Evo n ks'' w ρ h w'' ρ'' h'' := by
  refine ⟨b.os.trans a.os, b.tape.trans a.tape, b.output.trans a.output, a.own.trans b.own, Nat.le_trans hm b.len, fun r hr hn hl => ?_, fun r hr hn cs hc => ?_, fun r hr hn U ys hy => ?_, fun r hr hn ex ag A B es hy => ?_⟩
  · have h1 : r ∉ ks := fun h => hn (hk r hr (.inl h))
    have h2 : r ∉ ks' := fun h => hn (hk r hr (.inr h))
    refine (b.place r (by omega) h2 hl).trans (a.place r hr h1 ?_)
    obtain ⟨o, ho, hlive⟩ := hl
    cases o with
    | gone => simp [AObj.live] at hlive
    | vars cs => obtain ⟨cs0, h0⟩ := b.vars r (by omega) h2 cs ho; exact ⟨_, h0, rfl⟩
    | row U ys => obtain ⟨ys0, h0, _⟩ := b.row r (by omega) h2 U ys ho; exact ⟨_, h0, rfl⟩
    | map ex ag A B es => obtain ⟨es0, h0⟩ := b.map r (by omega) h2 ex ag A B es ho; exact ⟨_, h0, rfl⟩
  · have h1 : r ∉ ks := fun h => hn (hk r hr (.inl h))
    have h2 : r ∉ ks' := fun h => hn (hk r hr (.inr h))
    obtain ⟨cs0, h0⟩ := b.vars r (by omega) h2 cs hc
    exact a.vars r hr h1 cs0 h0
  · have h1 : r ∉ ks := fun h => hn (hk r hr (.inl h))
    have h2 : r ∉ ks' := fun h => hn (hk r hr (.inr h))
    obtain ⟨ys0, h0, l0⟩ := b.row r (by omega) h2 U ys hy
    obtain ⟨ys1, h1', l1⟩ := a.row r hr h1 U ys0 h0
    exact ⟨ys1, h1', l1.trans l0⟩
  · have h1 : r ∉ ks := fun h => hn (hk r hr (.inl h))
    have h2 : r ∉ ks' := fun h => hn (hk r hr (.inr h))
    obtain ⟨es0, h0⟩ := b.map r (by omega) h2 ex ag A B es hy
    exact a.map r hr h1 ex ag A B es0 h0

/-- What was told of a value is told of it later, but for what is killed. -/
theorem LR.evo {w ρ} {h : AHeap} {w' ρ'} {h' : AHeap} {ks : List Nat} (e : Evo h.length ks w ρ h w' ρ' h') {K : Nat → Prop} {c : AV} {v : Value} (hl : LR w ρ h K c v) :
    LR w' ρ' h' (fun q => K q ∨ q ∈ ks) c v := by
  induction hl with
  | d hv => exact .d (hv.move e.keeps)
  | fr hv => exact .fr (hv.move e.keeps)
  | nil => exact .nil
  | @own r v hv =>
    refine .own fun hK => ?_
    obtain ⟨hr, hv⟩ := hv fun h => hK (.inl h)
    have hnk : r ∉ ks := fun h => hK (.inr h)
    refine ⟨Nat.lt_of_lt_of_le hr e.len, fun U ys hy => ?_⟩
    obtain ⟨ys0, h0, _⟩ := e.row r hr hnk U ys hy
    exact (e.place r hr hnk ⟨_, hy, rfl⟩).trans (hv U ys0 h0)
  | @box r o v hv =>
    refine .box fun hK => ?_
    obtain ⟨hr, hv⟩ := hv fun h => hK (.inl h)
    have hnk : r ∉ ks := fun h => hK (.inr h)
    refine ⟨Nat.lt_of_lt_of_le hr e.len, fun cs hy => ?_⟩
    obtain ⟨cs0, h0⟩ := e.vars r hr hnk cs hy
    obtain ⟨b, hb, he⟩ := hv cs0 h0
    exact ⟨b, (e.place r hr hnk ⟨_, hy, rfl⟩).trans hb, he⟩
  | @pel r i o v hv =>
    refine .pel fun hK => ?_
    obtain ⟨hr, hv⟩ := hv fun h => hK (.inl h)
    have hnk : r ∉ ks := fun h => hK (.inr h)
    refine ⟨Nat.lt_of_lt_of_le hr e.len, fun U ys hy hi => ?_⟩
    obtain ⟨ys0, h0, l0⟩ := e.row r hr hnk U ys hy
    obtain ⟨g, n, c, hb, he⟩ := hv U ys0 h0 (by omega)
    exact ⟨g, n, c, (e.place r hr hnk ⟨_, hy, rfl⟩).trans hb, he⟩
  | @mp r v hv =>
    refine .mp fun hK => ?_
    obtain ⟨hr, hv⟩ := hv fun h => hK (.inl h)
    have hnk : r ∉ ks := fun h => hK (.inr h)
    refine ⟨Nat.lt_of_lt_of_le hr e.len, fun ex ag A B es hy => ?_⟩
    obtain ⟨es0, h0⟩ := e.map r hr hnk ex ag A B es hy
    obtain ⟨b, hb, he⟩ := hv ex ag A B es0 h0
    exact ⟨b, (e.place r hr hnk ⟨_, hy, rfl⟩).trans hb, he⟩
  | @pfz T x o ad cs h1 h2 h3 =>
    refine .pfz cs (h1.move e.keeps) (fun ho hx => ?_) (fun j u hu => ?_)
    · have hl := h1.len
      obtain ⟨u, hu⟩ : ∃ u, cs[o + 0]? = some u := ⟨_, List.getElem?_eq_getElem (by omega)⟩
      have hc := h3 0 u hu
      have hb : ad.block < w.heap.size := by have := World.block_lt_of_cell? w _ hc; rwa [add_block] at this
      exact h2 ho (e.keeps.fresh _ hb hx)
    · have hl := h1.len
      have ho : o < T.size := by have := (List.getElem?_eq_some_iff.1 hu).1; omega
      exact e.keeps.cell (by rw [add_block]; exact h2 ho) (h3 j u hu)
  | fn h1 h2 ih => exact .fn h1 ih
  | agg h1 h2 h3 ih => exact .agg h1 ih h3
  | tup h1 h2 ih => exact .tup h1 ih
  | opt h1 h2 ih => exact .opt ih h2
  | any => exact .any

theorem LR.mono {w ρ h} {K K' : Nat → Prop} (hk : ∀ q, K q → K' q) {c : AV} {v : Value} (hl : LR w ρ h K c v) : LR w ρ h K' c v := by
  induction hl with
  | d hv => exact .d hv
  | fr hv => exact .fr hv
  | nil => exact .nil
  | own hv => exact .own fun hK => hv fun h => hK (hk _ h)
  | box hv => exact .box fun hK => hv fun h => hK (hk _ h)
  | pel hv => exact .pel fun hK => hv fun h => hK (hk _ h)
  | mp hv => exact .mp fun hK => hv fun h => hK (hk _ h)
  | pfz cs h1 h2 h3 => exact .pfz cs h1 h2 h3
  | fn h1 h2 ih => exact .fn h1 ih
  | agg h1 h2 h3 ih => exact .agg h1 ih h3
  | tup h1 h2 ih => exact .tup h1 ih
  | opt h1 h2 ih => exact .opt ih h2
  | any => exact .any

abbrev K0 : Nat → Prop := fun _ => False

theorem LR.evo0 {w ρ} {h : AHeap} {w' ρ'} {h' : AHeap} (e : Evo h.length [] w ρ h w' ρ' h') {c : AV} {v : Value} (hl : LR w ρ h K0 c v) : LR w' ρ' h' K0 c v :=
  (hl.evo e).mono fun q h => h.elim id (by simp)
theorem LR.evo1 {w ρ} {h : AHeap} {w' ρ'} {h' : AHeap} {r : Nat} (e : Evo h.length [r] w ρ h w' ρ' h') {c : AV} {v : Value} (hl : LR w ρ h K0 c v) : LR w' ρ' h' K0 (c.kill r) v :=
  (hl.evo e).kill fun q h => h.elim False.elim (fun h => .inr (by simpa using h))

/-- A map's entries. -/
def keyW (ag : Bool) (cs : List Value) : Value := match ag with
  | true => .agg cs.toArray
  | false => cs.getD 0 undef
def KeyR (w : World) (X : Nat → Prop) (ag : Bool) (A : Ty) (x : A.D) (v : Value) : Prop := ∃ cs, VR w X A x cs ∧ v = keyW ag cs ∧ (ag = false → cs.length = 1)
def Ents (w : World) (X : Nat → Prop) (ag : Bool) (A B : Ty) : List (A.D × B.D) → List MapEntry → Prop
  | [], [] => True
  | d :: ds, e :: es => KeyR w X ag A d.1 e.key ∧ VR w X B d.2 [e.val] ∧ Ents w X ag A B ds es
  | _, _ => False
omit [Ban] in
theorem Ents.move {w X w' X'} (k : Keeps w X w' X') {ag : Bool} {A B : Ty} : ∀ {ds : List (A.D × B.D)} {es : List MapEntry}, Ents w X ag A B ds es → Ents w' X' ag A B ds es
  | [], [], _ => trivial
  | _ :: _, _ :: _, ⟨⟨cs, h1, h2⟩, h3, h4⟩ => ⟨⟨cs, h1.move k, h2⟩, h3.move k, h4.move k⟩
  | [], _ :: _, h => h.elim
  | _ :: _, [], h => h.elim

/-- Blocks of the call's own. -/
def ObjR (base : Nat) (w : World) (ρ : List RV) (h : AHeap) (r : Nat) : AObj → Prop
  | .vars cs => ∃ b vs e, ρ[r]? = some (.blk b) ∧ base ≤ b ∧ w.heap[b]? = some (.cells vs e (0, 0)) ∧ vs.size = cs.length ∧ (∀ (i : Nat) (c : AV) (v : Value), cs[i]? = some c → vs[i]? = some v → LR w ρ h K0 c v) ∧ ∀ v ∈ vs, v.oneCell' = true
  | .row U ys => 0 < U.size ∧ ∃ v e xs, ρ[r]? = some (.sl v) ∧ w.ownsRow base e U.size v ys.length xs ∧ (∀ u ∈ xs, u.oneCell' = true) ∧ ys.length ≤ maxLen ∧ ∀ (i : Nat) (y : U.D), ys[i]? = some y → VR w (XO ρ h) U y ((xs.drop (i * U.size)).take U.size)
  | .map ex ag A B es => ∃ b arr clock ds, ρ[r]? = some (.blk b) ∧ base ≤ b ∧ w.heap[b]? = some (.map arr clock) ∧ A.key = true ∧ B.prim = true ∧ Ents w (XO ρ h) ag A B ds arr.toList ∧ (∀ e ∈ arr.toList, e.born < clock) ∧ (arr.toList.map (·.born)).Nodup ∧
      (∀ k, mget A B ds k = mget A B es k) ∧ (ex = true → ds = es)
  | .gone => True

structure HR (base : Nat) (w : World) (ρ : List RV) (h : AHeap) : Prop where
  len : ρ.length = h.length
  base_le : base ≤ w.heap.size
  ban : ∀ b, Ban.X0 b → b < base
  obj : ∀ r o, h[r]? = some o → ObjR base w ρ h r o
  inj : ∀ (r q : Nat) (o p : AObj) (a b : RV) (k : Nat), h[r]? = some o → h[q]? = some p → o.live = true → p.live = true → ρ[r]? = some a → ρ[q]? = some b → a.block = some k → b.block = some k → r = q

/-- The state of an activation that began in (w0, ρ0, h0). -/
structure Rel (base : Nat) (w0 : World) (ρ0 : List RV) (h0 : AHeap) (ρ : List RV) (s : St) (a : Act) (w : World) : Prop where
  tl : a.tmps.size = s.t.length
  tm : ∀ (i : Nat) (c : AV) (v : Value), s.t[i]? = some c → a.tmps[i]? = some v → LR w ρ s.h K0 c v
  df : a.defers = []
  hp : HR base w ρ s.h
  ev : Evo s.b s.k w0 ρ0 h0 w ρ s.h
  b0 : s.b = h0.length
  op : ∀ (i j : Nat) (wt g : Bool) (v : AV), s.t[i]? = some (.opt j wt g v) → j ∈ s.g ∧ gval wt (nth .any s.t j) = some g

omit [Ban] in
theorem nth_get {α : Type} (z : α) : ∀ (l : List α) (i : Nat), nth z l i = (l[i]?).getD z
  | [], _ => by simp [nth]
  | x :: l, 0 => by simp [nth]
  | x :: l, i + 1 => by simp [nth, nth_get z l i]
omit [Ban] in
theorem setNth_eq {α : Type} : ∀ (l : List α) (i : Nat) (y : α), setNth l i y = l.set i y
  | [], i, y => by simp [setNth]
  | x :: l, 0, y => by simp [setNth]
  | x :: l, i + 1, y => by simp [setNth, setNth_eq l i y]

/-- An operand's value. -/
def okX : AX → Operand → Bool
  | .tmp i, .tmp j => i == j
  | .cst (.d (.int k) n), .const (.int j m) => k == j && n == m
  | .cst (.d .bool b), .const (.bool c) => b == c
  | .cst (.d .str b), .const (.string c) => decide ((b : ByteArray) = c) && decide (b.size ≤ maxLen)
  | .cst (.nil _), .const (.slice none 0 0) => true
  | .cst (.fn f []), .func g => f == g
  | .cst .any, .const _ => true
  | _, _ => false

theorem Rel.val {base w0 ρ0 h0 ρ s a w} (R : Rel base w0 ρ0 h0 ρ s a w) {x : AX} {y : Operand} (hx : okX x y = true) : LR w ρ s.h K0 (x.val s) (a.eval y) := by
  unfold okX at hx
  split at hx
  · rename_i i j
    obtain rfl : i = j := by simpa using hx
    simp only [AX.val, nth_get, Act.eval]
    cases h : s.t[i]? with
    | none => exact .any
    | some c =>
      have hi : i < a.tmps.size := by rw [R.tl]; exact (List.getElem?_eq_some_iff.1 h).1
      have h2 : a.tmps[i]? = some a.tmps[i] := by simp [hi]
      have := R.tm i c _ h h2
      simpa [Array.getD, hi] using this
  · simp only [Bool.and_eq_true, beq_iff_eq] at hx
    obtain ⟨rfl, rfl⟩ := hx
    exact .d (by simp [VR, AX.val, Act.eval])
  · simp only [beq_iff_eq] at hx
    subst hx
    exact .d (by simp [VR, AX.val, Act.eval])
  · simp only [Bool.and_eq_true, beq_iff_eq, decide_eq_true_eq] at hx
    obtain ⟨rfl, h⟩ := hx
    exact .d (by simp [VR, AX.val, Act.eval, h])
  · exact .nil
  · simp only [beq_iff_eq] at hx
    subst hx
    exact .fn rfl (by simp)
  · exact .any
  · cases hx

end Go.Tw
