/- What a program prints for each function, held together. -/
import Derived.Test.YtdenbakbmggcpaaSnd26
set_option linter.unusedVariables false
set_option linter.unusedSectionVars false
set_option linter.unusedSimpArgs false
namespace Go.Tw
open Go.RowKit

/-! ### parameters and results -/
abbrev Sig := List (Ty × Bool)
def AV.isAgg : AV → Bool
  | .agg _ => true
  | _ => false
/-- A datum as a value: of one cell; or as its cells. -/
def canon (T : Ty) (g : Bool) (x : T.D) : AV := match g with
  | true => .agg (explode T x)
  | false => .d T x
@[reducible] def Args : Sig → Type
  | [] => Unit
  | [(T, _)] => T.D
  | (T, _) :: q :: r => T.D × Args (q :: r)
def encA : (s : Sig) → Args s → List AV
  | [], _ => []
  | [(T, g)], x => [canon T g x]
  | (T, g) :: q :: r, x => canon T g x.1 :: encA (q :: r) x.2
/-- One value as a datum of the kind. -/
def dec1 (T : Ty) (g : Bool) (v : AV) : Option T.D := match g with
  | true => (match v with | .agg _ => whole [] T v | _ => none)
  | false => (match v with | .agg _ => none | _ => asD [] T v)
def decA : (s : Sig) → List AV → Option (Args s)
  | [], [] => some ()
  | [(T, g)], [v] => dec1 T g v
  | (T, g) :: q :: r, v :: vs => (match dec1 T g v with
    | some x => (match decA (q :: r) vs with | some y => some (x, y) | none => none)
    | none => none)
  | _, _ => none

theorem hr_nil {w : World} {X : Nat → Prop} (hX : ∀ b, X b → b < w.heap.size) : @HR ⟨X⟩ w.heap.size w [] [] :=
  @HR.mk ⟨X⟩ w.heap.size w [] [] rfl (Nat.le_refl _) hX (fun r o ho => by cases ho) (fun r q o p a b k ho => by cases ho)
theorem dec1_lrx {w : World} {X : Nat → Prop} (hX : ∀ b, X b → b < w.heap.size) {T : Ty} {g : Bool} {v : AV} {u : Value} {x : T.D} (hl : LRX w X v u) (hd : dec1 T g v = some x) : LRX w X (canon T g x) u := by
  have hx : ∀ b, X b → @XO ⟨X⟩ [] [] b := fun b hb => (XO_nil X b).2 hb
  cases g with
  | true =>
    simp only [dec1] at hd
    split at hd
    · rename_i cs
      have hv := @whole_vr ⟨X⟩ w.heap.size [] w [] [] X (hr_nil hX) hx (.inr rfl) T (.agg cs) u x hl hd (fun _ r hr rv b hρ => by simp at hρ)
      obtain ⟨vs, rfl, _⟩ := @LRs.of_agg ⟨X⟩ w [] [] K0 cs u hl
      have h1 := @VR.explode ⟨X⟩ w [] [] K0 T x _ (hv.less fun b hb => (XO_nil X b).1 hb)
      have h2 := @LRs.agg ⟨X⟩ w [] [] K0 _ _ h1
      have e : (Value.agg vs.toArray).cells.toList.toArray = vs.toArray := by simp [Value.cells]
      rw [e] at h2
      exact h2
    · cases hd
  | false =>
    simp only [dec1] at hd
    split at hd
    · cases hd
    · exact .d (@asD_vr ⟨X⟩ w.heap.size [] w [] [] X (hr_nil hX) hx (.inr rfl) T _ u x hl hd (fun _ r hr rv b hρ => by simp at hρ))

theorem decA_lrx {w : World} {X : Nat → Prop} (hX : ∀ b, X b → b < w.heap.size) : ∀ {s : Sig} {vs : List AV} {us : List Value} {x : Args s}, LRXs w X vs us → decA s vs = some x → LRXs w X (encA s x) us
  | [], vs, us, x, hl, hd => by
    cases vs with
    | nil => exact hl
    | cons v vs => simp [decA] at hd
  | [(T, g)], vs, us, x, hl, hd => by
    match vs, hd with
    | [v], hd =>
      match us, hl with
      | [u], hl => exact .cons (dec1_lrx hX (hl.2 0 v u rfl rfl) hd) .nil
      | [], hl => have := hl.1; simp at this
      | _ :: _ :: _, hl => have := hl.1; simp at this
    | [], hd => simp [decA] at hd
    | _ :: _ :: _, hd => simp [decA] at hd
  | (T, g) :: q :: r, vs, us, x, hl, hd => by
    match vs, hd with
    | [], hd => simp [decA] at hd
    | v :: vs, hd =>
      simp only [decA] at hd
      split at hd
      · rename_i y hy
        split at hd
        · rename_i z hz
          simp only [Option.some.injEq] at hd
          subst hd
          match us, hl with
          | u :: us, hl =>
            exact .cons (dec1_lrx hX (hl.2 0 v u rfl rfl) hy) (decA_lrx hX ⟨by have := hl.1; simpa using this, fun i c v hc hv => hl.2 (i + 1) c v (by simpa using hc) (by simpa using hv)⟩ hz)
          | [], hl => have := hl.1; simp at this
        · cases hd
      · cases hd

/-! ### functions -/
/-- A function of the evaluator's, at data, with its results as data. -/
def runG {R : Type} (Γ : GEnv) (Λ : Nat → LEnv R) (A : ITab) (d : Nat) (q : AFn) (dec : List AV → Option R) (args : List AV) : Option R :=
  ev Γ (Λ d) (inl Γ Λ A d) q.body (q.enter args []) (kfn q fun vs h _ => match frzR h vs with | some ds => dec ds | none => none)

/-- What callers take of a function. -/
def entry {ps rs : Sig} [Inhabited (Args rs)] (f : Args ps → Option (Args rs)) : List AV → Option (Bool × List AV) := fun vs => match decA ps vs with
  | some a => some ((f a).isSome, encA rs ((f a).getD default))
  | none => none

/-- What is proved of a function: who is called at data to which f gives r hands back r. -/
def FnOk (P : Program) (fid : FuncId) (ps rs : Sig) (f : Args ps → Option (Args rs)) : Prop :=
  ∀ (x : Args ps) (r : Args rs), f x = some r → ∀ (X : Nat → Prop) (w : World) (us : List Value), (∀ b, X b → b < w.heap.size) → LRXs w X (encA ps x) us →
    entersB P fid = true ∧ Calls P fid us.toArray w fun e w' => ∃ zs : List Value, e = .returned (retV zs) ∧ Below w.heap.size w w' ∧ LRXs w' X (encA rs r) zs

theorem FnOk.entry {P : Program} {fid : FuncId} {ps rs : Sig} [Inhabited (Args rs)] {f : Args ps → Option (Args rs)} (h : FnOk P fid ps rs f) : FOk P fid (Tw.entry f) := by
  intro vs out he X w us hX hl
  unfold Tw.entry at he
  split at he
  · rename_i x hx
    simp only [Option.some.injEq, Prod.mk.injEq] at he
    obtain ⟨h1, rfl⟩ := he
    obtain ⟨r, hr⟩ := Option.isSome_iff_exists.1 h1
    rw [hr]
    exact h x r hr X w us hX (decA_lrx hX hl hx)
  · cases he

theorem fnOk_of {P : Program} {fid : FuncId} {ps rs : Sig} {f : Args ps → Option (Args rs)} {Γ : GEnv} {Λ : Nat → LEnv (Args rs)} {A : ITab} {d : Nat} {q : AFn} (hm : P.follows .mixedOrders = true) (hG : GOk P Γ) (hA : AOk P Γ Λ A) (hok : okFn P fid q = true)
    (hL : LOk Γ (Λ d) (inl Γ Λ A d) q.body) (heq : ∀ x, runG Γ Λ A d q (decA rs) (encA ps x) = f x) : FnOk P fid ps rs f := by
  intro x r hr X w us hX hl
  rw [← heq x] at hr
  obtain ⟨h1, h2⟩ := @fn_in_place ⟨X⟩ w.heap.size [] w P (Args rs) Γ (Λ d) (inl Γ Λ A d) hm hG (@inl_ok P (Args rs) Γ Λ A ⟨X⟩ hm hG hA d) fid q hok hL (encA ps x) [] _ r hr us (hr_nil hX) hl.1 hl.2
  refine ⟨h1, h2.mono fun e w' ⟨zs, cs, h', ks, ρ', hez, H', ev, h3, h4, hf⟩ => ?_⟩
  split at hf
  · rename_i ds hds
    refine ⟨zs, hez, ⟨ev.os, ev.tape, ev.output, ev.own.size, fun k hk => ev.own.block k hk fun ⟨r, o, rv, hr, _⟩ => by simp at hr⟩, ?_⟩
    have hX' : ∀ b, X b → b < w'.heap.size := fun b hb => Nat.lt_of_lt_of_le (hX b hb) ev.own.size
    refine decA_lrx hX' ?_ hf
    obtain ⟨g1, g2⟩ := frzR_some hds
    refine ⟨g1.trans h3, fun i d v hd hv => ?_⟩
    have hlt : i < cs.length := by rw [← g1]; exact (List.getElem?_eq_some_iff.1 hd).1
    have hc : cs[i]? = some cs[i] := by simp [hlt]
    refine @frz_lr ⟨X⟩ w.heap.size ρ' w' h' X H' (fun b hb => Or.inl hb) cs[i] d v (h4 i _ v hc hv) (g2 i _ d hc hd) fun r hr rv b hρ hb hx => ?_
    obtain ⟨U, ys, hz⟩ := frz_owns (g2 i _ d hc hd) hr
    have := @live_base ⟨X⟩ w.heap.size ρ' w' h' H' r _ hz rfl rv b hρ hb
    have := hX b hx
    omega
  · cases hf

/-- More rounds: a function that goes by rounds. -/
theorem FnOk.of_none {P : Program} {fid : FuncId} {ps rs : Sig} : FnOk P fid ps rs (fun _ => none) := fun x r h => by cases h

/-! ### tables -/
def gtab (l : List (FuncId × (List AV → Option (Bool × List AV)))) : GEnv := fun f vs => match l with
  | [] => none
  | (g, e) :: r => if f = g then e vs else gtab r f vs
theorem gtab_nil {P : Program} : GOk P (gtab []) := fun f vs rs h => by simp [gtab] at h
theorem gtab_cons {P : Program} {g : FuncId} {e : List AV → Option (Bool × List AV)} {l : List (FuncId × (List AV → Option (Bool × List AV)))} (h : FOk P g e) (t : GOk P (gtab l)) : GOk P (gtab ((g, e) :: l)) := by
  intro f vs rs he
  simp only [gtab] at he
  split at he
  · rename_i hf; subst hf; exact h vs rs he
  · exact t f vs rs he

def itab (l : List (FuncId × AFn)) : ITab := fun f => match l with
  | [] => none
  | (g, a) :: r => if f = g then some a else itab r f

/-- A loop's row: at which depth, its key; what it keeps, its body; the pattern of its head's state; what it comes to. -/
structure LRow (O : Type) where
  n : Nat
  key : Nat
  L : LAnn
  a : AC
  pat : SPat
  k : List Dat → (AE → St → Option O) → Option O
def ltab {O : Type} (l : List (LRow O)) : Nat → LEnv O := fun n key s κ => match l with
  | [] => none
  | r :: t => if n = r.n ∧ key = r.key then (match r.pat.meets s with | some d => r.k d κ | none => ltab t n key s κ) else ltab t n key s κ
theorem ltab_some {O : Type} {n key : Nat} {s : St} {κ : AE → St → Option O} {x : O} : ∀ {l : List (LRow O)}, ltab l n key s κ = some x → ∃ r ∈ l, r.n = n ∧ r.key = key ∧ ∃ d, r.pat.meets s = some d ∧ r.k d κ = some x
  | [], h => by simp [ltab] at h
  | r :: t, h => by
    simp only [ltab] at h
    split at h
    · rename_i hk
      split at h
      · rename_i d hd; exact ⟨r, by simp, hk.1.symm, hk.2.symm, d, hd, h⟩
      · obtain ⟨r', h1, h2⟩ := ltab_some h; exact ⟨r', List.mem_cons_of_mem _ h1, h2⟩
    · obtain ⟨r', h1, h2⟩ := ltab_some h; exact ⟨r', List.mem_cons_of_mem _ h1, h2⟩

def RowOk {O : Type} (Γ : GEnv) (Λ : Nat → LEnv O) (A : ITab) (N : Nat) (r : LRow O) : Prop :=
  ∀ (d : List Dat) (s : St) (κ : AE → St → Option O) (x : O), r.pat.meets s = some d → r.k d κ = some x → loopN (ev Γ (Λ r.n) (inl Γ Λ A r.n) r.a) r.L N s κ = some x
theorem loop_ok {O : Type} {Γ : GEnv} {A : ITab} {N : Nat} {rows : List (LRow O)} (h : ∀ r ∈ rows, RowOk Γ (ltab rows) A N r) {key : Nat} {L : LAnn} {a : AC} (hs : ∀ r ∈ rows, r.key = key → r.L = L ∧ r.a = a) (n : Nat) :
    ∀ s κ x, ltab rows n key s κ = some x → ∃ N, loopN (ev Γ (ltab rows n) (inl Γ (ltab rows) A n) a) L N s κ = some x := by
  intro s κ x he
  obtain ⟨r, hr, h1, h2, d, hd, hk⟩ := ltab_some he
  obtain ⟨rfl, rfl⟩ := hs r hr h2
  have := h r hr d s κ x hd hk
  rw [h1] at this
  exact ⟨N, this⟩

theorem fa_nil {α : Type} {p : α → Prop} : ∀ r ∈ ([] : List α), p r := fun _ h => by cases h
theorem fa_cons {α : Type} {p : α → Prop} {a : α} {l : List α} (h : p a) (t : ∀ r ∈ l, p r) : ∀ r ∈ a :: l, p r := fun r hr => by
  rcases List.mem_cons.1 hr with rfl | hr
  · exact h
  · exact t r hr
theorem itab_mem {f : FuncId} {q : AFn} : ∀ {l : List (FuncId × AFn)}, itab l f = some q → (f, q) ∈ l
  | [], h => by simp [itab] at h
  | (g, a) :: r, h => by
    simp only [itab] at h
    split at h
    · rename_i hf
      simp only [Option.some.injEq] at h
      subst hf h
      simp
    · exact List.mem_cons_of_mem _ (itab_mem h)
theorem aok_of {P : Program} {O : Type} {Γ : GEnv} {Λ : Nat → LEnv O} {l : List (FuncId × AFn)} (h : ∀ p ∈ l, okFn P p.1 p.2 = true ∧ ∀ n, LOk Γ (Λ n) (inl Γ Λ (itab l) n) p.2.body) : AOk P Γ Λ (itab l) :=
  fun f q hq => h (f, q) (itab_mem hq)

/-! ### patterns -/
mutual
def APat.make : APat → List Dat → Option (AV × List Dat)
  | .d T, l => (match l with | ⟨U, x⟩ :: r => if U = T then some (.d U x, r) else none | [] => none)
  | .pfz T o, l => (match l with | ⟨U, x⟩ :: r => if U = T then some (.pfz U x o, r) else none | [] => none)
  | .nil T, l => some (.nil T, l)
  | .own r, l => some (.own r, l)
  | .box r o, l => some (.box r o, l)
  | .mp r, l => some (.mp r, l)
  | .any, l => some (.any, l)
  | .fn f ps, l => match APat.makeL ps l with | some (cs, r) => some (.fn f cs, r) | none => none
def APat.makeL : List APat → List Dat → Option (List AV × List Dat)
  | [], l => some ([], l)
  | p :: ps, l => match p.make l with
    | some (v, r) => (match APat.makeL ps r with | some (vs, r) => some (v :: vs, r) | none => none)
    | none => none
end
def OPat.make : OPat → List Dat → Option (AObj × List Dat)
  | .vars ps, l => match APat.makeL ps l with | some (cs, r) => some (.vars cs, r) | none => none
  | .row T, l => (match l with | ⟨.sl U, ys⟩ :: r => if U = T then some (.row U ys, r) else none | _ => none)
  | .map ex ag A B, l => (match l with | ⟨.sl (.pair A' B'), es⟩ :: r => if A' = A ∧ B' = B then some (.map ex ag A' B' es, r) else none | _ => none)
  | .gone, l => some (.gone, l)
def OPat.makeL : List OPat → List Dat → Option (List AObj × List Dat)
  | [], l => some ([], l)
  | p :: ps, l => match p.make l with
    | some (v, r) => (match OPat.makeL ps r with | some (vs, r) => some (v :: vs, r) | none => none)
    | none => none
/-- The state of a pattern at data. -/
def SPat.make (p : SPat) (l : List Dat) : Option St := match APat.makeL p.t l with
  | some (t, r) => (match OPat.makeL p.h r with
    | some (h, []) => some ⟨t, h, p.k, p.b, []⟩
    | _ => none)
  | none => none

mutual
theorem meets_make : ∀ (p : APat) (v : AV) (l l' : List Dat), p.meets v l = some l' → p.make l' = some (v, l)
  | .d T, v, l, l', h => by
    unfold APat.meets at h
    split at h <;> simp only [reduceCtorEq, APat.d.injEq] at *
    split at h
    · simp only [Option.some.injEq] at h
      subst h
      rename_i hU
      simp_all [APat.make]
    · cases h
  | .pfz T o, v, l, l', h => by
    unfold APat.meets at h
    split at h <;> simp only [reduceCtorEq, APat.pfz.injEq] at *
    split at h
    · simp only [Option.some.injEq] at h
      subst h
      rename_i hU
      simp_all [APat.make]
    · cases h
  | .nil T, v, l, l', h => by
    unfold APat.meets at h
    split at h <;> simp only [reduceCtorEq, APat.nil.injEq] at *
    split at h
    · simp only [Option.some.injEq] at h
      simp_all [APat.make]
    · cases h
  | .own r, v, l, l', h => by
    unfold APat.meets at h
    split at h <;> simp only [reduceCtorEq, APat.own.injEq] at *
    split at h
    · simp only [Option.some.injEq] at h
      simp_all [APat.make]
    · cases h
  | .box r o, v, l, l', h => by
    unfold APat.meets at h
    split at h <;> simp only [reduceCtorEq, APat.box.injEq] at *
    split at h
    · simp only [Option.some.injEq] at h
      simp_all [APat.make]
    · cases h
  | .mp r, v, l, l', h => by
    unfold APat.meets at h
    split at h <;> simp only [reduceCtorEq, APat.mp.injEq] at *
    split at h
    · simp only [Option.some.injEq] at h
      simp_all [APat.make]
    · cases h
  | .any, v, l, l', h => by
    unfold APat.meets at h
    split at h <;> simp only [reduceCtorEq] at *
    simp only [Option.some.injEq] at h
    simp_all [APat.make]
  | .fn f ps, v, l, l', h => by
    unfold APat.meets at h
    split at h <;> simp only [reduceCtorEq, APat.fn.injEq] at *
    rename_i f' ps' g cs hh
    obtain ⟨rfl, rfl⟩ := hh
    split at h
    · rename_i hg
      subst hg
      simp only [APat.make]
      rw [all_make ps cs _ _ h]
    · cases h
theorem all_make : ∀ (ps : List APat) (vs : List AV) (l l' : List Dat), APat.all ps vs l = some l' → APat.makeL ps l' = some (vs, l)
  | [], vs, l, l', h => by
    cases vs <;> simp only [APat.all, Option.some.injEq, reduceCtorEq] at h
    subst h
    simp [APat.makeL]
  | p :: ps, vs, l, l', h => by
    cases vs with
    | nil => simp [APat.all] at h
    | cons v vs =>
      simp only [APat.all] at h
      split at h
      · rename_i l1 h1
        simp only [APat.makeL]
        rw [meets_make p v _ _ h]
        simp only
        rw [all_make ps vs _ _ h1]
      · cases h
end

theorem omeets_make : ∀ (p : OPat) (v : AObj) (l l' : List Dat), p.meets v l = some l' → p.make l' = some (v, l)
  | .vars ps, v, l, l', h => by
    cases v <;> simp only [OPat.meets, reduceCtorEq] at h
    simp only [OPat.make]
    rw [all_make ps _ _ _ h]
  | .row T, v, l, l', h => by
    cases v <;> simp only [OPat.meets, reduceCtorEq] at h
    split at h
    · simp only [Option.some.injEq] at h
      subst h
      rename_i hU
      simp only [OPat.make]
      rw [if_pos hU]
    · cases h
  | .map ex ag A B, v, l, l', h => by
    cases v <;> simp only [OPat.meets, reduceCtorEq] at h
    split at h
    · rename_i hU
      obtain ⟨rfl, rfl, rfl, rfl⟩ := hU
      simp only [Option.some.injEq] at h
      subst h
      simp [OPat.make]
    · cases h
  | .gone, v, l, l', h => by
    cases v <;> simp only [OPat.meets, Option.some.injEq, reduceCtorEq] at h
    subst h
    rfl
theorem oall_make : ∀ (ps : List OPat) (vs : List AObj) (l l' : List Dat), OPat.all ps vs l = some l' → OPat.makeL ps l' = some (vs, l)
  | [], vs, l, l', h => by
    cases vs <;> simp only [OPat.all, Option.some.injEq, reduceCtorEq] at h
    subst h
    rfl
  | p :: ps, vs, l, l', h => by
    cases vs with
    | nil => simp [OPat.all] at h
    | cons v vs =>
      simp only [OPat.all] at h
      split at h
      · rename_i l1 h1
        simp only [OPat.makeL]
        rw [omeets_make p v _ _ h]
        simp only
        rw [oall_make ps vs _ _ h1]
      · cases h

theorem SPat.meets_make {p : SPat} {s : St} {l : List Dat} (h : p.meets s = some l) : p.make l = some s := by
  unfold SPat.meets at h
  split at h
  · rename_i hc
    split at h
    · rename_i l1 h1
      unfold SPat.make
      rw [all_make _ _ _ _ h]
      simp only
      rw [oall_make _ _ _ _ h1]
      simp only [← hc.1, ← hc.2.1]
      obtain ⟨t, h, k, b, g⟩ := s
      simp only at hc
      rw [hc.2.2]
    · cases h
  · cases h

theorem dk_some {O : Type} {T : Ty} {l : List Dat} {k : T.D → List Dat → Option O} {x : O} (h : dk T l k = some x) : ∃ y r, l = ⟨T, y⟩ :: r ∧ k y r = some x := by
  unfold dk at h
  split at h
  · rename_i d r
    split at h
    · rename_i y hy
      unfold Dat.to at hy
      split at hy
      · rename_i e
        obtain ⟨U, z⟩ := d
        simp only at e
        subst e
        simp only [Option.some.injEq] at hy
        subst hy
        exact ⟨_, r, rfl, h⟩
      · cases hy
    · cases h
  · cases h
/-- No more data. -/
def dz {O : Type} (l : List Dat) (k : Option O) : Option O := match l with
  | [] => k
  | _ => none
theorem dz_some {O : Type} {l : List Dat} {k : Option O} {x : O} (h : dz l k = some x) : l = [] ∧ k = some x := by
  unfold dz at h
  split at h
  · exact ⟨rfl, h⟩
  · cases h

end Go.Tw
