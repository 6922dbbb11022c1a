/- A region that draws its order: m[k] op= v. -/
import Derived.Test.YtdenbakbmggcpaaSnd25
set_option linter.unusedVariables false
set_option linter.unusedSectionVars false
set_option linter.unusedSimpArgs false
namespace Go.Tw
open Go.RowKit

/-! ### an entry that is made, and written later -/
theorem findD_snoc {K : Ty} (hK : K.key = true) {B : Type} {x : K.D} {y : B} : ∀ {ds : List (K.D × B)}, findD K x ds = none → findD K x (ds ++ [(x, y)]) = some ds.length
  | [], _ => by simp [findD, (beq_eq hK).2 rfl]
  | d :: ds, h => by
    simp only [findD] at h
    cases hb : K.beq x d.1 with
    | true => rw [hb] at h; simp at h
    | false =>
      rw [hb] at h
      simp only [Bool.cond_false, Option.map_eq_none_iff] at h
      simp [findD, hb, findD_snoc hK h]

section
variable [Ban] {P : Program} {w : World} {X : Nat → Prop}

theorem run_entry {t : TypeId} {ag : Bool} {K V : Ty} (ht : mapOk P t ag K V = true) {b clock : Nat} {arr : Array MapEntry} (hb : w.heap[b]? = some (.map arr clock)) {ds : List (K.D × V.D)} (he : Ents w X ag K V ds arr.toList) {x : K.D} {v : Value} (hx : KeyR w X ag K x v)
    (hlt : ∀ e ∈ arr.toList, e.born < clock) (hnd : (arr.toList.map (·.born)).Nodup) :
    ∃ arr' clock' ds' u st j e, (Instr.mapEntry t (.map (some b)) v).run P w = .ok (.tuple #[u, goInt (st : Nat)]) (ChangeMaps.setBlock w b (.map arr' clock')) ∧ Ents w X ag K V ds' arr'.toList ∧ (∀ e ∈ arr'.toList, e.born < clock') ∧ (arr'.toList.map (·.born)).Nodup ∧
      (∀ q, mget K V ds' q = mget K V ds q) ∧ findD K x ds' = some j ∧ arr'.toList[j]? = some e ∧ e.born = st := by
  obtain ⟨kt, et, hu, hk, hv⟩ := of_mapOk ht
  obtain ⟨g1, g2, g3, _⟩ := of_keyOk hk
  obtain ⟨z, hz, hzv, _⟩ := of_valOk (w := w) (X := X) hv
  have hf := find_run (w := w) hk hx he
  have hc := run_check (em := false) (w := w) hk hx
  cases hd : findD K x ds with
  | none =>
    rw [hd] at hf
    refine ⟨arr.push ⟨v, z, clock⟩, clock + 1, ds ++ [(x, V.z)], z, clock, ds.length, ⟨v, z, clock⟩, by simp [Instr.mapEntry, run_underlying hu, MapKept.run_getObj_map hb, hc, hf, run_zero hz, MapKept.run_setObj_map _ hb, Result.andThen, ChangeMaps.setBlock], ?_, ?_, ?_, ?_, findD_snoc g3 hd, ?_, rfl⟩
    · rw [Array.toList_push]; exact he.push hx hzv
    · intro e h
      rw [Array.toList_push] at h
      rcases List.mem_append.1 h with h | h
      · have := hlt e h; omega
      · rw [List.mem_singleton.1 h]; simp
    · rw [Array.toList_push, List.map_append, List.map_singleton]
      refine List.nodup_append.2 ⟨hnd, by simp, fun p hp q hq => ?_⟩
      obtain ⟨e, he', rfl⟩ := List.mem_map.1 hp
      rw [List.mem_singleton.1 hq]
      exact Nat.ne_of_lt (hlt e he')
    · intro q
      have h1 : mput K V ds x V.z = ds ++ [(x, V.z)] := by rw [findD_put, hd]
      rw [← h1, mget_mput g3]
      cases hq : K.beq q x with
      | false => rfl
      | true =>
        have := (beq_eq g3).1 hq
        subst this
        rw [findD_get, hd]
        rfl
    · rw [Array.toList_push, he.len]; simp
  | some j =>
    rw [hd] at hf
    obtain ⟨d, h1, h2⟩ := findD_some hd
    obtain ⟨e, e1, e2, e3⟩ := he.at h1
    simp only [e1, Option.map_some] at hf
    have hkey : e.key = v := by
      have := (beq_eq g3).1 h2
      obtain ⟨cs, c1, c2, _⟩ := hx
      obtain ⟨cs', c1', c2', _⟩ := e2
      rw [← this] at c1'
      rw [c2, c2', key_cells g3 c1 c1']
    have hj : arr[j]? = some e := by simpa using e1
    have hs := key_stays (P := P) (w := w) g3 hx
    have hsame : (arr.modify j fun e => { e with key := v }) = arr := by
      apply Array.ext'
      rw [Array.toList_modify]
      apply List.ext_getElem?
      intro i
      rw [List.getElem?_modify]
      by_cases hij : j = i
      · subst hij
        rw [e1]
        simp [← hkey]
      · simp [hij]
    exact ⟨arr, clock, ds, e.val, e.born, j, e, by simp [Instr.mapEntry, run_underlying hu, MapKept.run_getObj_map hb, hc, hf, hj, hkey, hs, hsame, MapKept.run_setObj_map _ hb, Result.andThen, ChangeMaps.setBlock], he, hlt, hnd, fun _ => rfl, hd, e1, rfl⟩

theorem run_estore {t : TypeId} {b clock j : Nat} {arr : Array MapEntry} (hb : w.heap[b]? = some (.map arr clock)) {e : MapEntry} (hj : arr.toList[j]? = some e) (hnd : (arr.toList.map (·.born)).Nodup) (u : Value) :
    ∃ arr', (Instr.entryStore t (.map (some b)) (goInt e.born) u).run P w = .ok () (ChangeMaps.setBlock w b (.map arr' clock)) ∧ arr'.toList = arr.toList.set j { e with val := u } := by
  have hidx : arr.findIdx? (fun x => ((x.born : Nat) : Int) == ((e.born : Nat) : Int)) = some j := by
    rw [WideElems.findIdx_arr]
    exact WideElems.findIdx_born hnd hj
  refine ⟨arr.modify j fun x => { x with val := u }, by simp [Instr.entryStore, MapKept.run_getObj_map hb, asInt, asIntOf, goInt, hidx, MapKept.run_setObj_map _ hb, Result.andThen, ChangeMaps.setBlock], ?_⟩
  rw [Array.toList_modify]
  apply List.ext_getElem?
  intro i
  rw [List.getElem?_modify, List.getElem?_set]
  by_cases hij : j = i
  · subst hij
    have : j < arr.toList.length := (List.getElem?_eq_some_iff.1 hj).1
    simp only [if_true, this]
    rw [hj]; rfl
  · simp [hij]
end

/-! ### the region's shape -/
def edgeOn (o : Oper) (i : Nat) : Bool := o.after.toList.any fun e => Region.binds .any e && e.on == i
def edgesBelow (o : Oper) (n : Nat) : Bool := o.after.toList.all fun e => !Region.binds .any e || decide (e.on < n)
def entB (P : Program) (r : List GOp) (ag : Bool) (A B : Ty) (m x : AX) (d1 : Nat) (o : Oper) : Bool := okG #[] o.guard none && (decide (o.dst = some d1) && (edgesBelow o r.length && ((m.slots ++ x.slots).all (fun t => match writer r t with | some j => edgeOn o j | none => true) &&
  (match o.op with | .mapEntry t y y' => mapOk P t ag A B && (okX m y && okX x y') | _ => false))))
def extB (r : List GOp) (d1 d2 : Nat) (o : Oper) : Bool := okG #[] o.guard none && (decide (o.dst = some d2) && (edgesBelow o (r.length + 1) && (edgeOn o r.length && (match o.op with | .extract (.tmp e) i => e == d1 && i == 1 | _ => false))))
def estB (r : List GOp) (m v : AX) (d2 : Nat) (o : Oper) : Bool := okG #[] o.guard none && (decide (o.dst = none) && (edgesBelow o (r.length + 2) && ((List.range (r.length + 2)).all (fun i => edgeOn o i) &&
  (match o.op with | .entryStore t y (.tmp e) y' => okX m y && (e == d2 && okX v y') | _ => false))))
def mregB (P : Program) (l : List Oper) (r : List GOp) (ag : Bool) (A B : Ty) (m x v : AX) (d1 d2 : Nat) : Bool :=
  decide (l.length = r.length + 3) && (drawL r 0 (l.take r.length) r && (quietL r && (okOps P l.toArray (l.take r.length) r && (r.all (fun q => q.dst != some d1 && q.dst != some d2) && (d1 != d2 &&
  (match l.drop r.length with | [o1, o2, o3] => entB P r ag A B m x d1 o1 && (extB r d1 d2 o2 && estB r m v d2 o3) | _ => false))))))

section
variable [Ban] {base : Nat} {w0 : World} {ρ0 : List RV} {h0 : AHeap} {ρ : List RV} {s S : St} {a a' : Act} {w w' : World} {P : Program} {r : List GOp} {l : List Oper} {listed : Array Bool}

theorem edge_on {o : Oper} {i : Nat} (h : edgeOn o i = true) (hall : ∀ e ∈ o.after, Region.binds .any e = true → listed.getD e.on false = true) : listed.getD i false = true := by
  simp only [edgeOn, List.any_eq_true, Bool.and_eq_true, beq_iff_eq] at h
  obtain ⟨e, he, hb, rfl⟩ := h
  exact hall e (by simpa using he) hb
theorem edges_below {o : Oper} {n : Nat} (h : edgesBelow o n = true) : ∀ e ∈ o.after, Region.binds .any e = true → e.on < n := fun e he hb => by
  have := List.all_eq_true.1 h e (by simpa using he)
  rw [hb] at this
  simpa using this
theorem wanted_none' {ops : Array Oper} {o : Oper} {a : Act} (h : okG #[] o.guard none = true) : Region.wanted o (yielded ops a.tmps) = true := by
  unfold okG at h
  unfold Region.wanted
  split at h
  · rename_i hg _; rw [hg]
  · rename_i hq; cases hq
  · cases h

/-- An operation behind the quiet ones comes up. -/
theorem Inv.other (I : Inv base ρ r l s S w listed a w') {i : Nat} {o : Oper} (ho : l[i]? = some o) (hi : r.length ≤ i) (hall : ∀ e ∈ o.after, Region.binds .any e = true → listed.getD e.on false = true) {d : Nat} (hd : ∀ q ∈ r, q.dst ≠ some d) (hany : nth .any s.t d = .any)
    {z : Value} {w2 : World} (hp : HR base w2 ρ s.h) (ev : Evo s.h.length [] w' ρ s.h w2 ρ s.h) : Inv base ρ r l s S w (listed.setIfInBounds i true) (a.put (some d) z) w2 := by
  refine ⟨by simpa using I.size, by simp [Act.put, I.tl], fun t v hv => ?_, I.df, hp, I.ev.trans ev (Nat.le_refl _) (fun q _ h => h.elim id id), fun j oj hj hli e he hbe => ?_⟩
  · have hsl : slotE r s S (listed.setIfInBounds i true) t = slotE r s S listed t := by
      unfold slotE
      split
      · rename_i j hj
        obtain ⟨q, hq, _⟩ := writer_some hj
        have := (List.getElem?_eq_some_iff.1 hq).1
        rw [getD_set_other (by omega)]
      · rfl
    rw [hsl]
    simp only [Act.put, Array.getElem?_setIfInBounds] at hv
    by_cases hdt : d = t
    · subst hdt
      have hw : writer r d = none := by
        cases hw : writer r d with
        | none => rfl
        | some j => obtain ⟨q, hq, hqd⟩ := writer_some hw; exact absurd hqd (hd q (List.mem_of_getElem? hq))
      unfold slotE
      rw [hw, hany]
      exact .any
    · rw [if_neg hdt] at hv
      exact (I.tm t v hv).evo0 ev
  · by_cases hij : i = j
    · subst hij
      rw [ho] at hj
      simp only [Option.some.injEq] at hj
      subst hj
      exact getD_set_true' (hall e he hbe)
    · rw [getD_set_other hij] at hli
      exact getD_set_true' (I.closed j oj hj hli e he hbe)

/-- An entry is there that was made at time st. -/
def EntAt (ρ : List RV) (h : AHeap) (r0 : Nat) (ag : Bool) (A B : Ty) (es : List (A.D × B.D)) (k : A.D) (w : World) (st : Nat) : Prop :=
  ∃ arr clock ds j e b, ρ[r0]? = some (.blk b) ∧ w.heap[b]? = some (.map arr clock) ∧ Ents w (XO ρ h) ag A B ds arr.toList ∧ (∀ e ∈ arr.toList, e.born < clock) ∧ (arr.toList.map (·.born)).Nodup ∧ (∀ q, mget A B ds q = mget A B es q) ∧ findD A k ds = some j ∧ arr.toList[j]? = some e ∧ e.born = st
theorem EntAt.below {h : AHeap} {r0 st : Nat} {ag : Bool} {A B : Ty} {es : List (A.D × B.D)} {k : A.D} (E : EntAt ρ h r0 ag A B es k w st) (hb : Below w.heap.size w w') : EntAt ρ h r0 ag A B es k w' st := by
  obtain ⟨arr, clock, ds, j, e, b, h1, h2, h3, h4⟩ := E
  exact ⟨arr, clock, ds, j, e, b, h1, (hb.block b (lt_of_get h2)).trans h2, h3.move (Keeps.below hb), h4⟩

theorem get_at (R : Rel base w0 ρ0 h0 ρ s a w) {x : AX} {y : Operand} {c : AV} (hx : okX x y = true) (hs : (x.get none S).1 = true) (hv : x.val s = x.val S) : LR w ρ s.h K0 (x.get none S).2 (a.eval y) := by
  have e : x.get none s = x.get none S := by simp only [AX.get, hv]
  have := R.get (gd := none) GH.none hx (by rw [e]; exact hs)
  rwa [e] at this

theorem put_other {a : Act} {d e : Nat} {z : Value} (h : (some d : Option Nat) ≠ some e) : (a.put (some d) z).tmps[e]? = a.tmps[e]? := by
  simp only [Act.put, Array.getElem?_setIfInBounds]
  rw [if_neg (fun h' => h (by rw [h']))]
theorem put_dst {a : Act} {d : Option Nat} {e : Nat} {z : Value} (h : d ≠ some e) : (a.put d z).tmps[e]? = a.tmps[e]? := by
  cases d with
  | none => rfl
  | some d => exact put_other h
theorem put_same {a : Act} {d : Nat} {z : Value} (h : d < a.tmps.size) : (a.put (some d) z).tmps[d]? = some z := by
  simp [Act.put, Array.getElem?_setIfInBounds, h]

structure MInv (base : Nat) (ρ : List RV) (r : List GOp) (l : List Oper) (s S : St) (w : World) (r0 : Nat) (ag : Bool) (A B : Ty) (es : List (A.D × B.D)) (k : A.D) (d1 d2 : Nat) (listed : Array Bool) (a : Act) (w' : World) : Prop where
  inv : Inv base ρ r l s S w listed a w'
  last : listed.getD (r.length + 2) true = false
  m1 : listed.getD r.length false = true → ∃ (st : Nat) (u : Value), a.tmps[d1]? = some (.tuple #[u, goInt st]) ∧ EntAt ρ s.h r0 ag A B es k w' st
  m2 : listed.getD (r.length + 1) false = true → ∃ (st : Nat), a.tmps[d2]? = some (goInt st) ∧ EntAt ρ s.h r0 ag A B es k w' st

theorem region_mreg {O : Type} {Γ : GEnv} {I : Inl O} (hm : P.follows .mixedOrders = true) (hG : GOk P Γ) {id : Nat} {ag : Bool} {A B : Ty} {m x v : AX} {d1 d2 : Nat} (hdr : mregB P l r ag A B m x v d1 d2 = true) (R : Rel base w0 ρ0 h0 ρ s a w) (hs : s.g = []) (hd1 : nth .any s.t d1 = .any) (hd2 : nth .any s.t d2 = .any)
    (hl1 : d1 < s.t.length) (hl2 : d2 < s.t.length) {κ : St → Option O} {out : O} (he : evOps Γ I r s (fun s => match msetH true ag A B s.h (m.get none s).2 (x.get none s).2 (v.get none s).2 with
      | some h => chk ((m.get none s).1 && ((x.get none s).1 && (v.get none s).1)) (κ ⟨s.t, h, s.k, s.b, s.g⟩)
      | none => none) = some out)
    {Q : Exit → Act → World → Prop} (hn : Goes base w0 ρ0 h0 κ out (Q .normal)) : (Code.region id l.toArray true).wp P Q a w := by
  simp only [mregB, Bool.and_eq_true, decide_eq_true_eq, bne_iff_ne, ne_eq, List.all_eq_true] at hdr
  obtain ⟨hlen3, hdl, hql, hok, hds, hne, htail⟩ := hdr
  obtain ⟨_, hat⟩ := okOps_at hok
  have hle : r.length ≤ l.length := by omega
  have hat' : ∀ (k : Nat) (o : Oper) (q : GOp), l[k]? = some o → r[k]? = some q → okGOp P l.toArray o q = true := fun k o q ho hq => hat k o q (by
    have := (List.getElem?_eq_some_iff.1 hq).1
    rw [List.getElem?_take_of_lt this]; exact ho) hq
  split at htail
  · rename_i o1 o2 o3 hdrop
    have g1 : l[r.length]? = some o1 := by
      have : (l.drop r.length)[0]? = some o1 := by rw [hdrop]; rfl
      simpa [List.getElem?_drop] using this
    have g2 : l[r.length + 1]? = some o2 := by
      have : (l.drop r.length)[1]? = some o2 := by rw [hdrop]; rfl
      simpa [List.getElem?_drop] using this
    have g3 : l[r.length + 2]? = some o3 := by
      have : (l.drop r.length)[2]? = some o3 := by rw [hdrop]; rfl
      simpa [List.getElem?_drop] using this
    simp only [entB, extB, estB, Bool.and_eq_true, decide_eq_true_eq, List.all_eq_true] at htail
    obtain ⟨⟨w1, t1, b1, x1, p1⟩, ⟨w2, t2, b2, x2, p2⟩, ⟨w3, t3, b3, x3, p3⟩⟩ := htail
    obtain ⟨S, hκ, hL, hF⟩ := evOps_quiet hql he
    split at hκ
    · rename_i h' hset
      obtain ⟨hc, hκ⟩ := chk_some hκ
      simp only [Bool.and_eq_true] at hc
      obtain ⟨c1, c2, c3⟩ := hc
      obtain ⟨r0, ex, es, k, y, e1, hr, hk, hy, hex, rfl⟩ := msetH_some hset
      have hex' : ex = false := by cases ex <;> simp at hex ⊢
      subst hex'
      rw [hL.h] at hr
      -- every operation stands behind earlier ones
      have wf : ∀ (i : Nat) (o : Oper), l[i]? = some o → ∀ e ∈ o.after, Region.binds .any e = true → e.on < i := fun i o ho e he hb => by
        rcases Nat.lt_or_ge i r.length with hi | hi
        · have h1 := drawT_at hdl ho (show r[i]? = some r[i] by simp [hi])
          simp only [drawAt, Bool.and_eq_true, List.all_eq_true] at h1
          have := h1.1 e (by simpa using he)
          rw [hb] at this
          simpa using this
        · have hlt := (List.getElem?_eq_some_iff.1 ho).1
          obtain rfl | rfl | rfl : i = r.length ∨ i = r.length + 1 ∨ i = r.length + 2 := by omega
          · rw [g1] at ho; cases ho; exact edges_below b1 e he hb
          · rw [g2] at ho; cases ho; exact edges_below b2 e he hb
          · rw [g3] at ho; cases ho; exact edges_below b3 e he hb
      have some_up : ∀ {listed : Array Bool}, listed.size = l.length → Region.ready .any l.toArray listed = [] → ∀ i, i < l.length → listed.getD i false = true := by
        intro listed hsz hre i
        induction i using Nat.strongRecOn with
        | _ i ih =>
          intro hi
          cases hl : listed.getD i false with
          | true => rfl
          | false =>
            exfalso
            have hlt : i < listed.size := by omega
            have h2 : listed.getD i true = false := by
              simp only [Array.getD_eq_getD_getElem?, Array.getElem?_eq_getElem hlt, Option.getD_some] at hl ⊢
              exact hl
            have : i ∈ Region.ready .any l.toArray listed := mem_ready.2 ⟨h2, l[i], by simp [hi], fun e he hb => by
              have := wf i l[i] (by simp [hi]) e he hb
              exact ih e.on this (by omega)⟩
            rw [hre] at this
            cases this
      refine wp_region_any hm ?_
      have main : ∀ (fuel : Nat) (listed : Array Bool) (a : Act) (w' : World), left listed = fuel → MInv base ρ r l s S w r0 ag A B es k d1 d2 listed a w' → wpAny P .any l.toArray Q fuel listed a w' := by
        intro fuel
        induction fuel with
        | zero =>
          intro listed a w' hle' M
          exfalso
          have hlt : r.length + 2 < listed.size := by rw [M.inv.size]; omega
          have hif : listed[r.length + 2]? = some false := by
            have := M.last
            simp only [Array.getD_eq_getD_getElem?, Array.getElem?_eq_getElem hlt, Option.getD_some] at this
            rw [Array.getElem?_eq_getElem hlt, this]
          have := left_set hlt hif
          omega
        | succ fuel ih =>
          intro listed a w' hle' M
          have hsz := M.inv.size
          have hlt : r.length + 2 < listed.size := by rw [hsz]; omega
          refine ⟨fun hre => ?_, fun i hi => ?_⟩
          · exfalso
            have h1 := some_up hsz hre (r.length + 2) (by omega)
            have h2 := M.last
            simp only [Array.getD_eq_getD_getElem?, Array.getElem?_eq_getElem hlt, Option.getD_some] at h1 h2
            rw [h1] at h2
            cases h2
          · obtain ⟨o, ho, hall, hil, hif⟩ := ready_not (by simpa using hsz) hi
            have hleft := left_set hil hif
            have Re := M.inv.rel R hs hF hL hdl hle
            rcases Nat.lt_or_ge i r.length with hir | hir
            · refine draw_step hG hle hat' hdl R hs hF hL _ listed a w' M.inv i hi hir fun q z w2 hq hb I2 => ih _ _ _ (by omega) ⟨I2, by rw [getD_set_other (by omega)]; exact M.last, fun h => ?_, fun h => ?_⟩
              · rw [getD_set_other (by omega)] at h
                obtain ⟨st, u, h1, h2⟩ := M.m1 h
                exact ⟨st, u, by rw [put_dst (hds q (List.mem_of_getElem? hq)).1]; exact h1, h2.below hb⟩
              · rw [getD_set_other (by omega)] at h
                obtain ⟨st, h1, h2⟩ := M.m2 h
                exact ⟨st, by rw [put_dst (hds q (List.mem_of_getElem? hq)).2]; exact h1, h2.below hb⟩
            · have hlt' := (List.getElem?_eq_some_iff.1 ho).1
              have slots : ∀ {z : AX}, (∀ t ∈ z.slots, ∀ j, writer r t = some j → listed.getD j false = true) → z.val (stE r s S listed) = z.val S := fun {z} hz => by
                refine val_same ⟨hL.h.symm, fun t ht => ?_⟩
                rw [nth_get, stE_get]
                split
                · rename_i hlt
                  simp only [Option.getD_some, slotE]
                  split
                  · rename_i j hj
                    rw [hz t ht j hj]
                  · rename_i hj
                    exact (hL.old t (writer_none hj)).symm
                · rename_i hlt
                  rw [nth_get, List.getElem?_eq_none (by rw [hL.len]; omega)]
              unfold wpOp
              have hot : l.toArray[i]? = some o := by simpa using ho
              simp only [hot]
              obtain rfl | rfl | rfl : i = r.length ∨ i = r.length + 1 ∨ i = r.length + 2 := by omega
              · -- the entry
                rw [g1] at ho
                cases ho
                rw [if_pos (wanted_none' w1)]
                refine .inl ?_
                split at p1
                · rename_i t y1 y2 hop
                  simp only [Bool.and_eq_true] at p1
                  obtain ⟨hmo, hmx, hxx⟩ := p1
                  have hsl : ∀ t ∈ m.slots ++ x.slots, ∀ j, writer r t = some j → listed.getD j false = true := fun t ht j hj => by
                    have := x1 t ht
                    rw [hj] at this
                    exact edge_on this hall
                  have lm := get_at (c := .any) Re hmx c1 (slots fun t ht => hsl t (List.mem_append.2 (.inl ht)))
                  have lx := get_at (c := .any) Re hxx c2 (slots fun t ht => hsl t (List.mem_append.2 (.inr ht)))
                  rw [e1] at lm
                  obtain ⟨b, arr, clock, ds, e2, h1, h2, h3, h4, h5, h6, h7, h8, h9, h10⟩ := map_of Re.hp lm hr
                  obtain ⟨arr', clock', ds', u, st, j, e, hrun, f1, f2, f3, f4, f5, f6, f7⟩ := run_entry hmo h3 h6 (key_of Re.hp lx hk) h7 h8
                  have hexec : (execOp a.eval o1).run P w' = .ok (.value (.tuple #[u, goInt st])) (ChangeMaps.setBlock w' b (.map arr' clock')) := by
                    unfold execOp
                    simp only [hop]
                    exact run_v (by rw [e2]; exact hrun)
                  obtain ⟨H2, E2⟩ := Re.hp.setMap hr h1 h3 (es' := es) f1 f2 f3 (fun q => by rw [f4, h9]) (fun h => by cases h)
                  have hsame : setNth (stE r s S listed).h r0 (AObj.map false ag A B es) = s.h := setNth_same hr
                  rw [hsame] at H2 E2
                  unfold Oper.wp
                  rw [hexec]
                  simp only [Oper.upon]
                  rw [t1]
                  have hEnt : EntAt ρ s.h r0 ag A B es k (ChangeMaps.setBlock w' b (.map arr' clock')) st := ⟨arr', clock', ds', j, e, b, h1, (MapKept.heap_set h3).1, f1.move E2.keeps, f2, f3, fun q => by rw [f4, h9], f5, f6, f7⟩
                  have I2 := M.inv.other g1 (Nat.le_refl _) hall (d := d1) (fun q hq => (hds q hq).1) hd1 (z := .tuple #[u, goInt st]) H2 E2
                  refine ih _ _ _ (by omega) ⟨I2, by rw [getD_set_other (by omega)]; exact M.last, fun _ => ⟨st, u, put_same (by rw [M.inv.tl]; exact hl1), hEnt⟩, fun h => ?_⟩
                  rw [getD_set_other (by omega)] at h
                  have := M.inv.closed _ _ g2 h
                  have hn1 : listed.getD r.length false = true := edge_on x2 this
                  simp only [Array.getD_eq_getD_getElem?, hif, Option.getD_some] at hn1
                  cases hn1
                · cases p1
              · -- its number
                rw [g2] at ho
                cases ho
                rw [if_pos (wanted_none' w2)]
                refine .inl ?_
                split at p2
                · rename_i e0 i0 hop
                  simp only [Bool.and_eq_true, beq_iff_eq] at p2
                  obtain ⟨rfl, rfl⟩ := p2
                  obtain ⟨st, u, h1, h2⟩ := M.m1 (edge_on x2 hall)
                  have hev : a.eval (.tmp e0) = .tuple #[u, goInt st] := by
                    simp only [Act.eval, Array.getD_eq_getD_getElem?, h1, Option.getD_some]
                  have hexec : (execOp a.eval o2).run P w' = .ok (.value (goInt st)) w' := by
                    unfold execOp
                    simp only [hop]
                    exact run_v (by rw [hev]; simp [Instr.extract])
                  unfold Oper.wp
                  rw [hexec]
                  simp only [Oper.upon]
                  rw [t2]
                  have I2 := M.inv.other g2 (by omega) hall (d := d2) (fun q hq => (hds q hq).2) hd2 (z := goInt st) M.inv.hp (Evo.refl _ _ _ _ (Nat.le_refl _) _)
                  refine ih _ _ _ (by omega) ⟨I2, by rw [getD_set_other (by omega)]; exact M.last, fun h => ?_, fun _ => ⟨st, put_same (by rw [M.inv.tl]; exact hl2), h2⟩⟩
                  rw [put_other (fun h => hne (by simpa using h.symm))]
                  exact ⟨st, u, h1, h2⟩
                · cases p2
              · -- it is written
                rw [g3] at ho
                cases ho
                rw [if_pos (wanted_none' w3)]
                refine .inl ?_
                split at p3
                · rename_i t y1 e0 y2 hop
                  simp only [Bool.and_eq_true, beq_iff_eq] at p3
                  obtain ⟨hmx, rfl, hvx⟩ := p3
                  have hup : ∀ i, i < r.length + 2 → listed.getD i false = true := fun i hi => edge_on (x3 i (List.mem_range.2 hi)) hall
                  have hst : stE r s S listed = S := stE_all hL fun i hi => hup i (by omega)
                  rw [hst] at Re
                  obtain ⟨st, h1, h2⟩ := M.m2 (hup _ (by omega))
                  have hev : a.eval (.tmp e0) = goInt st := by
                    simp only [Act.eval, Array.getD_eq_getD_getElem?, h1, Option.getD_some]
                  have lm := Re.get (gd := none) GH.none hmx c1
                  have lv := Re.get (gd := none) GH.none hvx c3
                  rw [e1] at lm
                  obtain ⟨arr, clock, ds, j, e, b, f1, f2, f3, f4, f5, f6, f7, f8, rfl⟩ := h2
                  have hr' : S.h[r0]? = some (.map false ag A B es) := by rw [hL.h]; exact hr
                  obtain ⟨b', arr0, clock0, ds0, e2, q1, q2, q3, q4, q5, q6⟩ := map_of Re.hp lm hr'
                  have hbb : b' = b := by rw [f1] at q1; simpa using q1.symm
                  subst hbb
                  obtain ⟨arr', hrun, harr⟩ := run_estore (P := P) (t := t) f2 f8 f5 (a.eval y2)
                  obtain ⟨d, d1', d2'⟩ := findD_some f7
                  obtain ⟨e', e1', e2', e3'⟩ := f3.at d1'
                  rw [f8] at e1'
                  cases e1'
                  have hdk := (beq_eq q4).1 d2'
                  have hents : Ents w' (XO ρ s.h) ag A B (mput A B ds k y) arr'.toList := by
                    rw [harr, findD_put, f7]
                    exact f3.put (e := { e with val := a.eval y2 }) (by rw [hdk]; exact e2') (by have := val_vr Re.hp q5 lv hy; rwa [hL.h] at this) j
                  have hborn : arr'.toList.map (·.born) = arr.toList.map (·.born) := by
                    rw [harr, List.map_set]
                    exact WideElems.set_self (arr.toList.map (·.born)) j e.born (by simp [f8])
                  rw [← hL.h] at hents
                  obtain ⟨H2, E2⟩ := Re.hp.setMap hr' f1 f2 (es' := mput A B es k y) (clock' := clock) hents (fun x hx => by
                    rw [harr] at hx
                    rcases List.mem_or_eq_of_mem_set hx with hx | hx
                    · exact f4 x hx
                    · rw [hx]; exact f4 e (List.mem_of_getElem? f8)) (by rw [hborn]; exact f5) (fun q => by rw [mget_mput q4, mget_mput q4, f6]) (fun h => by cases h)
                  have hexec : (execOp a.eval o3).run P w' = .ok .skip (ChangeMaps.setBlock w' b' (.map arr' clock)) := by
                    unfold execOp
                    simp only [hop]
                    rw [← e2, ← hev] at hrun
                    simp [hrun]
                  unfold Oper.wp
                  rw [hexec]
                  simp only [Oper.upon]
                  rw [t3]
                  have hq := hn ρ _ _ _ (Re.move H2 E2) hκ
                  have hall' : ∀ i, i < l.length → (listed.setIfInBounds (r.length + 2) true).getD i true = true := fun i hi => by
                    rcases Nat.lt_or_ge i (r.length + 2) with h | h
                    · have := hup i h
                      have hil : i < listed.size := by omega
                      rw [getD_set_other (by omega)]
                      simp only [Array.getD_eq_getD_getElem?, Array.getElem?_eq_getElem hil, Option.getD_some] at this ⊢
                      exact this
                    · obtain rfl : i = r.length + 2 := by omega
                      exact getD_set_self hlt
                  have hre : Region.ready .any l.toArray (listed.setIfInBounds (r.length + 2) true) = [] := by
                    refine List.eq_nil_iff_forall_not_mem.2 fun i hi => ?_
                    obtain ⟨h1, o, h2, _⟩ := mem_ready.1 hi
                    have := hall' i (by simpa using (Array.getElem?_eq_some_iff.1 h2).1)
                    rw [this] at h1
                    cases h1
                  cases fuel with
                  | zero => exact ⟨hre, hq⟩
                  | succ fuel => exact ⟨fun _ => hq, fun i hi => by rw [hre] at hi; cases hi⟩
                · cases p3
      refine main _ _ _ _ (by simpa using left_replicate l.toArray.size) ⟨inv_start R, ?_, fun h => ?_, fun h => ?_⟩
      · rw [Array.getD_eq_getD_getElem?, Array.getElem?_replicate, if_pos (by simp; omega)]; rfl
      · rw [getD_rep_false] at h; cases h
      · rw [getD_rep_false] at h; cases h
    · cases hκ
  · cases htail
end
end Go.Tw
