/- Operations one by one: structs and literals. -/
import Derived.Test.YtdenbakbmggcpaaSnd8
import Derived.Great.BuildSlice
set_option linter.unusedVariables false
set_option linter.unusedSectionVars false
set_option linter.unusedSimpArgs false
namespace Go.Tw
open Go.RowKit

theorem one_cells {u : Value} (h : u.oneCell' = true) : u.cells = #[u] := by
  cases u <;> first | rfl | simp [Value.oneCell'] at h

/-- A part is laid behind what is laid. -/
theorem fill_step (place : Nat → Option (Nat × Nat)) (done z : List Value) (i size : Nat) (v : Value) (rest : List (Nat × Value)) (hp : place i = some (done.length, size)) (hsz : v.cells.size = size) (hle : size ≤ z.length) :
    Instr.fill place (done ++ z).toArray ((i, v) :: rest) = Instr.fill place (done ++ v.cells.toList ++ z.drop size).toArray rest := by
  conv => lhs; unfold Instr.fill
  simp only [hp, hsz]
  rw [if_neg (by simp; omega)]
  congr 1
  obtain ⟨g1, g2⟩ := Great.foldl_set done.length v.cells.toList 0 (done ++ z).toArray
  have hl : v.cells.toList.length = size := by simpa using hsz
  rw [← Array.foldl_toList, Array.toList_zipIdx]
  apply Array.ext_getElem?
  intro k
  rw [g2 k]
  simp only [Nat.add_zero, hl, List.size_toArray, List.length_append, List.getElem?_toArray]
  by_cases h1 : k < done.length
  · rw [if_neg (by omega), List.append_assoc, List.getElem?_append_left h1, List.getElem?_append_left h1]
  · by_cases h2 : k < done.length + size
    · rw [if_pos (by omega), List.append_assoc, List.getElem?_append_right (by omega), List.getElem?_append_left (by omega)]
    · rw [if_neg (by omega), List.append_assoc, List.getElem?_append_right (by omega), List.getElem?_append_right (by omega), List.getElem?_append_right (by omega), List.getElem?_drop]
      congr 1
      omega

section
variable [Ban] {base : Nat} {w0 : World} {ρ0 : List RV} {h0 : AHeap} {ρ : List RV} {s : St} {a : Act} {w : World} {P : Program} {gd : Option (Nat × Bool)} {o : Oper} {v : AV} {h : AHeap} {K : Nat → Prop}

theorem solid_one (H : HR base w ρ h) {c : AV} {u : Value} (hl : LR w ρ h K0 c u) (hs : c.solid h = true) : u.oneCell' = true := by
  cases hl with
  | d hv => exact hv.one u (by simp)
  | fr hv => rfl
  | nil => rfl
  | own hb =>
    simp only [AV.solid] at hs
    split at hs
    · rename_i r T ys hr
      obtain ⟨_, v, e, xs, hρ', hown, _⟩ := H.obj _ _ hr
      have := (hb id).2 _ _ hr
      rw [hρ'] at this
      simp only [Option.some.injEq, RV.sl.injEq] at this
      subst this
      rcases hown.2 with ⟨rfl, _⟩ | ⟨g, cap, cur, rfl, _⟩ <;> rfl
    · cases hs
  | box hb =>
    simp only [AV.solid] at hs
    split at hs
    · rename_i r cs hr
      obtain ⟨b, _, rfl⟩ := (hb id).2 _ hr
      rfl
    · cases hs
  | pel hb => simp [AV.solid] at hs
  | mp hb => simp [AV.solid] at hs
  | pfz cs h1 h2 h3 => rfl
  | fn h1 h2 => rfl
  | agg h1 h2 h3 => simp [AV.solid] at hs
  | tup h1 h2 => simp [AV.solid] at hs
  | opt h1 h2 => simp [AV.solid] at hs
  | any => simp [AV.solid] at hs

/-- The cells of a value of which all is told. -/
theorem take_cells (H : HR base w ρ h) {c : AV} {u : Value} {n : Nat} {cs : List AV} (hl : LR w ρ h K0 c u) (ht : c.take h n = some cs) : cs.length = n ∧ cs = c.cells ∧ LRs w ρ h K0 cs u.cells.toList := by
  unfold AV.take at ht
  split at ht
  · rename_i hn
    split at ht
    · rename_i hall
      simp only [Option.some.injEq] at ht
      subst ht
      refine ⟨hn, rfl, ?_⟩
      by_cases hag : ∃ ds, c = .agg ds
      · obtain ⟨ds, rfl⟩ := hag
        obtain ⟨vs, rfl, hls⟩ := LRs.of_agg hl
        exact hls
      · have hcells : c.cells = [c] := by cases c <;> first | rfl | (exact absurd ⟨_, rfl⟩ hag)
        rw [hcells] at hall ⊢
        have h1 := solid_one H hl (by simpa using hall)
        rw [one_cells h1]
        exact .one hl h1
    · cases ht
  · cases ht

/-- The cells of a type's zero value, as they are given. -/
def okZ : List AV → List Value → Bool
  | [], [] => true
  | c :: cs, v :: vs => okX (.cst c) (.const v) && (v.oneCell' && okZ cs vs)
  | _, _ => false
theorem okZ_lrs (R : Rel base w0 ρ0 h0 ρ s a w) : ∀ {cs : List AV} {vs : List Value}, okZ cs vs = true → LRs w ρ s.h K0 cs vs
  | [], [], _ => .nil
  | c :: cs, v :: vs, hz => by
    simp only [okZ, Bool.and_eq_true] at hz
    exact (LRs.one (R.val hz.1) hz.2.1).append (okZ_lrs R hz.2.2)
  | [], _ :: _, hz => by simp [okZ] at hz
  | _ :: _, [], hz => by simp [okZ] at hz

/-- The parts of a struct or an array, against the fields' places; z: the zero value's cells from here on. -/
def okParts : List (Nat × Nat) → (i o : Nat) → List (List AV ⊕ (AX × Nat)) → List (Nat × Operand) → List Value → Bool
  | [], _, _, [], [], z => z.isEmpty
  | (off, n) :: pl, i, o, .inl zs :: ps, parts, z => off == o && (n == zs.length && (decide (n ≤ z.length) && (okZ zs (z.take n) && okParts pl (i + 1) (o + n) ps parts (z.drop n))))
  | (off, n) :: pl, i, o, .inr (x, m) :: ps, (j, y) :: parts, z => off == o && (n == m && (decide (n ≤ z.length) && (j == i && (okX x y && okParts pl (i + 1) (o + n) ps parts (z.drop n)))))
  | _, _, _, _, _, _ => false

theorem fill_parts (R : Rel base w0 ρ0 h0 ρ s a w) (hg : GH gd a) (place : Nat → Option (Nat × Nat)) : ∀ (pl : List (Nat × Nat)) (i o : Nat) (ps : List (List AV ⊕ (AX × Nat))) (parts : List (Nat × Operand)) (z done : List Value) (cs : List AV),
    (∀ k q, pl[k]? = some q → place (i + k) = some q) → done.length = o → okParts pl i o ps parts z = true → Tw.parts gd s ps = some (true, cs) →
    ∃ rs, Instr.fill place (done ++ z).toArray (parts.map fun p => (p.1, a.eval p.2)) = some (done ++ rs).toArray ∧ LRs w ρ s.h K0 cs rs
  | [], i, o, ps, parts, z, done, cs, hpl, hd, hok, hp => by
    cases ps <;> cases parts <;> simp only [okParts, Bool.false_eq_true] at hok
    have hz : z = [] := by simpa using hok
    subst hz
    simp only [Tw.parts, Option.some.injEq, Prod.mk.injEq, true_and] at hp
    subst hp
    exact ⟨[], by simp [Instr.fill], .nil⟩
  | (off, n) :: pl, i, o, .inl zs :: ps, parts, z, done, cs, hpl, hd, hok, hp => by
    simp only [okParts, Bool.and_eq_true, beq_iff_eq, decide_eq_true_eq] at hok
    obtain ⟨rfl, rfl, hn, hz, hok⟩ := hok
    simp only [Tw.parts] at hp
    split at hp
    · rename_i c l hps
      simp only [Option.some.injEq, Prod.mk.injEq] at hp
      obtain ⟨rfl, rfl⟩ := hp
      obtain ⟨rs, hf, hl⟩ := fill_parts R hg place pl (i + 1) (off + zs.length) ps parts (z.drop zs.length) (done ++ z.take zs.length) l (fun k q hq => by
        have := hpl (k + 1) q (by simpa using hq)
        rwa [show i + (k + 1) = i + 1 + k by omega] at this) (by simp [hd]; omega) hok hps
      refine ⟨z.take zs.length ++ rs, ?_, (okZ_lrs R hz).append hl⟩
      rw [List.append_assoc, List.take_append_drop] at hf
      rw [hf, List.append_assoc]
    · cases hp
  | (off, n) :: pl, i, o, .inr (x, m) :: ps, [], z, done, cs, hpl, hd, hok, hp => by simp [okParts] at hok
  | (off, n) :: pl, i, o, .inr (x, m) :: ps, (j, y) :: parts, z, done, cs, hpl, hd, hok, hp => by
    simp only [okParts, Bool.and_eq_true, beq_iff_eq, decide_eq_true_eq] at hok
    obtain ⟨rfl, rfl, hn, rfl, hx, hok⟩ := hok
    simp only [Tw.parts] at hp
    split at hp
    · rename_i ct htk
      split at hp
      · rename_i c l hps
        simp only [Option.some.injEq, Prod.mk.injEq, Bool.and_eq_true] at hp
        obtain ⟨⟨hc, rfl⟩, rfl⟩ := hp
        obtain ⟨hlen, _, hls⟩ := take_cells R.hp (R.get hg hx hc) htk
        have hsz : (a.eval y).cells.size = n := by have := hls.1; simp only [Array.length_toList] at this; omega
        obtain ⟨rs, hf, hl⟩ := fill_parts R hg place pl (j + 1) (off + n) ps parts (z.drop n) (done ++ (a.eval y).cells.toList) l (fun k q hq => by
          have := hpl (k + 1) q (by simpa using hq)
          rwa [show j + (k + 1) = j + 1 + k by omega] at this) (by simp [hd, hsz]) hok hps
        refine ⟨(a.eval y).cells.toList ++ rs, ?_, hls.append hl⟩
        have hp0 := hpl 0 (off, n) rfl
        rw [Nat.add_zero, ← hd] at hp0
        simp only [List.map_cons]
        rw [fill_step place done z j n (a.eval y) _ hp0 hsz hn, hf, List.append_assoc]
      · cases hp
    · cases hp
  | (off, n) :: pl, i, o, [], parts, z, done, cs, hpl, hd, hok, hp => by simp [okParts] at hok

/-- The places of a type's parts. -/
def placesT (P : Program) (t : TypeId) : Option (List (Nat × Nat)) := match P.underlying t with
  | some (.struct fields) => fields.toList.mapM (fun f => (P.info? f.type).map fun i => (f.offset, i.size))
  | some (.array n e) => (P.info? e).map fun i => (List.range n).map fun k => (k * i.size, i.size)
  | _ => none
def zeroT (P : Program) (t : TypeId) : Option Value := (P.info? t).bind (·.zero)
def buildOk (P : Program) (t : TypeId) (ps : List (List AV ⊕ (AX × Nat))) (parts : List (Nat × Operand)) : Bool := match placesT P t, zeroT P t with
  | some pl, some z => okParts pl 0 0 ps parts z.cells.toList
  | _, _ => false

theorem sound_build (R : Rel base w0 ρ0 h0 ρ s a w) (hg : GH gd a) {t : TypeId} {parts : Array (Nat × Operand)} {ps : List (List AV ⊕ (AX × Nat))} (ho : o.op = .build t parts) (hb : buildOk P t ps parts.toList = true)
    (hp : (match Tw.parts gd s ps with | some (c, l) => (some (c, .agg l) : CV) | none => none) = some (true, v)) : Sound P o a w ρ s.h v := by
  split at hp
  · rename_i c l hps
    simp only [Option.some.injEq, Prod.mk.injEq] at hp
    obtain ⟨rfl, rfl⟩ := hp
    unfold buildOk at hb
    split at hb
    · rename_i pl z hpl hz
      have key : ∃ rs, P.built t (parts.map fun (i, x) => (i, a.eval x)).toList = some rs.toArray ∧ LRs w ρ s.h K0 l rs := by
        unfold placesT at hpl
        unfold zeroT at hz
        unfold Program.built
        obtain ⟨it, hit, hz⟩ := Option.bind_eq_some_iff.1 hz
        split at hpl
        · rename_i fields hu
          obtain ⟨rs, hf, hl⟩ := fill_parts R hg (fun i => pl.toArray[i]?) pl 0 0 ps parts.toList z.cells.toList [] l (fun k q hq => by simpa using hq) rfl hb hps
          refine ⟨rs, ?_, hl⟩
          simp only [hit, hu, hz, hpl]
          simpa using hf
        · rename_i n e hu
          obtain ⟨ie, hie, rfl⟩ := Option.map_eq_some_iff.1 hpl
          obtain ⟨rs, hf, hl⟩ := fill_parts R hg (fun i => some (i * ie.size, ie.size)) _ 0 0 ps parts.toList z.cells.toList [] l (fun k q hq => by
            simp only [List.getElem?_map, Option.map_eq_some_iff] at hq
            obtain ⟨k', hk, rfl⟩ := hq
            have : k' = k := by
              have := List.getElem?_range (n := n) (i := k) (by have := (List.getElem?_eq_some_iff.1 hk).1; simpa using this)
              rw [hk] at this
              simpa using this
            subst this
            simp) rfl hb hps
          refine ⟨rs, ?_, hl⟩
          simp only [hit, hu, hz, hie]
          simpa using hf
        · cases hpl
      obtain ⟨rs, hbt, hl⟩ := key
      refine .same (z := .agg rs.toArray) ?_ hl.agg
      unfold execOp
      simp only [ho]
      exact run_v (run_build w t _ _ hbt)
    · cases hb
  · cases hp

end
end Go.Tw
