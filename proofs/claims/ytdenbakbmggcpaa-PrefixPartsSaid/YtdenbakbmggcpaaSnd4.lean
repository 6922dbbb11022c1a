/- Operations that leave the blocks alone: cells, addresses, lists. -/
import Derived.Test.YtdenbakbmggcpaaSnd3
set_option linter.unusedVariables false
set_option linter.unusedSectionVars false
set_option linter.unusedSimpArgs false
namespace Go.Tw
open Go.RowKit

section
variable [Ban] {w : World} {ρ : List RV} {h : AHeap} {K : Nat → Prop} {P : Program}

/-- Values cell by cell. -/
def LRs (w : World) (ρ : List RV) (h : AHeap) (K : Nat → Prop) (cs : List AV) (vs : List Value) : Prop :=
  cs.length = vs.length ∧ (∀ (i : Nat) (c : AV) (v : Value), cs[i]? = some c → vs[i]? = some v → LR w ρ h K c v) ∧ ∀ v ∈ vs, v.oneCell' = true

theorem LRs.nil : LRs w ρ h K [] [] := ⟨rfl, by simp, by simp⟩
theorem LRs.append {cs ds : List AV} {vs us : List Value} (a : LRs w ρ h K cs vs) (b : LRs w ρ h K ds us) : LRs w ρ h K (cs ++ ds) (vs ++ us) := by
  refine ⟨by simp [a.1, b.1], fun i c v hc hv => ?_, fun v hv => (List.mem_append.1 hv).elim (a.2.2 v) (b.2.2 v)⟩
  by_cases hi : i < cs.length
  · rw [List.getElem?_append_left hi] at hc
    rw [List.getElem?_append_left (by rw [← a.1]; exact hi)] at hv
    exact a.2.1 i c v hc hv
  · rw [List.getElem?_append_right (by omega)] at hc
    rw [List.getElem?_append_right (by rw [← a.1]; omega)] at hv
    rw [← a.1] at hv
    exact b.2.1 _ c v hc hv
theorem LRs.drop {cs : List AV} {vs : List Value} (a : LRs w ρ h K cs vs) (n : Nat) : LRs w ρ h K (cs.drop n) (vs.drop n) :=
  ⟨by simp [a.1], fun i c v hc hv => by rw [List.getElem?_drop] at hc hv; exact a.2.1 _ c v hc hv, fun v hv => a.2.2 v (List.mem_of_mem_drop hv)⟩
theorem LRs.take {cs : List AV} {vs : List Value} (a : LRs w ρ h K cs vs) (n : Nat) : LRs w ρ h K (cs.take n) (vs.take n) := by
  refine ⟨by simp [a.1], fun i c v hc hv => ?_, fun v hv => a.2.2 v (List.mem_of_mem_take hv)⟩
  by_cases hi : i < n
  · rw [List.getElem?_take_of_lt hi] at hc hv
    exact a.2.1 _ c v hc hv
  · rw [List.getElem?_take_eq_none (by omega)] at hc
    cases hc
theorem LRs.one {c : AV} {v : Value} (hl : LR w ρ h K c v) (h1 : v.oneCell' = true) : LRs w ρ h K [c] [v] := by
  refine ⟨rfl, fun i c' v' hc hv => ?_, by simpa using h1⟩
  cases i with
  | zero => simp at hc hv; subst hc hv; exact hl
  | succ i => simp at hc
theorem LRs.agg {cs : List AV} {vs : List Value} (a : LRs w ρ h K cs vs) : LR w ρ h K (.agg cs) (.agg vs.toArray) :=
  .agg (by simpa using a.1) (fun i c v hc hv => a.2.1 i c v hc (by simpa using hv)) (by simpa using a.2.2)
theorem LRs.of_agg {cs : List AV} {u : Value} (hl : LR w ρ h K (.agg cs) u) : ∃ vs : List Value, u = .agg vs.toArray ∧ LRs w ρ h K cs vs := by
  cases hl with
  | @agg _ vs h1 h2 h3 => exact ⟨vs.toList, by simp, by simpa using h1, fun i c v hc hv => h2 i c v hc (by simpa using hv), by simpa using h3⟩

theorem explode_len : ∀ (T : Ty) (x : T.D), (explode T x).length = T.size
  | .int _, _ => rfl
  | .bool, _ => rfl
  | .str, _ => rfl
  | .fn, _ => rfl
  | .unit, _ => rfl
  | .pair a b, x => by simp [explode, Ty.size, explode_len a, explode_len b]
  | .sl _, _ => rfl

theorem VR.explode : ∀ {T : Ty} {x : T.D} {vs : List Value}, VR w (XO ρ h) T x vs → LRs w ρ h K (explode T x) vs
  | .int k, x, vs, hv => by have : vs = [.int k x] := by simpa [VR] using hv
                            subst this; exact .one (.d hv) rfl
  | .bool, x, vs, hv => by have : vs = [.bool x] := by simpa [VR] using hv
                           subst this; exact .one (.d hv) rfl
  | .str, x, vs, hv => by have : vs = [.string x] := by simp only [VR] at hv; exact hv.1
                          subst this; exact .one (.d hv) rfl
  | .fn, x, vs, hv => by have : vs = [.func (.func x) #[] #[]] := by simpa [VR] using hv
                         subst this; exact .one (.d hv) rfl
  | .unit, x, vs, hv => by have : vs = [] := by simpa [VR] using hv
                           subst this; exact .nil
  | .pair a b, x, vs, hv => by
    simp only [VR] at hv
    obtain ⟨c1, c2, rfl, h1, h2⟩ := hv
    exact h1.explode.append h2.explode
  | .sl a, x, vs, hv => by
    have hv' := hv
    simp only [VR] at hv'
    obtain ⟨A, c, rfl, _⟩ := hv'
    exact .one (.d hv) rfl

/-- n cells. -/
theorem LRs.cut {cs : List AV} {vs : List Value} (a : LRs w ρ h K cs vs) {o n : Nat} {agg : Bool} {c : AV} (hc : Tw.cut cs o n agg = some c) :
    (agg = true → ((vs.drop o).take n).length = n ∧ LR w ρ h K c (.agg ((vs.drop o).take n).toArray)) ∧ (agg = false → ∃ v, vs[o]? = some v ∧ LR w ρ h K c v ∧ v.oneCell' = true) := by
  unfold Tw.cut at hc
  cases agg with
  | true =>
    refine ⟨fun _ => ?_, fun hf => (by cases hf)⟩
    simp only at hc
    split at hc
    · rename_i hl
      simp only [Option.some.injEq] at hc
      subst hc
      have hlen := a.1
      simp only [List.length_take, List.length_drop] at hl ⊢
      exact ⟨by omega, ((a.drop o).take n).agg⟩
    · cases hc
  | false =>
    refine ⟨fun hf => (by cases hf), fun _ => ?_⟩
    simp only at hc
    split at hc
    · rename_i c' r hd
      simp only [Option.some.injEq] at hc
      subst hc
      have h0 : cs[o]? = some c' := by have := congrArg (fun l => l[0]?) hd; simpa using this
      have hlt : o < vs.length := by rw [← a.1]; exact (List.getElem?_eq_some_iff.1 h0).1
      exact ⟨vs[o], by simp [hlt], a.2.1 o c' _ h0 (by simp [hlt]), a.2.2 _ (List.getElem_mem hlt)⟩
    · cases hc

/-- Is a type's value an aggregate? -/
def aggT (P : Program) (t : TypeId) : Option Bool := match P.underlying t with
  | some (.struct _) => some true
  | some (.array _ _) => some true
  | some _ => some false
  | none => none
theorem run_isAgg {t : TypeId} {b : Bool} (hb : aggT P t = some b) : (isAgg t).run P w = .ok b w := by
  unfold aggT at hb
  split at hb <;> simp only [Option.some.injEq, reduceCtorEq] at hb <;> subst hb
  · rename_i ht; simp [isAgg, run_underlying ht]
  · rename_i ht; simp [isAgg, run_underlying ht]
  · rename_i d h1 h2 ht
    simp only [isAgg, Sem.run_bind, run_underlying ht, Result.andThen_ok]
    cases d <;> first | rfl | exact absurd rfl (h1 _) | exact absurd rfl (h2 _ _)
def sizeT (P : Program) (t : TypeId) : Option Nat := (P.info? t).map (·.size)
theorem run_sizeOf {t : TypeId} {n : Nat} (hn : sizeT P t = some n) : (sizeOf t).run P w = .ok n w := by
  unfold sizeT at hn
  obtain ⟨i, hi, rfl⟩ := Option.map_eq_some_iff.1 hn
  simp [sizeOf, typeInfo, hi]

omit [Ban] in
theorem add_add (a : Addr) (i j : Nat) : (a.add i).add j = a.add (i + j) := by
  unfold Addr.add
  by_cases hi : i = 0
  · subst hi; simp
  · by_cases hj : j = 0
    · subst hj; simp [hi]
    · simp [hi, hj, Nat.add_assoc]
omit [Ban] in
theorem add_zero (a : Addr) : a.add 0 = a := by simp [Addr.add]

/-- A variable's cells are read. -/
theorem run_loadVar_cells {t : TypeId} {n : Nat} {agg : Bool} (hs : sizeT P t = some n) (ha : aggT P t = some agg) (ad : Addr) (es : List Value) (he : ∀ (j : Nat) (u : Value), es[j]? = some u → w.cell? (ad.add j) = some u)
    (cs : List AV) (hl : LRs w ρ h K cs es) {c : AV} (hc : Tw.cut cs 0 n agg = some c) : ∃ u, (loadVar t ad).run P w = .ok u w ∧ LR w ρ h K c u := by
  have hcut := hl.cut hc
  cases agg with
  | true =>
    obtain ⟨hle, hr⟩ := hcut.1 rfl
    refine ⟨_, ?_, hr⟩
    have hload := run_loadCells_list (P := P) w ad (es.take n) (fun j v hv => he j v (by
      by_cases hj : j < n
      · rwa [List.getElem?_take_of_lt hj] at hv
      · rw [List.getElem?_take_eq_none (by omega)] at hv; cases hv))
    rw [List.drop_zero] at hle
    rw [hle] at hload
    simp only [loadVar, Sem.run_bind, run_isAgg ha, Result.andThen_ok, if_true, run_sizeOf hs, hload, Sem.run_pure, List.drop_zero]
  | false =>
    obtain ⟨v, hv, hr, _⟩ := hcut.2 rfl
    refine ⟨v, ?_, hr⟩
    have hcell := he 0 v hv
    rw [add_zero] at hcell
    simp only [loadVar, Sem.run_bind, run_isAgg ha, Result.andThen_ok, Bool.false_eq_true, if_false, run_load, hcell]

theorem cut_drop (cs : List AV) (o n : Nat) (agg : Bool) : Tw.cut (cs.drop o) 0 n agg = Tw.cut cs o n agg := by simp [Tw.cut]

omit [Ban] in
theorem blk_cell {b i : Nat} {vs : Array Value} {e : TypeId} {fr : Nat × Nat} (hb : w.heap[b]? = some (.cells vs e fr)) : w.cell? ⟨b, i, none⟩ = vs[i]? := by simp [World.cell?, hb]
omit [Ban] in
theorem add_lit (b o j : Nat) : (⟨b, o, none⟩ : Addr).add j = ⟨b, o + j, none⟩ := by unfold Addr.add; split <;> simp_all

/-- An element of a row of the call's own. -/
theorem own_elem {base : Nat} {e : TypeId} {size n : Nat} {v : Value} {xs : List Value} (ho : w.ownsRow base e size v n xs) {i : Nat} (hi : i < n) (hs : 0 < size) :
    ∃ g cap, v = .slice (some ⟨g, 0, none⟩) n cap ∧ ∀ (j : Nat) (u : Value), ((xs.drop (i * size)).take size)[j]? = some u → w.cell? ((⟨g, 0, none⟩ : Addr).add (i * size + j)) = some u := by
  have hcells : ∀ (g : Nat), v.ownBlock = some g → ∀ (j : Nat) (u : Value), xs[j]? = some u → w.cell? ((⟨g, 0, none⟩ : Addr).add j) = some u := fun g hg j u hu => ho.cells hg j u hu
  rcases ho.2 with ⟨rfl, rfl⟩ | ⟨g, cap, cur, rfl, hb, hh, hnc, hm, hcs, htk⟩
  · omega
  · refine ⟨g, cap, rfl, fun j u hu => ?_⟩
    have hj : j < size := by
      by_cases hj : j < size
      · exact hj
      · rw [List.getElem?_take_eq_none (by omega)] at hu; cases hu
    rw [List.getElem?_take_of_lt hj, List.getElem?_drop] at hu
    exact hcells g rfl _ u hu

theorem run_loadV {base : Nat} (H : HR base w ρ h) {t : TypeId} {n : Nat} {agg : Bool} (hs : sizeT P t = some n) (ha : aggT P t = some agg) {a : AV} {u : Value} (hl : LR w ρ h K0 a u)
    {c : Bool} {v : AV} (hv : loadV h a n agg = some (c, v)) (hc : c = true) : ∃ z, (Instr.loadAt t u).run P w = .ok z w ∧ LR w ρ h K0 v z := by
  unfold loadV at hv
  split at hv
  · rename_i r o
    split at hv
    · rename_i cs hr
      split at hv
      · rename_i v' hcut
        simp only [Option.some.injEq, Prod.mk.injEq] at hv
        obtain ⟨_, rfl⟩ := hv
        cases hl with
        | box hb =>
          obtain ⟨b, hρ, rfl⟩ := (hb id).2 cs hr
          obtain ⟨b', vs, e, hρ', hbase, hblk, hsz, hlr, h1⟩ := H.obj r _ hr
          have : b' = b := by rw [hρ] at hρ'; simpa using hρ'.symm
          subst this
          have hls : LRs w ρ h K0 cs vs.toList := ⟨by simpa using hsz.symm, fun i c v hc hv => hlr i c v hc (by simpa using hv), by simpa using h1⟩
          rw [← cut_drop] at hcut
          obtain ⟨z, hz, hzl⟩ := run_loadVar_cells (P := P) hs ha ⟨b', o, none⟩ (vs.toList.drop o) (fun j u hu => by
            rw [add_lit, blk_cell hblk]; rw [List.getElem?_drop] at hu; simpa using hu) (cs.drop o) (hls.drop o) hcut
          exact ⟨z, by simp [Instr.loadAt, Instr.sureAddr, hz], hzl⟩
      · cases hv
    · cases hv
  · rename_i T x o
    split at hv
    · rename_i v' hcut
      simp only [Option.some.injEq, Prod.mk.injEq] at hv
      obtain ⟨_, rfl⟩ := hv
      cases hl with
      | pfz cs h1 h2 h3 =>
        have hls := h1.explode (K := K0)
        rw [← cut_drop] at hcut
        obtain ⟨z, hz, hzl⟩ := run_loadVar_cells (P := P) hs ha _ (cs.drop o) (fun j u hu => h3 j u (by rwa [List.getElem?_drop] at hu)) _ (hls.drop o) hcut
        exact ⟨z, by simp [Instr.loadAt, Instr.sureAddr, hz], hzl⟩
    · cases hv
  · rename_i r i o
    split at hv
    · rename_i T ys hr
      split at hv
      · rename_i v' hcut
        simp only [Option.some.injEq, Prod.mk.injEq] at hv
        obtain ⟨rfl, rfl⟩ := hv
        have hi : i < ys.length := by simpa using hc
        cases hl with
        | pel hb =>
          obtain ⟨g, n', c', hρ, rfl⟩ := (hb id).2 T ys hr hi
          obtain ⟨hsz, v0, e, xs, hρ', hown, h1, hm, hel⟩ := H.obj r _ hr
          have : v0 = .slice (some ⟨g, 0, none⟩) n' c' := by rw [hρ] at hρ'; simpa using hρ'.symm
          subst this
          obtain ⟨g', cap, hv', hcell⟩ := own_elem hown hi hsz
          obtain rfl : g = g' := by simp at hv'; exact hv'.1
          have hy : ys[i]? = some (ys.getD i T.z) := by simp [List.getD, hi]
          have hls := (hel i _ hy).explode (K := K0)
          rw [← cut_drop] at hcut
          obtain ⟨z, hz, hzl⟩ := run_loadVar_cells (P := P) hs ha ((⟨g, 0, none⟩ : Addr).add (i * T.size + o)) (((xs.drop (i * T.size)).take T.size).drop o) (fun j u hu => by
            rw [add_add]
            have := hcell (o + j) u (by rwa [List.getElem?_drop] at hu)
            rwa [show i * T.size + o + j = i * T.size + (o + j) by omega]) _ (hls.drop o) hcut
          exact ⟨z, by simp [Instr.loadAt, Instr.sureAddr, hz], hzl⟩
      · cases hv
    · cases hv
  · cases hv

end
end Go.Tw
