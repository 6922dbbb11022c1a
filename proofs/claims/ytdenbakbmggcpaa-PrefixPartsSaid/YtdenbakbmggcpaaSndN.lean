/- Operations on maps. -/
import Derived.Test.YtdenbakbmggcpaaSndM
set_option linter.unusedVariables false
set_option linter.unusedSectionVars false
set_option linter.unusedSimpArgs false
namespace Go.Tw
open Go.RowKit

section
variable [Ban] {base : Nat} {w0 : World} {ρ0 : List RV} {h0 : AHeap} {ρ : List RV} {s s1 : St} {a : Act} {w w' : World} {P : Program} {gd : Option (Nat × Bool)} {o : Oper} {v : AV} {h : AHeap} {K : Nat → Prop}

theorem key_of (H : HR base w ρ h) {ag : Bool} {A : Ty} {c : AV} {k : A.D} {u : Value} (hl : LR w ρ h K0 c u) (hk : keyV ag A c = some k) : KeyR w (XO ρ h) ag A k u := by
  unfold keyV at hk
  split at hk
  · split at hk
    · rename_i cs
      split at hk
      · rename_i x hx
        simp only [Option.some.injEq] at hk
        subst hk
        obtain ⟨vs, rfl, hls⟩ := LRs.of_agg hl
        obtain ⟨v1, v2, rfl, h1, h2, _⟩ := implode_vr H (fun b hb => hb) (.inr rfl) hls hx (fun e r _ rv b hρ _ => by
          have hz : ρ.length = 0 := by rw [H.len, ← e]; rfl
          have := (List.getElem?_eq_some_iff.1 hρ).1
          omega)
        have : v2 = [] := List.eq_nil_of_length_eq_zero h2.1.symm
        subst this
        exact ⟨v1, h1, by simp [keyW], by simp⟩
      · cases hk
    · cases hk
  · split at hk
    · rename_i T x
      split at hk
      · rename_i e
        subst e
        simp only [Option.some.injEq] at hk
        subst hk
        cases hl with
        | d hv => exact ⟨[u], hv, rfl, fun _ => rfl⟩
      · cases hk
    · cases hk

theorem map_of (H : HR base w ρ h) {r : Nat} {u : Value} (hl : LR w ρ h K0 (.mp r) u) {ex ag : Bool} {A B : Ty} {es : List (A.D × B.D)} (hr : h[r]? = some (.map ex ag A B es)) :
    ∃ b arr clock ds, u = .map (some b) ∧ ρ[r]? = some (.blk b) ∧ base ≤ b ∧ w.heap[b]? = some (.map arr clock) ∧ A.key = true ∧ B.prim = true ∧ Ents w (XO ρ h) ag A B ds arr.toList ∧ (∀ e ∈ arr.toList, e.born < clock) ∧ (arr.toList.map (·.born)).Nodup ∧ (∀ k, mget A B ds k = mget A B es k) ∧ (ex = true → ds = es) := by
  obtain ⟨b, arr, clock, ds, h1, h2⟩ := H.obj r _ hr
  cases hl with
  | mp hm =>
    obtain ⟨b', hb', rfl⟩ := (hm id).2 ex ag A B es hr
    rw [h1] at hb'
    simp only [Option.some.injEq, RV.blk.injEq] at hb'
    subst hb'
    exact ⟨b, arr, clock, ds, rfl, h1, h2⟩

theorem sound_mlook (R : Rel base w0 ρ0 h0 ρ s a w) (hg : GH gd a) {ag : Bool} {A B : Ty} {m x : AX} {y y' : Operand} {t : TypeId} (ho : o.op = .lookup t y y' false) (ht : mapOk P t ag A B = true) (hx : okX m y = true) (hx' : okX x y' = true)
    (hp : CV.map2 (m.get gd s) (x.get gd s) (lookV ag A B s.h) = some (true, v)) : Sound P o a w ρ s.h v := by
  replace hp := map2_some hp
  obtain ⟨hc, hc', hp⟩ := hp
  have hl := R.get hg hx hc
  have hl' := R.get hg hx' hc'
  unfold lookV at hp
  split at hp
  · rename_i r hm
    rw [hm] at hl
    split at hp
    · rename_i ex ag' A' B' es hr
      split at hp
      · rename_i e
        obtain ⟨rfl, rfl, rfl⟩ := e
        split at hp
        · rename_i k hk
          simp only [Option.some.injEq, Prod.mk.injEq, true_and] at hp
          subst hp
          obtain ⟨b, arr, clock, ds, e1, h1, h2, h3, h4, h5, h6, h7, h8, h9, h10⟩ := map_of R.hp hl hr
          obtain ⟨u, hu, hv⟩ := run_lookup ht h3 h6 (key_of R.hp hl' hk)
          rw [h9] at hv
          exact .same (by unfold execOp; simp only [ho]; exact run_v (by rw [e1]; exact hu)) (.d hv)
        · cases hp
      · cases hp
    · cases hp
  · cases hp

theorem run_len_map {t ty : TypeId} {kt et : TypeId} (ht : P.underlying t = some (.map kt et)) {b clock : Nat} {arr : Array MapEntry} (hb : w.heap[b]? = some (.map arr clock)) : (Builtin.len_ #[t] ty #[.map (some b)]).run P w = .ok (.int .i64 arr.size) w := by
  simp [Builtin.len_, run_underlying ht, MapKept.run_getObj_map hb, goInt, Result.andThen]
def mapT (P : Program) (t : TypeId) : Bool := match P.underlying t with
  | some (.map _ _) => true
  | _ => false
theorem sound_mlen (R : Rel base w0 ρ0 h0 ρ s a w) (hg : GH gd a) {x : AX} {y : Operand} {t : TypeId} (ho : o.op = .call { callee := .builtin .len, args := #[y], argTypes := #[t] }) (ht : mapT P t = true) (hx : okX x y = true)
    (hp : CV.map1 (x.get gd s) (fun m => CV.sure (mlenV s.h m)) = some (true, v)) : Sound P o a w ρ s.h v := by
  obtain ⟨hc, hp⟩ := map1_some hp
  have hl := R.get hg hx hc
  unfold CV.sure at hp
  split at hp
  · rename_i v' hv
    simp only [Option.some.injEq, Prod.mk.injEq, true_and] at hp
    subst hp
    unfold mlenV at hv
    split at hv
    · rename_i r hm
      rw [hm] at hl
      split at hv
      · rename_i ag A B es hr
        simp only [Option.some.injEq] at hv
        subst hv
        obtain ⟨b, arr, clock, ds, e1, h1, h2, h3, h4, h5, h6, h7, h8, h9, h10⟩ := map_of R.hp hl hr
        have e2 := h10 rfl
        subst e2
        unfold mapT at ht
        split at ht
        · rename_i kt et hu
          have hl : ds.length = arr.size := by have := h6.len; simpa using this
          rw [hl]
          exact .same (exec_builtin1 (f := Builtin.len_) ho (fun _ _ _ => rfl) (by rw [e1]; exact run_len_map hu h3)) (lr_int _ _)
        · cases ht
      · cases hv
    · cases hv
  · cases hp

theorem run_makeMap0 {t : TypeId} : (Instr.makeMap t none).run P w = .ok (.map (some w.heap.size)) (w.alloc (.map #[] 0)) := by
  rfl

theorem heavy_mkmap (R : Rel base w0 ρ0 h0 ρ s a w) {t : TypeId} {ex ag : Bool} {A B : Ty} (ho : o.op = .makeMap t none) (ht : mapOk P t ag A B = true) :
    Heavy P o a w base w0 ρ0 h0 ⟨s.t, s.h ++ [.map ex ag A B []], s.k, s.b, s.g⟩ (.mp s.h.length) := by
  obtain ⟨kt, et, _, hk, hv⟩ := of_mapOk ht
  obtain ⟨_, _, hK, _⟩ := of_keyOk hk
  obtain ⟨_, _, _, hB⟩ := of_valOk (w := w) (X := fun _ => False) hv
  have hb : Below w.heap.size w (w.alloc (.map #[] 0)) := (Below.refl _ w).alloc (Nat.le_refl _) _
  have hrv : ∀ b, (RV.blk w.heap.size).block = some b → w.heap.size ≤ b := fun b hb => by simp only [RV.block, Option.some.injEq] at hb; omega
  have hρ : (ρ ++ [RV.blk w.heap.size])[s.h.length]? = some (.blk w.heap.size) := by rw [← R.hp.len]; simp
  refine Gives.run (by unfold execOp; simp only [ho]; exact run_v run_makeMap0) ⟨_, R.new hb hrv ⟨w.heap.size, #[], 0, [], hρ, R.hp.base_le, heap_alloc_new w _, hK, hB, trivial, by simp, by simp, fun _ => rfl, fun _ => rfl⟩, .mp fun _ => ⟨by simp, fun ex' ag' A' B' es _ => ⟨_, hρ, rfl⟩⟩⟩

omit [Ban] in
theorem grownBy_setBlock {b : Nat} {ob ob' : Obj} (hb : w.heap[b]? = some ob) : w.grownBy (ChangeMaps.setBlock w b ob') (some b) :=
  ⟨rfl, rfl, rfl, by simp [ChangeMaps.setBlock], fun k _ hk => (MapKept.heap_set hb).2 k (fun e => hk (by rw [e]))⟩

/-- A map's block is written. -/
theorem HR.setMap (H : HR base w ρ h) {r b clock clock' : Nat} {ex ag : Bool} {A B : Ty} {es es' ds' : List (A.D × B.D)} {arr arr' : Array MapEntry} (hr : h[r]? = some (.map ex ag A B es)) (hρ : ρ[r]? = some (.blk b)) (hb : w.heap[b]? = some (.map arr clock))
    (he : Ents w (XO ρ h) ag A B ds' arr'.toList) (hlt : ∀ e ∈ arr'.toList, e.born < clock') (hnd : (arr'.toList.map (·.born)).Nodup) (hf : ∀ k, mget A B ds' k = mget A B es' k) (hex : ex = true → ds' = es') :
    HR base (ChangeMaps.setBlock w b (.map arr' clock')) ρ (setNth h r (.map ex ag A B es')) ∧ Evo h.length [] w ρ h (ChangeMaps.setBlock w b (.map arr' clock')) ρ (setNth h r (.map ex ag A B es')) := by
  have hg := grownBy_setBlock (w := w) (ob' := .map arr' clock') hb
  have hal : (AObj.map ex ag A B es).alike (.map ex ag A B es') := ⟨fun _ h => (by cases h), fun _ _ h => (by cases h), fun _ _ _ _ _ h => (by cases h; exact ⟨es, rfl⟩)⟩
  have hs := setNth_same hρ
  have e : Evo h.length [] w ρ h (ChangeMaps.setBlock w b (.map arr' clock')) ρ (setNth h r (.map ex ag A B es')) := by
    have := Evo.chg (ks := []) (o' := .map ex ag A B es') hr rfl hρ hg (fun b hb => .inl hb) (.inr ⟨rfl, hal⟩)
    rwa [hs] at this
  obtain ⟨b', _, _, _, hρ', hbase, _, hK, hB, _⟩ := H.obj r _ hr
  have eb : b' = b := by rw [hρ] at hρ'; simpa using hρ'.symm
  subst eb
  have H' : HR base (ChangeMaps.setBlock w b' (.map arr' clock')) (setNth ρ r (.blk b')) (setNth h r (.map ex ag A B es')) :=
    H.chg (f := id) hr rfl hρ hg (fun b hb => .inl hb) _ (map_turn_id _).symm (by rw [hs]; exact e.keeps) (fun c v hl => by rw [hs]; exact hl.evo0 e)
      (by rw [hs, AObj.turn_id]; exact ⟨b', arr', clock', ds', hρ, hbase, (MapKept.heap_set hb).1, hK, hB, he.move e.keeps, hlt, hnd, hf, hex⟩)
  rw [hs] at H'
  exact ⟨H', e⟩
theorem Rel.move (R : Rel base w0 ρ0 h0 ρ s a w) {h' : AHeap} (H : HR base w' ρ h') (e : Evo s.h.length [] w ρ s.h w' ρ h') : Rel base w0 ρ0 h0 ρ ⟨s.t, h', s.k, s.b, s.g⟩ a w' :=
  ⟨R.tl, fun i c v hc hv => (R.tm i c v hc hv).evo0 e, R.df, H, R.ev.trans e R.ev.len (fun r _ h => h.elim id (by simp)), R.b0, R.op⟩

/-- What stands behind msetH. -/
theorem msetH_some {apart ag : Bool} {A B : Ty} {m x v : AV} {h h' : AHeap} (he : msetH apart ag A B h m x v = some h') :
    ∃ r ex es k y, m = .mp r ∧ h[r]? = some (.map ex ag A B es) ∧ keyV ag A x = some k ∧ asD h B v = some y ∧ (apart && ex) = false ∧ h' = setNth h r (.map ex ag A B (mput A B es k y)) := by
  unfold msetH at he
  split at he
  · rename_i r
    split at he
    · rename_i ex ag' A' B' es hr
      split at he
      · rename_i e
        obtain ⟨rfl, rfl, rfl⟩ := e
        split at he
        · rename_i k y hk hy
          split at he
          · cases he
          · rename_i hae
            simp only [Option.some.injEq] at he
            exact ⟨r, ex, es, k, y, rfl, hr, hk, hy, hae, he.symm⟩
        · cases he
      · cases he
    · cases he
  · cases he

theorem val_vr (H : HR base w ρ h) {B : Ty} (hB : B.prim = true) {c : AV} {u : Value} {y : B.D} (hl : LR w ρ h K0 c u) (hy : asD h B c = some y) : VR w (XO ρ h) B y [u] := by
  refine lr_asD_prim (fun U e => ?_) hl hy
  subst e
  simp [Ty.prim] at hB

theorem heavy_mset (R : Rel base w0 ρ0 h0 ρ s a w) (hg : GH gd a) {ag : Bool} {A B : Ty} {m x v : AX} {y y' y'' : Operand} {t : TypeId} (ho : o.op = .mapUpdate t y y' y'') (ht : mapOk P t ag A B = true) (hm : okX m y = true) (hx : okX x y' = true) (hv : okX v y'' = true)
    (c1 : (m.get gd s).1 = true) (c2 : (x.get gd s).1 = true) (c3 : (v.get gd s).1 = true) {h' : AHeap} (he : msetH false ag A B s.h (m.get gd s).2 (x.get gd s).2 (v.get gd s).2 = some h') :
    Heavy P o a w base w0 ρ0 h0 ⟨s.t, h', s.k, s.b, s.g⟩ .any := by
  obtain ⟨r, ex, es, k, z, e1, hr, hk, hz, _, rfl⟩ := msetH_some he
  have l1 := R.get hg hm c1
  have l2 := R.get hg hx c2
  have l3 := R.get hg hv c3
  rw [e1] at l1
  obtain ⟨b, arr, clock, ds, e2, h1, h2, h3, h4, h5, h6, h7, h8, h9, h10⟩ := map_of R.hp l1 hr
  obtain ⟨arr', clock', hrun, g1, g2, g3⟩ := run_update ht h3 h6 (key_of R.hp l2 hk) (val_vr R.hp h5 l3 hz) h7 h8
  obtain ⟨H, e⟩ := R.hp.setMap hr h1 h3 (es' := mput A B es k z) g1 g2 g3 (fun q => by rw [mget_mput h4, mget_mput h4, h9]) (fun hx => by rw [h10 hx])
  have hex : (execOp a.eval o).run P w = .ok .skip (ChangeMaps.setBlock w b (.map arr' clock')) := by
    unfold execOp
    simp only [ho]
    rw [← e2] at hrun
    simp [hrun]
  intro next Q hn
  unfold Oper.wp
  rw [hex]
  exact hn undef _ ⟨ρ, R.move H e, .any⟩
end
end Go.Tw
