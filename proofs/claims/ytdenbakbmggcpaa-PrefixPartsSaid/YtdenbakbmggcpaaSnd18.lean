/- Operations that write blocks: appends, copies, cuts; indexes into arrays. -/
import Derived.Test.YtdenbakbmggcpaaSnd17
set_option linter.unusedVariables false
set_option linter.unusedSectionVars false
set_option linter.unusedSimpArgs false
namespace Go.Tw
open Go.RowKit

section
variable [Ban] {base : Nat} {w0 : World} {ρ0 : List RV} {h0 : AHeap} {ρ : List RV} {s s1 : St} {a : Act} {w w' : World} {P : Program} {gd : Option (Nat × Bool)} {o : Oper} {v : AV} {h : AHeap} {K : Nat → Prop}

omit [Ban] in
/-- There is room: the row is written in place, whatever its cells' kind is called. -/
theorem run_app_room {t ty e e' : TypeId} {ie : TypeInfo} (ht : P.underlying t = some (.slice e)) (hi : P.info? e = some ie) {g n cap : Nat} {cur : Array Value} (hg : w.heap[g]? = some (.cells cur e' (0, 0)))
    {ad : Addr} {m c : Nat} {us : List Value} (hl : us.length = m * ie.size) (hnews : ∀ (j : Nat) (u : Value), us[j]? = some u → w.cell? (ad.add j) = some u) (h1 : ∀ u ∈ us, u.oneCell' = true) (hroom : n + m ≤ cap) (hfit : n * ie.size + us.length ≤ cur.size) :
    (Builtin.append_ #[t, t] ty #[.slice (some ⟨g, 0, none⟩) n cap, .slice (some ad) m c]).run P w = .ok (.slice (some ⟨g, 0, none⟩) (n + m) cap) (w.setRow g (splice cur.toList (n * ie.size) us).toArray) := by
  have hf := run_firstCells_some (P := P) w ie.size m ad m c us hl hnews
  have hst := run_storeCells_at P g (n * ie.size) e' us 0 cur w hg (by simpa using hfit) h1
  simp only [Nat.add_zero] at hst
  simp [Builtin.append_, run_underlying ht, sizeOf, typeInfo, hi, Builtin.lenOf, hroom, hf, Addr.add_lit, hst, splice]

omit [Ban] in
/-- What is appended to what the call owns. -/
theorem run_app {t ty e e0 : TypeId} {ie : TypeInfo} {z : Value} {T : Ty} {lim : Nat} (ht : P.underlying t = some (.slice e)) (hi : P.info? e = some ie) (hz : ie.zero = some z) (hsz : ie.size = T.size) (hzs : z.cells.size = T.size) (hpos : 0 < T.size) (hlim : lim * ie.bytes ≤ 140737488355328) (hlm : lim ≤ maxLen)
    {u : Value} {n : Nat} {xs : List Value} (hown : w.ownsRow base e0 T.size u n xs) {zs : List T.D} {A : Option Addr} {c : Nat} {us : List Value} {X : Nat → Prop} (hc : Cells w X T zs A us) (hle : n + zs.length ≤ lim) (hbase : base ≤ w.heap.size) :
    ∃ v' w' e', (Builtin.append_ #[t, t] ty #[u, .slice A zs.length c]).run P w = .ok v' w' ∧ w'.ownsRow base e' T.size v' (n + zs.length) (xs ++ us) ∧ w.grownBy w' u.ownBlock ∧ (v'.ownBlock = u.ownBlock ∨ v'.ownBlock = some w.heap.size) := by
  by_cases h0 : zs.length = 0
  · have : zs = [] := List.eq_nil_of_length_eq_zero h0
    subst this
    have hus : us = [] := List.eq_nil_of_length_eq_zero (by rw [hc.len]; simp)
    subst hus
    obtain ⟨B, cap, rfl, hcap⟩ : ∃ B cap, u = .slice B n cap ∧ n ≤ cap := by
      rcases hown.2 with ⟨rfl, rfl⟩ | ⟨g, cap, cur, rfl, _, _, h, _⟩
      · exact ⟨none, 0, rfl, Nat.le_refl _⟩
      · exact ⟨_, cap, rfl, h⟩
    exact ⟨_, w, e0, run_append_zero ht hi B A n cap c hcap, by simpa using hown, ⟨rfl, rfl, rfl, Nat.le_refl _, fun _ _ _ => rfl⟩, .inl rfl⟩
  · obtain ⟨ad, rfl, hcell⟩ := hc.at_ (by omega)
    have hby : (n + zs.length) * ie.bytes ≤ 140737488355328 := Nat.le_trans (Nat.mul_le_mul_right _ hle) hlim
    rcases hown.2 with ⟨rfl, rfl⟩ | ⟨g, cap, cur, rfl, hbg, hg, hnc, hcm, hcs, htake⟩
    · have hx : xs = [] := List.eq_nil_of_length_eq_zero (by simpa using hown.1)
      subst hx
      obtain ⟨v', w', h1, h2, h3, _, h4⟩ := run_append_own_at (P := P) w base t ty e ie z T.size ie.bytes ht hi hz hsz rfl hzs hpos (.slice none 0 0) 0 [] (w.ownsRow_nil base e T.size) ad zs.length c us hc.len hcell hc.one (by omega) hby hbase
      exact ⟨v', w', e, h1, h2, h3, h4⟩
    · have hlen : (xs ++ us).length = (n + zs.length) * T.size := by rw [List.length_append, hown.1, hc.len, Nat.add_mul]
      have hnl : n * T.size ≤ cap * T.size := Nat.mul_le_mul_right _ hnc
      by_cases hroom : n + zs.length ≤ cap
      · have hrl : (n + zs.length) * T.size ≤ cap * T.size := Nat.mul_le_mul_right _ hroom
        have hfit : n * T.size + us.length ≤ cur.size := by rw [hc.len, hcs, ← Nat.add_mul]; exact hrl
        have hr := run_app_room (P := P) (w := w) (ty := ty) (c := c) ht hi hg (by rw [hsz]; exact hc.len) hcell hc.one hroom (by rw [hsz]; exact hfit)
        refine ⟨_, _, e0, hr, ⟨hlen, .inr ⟨g, cap, _, rfl, hbg, setRow_heap w g cur _ e0 _ hg, hroom, hcm, ?_, ?_⟩⟩, grownBy_setRow w g _, .inl rfl⟩
        · rw [List.size_toArray, splice_len (by rw [hsz]; simpa using hfit)]; simpa using hcs
        · rw [hsz]
          have h1 : (n + zs.length) * T.size = n * T.size + us.length := by rw [hc.len, Nat.add_mul]
          rw [h1, splice_take (Nat.le_refl _) (by simpa using hfit)]
          unfold splice
          rw [List.take_take, Nat.min_eq_left (by omega), htake, List.drop_of_length_le (by rw [List.length_take]; omega), List.append_nil]
      · have holds : ∀ (j : Nat) (x : Value), xs[j]? = some x → w.cell? ((⟨g, 0, none⟩ : Addr).add j) = some x := hown.cells (g := g) rfl
        have hr := run_append_grow (P := P) w t ty e ie z ht hi hz ⟨g, 0, none⟩ n cap xs (by rw [hsz]; exact hown.1) holds ad zs.length c us (by rw [hsz]; exact hc.len) hcell (by omega) (by simp only [maxLen] at hlm; omega) (growslice_fits (by omega) hby)
        have hge := grownCap_ge w (n + zs.length) cap e
        have hcm' : grownCap w (n + zs.length) cap e ≤ maxLen := grownCap_le_maxLen w (n + zs.length) cap e (by omega)
        refine ⟨_, _, e, hr, ⟨hlen, .inr ⟨w.heap.size, _, _, rfl, hbase, heap_alloc_new w.drew _, hge, hcm', ?_, ?_⟩⟩, ⟨rfl, rfl, rfl, by simp, fun k hk _ => Below.heap_alloc w.drew _ k hk⟩, .inr rfl⟩
        · simp only [Array.size_append, List.size_toArray, size_zeroCells, hzs, hown.1, hc.len, ← Nat.add_mul]
          congr 1
          omega
        · simp only [Array.toList_append, List.append_assoc]
          rw [← List.append_assoc, ← hlen]
          exact List.take_left

theorem heavy_app_nil (R : Rel base w0 ρ0 h0 ρ s a w) (hg : GH gd a) {T : Ty} {l x : AX} {y y' : Operand} {t t' : TypeId} {lim : Nat} (ho : o.op = .call { callee := .builtin .append, args := #[y, y'], argTypes := #[t, t'] }) (hok : appOk P t t' T.size lim = true) (hx : okX l y = true) (hx' : okX x y' = true)
    (hc : (l.get gd s).1 = true) (hc' : (x.get gd s).1 = true) {zs : List T.D} (hzs : listOf s.h T (x.get gd s).2 = some zs) {U : Ty} (hl : (l.get gd s).2 = .nil U) (hle : zs.length ≤ lim) :
    Heavy P o a w base w0 ρ0 h0 ⟨s.t, s.h ++ [.row T zs], s.k, s.b, s.g⟩ (.own s.h.length) := by
  obtain ⟨rfl, e, ie, z, ht, hi, hz, hsz, hzc, hpos, hlim, hlm⟩ := appOk_out hok
  have h1 := R.get hg hx hc
  obtain ⟨A, c, us, hu, hm, hcap, hcz⟩ := lr_list R.hp (R.get hg hx' hc') hzs
  rw [hl] at h1
  generalize hyv : a.eval y = yv at *
  cases h1
  obtain ⟨v', w', e', hr, hown, hgr, hat⟩ := run_app (P := P) (w := w) (base := base) (c := c) (ty := o.type) ht hi hz hsz hzc hpos hlim hlm (w.ownsRow_nil base e T.size) hcz (by simpa using hle) R.hp.base_le
  have hb : Below w.heap.size w w' := (Below.refl _ w).grown hgr (Nat.le_refl _) (fun _ h => by cases h)
  refine Gives.run (exec_builtin2 (f := Builtin.append_) ho (fun _ _ _ => rfl) (by rw [hyv, hu]; exact hr)) ?_
  refine R.newRow hb hpos (by simpa using hown) (fun b hb => ?_) (by omega) (by simpa using hcz.els)
  rcases hat with h | h
  · rw [h] at hb; cases hb
  · rw [h] at hb; simp only [Option.some.injEq] at hb; omega

theorem heavy_app_own (R : Rel base w0 ρ0 h0 ρ s a w) (hg : GH gd a) {T : Ty} {l x : AX} {y y' : Operand} {t t' : TypeId} {lim : Nat} (ho : o.op = .call { callee := .builtin .append, args := #[y, y'], argTypes := #[t, t'] }) (hok : appOk P t t' T.size lim = true) (hx : okX l y = true) (hx' : okX x y' = true)
    (hc : (l.get gd s).1 = true) (hc' : (x.get gd s).1 = true) {zs ys : List T.D} (hzs : listOf s.h T (x.get gd s).2 = some zs) {r : Nat} (hl : (l.get gd s).2 = .own r) (hr : s.h[r]? = some (.row T ys)) (hle : ys.length + zs.length ≤ lim) :
    Heavy P o a w base w0 ρ0 h0 (St.kill ⟨s.t, setNth s.h r (.row T (ys ++ zs)), s.k, s.b, s.g⟩ r) (.own r) := by
  obtain ⟨rfl, e', ie, z, ht, hi, hz, hsz, hzc, hpos, hlim, hlm⟩ := appOk_out hok
  have h1 := R.get hg hx hc
  obtain ⟨A, c, us, hu, hm, hcap, hcz⟩ := lr_list R.hp (R.get hg hx' hc') hzs
  rw [hl] at h1
  cases h1 with
  | own hb =>
    obtain ⟨hlt, hb⟩ := hb id
    have hρ := hb T ys hr
    obtain ⟨_, v0, e, xs, hρ', hown, hone, hml, hel⟩ := R.hp.obj r _ hr
    obtain rfl : v0 = a.eval y := by rw [hρ] at hρ'; simpa using hρ'.symm
    have hels : Els w (XO ρ s.h) T ys xs := ⟨hown.1, hone, hel⟩
    obtain ⟨v', w', e2, hrun, hown', hgr, hat⟩ := run_app (P := P) (w := w) (base := base) (c := c) (ty := o.type) ht hi hz hsz hzc hpos hlim hlm hown hcz hle R.hp.base_le
    refine Gives.run (exec_builtin2 (f := Builtin.append_) ho (fun _ _ _ => rfl) (by rw [hu]; exact hrun)) ?_
    have hbk : ∀ b, (RV.sl v').block = some b → (RV.sl (a.eval y)).block = some b ∨ w.heap.size ≤ b := fun b hb => by
      simp only [RV.block] at hb ⊢
      rcases hat with h | h
      · exact .inl (by rw [← h]; exact hb)
      · rw [h] at hb; simp only [Option.some.injEq] at hb; exact .inr (by omega)
    have ev := Evo.chg (ks := [r]) (o' := .row T (ys ++ zs)) hr rfl hρ hgr hbk (.inl (by simp))
    have hρn : (setNth ρ r (RV.sl v'))[r]? = some (.sl v') := by rw [setNth_get, if_pos rfl, if_pos (by rw [R.hp.len]; exact hlt)]
    refine ⟨_, R.chg1 hr rfl hρ hgr hbk fun h2 hx => ⟨hpos, v', e2, xs ++ us, hρn, by simpa using hown', fun u hu => (List.mem_append.1 hu).elim (hone u) (hcz.one u), by simp only [List.length_append]; omega, fun i y hy => ?_⟩, .own fun _ => ⟨by simpa [St.kill, setNth_len] using hlt, fun U zs _ => hρn⟩⟩
    exact (((hels.append hcz.els).el i y hy).move ev.keeps).less fun b hb => (hx b).1 hb

theorem heavy_app_fr (R : Rel base w0 ρ0 h0 ρ s a w) (hg : GH gd a) {T : Ty} {l x : AX} {y y' : Operand} {t t' : TypeId} {lim : Nat} (ho : o.op = .call { callee := .builtin .append, args := #[y, y'], argTypes := #[t, t'] }) (hok : appOk P t t' T.size lim = true) (hx : okX l y = true) (hx' : okX x y' = true)
    (hc : (l.get gd s).1 = true) (hc' : (x.get gd s).1 = true) {zs ys : List T.D} (hzs : listOf s.h T (x.get gd s).2 = some zs) (hl : (l.get gd s).2 = .fr T ys) (h0' : 0 < zs.length) (hle : ys.length + zs.length ≤ lim) :
    Heavy P o a w base w0 ρ0 h0 ⟨s.t, s.h ++ [.row T (ys ++ zs)], s.k, s.b, s.g⟩ (.own s.h.length) := by
  obtain ⟨rfl, e, ie, z, ht, hi, hz, hsz, hzc, hpos, hlim, hlm⟩ := appOk_out hok
  have h1 := R.get hg hx hc
  obtain ⟨A, c, us, hu, hm, hcap, hcz⟩ := lr_list R.hp (R.get hg hx' hc') hzs
  rw [hl] at h1
  generalize hyv : a.eval y = yv at *
  cases h1 with
  | @fr _ _ B hv =>
    obtain ⟨_, hm', _, xs, hcy⟩ := hv.cells
    obtain ⟨ad, rfl, hcell⟩ := hcz.at_ h0'
    have hby : (ys.length + zs.length) * ie.bytes ≤ 140737488355328 := Nat.le_trans (Nat.mul_le_mul_right _ hle) hlim
    by_cases hB : B = none
    · subst hB
      have h1 : ys.length = 0 := by
        rcases Nat.eq_zero_or_pos ys.length with h | h
        · exact h
        · obtain ⟨_, h, _⟩ := hcy.at_ h; cases h
      have hys : ys = [] := List.eq_nil_of_length_eq_zero h1
      subst hys
      obtain ⟨v', w', e', hr, hown, hgr, hat⟩ := run_app (P := P) (w := w) (base := base) (c := c) (ty := o.type) ht hi hz hsz hzc hpos hlim hlm (w.ownsRow_nil base e T.size) hcz (by simpa using hle) R.hp.base_le
      have hb : Below w.heap.size w w' := (Below.refl _ w).grown hgr (Nat.le_refl _) (fun _ h => by cases h)
      refine Gives.run (exec_builtin2 (f := Builtin.append_) ho (fun _ _ _ => rfl) (by rw [hyv, hu]; exact hr)) ?_
      refine R.newRow hb hpos (by simpa using hown) (fun b hb => ?_) (by simp only [List.nil_append]; omega) (by simpa using hcz.els)
      rcases hat with h | h
      · rw [h] at hb; cases hb
      · rw [h] at hb; simp only [Option.some.injEq] at hb; omega
    · obtain ⟨b, rfl⟩ : ∃ b, B = some b := by cases B with | none => exact absurd rfl hB | some b => exact ⟨b, rfl⟩
      have hcyc : ∀ (j : Nat) (u : Value), xs[j]? = some u → w.cell? (b.add j) = some u := by
        intro j u hu
        rcases Nat.eq_zero_or_pos ys.length with h | h
        · have hxl := hcy.len
          rw [h, Nat.zero_mul] at hxl
          have : xs = [] := List.eq_nil_of_length_eq_zero hxl
          subst this
          simp at hu
        · obtain ⟨b', hb', hc'⟩ := hcy.at_ h
          simp only [Option.some.injEq] at hb'
          subst hb'
          exact hc' j u hu
      have hr := run_append_grow (P := P) w t o.type e ie z ht hi hz b ys.length ys.length xs (by rw [hcy.len, hsz]) hcyc ad zs.length c us (by rw [hcz.len, hsz]) hcell (by omega) (by simp only [maxLen] at hlm; omega) (growslice_fits (by omega) hby)
      refine Gives.run (exec_builtin2 (f := Builtin.append_) ho (fun _ _ _ => rfl) (by rw [hyv, hu]; exact hr)) ?_
      have hge := grownCap_ge w (ys.length + zs.length) ys.length e
      have hcm' : grownCap w (ys.length + zs.length) ys.length e ≤ maxLen := grownCap_le_maxLen w (ys.length + zs.length) ys.length e (by omega)
      have hlen : (xs ++ us).length = (ys.length + zs.length) * T.size := by rw [List.length_append, hcy.len, hcz.len, Nat.add_mul]
      refine R.newRow (xs := xs ++ us) (((Below.refl _ w).drew).alloc (Nat.le_refl _) _) hpos (e := e) ⟨by rw [hlen, List.length_append], .inr ⟨w.heap.size, _, _, by rw [List.length_append], R.hp.base_le, heap_alloc_new w.drew _, by rw [List.length_append]; exact hge, hcm', ?_, ?_⟩⟩ (fun b hb => by simp only [Value.ownBlock, Option.some.injEq] at hb; omega) (by rw [List.length_append]; omega) (hcy.els.append hcz.els)
      · simp only [Array.size_append, List.size_toArray, size_zeroCells, hzc, hcy.len, hcz.len, ← Nat.add_mul]
        congr 1
        omega
      · simp only [Array.toList_append, List.append_assoc]
        rw [← List.append_assoc, List.length_append, ← hlen]
        exact List.take_left

/-! ### copies -/
theorem run_copy_own {t t' ty e : TypeId} {n : Nat} (ht : P.underlying t = some (.slice e)) (hs : sizeT P e = some n) {g q dLen dCap sLen c : Nat} {cur : Array Value} {e' : TypeId} (hg : w.heap[g]? = some (.cells cur e' (0, 0))) {A : Option Addr} {cs : List Value} (hn : cs.length = Nat.min sLen dLen * n)
    (hsrc : 0 < cs.length → ∃ ad, A = some ad ∧ ∀ (j : Nat) (u : Value), cs[j]? = some u → w.cell? (ad.add j) = some u) (hA : A = none → Nat.min sLen dLen * n = 0) (hfit : cs.length ≤ cur.size) (h1 : ∀ v ∈ cs, v.oneCell' = true) :
    (Builtin.copy_ #[t, t'] ty #[.slice (some ⟨g, 0, none⟩) dLen dCap, .slice A sLen c]).run P w = .ok (goInt (Nat.min sLen dLen)) (w.setRow g (splice cur.toList 0 cs).toArray) := by
  have hst := run_storeCells_at P g 0 e' cs 0 cur w hg (by simpa using hfit) h1
  have hf : (Builtin.firstCells n (Nat.min sLen dLen) (.slice A sLen c)).run P w = .ok cs.toArray w := by
    by_cases h0 : cs.length = 0
    · have : cs = [] := List.eq_nil_of_length_eq_zero h0
      subst this
      cases A with
      | none => simp [Builtin.firstCells]
      | some ad => simp only [Builtin.firstCells]; rw [← hn]; simp [loadCells, loadCellsFrom]
    · obtain ⟨ad, rfl, hc⟩ := hsrc (by omega)
      exact run_firstCells_some w n _ ad sLen c cs hn hc
  simp only [Nat.add_zero] at hst
  simp [Builtin.copy_, run_underlying ht, Builtin.lenOf, run_sizeOf hs, hf, hst, splice]

def copyOk (P : Program) (t : TypeId) (n : Nat) : Bool := match elemT P t with
  | some e => sizeT P e == some n
  | none => false
theorem els_splice {X : Nat → Prop} {T : Ty} {ys zs : List T.D} {xs us : List Value} {n : Nat} (a : Els w X T ys xs) (b : Els w X T zs us) (hn : n = Nat.min zs.length ys.length) : Els w X T (zs.take ys.length ++ ys.drop zs.length) (splice xs 0 (us.take (n * T.size))) := by
  have hnz : n ≤ zs.length := by rw [hn]; exact Nat.min_le_left _ _
  have hny : n ≤ ys.length := by rw [hn]; exact Nat.min_le_right _ _
  have h1 := Nat.mul_le_mul_right T.size hnz
  have h2 := Nat.mul_le_mul_right T.size hny
  have e1 : zs.take ys.length = zs.take n := by
    rw [hn]
    rcases Nat.le_total zs.length ys.length with h | h
    · rw [show Nat.min zs.length ys.length = zs.length from Nat.min_eq_left h, List.take_of_length_le h, List.take_of_length_le (Nat.le_refl _)]
    · rw [show Nat.min zs.length ys.length = ys.length from Nat.min_eq_right h]
  have e2 : ys.drop zs.length = ys.drop n := by
    rw [hn]
    rcases Nat.le_total zs.length ys.length with h | h
    · rw [show Nat.min zs.length ys.length = zs.length from Nat.min_eq_left h]
    · rw [show Nat.min zs.length ys.length = ys.length from Nat.min_eq_right h, List.drop_of_length_le h, List.drop_of_length_le (Nat.le_refl _)]
  have hl : (us.take (n * T.size)).length = n * T.size := by rw [List.length_take, b.len]; omega
  have e3 : splice xs 0 (us.take (n * T.size)) = us.take (n * T.size) ++ xs.drop (n * T.size) := by
    unfold splice; rw [Nat.zero_add, hl]; simp
  rw [e1, e2, e3]
  refine Els.append ⟨by rw [hl, List.length_take]; congr 1; omega, fun u hu => b.one u (List.mem_of_mem_take hu), fun i y hy => ?_⟩ ⟨by rw [List.length_drop, List.length_drop, a.len, Nat.sub_mul], fun u hu => a.one u (List.mem_of_mem_drop hu), fun i y hy => ?_⟩
  · have hi : i < n := by have := (List.getElem?_eq_some_iff.1 hy).1; rw [List.length_take] at this; omega
    rw [List.getElem?_take_of_lt hi] at hy
    have := b.el i y hy
    have h3 := Nat.mul_le_mul_right T.size (show i + 1 ≤ n by omega)
    rw [Nat.add_mul, Nat.one_mul] at h3
    rw [List.drop_take, List.take_take, Nat.min_eq_left (by omega)]
    exact this
  · rw [List.getElem?_drop] at hy
    rw [List.drop_drop, ← Nat.add_mul]
    exact a.el _ y hy

theorem heavy_copy (R : Rel base w0 ρ0 h0 ρ s a w) (hg : GH gd a) {T : Ty} {d x : AX} {y y' : Operand} {t t' : TypeId} (ho : o.op = .call { callee := .builtin .copy, args := #[y, y'], argTypes := #[t, t'] }) (hok : copyOk P t T.size = true) (hx : okX d y = true) (hx' : okX x y' = true)
    (hc : (d.get gd s).1 = true) (hc' : (x.get gd s).1 = true) {zs ys : List T.D} (hzs : listOf s.h T (x.get gd s).2 = some zs) {r : Nat} (hl : (d.get gd s).2 = .own r) (hr : s.h[r]? = some (.row T ys)) :
    Heavy P o a w base w0 ρ0 h0 ⟨s.t, setNth s.h r (.row T (zs.take ys.length ++ ys.drop zs.length)), s.k, s.b, s.g⟩ (.d (.int .i64) ((Nat.min zs.length ys.length : Nat) : Int)) := by
  unfold copyOk at hok
  split at hok
  · rename_i e he
    have hs : sizeT P e = some T.size := by simpa using hok
    have ht := of_elemT he
    have h1 := R.get hg hx hc
    obtain ⟨A, c, us, hu, hm, hcap, hcz⟩ := lr_list R.hp (R.get hg hx' hc') hzs
    rw [hl] at h1
    cases h1 with
    | own hb =>
      obtain ⟨hlt, hb⟩ := hb id
      have hρ := hb T ys hr
      obtain ⟨hpos, v0, e', xs, hρ', hown, hone, hml, hel⟩ := R.hp.obj r _ hr
      obtain rfl : v0 = a.eval y := by rw [hρ] at hρ'; simpa using hρ'.symm
      have hels : Els w (XO ρ s.h) T ys xs := ⟨hown.1, hone, hel⟩
      have hlen : (zs.take ys.length ++ ys.drop zs.length).length = ys.length := by rw [List.length_append, List.length_take, List.length_drop]; omega
      have hal : (AObj.row T ys).alike (.row T (zs.take ys.length ++ ys.drop zs.length)) := ⟨fun _ h => (by cases h), (fun U zs h => (by cases h; exact ⟨ys, rfl, hlen.symm⟩)), fun _ _ _ _ _ h => (by cases h)⟩
      rcases hown.2 with ⟨hv, hn0⟩ | ⟨g, cap, cur, hv, hbg, hgg, hnc, hcm, hcs, htake⟩
      · have : ys = [] := List.eq_nil_of_length_eq_zero hn0
        subst this
        refine Gives.run (w' := w) (z := .int .i64 0) (exec_builtin2 (f := Builtin.copy_) ho (fun _ _ _ => rfl) ?_) ⟨ρ, ?_, ?_⟩
        · rw [hv, hu]
          have : Nat.min zs.length 0 = 0 := Nat.min_eq_right (Nat.zero_le _)
          cases A with
          | none => simp [Builtin.copy_, run_underlying ht, Builtin.lenOf, run_sizeOf hs, Builtin.firstCells, goInt]
          | some ad => simp [Builtin.copy_, run_underlying ht, Builtin.lenOf, run_sizeOf hs, Builtin.firstCells, loadCells, loadCellsFrom, goInt]
        · have := R.chg0 hr rfl hρ (World.grownBy.mk rfl rfl rfl (Nat.le_refl _) (fun _ _ _ => rfl) : w.grownBy w (RV.sl (a.eval y)).block) hal
          refine this ⟨hpos, _, e', xs, hρ, by rw [hlen]; exact hown, hone, by rw [hlen]; exact hml, fun i y hy => ?_⟩
          have := (List.getElem?_eq_some_iff.1 hy).1
          rw [hlen] at this
          simp at this
        · have : Nat.min zs.length 0 = 0 := Nat.min_eq_right (Nat.zero_le _)
          simp only [List.length_nil, this]
          exact lr_int _ _
      · generalize hnn : Nat.min zs.length ys.length = n
        have hnz : n ≤ zs.length := by rw [← hnn]; exact Nat.min_le_left _ _
        have hny : n ≤ ys.length := by rw [← hnn]; exact Nat.min_le_right _ _
        have m1 := Nat.mul_le_mul_right T.size hnz
        have m2 := Nat.mul_le_mul_right T.size hny
        have m3 := Nat.mul_le_mul_right T.size hnc
        have hxl : xs.length = ys.length * T.size := hown.1
        have hcl : (us.take (n * T.size)).length = n * T.size := by rw [List.length_take, hcz.len]; omega
        have hrun := run_copy_own (P := P) (w := w) (t' := t') (ty := o.type) (dLen := ys.length) (dCap := cap) (sLen := zs.length) (c := c) (A := A) (q := 0) ht hs hgg (cs := us.take (n * T.size)) (by rw [hcl, hnn]) (fun h0 => by
          obtain ⟨ad, h1, h2⟩ := hcz.at_ (by rw [hcl] at h0; exact (Nat.eq_zero_or_pos zs.length).elim (fun h => (by rw [h] at m1; omega)) id)
          exact ⟨ad, h1, fun j u hju => h2 j u (by
            by_cases hj : j < n * T.size
            · rwa [List.getElem?_take_of_lt hj] at hju
            · rw [List.getElem?_take_eq_none (by omega)] at hju; cases hju)⟩) (fun hA => by
          rw [hnn]
          rcases Nat.eq_zero_or_pos zs.length with h | h
          · have : n = 0 := by omega
            rw [this, Nat.zero_mul]
          · obtain ⟨ad, h1, _⟩ := hcz.at_ h; rw [hA] at h1; cases h1) (by rw [hcl]; omega) (fun u hu => hcz.one u (List.mem_of_mem_take hu))
        rw [hnn] at hrun
        have hgr : w.grownBy (w.setRow g (splice cur.toList 0 (us.take (n * T.size))).toArray) (RV.sl (a.eval y)).block := by
          rw [hv]; exact grownBy_setRow w g _
        have ev := Evo.chg (ks := []) (o' := .row T (zs.take ys.length ++ ys.drop zs.length)) hr rfl hρ hgr (fun b hb => .inl hb) (.inr ⟨rfl, hal⟩)
        rw [setNth_same hρ] at ev
        have hE := els_splice hels hcz.els hnn.symm
        refine Gives.run (exec_builtin2 (f := Builtin.copy_) ho (fun _ _ _ => rfl) (by rw [hv, hu]; exact hrun)) ⟨ρ, R.chg0 hr rfl hρ hgr hal ⟨hpos, _, e', splice xs 0 (us.take (n * T.size)), hρ, ?_, hE.one, by rw [hlen]; exact hml, fun i y hy => (hE.el i y hy).move ev.keeps⟩, lr_int _ _⟩
        rw [hlen, hv]
        refine ⟨?_, .inr ⟨g, cap, _, rfl, hbg, setRow_heap w g cur _ e' _ hgg, hnc, hcm, ?_, ?_⟩⟩
        · rw [splice_len (by rw [hcl]; omega)]; exact hxl
        · rw [List.size_toArray, splice_len (by rw [hcl, Array.length_toList]; omega)]; simpa using hcs
        · rw [← htake]
          exact splice_take (by rw [hcl]; omega) (by simp only [Array.length_toList]; omega)
  · cases hok

/-! ### cuts -/
theorem heavy_trunc (R : Rel base w0 ρ0 h0 ρ s a w) (hg : GH gd a) {x n : AX} {y y' : Operand} {t : TypeId} (ho : o.op = .slice t y none (some y') none) (hx : okX x y = true) (hx' : okX n y' = true)
    (hc : (x.get gd s).1 = true) (hc' : (n.get gd s).1 = true) {T : Ty} (ht : slcOk P t T.size = true) {ys : List T.D} {r : Nat} (hl : (x.get gd s).2 = .own r) (hr : s.h[r]? = some (.row T ys)) {k : IntKind} {m : Int} (hm : (n.get gd s).2 = .d (.int k) m) (h0' : 0 ≤ m) (h1 : m ≤ (ys.length : Int)) :
    Heavy P o a w base w0 ρ0 h0 (St.kill ⟨s.t, setNth s.h r (.row T (ys.take m.toNat)), s.k, s.b, s.g⟩ r) (.own r) := by
  unfold slcOk at ht
  split at ht
  · rename_i e he
    have hs : sizeT P e = some T.size := by simpa using ht
    have hu := of_elemT he
    have hel : P.elem t = e := by simp [Program.elem, hu]
    have hu' : P.underlying t = some (.slice (P.elem t)) := by rw [hel]; exact hu
    have hv := R.get hg hx hc
    have hn := R.get hg hx' hc'
    rw [hl] at hv
    rw [hm] at hn
    cases hv with
    | own hb =>
      obtain ⟨hlt, hb⟩ := hb id
      have hρ := hb T ys hr
      obtain ⟨hpos, v0, e', xs, hρ', hown, hone, hml, hel'⟩ := R.hp.obj r _ hr
      obtain rfl : v0 = a.eval y := by rw [hρ] at hρ'; simpa using hρ'.symm
      obtain ⟨j, rfl⟩ : ∃ j : Nat, m = j := ⟨m.toNat, by omega⟩
      have hj : j ≤ ys.length := by omega
      have mj := Nat.mul_le_mul_right T.size hj
      have hxl : xs.length = ys.length * T.size := hown.1
      have key : ∃ v', (Instr.sliceAt t (a.eval y) none (some (.int k (j : Int))) none).run P w = .ok v' w ∧ v'.ownBlock = (a.eval y).ownBlock ∧ w.ownsRow base e' T.size v' j (xs.take (j * T.size)) := by
        rcases hown.2 with ⟨hv, hn0⟩ | ⟨g, cap, cur, hv, hbg, hgg, hnc, hcm, hcs, htake⟩
        · have hj0 : j = 0 := by omega
          subst hj0
          refine ⟨.slice none 0 0, ?_, by rw [hv], by simpa using w.ownsRow_nil base e' T.size⟩
          rw [run_sliceAt_slice w t _ none _ none hu', hv, run_slice_h w t none 0 0 hu' k ((0 : Nat) : Int) (by omega) (by omega), hel, run_sizeOf hs]
          simp [Result.andThen, sliced]
        · refine ⟨.slice (some ⟨g, 0, none⟩) j cap, ?_, by rw [hv]; rfl, by rw [List.length_take]; omega, .inr ⟨g, cap, cur, rfl, hbg, hgg, by omega, hcm, hcs, ?_⟩⟩
          · rw [run_sliceAt_slice w t _ none _ none hu', hv, run_slice_h w t (some ⟨g, 0, none⟩) ys.length cap hu' k j (by omega) (by omega), hel, run_sizeOf hs]
            simp only [Result.andThen, sliced, Nat.zero_mul, Nat.sub_zero, Option.map_some, add_zero, ite_self, Int.toNat_natCast]
          · rw [← htake, List.take_take, Nat.min_eq_left mj]
      obtain ⟨v', hrun, hbl, hown'⟩ := key
      refine Gives.run (w' := w) (z := v') (by unfold execOp; simp only [ho, Option.map_none, Option.map_some, int_of_lr hn]; exact run_v hrun) ?_
      have hgr : w.grownBy w (RV.sl (a.eval y)).block := ⟨rfl, rfl, rfl, Nat.le_refl _, fun _ _ _ => rfl⟩
      have hbk : ∀ b, (RV.sl v').block = some b → (RV.sl (a.eval y)).block = some b ∨ w.heap.size ≤ b := fun b hb => .inl (by simp only [RV.block] at hb ⊢; rw [← hbl]; exact hb)
      have ev := Evo.chg (ks := [r]) (o' := .row T (ys.take j)) hr rfl hρ hgr hbk (.inl (by simp))
      have hρn : (setNth ρ r (RV.sl v'))[r]? = some (.sl v') := by rw [setNth_get, if_pos rfl, if_pos (by rw [R.hp.len]; exact hlt)]
      have hjl : (ys.take j).length = j := by rw [List.length_take]; omega
      refine ⟨_, R.chg1 hr rfl hρ hgr hbk fun h2 hx => ⟨hpos, v', e', xs.take (j * T.size), hρn, by simp only [Int.toNat_natCast, hjl]; exact hown', fun u hu => hone u (List.mem_of_mem_take hu), by simp only [Int.toNat_natCast, hjl]; omega, fun i y hy => ?_⟩, .own fun _ => ⟨by simpa [St.kill, setNth_len] using hlt, fun U zs _ => hρn⟩⟩
      simp only [Int.toNat_natCast] at hy
      have hi : i < j := by have := (List.getElem?_eq_some_iff.1 hy).1; omega
      rw [List.getElem?_take_of_lt hi] at hy
      have mi := Nat.mul_le_mul_right T.size (show i + 1 ≤ j by omega)
      rw [Nat.add_mul, Nat.one_mul] at mi
      rw [List.drop_take, List.take_take, Nat.min_eq_left (by omega)]
      exact ((hel' i y hy).move ev.keeps).less fun b hb => (hx b).1 hb
  · cases ht

/-! ### arrays -/
omit [Ban] in
theorem branch_some {O : Type} {f : Nat → Option O} {i : Int} {x : O} : ∀ (n j : Nat), branch f i n j = some x → ∃ k, j ≤ k ∧ k < j + n ∧ i = (k : Int) ∧ f k = some x
  | 0, _, h => by cases h
  | n + 1, j, h => by
    simp only [branch] at h
    cases hb : (i == (j : Int)) with
    | true =>
      rw [hb] at h
      exact ⟨j, Nat.le_refl _, by omega, by simpa using hb, h⟩
    | false =>
      rw [hb] at h
      obtain ⟨k, h1, h2, h3⟩ := branch_some n (j + 1) h
      exact ⟨k, by omega, by omega, h3⟩

def arrOk (P : Program) (t : TypeId) (n sz : Nat) : Option TypeId := match P.underlying t with
  | some (.array m e) => if m = n ∧ sizeT P e = some sz then some e else none
  | _ => none
omit [Ban] in
theorem of_arrOk {t e : TypeId} {n sz : Nat} (h : arrOk P t n sz = some e) : P.underlying t = some (.array n e) ∧ sizeT P e = some sz := by
  unfold arrOk at h
  split at h
  · split at h
    · rename_i m e' hu hc
      simp only [Option.some.injEq] at h
      subst h
      obtain ⟨rfl, h2⟩ := hc
      exact ⟨hu, h2⟩
    · cases h
  · cases h

theorem sound_idx (R : Rel base w0 ρ0 h0 ρ s a w) (hg : GH gd a) {x i : AX} {y y' : Operand} {t e : TypeId} {n sz j : Nat} {agg : Bool} (ho : o.op = .index t y y') (ht : arrOk P t n sz = some e) (ha : aggT P e = some agg) (hx : okX x y = true) (hi : okX i y' = true) (hc : (x.get gd s).1 = true) (hc' : (i.get gd s).1 = true)
    {cs : List AV} (hcs : (x.get gd s).2 = .agg cs) {k : IntKind} (hk : (i.get gd s).2 = .d (.int k) (j : Int)) (hj : j < n) (hcut : Tw.cut cs (j * sz) sz agg = some v) : Sound P o a w ρ s.h v := by
  obtain ⟨hu, hs⟩ := of_arrOk ht
  have hl := R.get hg hx hc
  have hl' := R.get hg hi hc'
  rw [hcs] at hl
  rw [hk] at hl'
  obtain ⟨vs, hv, hls⟩ := LRs.of_agg hl
  obtain ⟨z, hz, hlz⟩ := run_part_lr (P := P) hs ha hls hcut
  exact .same (z := z) (by unfold execOp; simp only [ho]; exact run_v (by simp [Instr.index, run_underlying hu, hv, int_of_lr hl', asIntOf, hj, run_sizeOf hs, hz])) hlz

theorem sound_iarr (R : Rel base w0 ρ0 h0 ρ s a w) (hg : GH gd a) {x i : AX} {y y' : Operand} {t e : TypeId} {n sz j : Nat} (ho : o.op = .indexAddr t y y') (ht : arrOk P t n sz = some e) (hx : okX x y = true) (hi : okX i y' = true) (hc : (x.get gd s).1 = true) (hc' : (i.get gd s).1 = true)
    {k : IntKind} (hk : (i.get gd s).2 = .d (.int k) (j : Int)) (hj : j < n) (hf : faV s.h (x.get gd s).2 (j * sz) = some (true, v)) : Sound P o a w ρ s.h v := by
  obtain ⟨hu, hs⟩ := of_arrOk ht
  have hl := R.get hg hx hc
  have hl' := R.get hg hi hc'
  rw [hk] at hl'
  obtain ⟨ad, hv, hlz⟩ := lr_faV hl hf
  exact .same (z := .pointer (some (ad.add (j * sz)))) (by unfold execOp; simp only [ho]; exact run_v (by simp [Instr.indexAt, run_underlying hu, hv, int_of_lr hl', asIntOf, hj, run_sizeOf hs, Instr.sureAddr])) hlz

end
end Go.Tw
