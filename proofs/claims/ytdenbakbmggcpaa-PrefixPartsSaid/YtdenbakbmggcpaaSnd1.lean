/- What an evaluator's state says of the model's world: the relations. -/
import Derived.Test.YtdenbakbmggcpaaEv
import Derived.Below
import Derived.Laws.AppendOwn
set_option linter.unusedVariables false
set_option linter.unusedSectionVars false
set_option linter.unusedSimpArgs false
namespace Go.Tw
open Go.RowKit

/-- Where a block of the evaluator's lies: a variable's block; or a slice value. -/
inductive RV where
  | blk (b : Nat)
  | sl (v : Value)
def RV.block : RV → Option Nat
  | .blk b => some b
  | .sl v => v.ownBlock
def AObj.live : AObj → Bool
  | .gone => false
  | _ => true

/-- Cells that hold a datum, outside of the blocks X. -/
def VR (w : World) (X : Nat → Prop) : (T : Ty) → T.D → List Value → Prop
  | .int k, x, cs => cs = [.int k x]
  | .bool, x, cs => cs = [.bool x]
  | .str, x, cs => cs = [.string x] ∧ x.size ≤ maxLen
  | .fn, x, cs => cs = [.func (.func x) #[] #[]]
  | .unit, _, cs => cs = []
  | .pair a b, x, cs => ∃ c1 c2, cs = c1 ++ c2 ∧ VR w X a x.1 c1 ∧ VR w X b x.2 c2
  | .sl a, ys, cs => ∃ A c, cs = [.slice A ys.length c] ∧ ys.length ≤ maxLen ∧ ys.length ≤ c ∧ (0 < ys.length → ∃ ad, A = some ad ∧ ¬ X ad.block ∧ ad.block < w.heap.size ∧
      ∀ (i : Nat) (y : a.D), ys[i]? = some y → ∃ es, es.length = a.size ∧ (∀ j u, es[j]? = some u → w.cell? (ad.add (i * a.size + j)) = some u) ∧ VR w X a y es)

theorem VR.len {w X} : ∀ {T : Ty} {x : T.D} {cs : List Value}, VR w X T x cs → cs.length = T.size
  | .int _, _, _, h => by simp only [VR] at h; subst h; rfl
  | .bool, _, _, h => by simp only [VR] at h; subst h; rfl
  | .str, _, _, h => by simp only [VR] at h; rw [h.1]; rfl
  | .fn, _, _, h => by simp only [VR] at h; subst h; rfl
  | .unit, _, _, h => by simp only [VR] at h; subst h; rfl
  | .pair a b, _, _, h => by
    simp only [VR] at h
    obtain ⟨c1, c2, rfl, h1, h2⟩ := h
    simp [h1.len, h2.len, Ty.size]
  | .sl a, _, _, h => by
    simp only [VR] at h
    obtain ⟨A, c, rfl, _⟩ := h
    rfl
theorem VR.one {w X} : ∀ {T : Ty} {x : T.D} {cs : List Value}, VR w X T x cs → ∀ u ∈ cs, u.oneCell' = true
  | .int _, _, _, h => by simp only [VR] at h; subst h; simp [Value.oneCell']
  | .bool, _, _, h => by simp only [VR] at h; subst h; simp [Value.oneCell']
  | .str, _, _, h => by simp only [VR] at h; rw [h.1]; simp [Value.oneCell']
  | .fn, _, _, h => by simp only [VR] at h; subst h; simp [Value.oneCell']
  | .unit, _, _, h => by simp only [VR] at h; subst h; simp
  | .pair a b, _, _, h => by
    simp only [VR] at h
    obtain ⟨c1, c2, rfl, h1, h2⟩ := h
    intro u hu
    rcases List.mem_append.1 hu with hu | hu
    · exact h1.one u hu
    · exact h2.one u hu
  | .sl a, _, _, h => by
    simp only [VR] at h
    obtain ⟨A, c, rfl, _⟩ := h
    simp [Value.oneCell']

/-- What is kept of a world: its blocks outside of X; and X gains no old block. -/
structure Keeps (w : World) (X : Nat → Prop) (w' : World) (X' : Nat → Prop) : Prop where
  size : w.heap.size ≤ w'.heap.size
  block : ∀ b, b < w.heap.size → ¬ X b → w'.heap[b]? = w.heap[b]?
  fresh : ∀ b, b < w.heap.size → X' b → X b

theorem Keeps.refl (w X) : Keeps w X w X := ⟨Nat.le_refl _, fun _ _ _ => rfl, fun _ _ h => h⟩
theorem Keeps.trans {w X w' X' w'' X''} (h : Keeps w X w' X') (k : Keeps w' X' w'' X'') : Keeps w X w'' X'' :=
  ⟨Nat.le_trans h.size k.size, fun b hb hx => (k.block b (Nat.lt_of_lt_of_le hb h.size) (fun hx' => hx (h.fresh b hb hx'))).trans (h.block b hb hx), fun b hb hx => h.fresh b hb (k.fresh b (Nat.lt_of_lt_of_le hb h.size) hx)⟩
theorem Keeps.cell {w X w' X'} (h : Keeps w X w' X') {a : Addr} {u : Value} (hx : ¬ X a.block) (hc : w.cell? a = some u) : w'.cell? a = some u :=
  (World.cell?_of_block (h.block a.block (World.block_lt_of_cell? w a hc) hx)).trans hc
theorem add_block (a : Addr) (i : Nat) : (a.add i).block = a.block := by unfold Addr.add; split <;> rfl

theorem VR.move {w X w' X'} (k : Keeps w X w' X') : ∀ {T : Ty} {x : T.D} {cs : List Value}, VR w X T x cs → VR w' X' T x cs
  | .int _, _, _, h => by simpa only [VR] using h
  | .bool, _, _, h => by simpa only [VR] using h
  | .str, _, _, h => by simpa only [VR] using h
  | .fn, _, _, h => by simpa only [VR] using h
  | .unit, _, _, h => by simpa only [VR] using h
  | .pair a b, _, _, h => by
    simp only [VR] at h ⊢
    obtain ⟨c1, c2, rfl, h1, h2⟩ := h
    exact ⟨c1, c2, rfl, h1.move k, h2.move k⟩
  | .sl a, ys, _, h => by
    simp only [VR] at h ⊢
    obtain ⟨A, c, rfl, hm, hc, h⟩ := h
    refine ⟨A, c, rfl, hm, hc, fun hn => ?_⟩
    obtain ⟨ad, rfl, hx, hlt, he⟩ := h hn
    refine ⟨ad, rfl, fun hx' => hx (k.fresh _ hlt hx'), Nat.lt_of_lt_of_le hlt k.size, fun i y hy => ?_⟩
    obtain ⟨es, hl, hcell, hv⟩ := he i y hy
    exact ⟨es, hl, fun j u hu => k.cell (by rw [add_block]; exact hx) (hcell j u hu), hv.move k⟩
/-- A lesser X. -/
theorem VR.less {w X X'} (hx : ∀ b, X' b → X b) {T : Ty} {x : T.D} {cs : List Value} (h : VR w X T x cs) : VR w X' T x cs :=
  h.move ⟨Nat.le_refl _, fun _ _ _ => rfl, fun b _ h => hx b h⟩

/-- Blocks of the callers' that they may yet write: nothing of a call's leads there. -/
class Ban where
  X0 : Nat → Prop
variable [Ban]
/-- The blocks of the call's own that may yet be written. -/
def OO (ρ : List RV) (h : AHeap) (b : Nat) : Prop := ∃ (r : Nat) (o : AObj) (rv : RV), h[r]? = some o ∧ o.live = true ∧ ρ[r]? = some rv ∧ rv.block = some b
/-- The blocks that may yet be written. -/
def XO (ρ : List RV) (h : AHeap) (b : Nat) : Prop := Ban.X0 b ∨ OO ρ h b
theorem keeps_xo {w w' : World} {ρ ρ' : List RV} {h h' : AHeap} (k : Keeps w (OO ρ h) w' (OO ρ' h')) : Keeps w (XO ρ h) w' (XO ρ' h') :=
  ⟨k.size, fun b hb hx => k.block b hb fun h => hx (.inr h), fun b hb hx => hx.elim .inl fun h => .inr (k.fresh b hb h)⟩

/-- A value of the evaluator's and one of the model's; of the blocks K nothing is told. -/
inductive LR (w : World) (ρ : List RV) (h : AHeap) (K : Nat → Prop) : AV → Value → Prop
  | d {T : Ty} {x : T.D} {v : Value} : VR w (XO ρ h) T x [v] → LR w ρ h K (.d T x) v
  | fr {T : Ty} {ys : List T.D} {A : Option Addr} : VR w (XO ρ h) (.sl T) ys [.slice A ys.length ys.length] → LR w ρ h K (.fr T ys) (.slice A ys.length ys.length)
  | nil {T : Ty} : LR w ρ h K (.nil T) (.slice none 0 0)
  | own {r : Nat} {v : Value} : (¬ K r → r < h.length ∧ ∀ (U : Ty) (ys : List U.D), h[r]? = some (.row U ys) → ρ[r]? = some (.sl v)) → LR w ρ h K (.own r) v
  | box {r o : Nat} {v : Value} : (¬ K r → r < h.length ∧ ∀ (cs : List AV), h[r]? = some (.vars cs) → ∃ b, ρ[r]? = some (.blk b) ∧ v = .pointer (some ⟨b, o, none⟩)) → LR w ρ h K (.box r o) v
  | pel {r i o : Nat} {v : Value} : (¬ K r → r < h.length ∧ ∀ (U : Ty) (ys : List U.D), h[r]? = some (.row U ys) → i < ys.length → ∃ g n c, ρ[r]? = some (.sl (.slice (some ⟨g, 0, none⟩) n c)) ∧ v = .pointer (some ((⟨g, 0, none⟩ : Addr).add (i * U.size + o)))) → LR w ρ h K (.pel r i o) v
  | pfz {T : Ty} {x : T.D} {o : Nat} {ad : Addr} (cs : List Value) : VR w (XO ρ h) T x cs → (o < T.size → ¬ XO ρ h ad.block) → (∀ j u, cs[o + j]? = some u → w.cell? (ad.add j) = some u) → LR w ρ h K (.pfz T x o) (.pointer (some ad))
  | mp {r : Nat} {v : Value} : (¬ K r → r < h.length ∧ ∀ (ex ag : Bool) (A B : Ty) (es : List (A.D × B.D)), h[r]? = some (.map ex ag A B es) → ∃ b, ρ[r]? = some (.blk b) ∧ v = .map (some b)) → LR w ρ h K (.mp r) v
  | fn {f : FuncId} {cs : List AV} {vs : Array Value} : cs.length = vs.size → (∀ (i : Nat) (c : AV) (v : Value), cs[i]? = some c → vs[i]? = some v → LR w ρ h K c v) → LR w ρ h K (.fn f cs) (.func (.func f) #[] vs)
  | agg {cs : List AV} {vs : Array Value} : cs.length = vs.size → (∀ (i : Nat) (c : AV) (v : Value), cs[i]? = some c → vs[i]? = some v → LR w ρ h K c v) → (∀ v ∈ vs, v.oneCell' = true) → LR w ρ h K (.agg cs) (.agg vs)
  | tup {cs : List AV} {vs : Array Value} : cs.length = vs.size → (∀ (i : Nat) (c : AV) (v : Value), cs[i]? = some c → vs[i]? = some v → LR w ρ h K c v) → LR w ρ h K (.tup cs) (.tuple vs)
  | opt {j : Nat} {wt g : Bool} {c : AV} {v : Value} : (g = true → LR w ρ h K c v) → (g = false → v = undef) → LR w ρ h K (.opt j wt g c) v
  | any {v : Value} : LR w ρ h K .any v

omit [Ban] in
theorem killL_get (r : Nat) : ∀ (cs : List AV) (i : Nat), (AV.killL r cs)[i]? = (cs[i]?).map (AV.kill r)
  | [], i => by simp [AV.killL]
  | c :: cs, 0 => by simp [AV.killL]
  | c :: cs, i + 1 => by simp [AV.killL, killL_get r cs i]
omit [Ban] in
theorem killL_len (r : Nat) : ∀ (cs : List AV), (AV.killL r cs).length = cs.length
  | [] => rfl
  | c :: cs => by simp [AV.killL, killL_len r cs]

theorem LR.kill {w ρ h K K'} {r : Nat} (hk : ∀ q, K q → K' q ∨ q = r) {c : AV} {v : Value} (hl : LR w ρ h K c v) : LR w ρ h K' (c.kill r) v := by
  induction hl with
  | d hv => exact .d hv
  | fr hv => exact .fr hv
  | nil => exact .nil
  | @own q v hv =>
    unfold AV.kill
    split
    · exact .any
    · rename_i hq; exact .own fun hK => hv fun hK' => (hk q hK').elim hK hq
  | @box q o v hv =>
    unfold AV.kill
    split
    · exact .any
    · rename_i hq; exact .box fun hK => hv fun hK' => (hk q hK').elim hK hq
  | @pel q i o v hv =>
    unfold AV.kill
    split
    · exact .any
    · rename_i hq; exact .pel fun hK => hv fun hK' => (hk q hK').elim hK hq
  | @mp q v hv =>
    unfold AV.kill
    split
    · exact .any
    · rename_i hq; exact .mp fun hK => hv fun hK' => (hk q hK').elim hK hq
  | pfz cs h1 h2 h3 => exact .pfz cs h1 h2 h3
  | fn h1 h2 ih =>
    refine .fn (by rw [killL_len]; exact h1) fun i c v hc hv => ?_
    rw [killL_get] at hc
    obtain ⟨c', hc', rfl⟩ := Option.map_eq_some_iff.1 hc
    exact ih i c' v hc' hv
  | agg h1 h2 h3 ih =>
    refine .agg (by rw [killL_len]; exact h1) (fun i c v hc hv => ?_) h3
    rw [killL_get] at hc
    obtain ⟨c', hc', rfl⟩ := Option.map_eq_some_iff.1 hc
    exact ih i c' v hc' hv
  | tup h1 h2 ih =>
    refine .tup (by rw [killL_len]; exact h1) fun i c v hc hv => ?_
    rw [killL_get] at hc
    obtain ⟨c', hc', rfl⟩ := Option.map_eq_some_iff.1 hc
    exact ih i c' v hc' hv
  | opt h1 h2 ih => exact .opt ih h2
  | any => exact .any

end Go.Tw
