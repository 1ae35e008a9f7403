/- The walking layer, part C: the walk of an operation that only computes or reads is right. No condition. -/
import Derived.Test.YtmjalmocaiokhaaGreatFwB
set_option linter.unusedVariables false
set_option linter.unusedSimpArgs false
namespace Go.Fw
open Go

def COk (C : Ctx) (P : Program) : Prop := ∀ t, (C.ty t).cls ≠ .no → TOk P t (C.ty t)

section
variable {C : Ctx} {P : Program}

theorem COk.und (hC : COk C P) {t : Nat} (h : (C.ty t).cls ≠ .no) : ∃ d, P.underlying t = some d ∧ clsOf d = (C.ty t).cls ∧ (C.ty t).agg = isAggD d := by
  obtain ⟨d, h1, h2, h3, _⟩ := (hC t h).und
  exact ⟨d, h1, h2, h3⟩
theorem COk.int (hC : COk C P) {t : Nat} {k : IntKind} (h : (C.ty t).cls = .int k) : P.underlying t = some (.int k) := by
  obtain ⟨d, h1, h2, _⟩ := (hC t (by rw [h]; simp)).und
  rw [h] at h2
  cases d <;> simp_all [clsOf]
theorem COk.str (hC : COk C P) {t : Nat} (h : (C.ty t).cls = .str) : P.underlying t = some .string := by
  obtain ⟨d, h1, h2, _⟩ := (hC t (by rw [h]; simp)).und
  rw [h] at h2
  cases d <;> simp_all [clsOf]
theorem COk.slice (hC : COk C P) {t e : Nat} (h : (C.ty t).cls = .slice e) : P.underlying t = some (.slice e) := by
  obtain ⟨d, h1, h2, _⟩ := (hC t (by rw [h]; simp)).und
  rw [h] at h2
  cases d <;> simp_all [clsOf]
theorem COk.array (hC : COk C P) {t n e : Nat} (h : (C.ty t).cls = .array n e) : P.underlying t = some (.array n e) := by
  obtain ⟨d, h1, h2, _⟩ := (hC t (by rw [h]; simp)).und
  rw [h] at h2
  cases d <;> simp_all [clsOf]
theorem COk.map (hC : COk C P) {t k e : Nat} (h : (C.ty t).cls = .map k e) : P.underlying t = some (.map k e) := by
  obtain ⟨d, h1, h2, _⟩ := (hC t (by rw [h]; simp)).und
  rw [h] at h2
  cases d <;> simp_all [clsOf]
theorem COk.struct (hC : COk C P) {t : Nat} (h : (C.ty t).cls = .struct) : ∃ fs, P.underlying t = some (.struct fs) ∧ (C.ty t).fields = fs.toList.map (fieldInfo P) ∧ ∀ f ∈ fs.toList, ∃ j, P.info? f.type = some j := by
  obtain ⟨d, h1, h2, _, h4⟩ := (hC t (by rw [h]; simp)).und
  rw [h] at h2
  cases d <;> simp_all [clsOf]
theorem COk.info (hC : COk C P) {t : Nat} (h : (C.ty t).cls ≠ .no) : ∃ j, P.info? t = some j ∧ j.size = (C.ty t).size ∧ j.bytes = (C.ty t).bytes ∧ ∃ z, j.zero = some z ∧ z.cells.toList = (C.ty t).zero := (hC t h).info

theorem run_sizeOf' {t : Nat} {j : TypeInfo} (h : P.info? t = some j) (w : World) : (sizeOf t).run P w = .ok j.size w := by
  simp [sizeOf, typeInfo, h]
theorem run_zero' {t : Nat} {j : TypeInfo} {z : Value} (h : P.info? t = some j) (hz : j.zero = some z) (w : World) : (zeroValue t).run P w = .ok z w := by
  simp [zeroValue, typeInfo, h, hz]
theorem COk.sizeOf (hC : COk C P) {t : Nat} (h : (C.ty t).cls ≠ .no) (w : World) : (Go.sizeOf t).run P w = .ok (C.ty t).size w := by
  obtain ⟨j, h1, h2, _⟩ := hC.info h
  rw [run_sizeOf' h1, h2]
theorem COk.zero (hC : COk C P) {t : Nat} (h : (C.ty t).cls ≠ .no) : ∃ z : Value, z.cells.toList = (C.ty t).zero ∧ ∀ w, (zeroValue t).run P w = .ok z w := by
  obtain ⟨j, h1, h2, _, z, h3, h4⟩ := hC.info h
  exact ⟨z, h4, run_zero' h1 h3⟩
theorem COk.isAgg (hC : COk C P) {t : Nat} (h : (C.ty t).cls ≠ .no) (w : World) : (Go.isAgg t).run P w = .ok (C.ty t).agg w := by
  obtain ⟨d, h1, h2, h3⟩ := hC.und h
  rw [h3]
  simp only [Go.isAgg, Sem.run_bind, run_underlying h1, Result.andThen_ok]
  cases d <;> rfl
/-- A type whose size is known to the table though it has no class there: from a field's row. -/
theorem size_of_cellsOf {t : Nat} (h : P.cellsOf t ≠ 0) (w : World) : (Go.sizeOf t).run P w = .ok (P.cellsOf t) w := by
  unfold Program.cellsOf at *
  cases hi : P.info? t with
  | none => simp [hi] at h
  | some j => simp [Go.sizeOf, typeInfo, hi]

theorem takeL_ok {l : List Value} {o n : Nat} {K : List Value → Prop} (h : takeL l o n K) : o + n ≤ l.length ∨ n = 0 := by
  unfold takeL at h
  rw [force_iff] at h
  cases hb : Nat.beq ((l.drop o).take n).length n
  · simp only [hb, cond_false] at h
  · have := Nat.eq_of_beq_eq_true hb
    simp at this
    omega
theorem takeL_out {l : List Value} {o n : Nat} {K : List Value → Prop} (h : takeL l o n K) : ((l.drop o).take n).length = n ∧ K ((l.drop o).take n) := by
  unfold takeL at h
  rw [force_iff] at h
  cases hb : Nat.beq ((l.drop o).take n).length n
  · simp only [hb, cond_false] at h
  · simp only [hb, cond_true] at h
    exact ⟨Nat.eq_of_beq_eq_true hb, h⟩

theorem extract_toArray (cs : Array Value) (o n : Nat) : cs.extract o (o + n) = ((cs.toList.drop o).take n).toArray := by
  apply Array.ext'
  simp [Array.toList_extract, List.extract_eq_take_drop]

end

/-! ### Fields -/
section
variable {C : Ctx} {P : Program}

theorem fld_ok (hC : COk C P) {s f : Nat} {K : Nat → Nat → Bool → Prop} (h : fld C s f K) :
    ∃ fs fd d, P.underlying s = some (.struct fs) ∧ fs[f]? = some fd ∧ P.underlying fd.type = some d ∧ P.cellsOf fd.type ≠ 0 ∧
      K fd.offset (P.cellsOf fd.type) (isAggD d) := by
  unfold fld at h
  split at h
  · rename_i hc
    obtain ⟨fs, h1, h2, _⟩ := hC.struct hc
    obtain ⟨p, h3, h4⟩ := nthL_iff h
    rw [h2, List.getElem?_map] at h3
    obtain ⟨fd, h5, rfl⟩ := Option.map_eq_some_iff.1 h3
    simp only [fieldInfo] at h4
    cases hu : P.underlying fd.type with
    | none => simp [hu] at h4
    | some d =>
      simp only [hu] at h4
      cases hb : Nat.beq (P.cellsOf fd.type) 0
      · simp only [hb, cond_false] at h4
        exact ⟨fs, fd, d, h1, by simpa using h5, hu, fun e => by rw [e] at hb; simp at hb, h4⟩
      · simp [hb] at h4
  · exact h.elim

theorem run_fieldAt {s f : Nat} {fs : Array Field} {fd : Field} (h1 : P.underlying s = some (.struct fs)) (h2 : fs[f]? = some fd) (h3 : P.cellsOf fd.type ≠ 0) (a : Addr) (w : World) :
    (Instr.fieldAt s (.pointer (some a)) f).run P w = .ok (.pointer (some (a.add fd.offset))) w := by
  simp [Instr.fieldAt, run_underlying h1, h2, Instr.sureAddr, fieldPlace, size_of_cellsOf h3, h3]

theorem run_part {t : Nat} (h3 : P.cellsOf t ≠ 0) {d : TypeDesc} (hd : P.underlying t = some d) (cs : Array Value) (o : Nat) (w : World) :
    (part t cs o).run P w = if isAggD d = true then .ok (.agg (cs.extract o (o + P.cellsOf t))) w else match cs[o]? with | some v => .ok v w | none => (stuck "part: no such cell" : Sem Value).run P w := by
  have hi : (Go.isAgg t).run P w = .ok (isAggD d) w := by
    simp only [Go.isAgg, Sem.run_bind, run_underlying hd, Result.andThen_ok]
    cases d <;> rfl
  simp only [part, Sem.run_bind, hi, Result.andThen_ok]
  cases hb : isAggD d
  · simp only [Bool.false_eq_true, if_false]
    cases cs[o]? <;> rfl
  · simp [size_of_cellsOf h3]

theorem agL_ok {ag : Bool} {cs : List Value} {o sz : Nat} {K : SV → Prop} (h : agL ag cs o sz K) :
    (ag = true ∧ ((cs.drop o).take sz).length = sz ∧ K (.v (.agg ((cs.drop o).take sz).toArray))) ∨ (ag = false ∧ ∃ y, cs[o]? = some y ∧ K (.v y)) := by
  unfold agL at h
  cases ag
  · exact .inr ⟨rfl, nthL_iff h⟩
  · exact .inl ⟨rfl, takeL_out h⟩

theorem run_mapM (f : Field → Sem (Nat × Nat)) (g : Field → Nat × Nat) (w : World) : ∀ (l : List Field), (∀ x ∈ l, (f x).run P w = .ok (g x) w) → (l.mapM f).run P w = .ok (l.map g) w
  | [], _ => by simp
  | x :: l, h => by
    have h1 := h x List.mem_cons_self
    have h2 := run_mapM f g w l fun y hy => h y (List.mem_cons_of_mem _ hy)
    simp [List.mapM_cons, h1, h2]

/-! ### Binary operators -/

theorem ikEq_ok {a b : IntKind} (h : ikEq a b = true) : a = b := by
  cases a <;> cases b <;> first | rfl | exact absurd h (by decide)

theorem binX_ok {H : Han} {W : World → Prop} (hH : H.Ok P W) {op : BinOp} {t : Nat} {x y : Operand} {a b : Value} {K : Value → Prop} (h : binX C P H op t x y a b K) :
    ∃ v, (∀ w, W w → (do eqGuard op t x y a b; binOp op t a b : Sem Value).run P w = .ok v w) ∧ K v := by
  unfold binX at h
  have hg : ∀ (k k' : IntKind) (m n : Int) (w : World), (eqGuard op t x y (.int k m) (.int k' n)).run P w = .ok () w := by
    intro k k' m n w
    unfold eqGuard
    split <;> rfl
  have hgs : ∀ (m n : ByteArray) (w : World), (eqGuard op t x y (.string m) (.string n)).run P w = .ok () w := by
    intro m n w
    unfold eqGuard
    split <;> rfl
  split at h
  · rename_i k m k' n
    simp only [Sem.run_bind, hg, Result.andThen_ok]
    split at h
    · obtain ⟨h1, ⟨h2⟩⟩ := h
      exact ⟨_, fun w _ => by simp [binOp, Op.shift, show ¬ n < 0 by omega], h2⟩
    · obtain ⟨h1, h2⟩ := h
      exact ⟨_, fun w _ => by simp [binOp, Op.shift, show ¬ n < 0 by omega], h2⟩
    · rename_i hl hr
      cases hk : ikEq k k'
      · simp [hk] at h
      · simp only [hk, cond_true] at h
        obtain rfl := ikEq_ok hk
        split at h
        · obtain ⟨h⟩ := h; exact ⟨_, fun w _ => by simp [binOp, Op.intArith], h⟩
        · obtain ⟨h⟩ := h; exact ⟨_, fun w _ => by simp [binOp, Op.intArith], h⟩
        · obtain ⟨h⟩ := h; exact ⟨_, fun w _ => by simp [binOp, Op.intArith], h⟩
        · obtain ⟨h1, ⟨h2⟩⟩ := h; exact ⟨_, fun w _ => by simp [binOp, Op.intDiv, h1], h2⟩
        · obtain ⟨h1, h2⟩ := h; exact ⟨_, fun w _ => by simp [binOp, Op.intDiv, h1], h2⟩
        · exact ⟨_, fun w _ => by simp [binOp, Op.intCmp], h⟩
        · exact ⟨_, fun w _ => by simp [binOp, Op.intCmp], h⟩
        · exact ⟨_, fun w _ => by simp [binOp, Op.intCmp], h⟩
        · exact ⟨_, fun w _ => by simp [binOp, Op.intCmp], h⟩
        · exact ⟨_, fun w _ => by simp [binOp, Op.intCmp], h⟩
        · exact ⟨_, fun w _ => by simp [binOp, Op.intCmp], h⟩
        · obtain ⟨v, h1, h2⟩ := hH.rd h
          exact ⟨v, h1, h2⟩
  · rename_i m n
    simp only [Sem.run_bind, hgs, Result.andThen_ok]
    split at h
    · exact ⟨_, fun w _ => by simp [binOp, Op.stringOp], h⟩
    · exact ⟨_, fun w _ => by simp [binOp, Op.stringOp], h⟩
    · obtain ⟨v, h1, h2⟩ := hH.rd h
      exact ⟨v, h1, h2⟩
  · exact hH.rd h

/-! ### Slices -/

theorem run_sliceBound {x : Int} {k : IntKind} {y : Nat} {c : BoundsCode} (h0 : 0 ≤ x) (h1 : x ≤ y) (w : World) : (Instr.sliceBound (.int k x) y c).run P w = .ok x.toNat w := by
  simp [Instr.sliceBound, asIntOf, h0, h1]

theorem toNat_le' {a b : Int} (h0 : 0 ≤ a) (h : a ≤ b) : a ≤ (b.toNat : Int) := by omega

theorem known_ok {t : Nat} {K : Prop} (h : known C t K) : (C.ty t).cls ≠ .no ∧ K := by
  unfold known at h
  split at h
  · exact h.elim
  · exact ⟨by assumption, h⟩

theorem slB_ok {ρ : List (Nat × SV)} {bx : List Box} {nb : Nat} {a : Act} (hA : RelA ρ bx nb a) (isS : Bool) {lo hi mx : Option Operand} {len cap : Nat} {k : Nat → Nat → Nat → Prop} (h : slB ρ lo hi mx len cap k) :
    ∃ l h m, (∀ w, (Instr.sliceBounds isS len cap (lo.map a.eval) (hi.map a.eval) (mx.map a.eval)).run P w = .ok (l, h, m) w) ∧ k l h m := by
  unfold slB at h
  split at h
  · obtain ⟨h1, h2, h3, h4, h5⟩ := EvSl.h h
    exact ⟨0, len, cap, fun w => by simp [Instr.sliceBounds], by simpa using h5⟩
  · obtain ⟨hv, e1, h⟩ := val_ok hA h
    split at h
    · obtain ⟨g1, g2, g3, g4, g5⟩ := EvSl.h h
      exact ⟨_, _, _, fun w => by simp only [Instr.sliceBounds, Option.map_some, Option.map_none, e1, Sem.run_bind, Sem.run_pure, run_sliceBound g2 g3, Result.andThen_ok]; rfl, by simpa using g5⟩
    · exact h.elim
  · obtain ⟨lv, e1, h⟩ := val_ok hA h
    split at h
    · obtain ⟨g1, g2, g3, g4, g5⟩ := EvSl.h h
      exact ⟨_, _, _, fun w => by simp only [Instr.sliceBounds, Option.map_some, Option.map_none, e1, Sem.run_bind, Sem.run_pure, run_sliceBound g1 g2, Result.andThen_ok]; rfl, by simpa using g5⟩
    · exact h.elim
  · obtain ⟨lv, e0, h⟩ := val_ok hA h
    obtain ⟨hv, e1, h⟩ := val_ok hA h
    split at h
    · obtain ⟨g1, g2, g3, g4, g5⟩ := EvSl.h h
      exact ⟨_, _, _, fun w => by simp only [Instr.sliceBounds, Option.map_some, Option.map_none, e0, e1, Sem.run_bind, Sem.run_pure, run_sliceBound (Int.le_trans g1 g2) g3, run_sliceBound g1 (toNat_le' g1 g2), Result.andThen_ok]; rfl, by simpa using g5⟩
    · exact h.elim
  · obtain ⟨hv, e1, h⟩ := val_ok hA h
    obtain ⟨mv, e2, h⟩ := val_ok hA h
    split at h
    · obtain ⟨g1, g2, g3, g4, g5⟩ := EvSl.h h
      exact ⟨_, _, _, fun w => by simp only [Instr.sliceBounds, Option.map_some, Option.map_none, e1, e2, Sem.run_bind, Sem.run_pure, run_sliceBound (Int.le_trans g2 g3) g4, run_sliceBound g2 (toNat_le' g2 g3), Result.andThen_ok]; rfl, by simpa using g5⟩
    · exact h.elim
  · obtain ⟨lv, e0, h⟩ := val_ok hA h
    obtain ⟨hv, e1, h⟩ := val_ok hA h
    obtain ⟨mv, e2, h⟩ := val_ok hA h
    split at h
    · obtain ⟨g1, g2, g3, g4, g5⟩ := EvSl.h h
      have g12 := Int.le_trans g1 g2
      exact ⟨_, _, _, fun w => by simp only [Instr.sliceBounds, Option.map_some, Option.map_none, e0, e1, e2, Sem.run_bind, Sem.run_pure, run_sliceBound (Int.le_trans g12 g3) g4, run_sliceBound g12 (toNat_le' g12 g3), run_sliceBound g1 (toNat_le' g1 g2), Result.andThen_ok]; rfl, by simpa using g5⟩
    · exact h.elim
  · exact h.elim

theorem sliceX_ok (hC : COk C P) {ρ : List (Nat × SV)} {bx : List Box} {nb : Nat} {a : Act} (hA : RelA ρ bx nb a) {t : Nat} {v : Value} {lo hi mx : Option Operand} {K : SV → Prop} (h : sliceX C ρ t v lo hi mx K) :
    ∃ u, (∀ w, (Instr.sliceAt t v (lo.map a.eval) (hi.map a.eval) (mx.map a.eval)).run P w = .ok u w) ∧ K (.v u) := by
  unfold sliceX at h
  split at h
  · rename_i e A len cap hc
    obtain ⟨he, h⟩ := known_ok h
    obtain ⟨l, hh, m, h1, h2⟩ := slB_ok (P := P) hA true h
    have hu := hC.slice hc
    refine ⟨_, fun w => ?_, h2⟩
    simp only [Instr.sliceAt, Instr.slice, Sem.run_bind, run_underlying hu, Result.andThen_ok, h1, hC.sizeOf he, Sem.run_pure]
  · rename_i s hc
    split at h
    · obtain ⟨l, hh, m, h1, h2⟩ := slB_ok (P := P) hA false h
      have hu := hC.str hc
      refine ⟨_, fun w => ?_, h2⟩
      simp only [Option.map_none] at h1
      simp [Instr.sliceAt, Instr.slice, run_underlying hu, h1]
    · exact h.elim
  · exact h.elim

/-! ### Building -/

theorem foldl_set (o : Nat) : ∀ (cs : List Value) (k : Nat) (z : Array Value), ((cs.zipIdx k).foldl (fun (a : Array Value) (p : Value × Nat) => a.setIfInBounds (o + p.2) p.1) z) = (setsOf z.toList (o + k) cs).toArray
  | [], k, z => by simp [setsOf]
  | c :: cs, k, z => by
    rw [List.zipIdx_cons, List.foldl_cons, foldl_set o cs (k + 1), setsOf]
    simp [Nat.add_assoc]

theorem partsX_ok {ρ : List (Nat × SV)} {bx : List Box} {nb : Nat} {a : Act} (hA : RelA ρ bx nb a) {place : Nat → (Nat → Nat → Prop) → Prop} {pl : Nat → Option (Nat × Nat)}
    (hp : ∀ i k, place i k → ∃ off sz, pl i = some (off, sz) ∧ k off sz) {K : List Value → Prop} : ∀ (parts : List (Nat × Operand)) (z : List Value), partsX ρ place parts z K →
    ∃ l, Instr.fill pl z.toArray (parts.map fun p => (p.1, a.eval p.2)) = some l.toArray ∧ K l
  | [], z, h => ⟨z, rfl, h⟩
  | (i, x) :: parts, z, h => by
    have h' : place i (fun off sz => val ρ x fun v => force (v.cells.toList) fun cs => bif Nat.beq cs.length sz then (bif Nat.beq sz 0 then False else setsL z off cs (fun l => partsX ρ place parts l K)) else False) := h
    obtain ⟨off, sz, h1, h2⟩ := hp _ _ h'
    obtain ⟨v, h3, h4⟩ := val_ok hA h2
    rw [force_iff] at h4
    cases hb : Nat.beq v.cells.toList.length sz
    · simp only [hb, cond_false] at h4
    · simp only [hb, cond_true] at h4
      have hl := Nat.eq_of_beq_eq_true hb
      have hsz : v.cells.size = sz := by simpa using hl
      cases hz : Nat.beq sz 0
      · simp only [hz, cond_false] at h4
        have h5 := setsL_out h4
        have h6 := setsL_iff h4
        have hne : sz ≠ 0 := fun e => by rw [e] at hz; simp at hz
        obtain ⟨l, h7, h8⟩ := partsX_ok hA hp parts _ h5
        refine ⟨l, ?_, h8⟩
        simp only [List.map_cons, Instr.fill, h1, h3]
        have hcond : ¬ ((v.cells.size ≠ sz || decide (off + v.cells.size > z.toArray.size)) = true) := by
          simp only [Bool.or_eq_true, decide_eq_true_eq, not_or]
          refine ⟨fun h => h hsz, ?_⟩
          rcases h6 with h6 | h6
          · simp at h6 ⊢; omega
          · rw [h6] at hl; simp at hl; omega
        rw [if_neg hcond, ← h7]
        congr 1
        rw [← Array.foldl_toList, Array.toList_zipIdx]
        have := foldl_set off v.cells.toList 0 z.toArray
        simpa using this
      · simp only [hz, cond_true] at h4
end
end Go.Fw
