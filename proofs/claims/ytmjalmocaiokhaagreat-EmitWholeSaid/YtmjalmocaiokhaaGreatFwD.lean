/- The walking layer, part D: one law for all operations that only compute or read. No condition. -/
import Derived.Test.YtmjalmocaiokhaaGreatFwC
set_option linter.unusedVariables false
set_option linter.unusedSimpArgs false
namespace Go.Fw
open Go

section
variable {C : Ctx} {P : Program}

theorem lkb_ok {bx : List Box} {i r o : Nat} {nb : Nat} (hs : SVok bx nb (.bp i r o)) {K : Nat → Nat → List Value → Prop} (h : lkb bx i K) : ∃ b, b ∈ bx ∧ b.r = r ∧ K r b.T b.cs := by
  obtain ⟨b, h1, h2, h3⟩ := lkb_iff h
  have := (hs i r o rfl).2 b h1 h2
  rw [this] at h3
  exact ⟨b, h1, this, h3⟩

theorem builtX_ok (hC : COk C P) {H : Han} {W : World → Prop} (hH : H.Ok P W) {b : Builtin} {ts : List Nat} {ty : Nat} {vs : List Value} {consts : Array Bool} {K : SV → Prop} (h : builtX C P H b ts ty vs K) :
    ∃ v, (∀ w, W w → (builtin b ts.toArray ty consts vs.toArray).run P w = .ok (.value v) w) ∧ K (.v v) := by
  unfold builtX at h
  split at h
  · split at h
    · split at h
      · rename_i hc
        exact ⟨_, fun w _ => by simp [builtin, Builtin.len_, run_underlying (hC.slice hc), goInt], h⟩
      · exact h.elim
    · exact h.elim
  · split at h
    · split at h
      · rename_i hc
        exact ⟨_, fun w _ => by simp [builtin, Builtin.len_, run_underlying (hC.str hc), goInt], h⟩
      · exact h.elim
    · exact h.elim
  · split at h
    · split at h
      · rename_i hc
        exact ⟨_, fun w _ => by simp [builtin, Builtin.cap_, run_underlying (hC.slice hc), goInt], h⟩
      · exact h.elim
    · exact h.elim
  · obtain ⟨v, h1, h2⟩ := hH.rd h
    exact ⟨v, fun w hw => by simp [builtin, h1 w hw], h2⟩
  · exact ⟨_, fun w _ => by simp [builtin, Builtin.min_, Builtin.min2], h⟩
  · exact ⟨_, fun w _ => by simp [builtin, Builtin.max_, Builtin.max2], h⟩
  · exact h.elim

theorem run_loadVar_one {t : Nat} (hC : COk C P) (hn : (C.ty t).cls ≠ .no) (ha : (C.ty t).agg = false) {ad : Addr} {v : Value} {w : World} (h : w.cell? ad = some v) :
    (loadVar t ad).run P w = .ok v w := by
  simp [loadVar, hC.isAgg hn, ha, h]
theorem run_loadVar_agg {t : Nat} (hC : COk C P) (hn : (C.ty t).cls ≠ .no) (ha : (C.ty t).agg = true) {ad : Addr} {cs : List Value} {w : World} (hl : cs.length = (C.ty t).size)
    (h : ∀ j v, cs[j]? = some v → w.cell? (ad.add j) = some v) : (loadVar t ad).run P w = .ok (.agg cs.toArray) w := by
  have := run_loadCells_list (P := P) w ad cs h
  rw [hl] at this
  simp [loadVar, hC.isAgg hn, ha, hC.sizeOf hn, this]

theorem cell_of_box {w : World} {b : Box} (h : w.heap[b.r]? = some (.cells b.cs.toArray b.T (0, 0))) (o : Nat) : w.cell? ⟨b.r, o, none⟩ = b.cs[o]? := by
  simp [World.cell?, h]

theorem pure_ok (hC : COk C P) {H : Han} {W : World → Prop} (hH : H.Ok P W) {ρ : List (Nat × SV)} {bx : List Box} {nb : Nat} {a : Act} (hA : RelA ρ bx nb a)
    (hB : ∀ w, W w → RelB bx w) {o : Oper} {K : SV → Prop} (h : pureX C P H o.op o.type ρ bx K) :
    ∃ s, SVok bx nb s ∧ (∀ w, W w → (execOp a.eval o).run P w = .ok (.value s.den) w) ∧ K s := by
  unfold pureX at h
  split at h
  -- move
  · rename_i x hop
    obtain ⟨s, h1, h2, h3⟩ := opd_ok hA h
    exact ⟨s, h2, fun w _ => by simp [execOp, hop, h1], h3⟩
  · rename_i x hop
    obtain ⟨s, h1, h2, h3⟩ := opd_ok hA h
    exact ⟨s, h2, fun w _ => by simp [execOp, hop, h1], h3⟩
  -- pick
  · rename_i c x y hop
    obtain ⟨sc, h1, hsv, h⟩ := opd_ok hA h
    clear hsv
    split at h
    · rename_i t
      cases t
      · obtain ⟨s, h4, h5, h6⟩ := opd_ok hA h
        exact ⟨s, h5, fun w _ => by simp [execOp, hop, h1, h4, asBool, SV.den], h6⟩
      · obtain ⟨s, h4, h5, h6⟩ := opd_ok hA h
        exact ⟨s, h5, fun w _ => by simp [execOp, hop, h1, h4, asBool, SV.den], h6⟩
    · rename_i t
      obtain ⟨h⟩ := h
      cases t
      · obtain ⟨s, h4, h5, h6⟩ := opd_ok hA h
        exact ⟨s, h5, fun w _ => by simp [execOp, hop, h1, h4, asBool, SV.den], h6⟩
      · obtain ⟨s, h4, h5, h6⟩ := opd_ok hA h
        exact ⟨s, h5, fun w _ => by simp [execOp, hop, h1, h4, asBool, SV.den], h6⟩
    · exact h.elim
  -- nilCheck
  · rename_i x hop
    obtain ⟨s, h1, h2, h⟩ := opd_ok hA h
    cases s with
    | v u =>
      dsimp only at h
      split at h
      · exact ⟨_, h2, fun w _ => by simp [execOp, hop, h1, SV.den], h⟩
      · exact ⟨_, h2, fun w _ => by simp [execOp, hop, h1, SV.den], h⟩
      · exact h.elim
    | bp i r p => exact ⟨_, h2, fun w _ => by simp [execOp, hop, h1, SV.den], h⟩
    | kb b => exact h.elim
  -- binOp
  · rename_i op t x y yt hop
    obtain ⟨u, h1, h⟩ := val_ok hA h
    obtain ⟨v, h2, h⟩ := val_ok hA h
    obtain ⟨r, h3, h4⟩ := binX_ok hH h
    refine ⟨.v r, SVok.val _, fun w hw => ?_, h4⟩
    have := h3 w hw
    simp only [execOp, hop, h1, h2, Sem.run_bind, Sem.run_pure, Result.andThen_ok] at this ⊢
    rw [this]; rfl
  -- unOp
  · rename_i op t x hop
    obtain ⟨u, h1, h⟩ := val_ok hA h
    split at h
    · exact ⟨_, SVok.val _, fun w _ => by simp [execOp, hop, h1, Op.unary, SV.den], h⟩
    · obtain ⟨h⟩ := h
      exact ⟨_, SVok.val _, fun w _ => by simp [execOp, hop, h1, Op.unary, Op.intArith, SV.den], h⟩
    · obtain ⟨v, h2, h3⟩ := hH.rd h
      exact ⟨.v v, SVok.val _, fun w hw => by simp [execOp, hop, h1, h2 w hw, SV.den], h3⟩
  -- convert
  · rename_i s d x hop
    obtain ⟨u, h1, h⟩ := val_ok hA h
    split at h
    · rename_i k1 k2 k3 n hs hd
      obtain ⟨h⟩ := h
      exact ⟨_, SVok.val _, fun w _ => by simp [execOp, hop, h1, convert, run_underlying (hC.int hs), run_underlying (hC.int hd), Conv.intToInt, SV.den], h⟩
    · obtain ⟨v, h2, h3⟩ := hH.rd h
      exact ⟨.v v, SVok.val _, fun w hw => by simp [execOp, hop, h1, h2 w hw, SV.den], h3⟩
  -- fieldAddr
  · rename_i s x f hop
    obtain ⟨fs, fd, d, e1, e2, hd, e3, h⟩ := fld_ok hC h
    obtain ⟨sv, h1, h2, h⟩ := opd_ok hA h
    cases sv with
    | v u =>
      dsimp only at h
      split at h
      · rename_i ad
        exact ⟨_, SVok.val _, fun w _ => by simp [execOp, hop, h1, SV.den, run_fieldAt e1 e2 e3], h⟩
      · exact h.elim
    | bp i r p =>
      refine ⟨_, fun j r' o' e => ?_, fun w _ => ?_, h⟩
      · injection e with e4 e5 e6
        subst e4 e5
        exact h2 _ _ _ rfl
      · simp only [execOp, hop, h1, SV.den, Sem.run_bind, run_fieldAt e1 e2 e3, Result.andThen_ok, Sem.run_pure]
        congr 4
        unfold Addr.add
        by_cases hz : fd.offset = 0
        · simp [hz]
        · simp [hz]
    | kb b => exact h.elim
  -- field
  · rename_i s x f hop
    obtain ⟨fs, fd, d, e1, e2, hd, e3, h⟩ := fld_ok hC h
    obtain ⟨u, h1, h⟩ := val_ok hA h
    split at h
    · rename_i cs
      rcases agL_ok h with ⟨g1, g2, g3⟩ | ⟨g1, y, g2, g3⟩
      · refine ⟨_, SVok.val _, fun w _ => ?_, g3⟩
        simp [execOp, hop, h1, Instr.field, run_underlying e1, e2, asAgg, run_part e3 hd, g1, SV.den, extract_toArray]
      · refine ⟨_, SVok.val _, fun w _ => ?_, g3⟩
        have g2' : cs[fd.offset]? = some y := by simpa using g2
        simp [execOp, hop, h1, Instr.field, run_underlying e1, e2, asAgg, run_part e3 hd, g1, SV.den, g2']
    · exact h.elim
  -- indexAddr
  · rename_i t x i hop
    obtain ⟨iv, h1, h⟩ := val_ok hA h
    split at h
    · rename_i k n
      obtain ⟨u, h2, h⟩ := val_ok hA h
      split at h
      · rename_i e A len cap hc
        obtain ⟨he, ⟨ad, rfl, g1, g2, g3⟩⟩ := known_ok h
        refine ⟨_, SVok.val _, fun w _ => ?_, g3⟩
        simp [execOp, hop, h1, h2, Instr.indexAt, asIntOf, run_underlying (hC.slice hc), g1, g2, hC.sizeOf he, SV.den]
      · rename_i len e A hc
        obtain ⟨he, ⟨ad, rfl, g1, g2, g3⟩⟩ := known_ok h
        refine ⟨_, SVok.val _, fun w _ => ?_, g3⟩
        simp [execOp, hop, h1, h2, Instr.indexAt, asIntOf, run_underlying (hC.array hc), g1, g2, hC.sizeOf he, SV.den, Instr.sureAddr]
      · exact h.elim
    · exact h.elim
  -- index
  · rename_i t x i hop
    obtain ⟨iv, h1, h⟩ := val_ok hA h
    split at h
    · rename_i k n
      obtain ⟨u, h2, h⟩ := val_ok hA h
      split at h
      · rename_i len e cs hc
        obtain ⟨he, h⟩ := known_ok h
        cases hg : (C.ty e).agg
        · simp only [hg, cond_false] at h
          cases hz : Nat.beq (C.ty e).size 1
          · simp only [hz, cond_false] at h
          · simp only [hz, cond_true] at h
            have hz' := Nat.eq_of_beq_eq_true hz
            obtain ⟨g1, g2, v, g3, g4⟩ := EvArr.h h
            refine ⟨_, SVok.val _, fun w _ => ?_, g4⟩
            have g3' : cs[n.toNat]? = some v := by simpa using g3
            simp [execOp, hop, h1, h2, Instr.index, asIntOf, run_underlying (hC.array hc), g1, g2, hC.sizeOf he, SV.den, part, hC.isAgg he, hg, hz', g3']
        · simp only [hg, cond_true] at h
      · rename_i s hc
        obtain ⟨g1, b, g2, g3⟩ := EvStr.h h
        refine ⟨_, SVok.val _, fun w _ => ?_, g3⟩
        simp [execOp, hop, h1, h2, Instr.index, asIntOf, run_underlying (hC.str hc), g1, g2, SV.den]
      · exact h.elim
    · exact h.elim
  -- load
  · rename_i t x hop
    obtain ⟨sv, h1, h2, h⟩ := opd_ok hA h
    cases sv with
    | v u =>
      dsimp only at h
      split at h
      · rename_i ad
        obtain ⟨hn, h⟩ := known_ok h
        cases hg : (C.ty t).agg
        · simp only [hg, cond_false] at h
          obtain ⟨v, g1, g2⟩ := hH.ld h
          exact ⟨_, SVok.val _, fun w hw => by simp [execOp, hop, h1, SV.den, Instr.loadAt, Instr.sureAddr, run_loadVar_one hC hn hg (g1 w hw)], g2⟩
        · simp only [hg, cond_true] at h
          obtain ⟨cs, g1, g2, g3⟩ := hH.ldN h
          exact ⟨_, SVok.val _, fun w hw => by simp [execOp, hop, h1, SV.den, Instr.loadAt, Instr.sureAddr, run_loadVar_agg hC hn hg g1 (g2 w hw)], g3⟩
      · exact h.elim
    | bp i r p =>
      have h' : lkb bx i (fun _ _ cs => known C t (agL (C.ty t).agg cs p (C.ty t).size K)) := h
      clear h
      obtain ⟨b, hb, rfl, h⟩ := lkb_ok h2 h'
      obtain ⟨hn, h⟩ := known_ok h
      rcases agL_ok h with ⟨g1, g2, g3⟩ | ⟨g1, y, g2, g3⟩
      · refine ⟨_, SVok.val _, fun w hw => ?_, g3⟩
        have hcell := cell_of_box (hB w hw b hb)
        have : (loadVar t ⟨b.r, p, none⟩).run P w = .ok (.agg ((b.cs.drop p).take (C.ty t).size).toArray) w :=
          run_loadVar_agg hC hn g1 g2 fun j v hj => by
            have hj' : b.cs[p + j]? = some v := by
              rw [List.getElem?_take] at hj
              split at hj
              · simpa using hj
              · cases hj
            rw [Addr.add_lit, hcell, hj']
        simp [execOp, hop, h1, SV.den, Instr.loadAt, Instr.sureAddr, this]
      · refine ⟨_, SVok.val _, fun w hw => ?_, g3⟩
        have : (loadVar t ⟨b.r, p, none⟩).run P w = .ok y w := run_loadVar_one hC hn g1 (by rw [cell_of_box (hB w hw b hb), g2])
        simp [execOp, hop, h1, SV.den, Instr.loadAt, Instr.sureAddr, this]
    | kb b => exact h.elim
  -- extract
  · rename_i x i hop
    obtain ⟨u, h1, h⟩ := val_ok hA h
    split at h
    · rename_i vs
      obtain ⟨v, g1, g2⟩ := nthL_iff h
      refine ⟨_, SVok.val _, fun w _ => ?_, g2⟩
      have g1' : vs[i]? = some v := by simpa using g1
      simp [execOp, hop, h1, SV.den, Instr.extract, g1']
    · exact h.elim
  -- makeFunc
  · rename_i fn fi cap hop
    obtain ⟨vs, h1, h⟩ := vals_ok hA h
    obtain ⟨us, h2, h⟩ := vals_ok hA h
    refine ⟨_, SVok.val _, fun w _ => ?_, h⟩
    have e1 : fi.map a.eval = vs.toArray := by apply Array.ext'; simp [← h1]
    have e2 : cap.map a.eval = us.toArray := by apply Array.ext'; simp [← h2]
    simp [execOp, hop, Instr.makeFunc, SV.den, e1, e2]
  -- build
  · rename_i t parts hop
    split at h
    · rename_i hc
      obtain ⟨fs, e1, e2, e5⟩ := hC.struct hc
      obtain ⟨z, e3, e4⟩ := hC.zero (t := t) (by rw [hc]; simp)
      have hpl : ∀ i (k : Nat → Nat → Prop), nthL (C.ty t).fields i (fun p => Prod.casesOn p fun off q => Prod.casesOn q fun sz _ => bif Nat.beq sz 0 then False else k off sz) →
          ∃ off sz, (fs.toList.map fun f => (f.offset, P.cellsOf f.type))[i]? = some (off, sz) ∧ k off sz := by
        intro i k hk
        obtain ⟨p, q1, q2⟩ := nthL_iff hk
        rw [e2, List.getElem?_map] at q1
        obtain ⟨fd, q3, rfl⟩ := Option.map_eq_some_iff.1 q1
        refine ⟨fd.offset, P.cellsOf fd.type, by rw [List.getElem?_map, q3]; rfl, ?_⟩
        simp only [fieldInfo] at q2
        cases hu : P.underlying fd.type with
        | none => simp [hu] at q2
        | some d =>
          simp only [hu] at q2
          cases hb : Nat.beq (P.cellsOf fd.type) 0
          · simpa [hb] using q2
          · simp [hb] at q2
      obtain ⟨l, g1, g2⟩ := partsX_ok hA hpl _ _ h
      refine ⟨_, SVok.val _, fun w _ => ?_, g2⟩
      rw [← e3] at g1
      have ep : (parts.map fun (x : Nat × Operand) => (x.1, a.eval x.2)).toList = parts.toList.map fun p => (p.1, a.eval p.2) := by simp
      have hm : (fs.mapM (fun f => do pure (f.offset, ← Go.sizeOf f.type) : Field → Sem (Nat × Nat))).run P w = .ok (fs.toList.map fun f => (f.offset, P.cellsOf f.type)).toArray w := by
        rw [Array.mapM_eq_mapM_toList, Sem.run_map, run_mapM (P := P) _ (fun f => (f.offset, P.cellsOf f.type)) w fs.toList]
        · rfl
        · intro f hf
          obtain ⟨j, hj⟩ := e5 f hf
          simp [run_sizeOf' hj, Program.cellsOf, hj]
      simp only [execOp, hop, Instr.build, Sem.run_bind, e4, Result.andThen_ok, run_underlying e1, hm]
      rw [show ((fun (x : Nat × Operand) => match x with | (i, x) => (i, a.eval x)) : Nat × Operand → Nat × Value) = (fun x => (x.1, a.eval x.2)) from rfl, ep]
      simp only [Array.toArray_toList] at g1
      have hpf : (fun (i : Nat) => (fs.toList.map fun f => (f.offset, P.cellsOf f.type)).toArray[i]?) = fun i => (fs.toList.map fun f => (f.offset, P.cellsOf f.type))[i]? := by
        funext i; simp
      rw [hpf, g1]
      simp [SV.den]
    · rename_i n e hc
      obtain ⟨he, h⟩ := known_ok h
      obtain ⟨z, e3, e4⟩ := hC.zero (t := t) (by rw [hc]; simp)
      obtain ⟨l, g1, g2⟩ := partsX_ok hA (pl := fun i => some (i * (C.ty e).size, (C.ty e).size)) (fun i k hk => ⟨_, _, rfl, hk⟩) _ _ h
      refine ⟨_, SVok.val _, fun w _ => ?_, g2⟩
      rw [← e3] at g1
      have ep : (parts.map fun (x : Nat × Operand) => (x.1, a.eval x.2)).toList = parts.toList.map fun p => (p.1, a.eval p.2) := by simp
      simp only [execOp, hop, Instr.build, Sem.run_bind, e4, Result.andThen_ok, run_underlying (hC.array hc), hC.sizeOf he]
      rw [show ((fun (x : Nat × Operand) => match x with | (i, x) => (i, a.eval x)) : Nat × Operand → Nat × Value) = (fun x => (x.1, a.eval x.2)) from rfl, ep]
      simp only [Array.toArray_toList] at g1
      simp [g1, SV.den]
    · exact h.elim
  -- slice
  · rename_i t x lo hi mx hop
    obtain ⟨u, h1, h⟩ := val_ok hA h
    obtain ⟨v, g1, g2⟩ := sliceX_ok hC hA h
    exact ⟨_, SVok.val _, fun w _ => by simp [execOp, hop, h1, g1 w, SV.den], g2⟩
  -- makeInterface
  · rename_i t x hop
    obtain ⟨u, h1, h⟩ := val_ok hA h
    split at h
    · exact h.elim
    · exact h.elim
    · rename_i hn1 hn2
      obtain ⟨d, e1, e2, _⟩ := hC.und (t := t) (fun e => hn2 e)
      refine ⟨_, SVok.val _, fun w _ => ?_, h⟩
      have : (Instr.makeInterface t u).run P w = .ok (.iface t u) w := by
        simp only [Instr.makeInterface, Sem.run_bind, run_underlying e1, Result.andThen_ok]
        cases d <;> first | rfl | (simp [clsOf] at e2; exact absurd e2.symm hn1)
      simp [execOp, hop, h1, SV.den, this]
  -- typeAssert
  · rename_i x s d ok hop
    obtain ⟨u, h1, h⟩ := val_ok hA h
    obtain ⟨v, g1, g2⟩ := hH.rd h
    exact ⟨_, SVok.val _, fun w hw => by simp [execOp, hop, h1, SV.den, g1 w hw], g2⟩
  · rename_i t x i ok hop
    obtain ⟨u, h1, h⟩ := val_ok hA h
    obtain ⟨u2, h2, h⟩ := val_ok hA h
    obtain ⟨v, g1, g2⟩ := hH.rd h
    exact ⟨_, SVok.val _, fun w hw => by simp [execOp, hop, h1, h2, SV.den, g1 w hw], g2⟩
  · rename_i x hop
    obtain ⟨u, h1, h⟩ := val_ok hA h
    obtain ⟨v, g1, g2⟩ := hH.rd h
    exact ⟨_, SVok.val _, fun w hw => by simp [execOp, hop, h1, SV.den, g1 w hw], g2⟩
  -- builtins
  · rename_i c hop
    split at h
    · rename_i b hcal
      obtain ⟨vs, h1, h⟩ := vals_ok hA h
      obtain ⟨v, g1, g2⟩ := builtX_ok (consts := c.args.map fun | .const _ => true | _ => false) hC hH h
      refine ⟨_, SVok.val _, fun w hw => ?_, g2⟩
      have e1 : c.args.map a.eval = vs.toArray := by apply Array.ext'; simp [← h1]
      have := g1 w hw
      simp only [execOp, hop, resolve, hcal, invoke, e1, Sem.run_bind, Sem.run_pure, Result.andThen_ok, SV.den]
      rw [Array.toArray_toList] at this
      exact this
    · exact h.elim
  · exact h.elim
end
end Go.Fw
