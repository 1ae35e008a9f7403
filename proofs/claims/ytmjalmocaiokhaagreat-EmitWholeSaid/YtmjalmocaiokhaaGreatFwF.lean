/- The walking layer, part F: the law of one operation. No condition. -/
import Derived.Test.YtmjalmocaiokhaaGreatFwE
set_option linter.unusedVariables false
set_option linter.unusedSimpArgs false
namespace Go.Fw
open Go

section
variable {C : Ctx} {P : Program}

theorem length_repL (n : Nat) (z : List Value) : (repL n z).length = n * z.length := by
  unfold repL
  induction n with
  | zero => show ([] : List Value).length = _; simp
  | succ n ih =>
    show (z ++ Nat.rec (motive := fun _ => List Value) [] (fun _ ih => z ++ ih) n).length = _
    rw [List.length_append, ih, Nat.succ_mul]; omega

theorem getElem?_repL {n : Nat} {z : List Value} {i : Nat} (h : i < n * z.length) : (repL n z)[i]? = z[i % z.length]? := by
  have hz : 0 < z.length := by
    rcases Nat.eq_zero_or_pos z.length with h0 | h0
    · rw [h0] at h; simp at h
    · exact h0
  induction n generalizing i with
  | zero => simp at h
  | succ n ih =>
    show (z ++ repL n z)[i]? = _
    rw [List.getElem?_append]
    by_cases h1 : i < z.length
    · rw [if_pos h1, Nat.mod_eq_of_lt h1]
    · rw [if_neg h1, ih (by rw [Nat.succ_mul] at h; omega), Nat.mod_eq_sub_mod (by omega : i ≥ z.length)]

theorem repL_zero (n s : Nat) (z : Array Value) (hs : (repL n z.toList).length = n * s) : ((Array.range (n * s)).map fun i => z[i % z.size]!) = (repL n z.toList).toArray := by
  have hl := length_repL n z.toList
  simp only [Array.length_toList] at hl
  have hns : n * s = n * z.size := by rw [← hs, hl]
  apply Array.ext
  · simp [hs]
  · intro i h1 h2
    simp at h1 h2
    rw [hl] at h2
    have hz : 0 < z.size := by
      rcases Nat.eq_zero_or_pos z.size with h0 | h0
      · rw [h0] at h2; simp at h2
      · exact h0
    have h3 : i % z.size < z.size := Nat.mod_lt _ hz
    have e := getElem?_repL (n := n) (z := z.toList) (i := i) (by simpa using h2)
    simp only [Array.length_toList] at e
    rw [List.getElem?_eq_getElem (by rw [hl]; exact h2), List.getElem?_eq_getElem (by simpa using h3)] at e
    simp only [Array.getElem_map, Array.getElem_range, List.getElem_toArray, getElem!_pos z (i % z.size) h3]
    injection e with e
    rw [e]
    simp

theorem op_ok (hC : COk C P) {dr : Bool} {o : Oper} {ρ : List (Nat × SV)} {bx : List Box} {nb : Nat} {a : Act} {w : World} (hA : RelA ρ bx nb a) (hB : RelB bx w) (hN : RelN bx nb)
    {K : SV → List Box → Nat → World → Prop} (h : opX C P dr o ρ bx nb w K) : Upon P o a w bx nb dr K := by
  have dflt : pureX C P (seqH P w) o.op o.type ρ bx (fun s => K s bx nb w) → Upon P o a w bx nb dr K := by
    intro h
    obtain ⟨s, h1, h2, h3⟩ := pure_ok hC (seqH_ok P w) hA (by rintro _ rfl; exact hB) h
    intro next Q hn
    rw [h2 w rfl]
    exact hn _ _ _ _ h3 h1 hB hN (Ext.refl _ _) (fun _ => ⟨rfl, rfl⟩)
  unfold opX effX at h
  dsimp only at h
  split at h
  -- alloc
  · rename_i T hop
    obtain ⟨hn, h⟩ := known_ok h
    obtain ⟨z, e1, e2⟩ := hC.zero hn
    refine upon_new (T := T) ?_ hB hN h
    have : z.cells = (C.ty T).zero.toArray := by rw [← e1]
    simp [execOp, hop, Instr.alloc, e2, newVar, newRow, this]
  -- box
  · rename_i T x hop
    obtain ⟨v, e1, h⟩ := val_ok hA h
    rw [force_iff] at h
    refine upon_new (T := T) ?_ hB hN h
    simp [execOp, hop, Instr.box, e1, newVar, newRow]
  -- buildSlice
  · rename_i T len parts hop
    split at h
    · rename_i e hc
      obtain ⟨he, h⟩ := known_ok h
      cases hb : Nat.ble (Nat.mul len (C.ty e).size) 16777216
      · simp only [hb, cond_false] at h
      · simp only [hb, cond_true] at h
        have hle : len * (C.ty e).size ≤ 16777216 := Nat.le_of_ble_eq_true hb
        rw [force_iff] at h
        cases hq : Nat.beq (repL len (C.ty e).zero).length (Nat.mul len (C.ty e).size)
        · simp only [hq, cond_false] at h
        · simp only [hq, cond_true] at h
          have hl := Nat.eq_of_beq_eq_true hq
          obtain ⟨z, e1, e2⟩ := hC.zero he
          obtain ⟨l, g1, g2⟩ := partsX_ok hA (pl := fun i => some (i * (C.ty e).size, (C.ty e).size)) (fun i k hk => ⟨_, _, rfl, hk⟩) _ _ h
          obtain ⟨g2⟩ := g2
          refine upon_val ?_ hB hN (keep_alloc w (.cells l.toArray e)) g2
          have ep : (parts.map fun (x : Nat × Operand) => (x.1, a.eval x.2)).toList = parts.toList.map fun p => (p.1, a.eval p.2) := by simp
          rw [← e1] at g1 hl
          have hz := repL_zero len (C.ty e).size z.cells hl
          simp only [execOp, hop, Instr.buildSlice, Sem.run_bind, run_underlying (hC.slice hc), hC.sizeOf he, Result.andThen_ok]
          rw [if_neg (by omega)]
          rw [show ((fun (x : Nat × Operand) => match x with | (i, x) => (i, a.eval x)) : Nat × Operand → Nat × Value) = (fun x => (x.1, a.eval x.2)) from rfl, ep]
          by_cases h0 : len * (C.ty e).size = 0
          · have hr0 : repL len z.cells.toList = [] := by
              apply List.eq_nil_of_length_eq_zero
              rw [hl]; exact h0
            rw [hr0] at g1
            have hm0 : (Array.map (fun x => (default : Value)) (Array.range 0)) = ([] : List Value).toArray := by simp
            simp [h0, newRow]
            rw [hm0, g1]
            simp
          · simp only [h0, if_false, Sem.run_bind, e2, Result.andThen_ok, Sem.run_pure, hz, g1]
            simp [newRow]
    · exact h.elim
  -- store
  · rename_i T ad x hop
    obtain ⟨hn, h⟩ := known_ok h
    obtain ⟨v, e1, h⟩ := val_ok hA h
    rw [force_iff] at h
    cases hq : Nat.beq v.cells.toList.length (C.ty T).size
    · simp only [hq, cond_false] at h
    · simp only [hq, cond_true] at h
      have hl := Nat.eq_of_beq_eq_true hq
      obtain ⟨sv, e2, e3, h⟩ := opd_ok hA h
      cases sv with
      | v u =>
        dsimp only at h
        split at h
        · rename_i p
          cases hg : (C.ty T).agg
          · simp only [hg, cond_false] at h
            obtain ⟨g1, ⟨u, g2⟩, g3, g4, g5⟩ := EvSt.h h
            refine upon_skip ?_ hB hN ?_ g5
            · simp [execOp, hop, e1, e2, SV.den, run_storeAt_one hC hn hl g1 g2 g3]
            · exact Keep.of_fr (Fr.setCell w p v) fun r hr => by
                have := g4 r hr
                simpa using this
          · simp only [hg, cond_true] at h
            obtain ⟨w', g1, g2, g3⟩ := EvDo.h h
            exact upon_skip (by simp [execOp, hop, e1, e2, SV.den, g1]) hB hN g2 g3
        · exact h.elim
      | bp i r p =>
        cases dr
        · simp only [cond_false] at h
          obtain ⟨h1, h⟩ := oneL_ok h
          obtain ⟨pre, j, r', T', cs, suf, hbx, hj, hf⟩ := updB_iff h
          have hmem : (⟨j, r', T', cs⟩ : Box) ∈ bx := by rw [hbx]; simp
          have hr' : r' = r := (e3 i r p rfl).2 _ hmem hj
          subst hr'
          have hout := setsL_out hf
          have hle := setsL_iff hf
          have hcell := hB _ hmem
          have hsz : v.cells.toList = [] ∨ p + v.cells.toList.length ≤ cs.length := hle.symm
          let w' := w.setRow r' (setsOf cs p v.cells.toList).toArray
          have hrun : (storeCells ⟨r', p, none⟩ v.cells.toList).run P w = .ok () w' := by
            rcases hsz with h0 | h0
            · show _ = Result.ok () (w.setRow r' (setsOf cs p v.cells.toList).toArray)
              rw [h0]
              simp only [storeCells, setsOf]
              rw [setRow_self w r' cs.toArray T' (0, 0) hcell]
              rfl
            · have := run_storeCells_at P r' p T' v.cells.toList 0 cs.toArray w hcell (by simpa using h0) h1
              rw [this]
              show _ = Result.ok () (w.setRow r' (setsOf cs p v.cells.toList).toArray)
              rw [setsOf_eq _ _ _ h0]
              simp
          have hfr : Fr [r'] w w' := ⟨rfl, rfl, rfl, by simp [w'], fun k hk hne => setRow_other w r' k _ (by simpa using hne)⟩
          have hB' : RelB (pre ++ ⟨j, r', T', setsOf cs p v.cells.toList⟩ :: suf) w' := by
            intro b hb
            have hnd := hN.nd
            rw [hbx] at hnd
            simp only [rsOf, List.map_append, List.map_cons] at hnd
            rw [List.nodup_append] at hnd
            obtain ⟨n1, n2, n3⟩ := hnd
            rw [List.nodup_cons] at n2
            rcases List.mem_append.1 hb with hb | hb
            · have hb' : b ∈ bx := by rw [hbx]; exact List.mem_append.2 (.inl hb)
              have hne : b.r ≠ r' := n3 _ (List.mem_map.2 ⟨b, hb, rfl⟩) _ List.mem_cons_self
              rw [setRow_other w r' b.r _ hne]
              exact hB b hb'
            · rcases List.mem_cons.1 hb with rfl | hb
              · exact setRow_heap w r' _ _ T' (0, 0) hcell
              · have hb' : b ∈ bx := by rw [hbx]; exact List.mem_append.2 (.inr (List.mem_cons_of_mem _ hb))
                have hne : b.r ≠ r' := fun e => n2.1 (by rw [← e]; exact List.mem_map.2 ⟨b, hb, rfl⟩)
                rw [setRow_other w r' b.r _ hne]
                exact hB b hb'
          have hK := hout w' hfr hB'
          intro next Q hnx
          have hex : (execOp a.eval o).run P w = .ok .skip w' := by
            have hcs : v.cells.size = (C.ty T).size := by simpa using hl
            simp [execOp, hop, e1, e2, SV.den, Instr.storeAt, Instr.sureAddr, storeVar, hC.sizeOf hn, hcs, hrun]
          rw [hex]
          refine hnx _ _ _ _ hK (SVok.val undef) hB' ⟨fun b hb => ?_, ?_⟩ ⟨Nat.le_refl _, fun s hs i' r'' o' e => ⟨(hs i' r'' o' e).1, fun b hb hi => ?_⟩⟩ (fun e => by cases e)
          · rcases List.mem_append.1 hb with hb | hb
            · exact hN.old b (by rw [hbx]; exact List.mem_append.2 (.inl hb))
            · rcases List.mem_cons.1 hb with rfl | hb
              · exact hN.old (⟨j, r', T', cs⟩ : Box) hmem
              · exact hN.old b (by rw [hbx]; exact List.mem_append.2 (.inr (List.mem_cons_of_mem _ hb)))
          · have hnd := hN.nd
            rw [hbx] at hnd
            simpa [rsOf] using hnd
          · rcases List.mem_append.1 hb with hb | hb
            · exact (hs i' r'' o' e).2 b (by rw [hbx]; exact List.mem_append.2 (.inl hb)) hi
            · rcases List.mem_cons.1 hb with rfl | hb
              · exact (hs i' r'' o' e).2 (⟨j, r', T', cs⟩ : Box) hmem hi
              · exact (hs i' r'' o' e).2 b (by rw [hbx]; exact List.mem_append.2 (.inr (List.mem_cons_of_mem _ hb))) hi
        · simp only [cond_true] at h
      | kb b => exact h.elim
  -- mapUpdate, insert
  · rename_i T m k x hop
    obtain ⟨u1, e1, h⟩ := val_ok hA h
    obtain ⟨u2, e2, h⟩ := val_ok hA h
    obtain ⟨u3, e3, h⟩ := val_ok hA h
    obtain ⟨w', g1, g2, g3⟩ := EvDo.h h
    exact upon_skip (by simp [execOp, hop, e1, e2, e3, g1]) hB hN g2 g3
  · rename_i T m k x hop
    obtain ⟨u1, e1, h⟩ := val_ok hA h
    obtain ⟨u2, e2, h⟩ := val_ok hA h
    obtain ⟨u3, e3, h⟩ := val_ok hA h
    obtain ⟨w', g1, g2, g3⟩ := EvDo.h h
    exact upon_skip (by simp [execOp, hop, e1, e2, e3, g1]) hB hN g2 g3
  -- mapEntry, entryStore
  · rename_i T m k hop
    obtain ⟨u1, e1, h⟩ := val_ok hA h
    obtain ⟨u2, e2, h⟩ := val_ok hA h
    obtain ⟨v, w', g1, g2, g3⟩ := EvPrim.h h
    exact upon_val (by simp [execOp, hop, e1, e2, g1]) hB hN g2 g3
  · rename_i T m k x hop
    obtain ⟨u1, e1, h⟩ := val_ok hA h
    obtain ⟨u2, e2, h⟩ := val_ok hA h
    obtain ⟨u3, e3, h⟩ := val_ok hA h
    obtain ⟨w', g1, g2, g3⟩ := EvDo.h h
    exact upon_skip (by simp [execOp, hop, e1, e2, e3, g1]) hB hN g2 g3
  -- makeMap
  · rename_i T r hop
    split at h
    · obtain ⟨v, w', g1, g2, g3⟩ := EvPrim.h h
      exact upon_val (by simp [execOp, hop, g1]) hB hN g2 g3
    · obtain ⟨u1, e1, h⟩ := val_ok hA h
      obtain ⟨v, w', g1, g2, g3⟩ := EvPrim.h h
      exact upon_val (by simp [execOp, hop, e1, g1]) hB hN g2 g3
  -- makeSlice
  · rename_i T l c hop
    obtain ⟨u1, e1, h⟩ := val_ok hA h
    obtain ⟨u2, e2, h⟩ := val_ok hA h
    obtain ⟨v, w', g1, g2, g3⟩ := EvPrim.h h
    exact upon_val (by simp [execOp, hop, e1, e2, g1]) hB hN g2 g3
  · rename_i T x hop
    obtain ⟨u1, e1, h⟩ := val_ok hA h
    obtain ⟨v, w', g1, g2, g3⟩ := EvPrim.h h
    exact upon_val (by simp [execOp, hop, e1, g1]) hB hN g2 g3
  · rename_i x s hop
    obtain ⟨u1, e1, h⟩ := val_ok hA h
    obtain ⟨v, w', g1, g2, g3⟩ := EvPrim.h h
    exact upon_val (by simp [execOp, hop, e1, g1]) hB hN g2 g3
  -- convert
  · rename_i s d x hop
    obtain ⟨u1, e1, h⟩ := val_ok hA h
    split at h
    · obtain ⟨v, w', g1, g2, g3⟩ := EvPrim.h h
      exact upon_val (by simp [execOp, hop, e1, g1]) hB hN g2 g3
    · obtain ⟨v, w', g1, g2, g3⟩ := EvPrim.h h
      exact upon_val (by simp [execOp, hop, e1, g1]) hB hN g2 g3
    · exact dflt h
  -- call
  · rename_i c hop
    split at h
    · rename_i f hcal
      unfold callX at h
      rw [hcal] at h
      dsimp only at h
      obtain ⟨vs, e1, h⟩ := vals_ok hA h
      obtain ⟨fv, e2, h⟩ := val_ok hA h
      split at h
      · rename_i g fi cap
        rw [force_iff] at h
        obtain ⟨hen, h⟩ := h
        intro next Q hnx
        have ea : c.args.map a.eval = vs.toArray := by apply Array.ext'; simp [← e1]
        have hex : (execOp a.eval o).run P w = .ok (.enter g (fi.toList ++ vs ++ cap.toList).toArray) w := by
          simp only [execOp, hop, resolve, hcal, e2, Deferred.ofValue, Sem.run_bind, Sem.run_pure, Result.andThen_ok, invoke, ea]
          rw [hen]
          congr 2
          apply Array.ext'
          simp
        rw [hex]
        refine Calls.mono h fun e w' he => ?_
        obtain ⟨v, rfl, hk, hK⟩ := he
        exact hnx _ _ _ _ hK (SVok.val v) (hB.keep hk) hN (Ext.refl _ _) (fun _ => ⟨rfl, rfl⟩)
      · exact h.elim
    · rename_i hcal
      obtain ⟨vs, e1, h⟩ := vals_ok hA h
      obtain ⟨v, w', g1, g2, g3⟩ := EvPrim.h h
      have ea : c.args.map a.eval = vs.toArray := by apply Array.ext'; simp [← e1]
      exact upon_val (by simp only [execOp, hop, resolve, hcal, Sem.run_bind, Sem.run_pure, Result.andThen_ok, invoke, ea, builtin, g1]) hB hN g2 g3
    · rename_i hcal
      obtain ⟨vs, e1, h⟩ := vals_ok hA h
      obtain ⟨v, w', g1, g2, g3⟩ := EvPrim.h h
      have ea : c.args.map a.eval = vs.toArray := by apply Array.ext'; simp [← e1]
      exact upon_val (by simp only [execOp, hop, resolve, hcal, Sem.run_bind, Sem.run_pure, Result.andThen_ok, invoke, ea, builtin, g1]) hB hN g2 g3
    · rename_i hcal
      obtain ⟨vs, e1, h⟩ := vals_ok hA h
      obtain ⟨v, w', g1, g2, g3⟩ := EvPrim.h h
      have ea : c.args.map a.eval = vs.toArray := by apply Array.ext'; simp [← e1]
      exact upon_val (by simp only [execOp, hop, resolve, hcal, Sem.run_bind, Sem.run_pure, Result.andThen_ok, invoke, ea, builtin, g1]) hB hN g2 g3
    · exact dflt h
  · exact dflt h
end
end Go.Fw
