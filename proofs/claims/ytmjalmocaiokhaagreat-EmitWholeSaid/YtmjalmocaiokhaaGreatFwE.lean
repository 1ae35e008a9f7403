/- The walking layer, part E: operations that change memory, make it, or call. No condition. -/
import Derived.Test.YtmjalmocaiokhaaGreatFwD
set_option linter.unusedVariables false
set_option linter.unusedSimpArgs false
namespace Go.Fw
open Go

noncomputable def repL (n : Nat) (z : List Value) : List Value :=
  Nat.rec (motive := fun _ => List Value) [] (fun _ ih => z ++ ih) n

noncomputable def one1 (v : Value) (K : Prop) : Prop := match v with | .agg _ => False | .tuple _ => False | _ => K

noncomputable def oneL (vs : List Value) (K : Prop) : Prop := List.rec (motive := fun _ => Prop) K (fun v _ ih => one1 v ih) vs

theorem oneL_ok {vs : List Value} {K : Prop} (h : oneL vs K) : (∀ v ∈ vs, v.oneCell' = true) ∧ K := by
  induction vs with
  | nil => exact ⟨by simp, h⟩
  | cons v vs ih =>
    have h' : one1 v (oneL vs K) := h
    unfold one1 at h'
    split at h'
    · exact h'.elim
    · exact h'.elim
    · rename_i h1 h2
      obtain ⟨g1, g2⟩ := ih h'
      refine ⟨fun u hu => ?_, g2⟩
      rcases List.mem_cons.1 hu with rfl | hu
      · cases u <;> first | rfl | exact absurd rfl (h1 _) | exact absurd rfl (h2 _)
      · exact g1 u hu

/-- Does what is made here get known elsewhere? -/
noncomputable def escT (C : Ctx) (dst : Option Nat) : Bool := match dst with | some d => nmem d C.esc | none => true

/-- The value of a callee's operand. -/
noncomputable def callX (ρ : List (Nat × SV)) (c : Call) (K : Nat → List Value → Prop) : Prop :=
  match c.callee with
  | .value f => vals ρ c.args.toList fun vs => val ρ f fun fv => (match fv with | .func (.func g) fi cap => force (fi.toList ++ vs ++ cap.toList) fun l => K g l | _ => False)
  | _ => False

noncomputable def effX (C : Ctx) (P : Program) (dr : Bool) (op : Op) (dst : Option Nat) (ty : Nat) (ρ : List (Nat × SV)) (bx : List Box) (nb : Nat) (w : World)
    (K : SV → List Box → Nat → World → Prop) (D : Prop) : Prop :=
  let newB (T : Nat) (cs : List Value) : Prop :=
    EvNew w (.cells cs.toArray T) fun r w' =>
      bif dr || escT C dst then K (.v (.pointer (some ⟨r, 0, none⟩))) bx nb w'
      else K (.bp nb r 0) (⟨nb, r, T, cs⟩ :: bx) (Nat.succ nb) w'
  match op with
  | .alloc T => known C T (newB T (C.ty T).zero)
  | .box T x => val ρ x fun v => force v.cells.toList fun cs => newB T cs
  | .buildSlice T len parts => (match (C.ty T).cls with
      | .slice e => known C e <| bif Nat.ble (Nat.mul len (C.ty e).size) 16777216 then
          force (repL len (C.ty e).zero) fun z => bif Nat.beq z.length (Nat.mul len (C.ty e).size) then
            partsX ρ (fun i k => k (Nat.mul i (C.ty e).size) (C.ty e).size) parts.toList z fun l =>
              EvNew w (.cells l.toArray e) fun r w' => K (.v (.slice (some ⟨r, 0, none⟩) len len)) bx nb w'
            else False
          else False
      | _ => False)
  | .store T a x => known C T <| val ρ x fun v => force v.cells.toList fun cs => bif Nat.beq cs.length (C.ty T).size then
      opd ρ a fun sv => SV.casesOn sv
        (fun u => match u with
          | .pointer (some ad) => (bif (C.ty T).agg then (EvDo P w (Instr.storeAt T (.pointer (some ad)) v) (rsOf bx) fun w' => K (.v undef) bx nb w')
              else (EvSt w ad v (rsOf bx) fun w' => K (.v undef) bx nb w'))
          | _ => False)
        (fun i r o => bif dr then False else oneL cs <| updB bx i (fun l k => setsL l o cs k) fun bx' => ∀ w', Fr [r] w w' → RelB bx' w' → K (.v undef) bx' nb w')
        (fun _ => False)
      else False
  | .mapUpdate T m k x => val ρ m fun a => val ρ k fun b => val ρ x fun c => EvDo P w (Instr.mapUpdate T a b c) (rsOf bx) fun w' => K (.v undef) bx nb w'
  | .insert T m k x => val ρ m fun a => val ρ k fun b => val ρ x fun c => EvDo P w (Instr.mapUpdate T a b c) (rsOf bx) fun w' => K (.v undef) bx nb w'
  | .mapEntry T m k => val ρ m fun a => val ρ k fun b => EvPrim P w (Instr.mapEntry T a b) (rsOf bx) fun v w' => K (.v v) bx nb w'
  | .entryStore T m s x => val ρ m fun a => val ρ s fun b => val ρ x fun c => EvDo P w (Instr.entryStore T a b c) (rsOf bx) fun w' => K (.v undef) bx nb w'
  | .makeMap T r => (match r with
      | none => (EvPrim P w (Instr.makeMap T none) (rsOf bx) fun v w' => K (.v v) bx nb w')
      | some x => val ρ x fun a => EvPrim P w (Instr.makeMap T (some a)) (rsOf bx) fun v w' => K (.v v) bx nb w')
  | .makeSlice T l c => val ρ l fun a => val ρ c fun b => EvPrim P w (Instr.makeSlice T a b) (rsOf bx) fun v w' => K (.v v) bx nb w'
  | .range T x => val ρ x fun a => EvPrim P w (Instr.range T a) (rsOf bx) fun v w' => K (.v v) bx nb w'
  | .next x s => val ρ x fun a => EvPrim P w (Instr.next a s ty) (rsOf bx) fun v w' => K (.v v) bx nb w'
  | .convert s d x => val ρ x fun a => (match (C.ty s).cls, (C.ty d).cls with
      | .str, .slice _ => EvPrim P w (convert s d a) (rsOf bx) fun v w' => K (.v v) bx nb w'
      | .slice _, .str => EvPrim P w (convert s d a) (rsOf bx) fun v w' => K (.v v) bx nb w'
      | _, _ => D)
  | .call c => (match c.callee with
      | .value _ => callX ρ c fun g vs => EvCall P g vs.toArray w (rsOf bx) fun v w' => K (.v v) bx nb w'
      | .builtin .append => vals ρ c.args.toList fun vs => EvPrim P w (Builtin.append_ c.argTypes ty vs.toArray) (rsOf bx) fun v w' => K (.v v) bx nb w'
      | .builtin .copy => vals ρ c.args.toList fun vs => EvPrim P w (Builtin.copy_ c.argTypes ty vs.toArray) (rsOf bx) fun v w' => K (.v v) bx nb w'
      | .builtin .delete => vals ρ c.args.toList fun vs => EvPrim P w (Builtin.delete_ c.argTypes ty vs.toArray) (rsOf bx) fun v w' => K (.v v) bx nb w'
      | _ => D)
  | _ => D

/-- One operation, in the world at hand. -/
noncomputable def opX (C : Ctx) (P : Program) (dr : Bool) (o : Oper) (ρ : List (Nat × SV)) (bx : List Box) (nb : Nat) (w : World) (K : SV → List Box → Nat → World → Prop) : Prop :=
  effX C P dr o.op o.dst o.type ρ bx nb w K (pureX C P (seqH P w) o.op o.type ρ bx fun s => K s bx nb w)

/-- The keys are old, the blocks differ. -/
structure RelN (bx : List Box) (nb : Nat) : Prop where
  old : ∀ b ∈ bx, b.i < nb
  nd : (rsOf bx).Nodup

structure Ext (bx bx' : List Box) (nb nb' : Nat) : Prop where
  le : nb ≤ nb'
  ok : ∀ s, SVok bx nb s → SVok bx' nb' s

theorem Ext.refl (bx : List Box) (nb : Nat) : Ext bx bx nb nb := ⟨Nat.le_refl _, fun _ h => h⟩

section
variable {C : Ctx} {P : Program}

theorem RelB.keep {bx : List Box} {w w' : World} (h : RelB bx w) (hk : Keep (rsOf bx) w w') : RelB bx w' := by
  intro b hb
  have h1 := h b hb
  have hlt : b.r < w.heap.size := by
    rcases Nat.lt_or_ge b.r w.heap.size with h2 | h2
    · exact h2
    · rw [Array.getElem?_eq_none h2] at h1; cases h1
  rw [hk b.r (List.mem_map.2 ⟨b, hb, rfl⟩) hlt, h1]

theorem RelB.lt {bx : List Box} {w : World} (h : RelB bx w) {b : Box} (hb : b ∈ bx) : b.r < w.heap.size := by
  have h1 := h b hb
  rcases Nat.lt_or_ge b.r w.heap.size with h2 | h2
  · exact h2
  · rw [Array.getElem?_eq_none h2] at h1; cases h1

theorem keep_alloc {L : List Nat} (w : World) (o : Obj) : Keep L w (w.alloc o) := fun r _ hl => Go.RowKit.Below.heap_alloc w o r hl

theorem heap_alloc_same (w : World) (o : Obj) : (w.alloc o).heap[w.heap.size]? = some o := by
  show (w.heap.push o)[w.heap.size]? = _
  simp

/-- What the law of an operation says. -/
def Upon (P : Program) (o : Oper) (a : Act) (w : World) (bx : List Box) (nb : Nat) (dr : Bool) (K : SV → List Box → Nat → World → Prop) : Prop :=
  ∀ (next : Act → World → Prop) (Q : Exit → Act → World → Prop),
    (∀ s bx' nb' w', K s bx' nb' w' → SVok bx' nb' s → RelB bx' w' → RelN bx' nb' → Ext bx bx' nb nb' → (dr = true → bx' = bx ∧ nb' = nb) → next (a.put o.dst s.den) w') →
    o.upon P a next Q ((execOp a.eval o).run P w)

theorem upon_val {o : Oper} {a : Act} {w : World} {bx : List Box} {nb : Nat} {dr : Bool} {K : SV → List Box → Nat → World → Prop} {v : Value} {w' : World}
    (hr : (execOp a.eval o).run P w = .ok (.value v) w') (hB : RelB bx w) (hN : RelN bx nb) (hk : Keep (rsOf bx) w w') (h : K (.v v) bx nb w') : Upon P o a w bx nb dr K := by
  intro next Q hn
  rw [hr]
  exact hn _ _ _ _ h (SVok.val v) (hB.keep hk) hN (Ext.refl _ _) (fun _ => ⟨rfl, rfl⟩)

theorem upon_skip {o : Oper} {a : Act} {w : World} {bx : List Box} {nb : Nat} {dr : Bool} {K : SV → List Box → Nat → World → Prop} {w' : World}
    (hr : (execOp a.eval o).run P w = .ok .skip w') (hB : RelB bx w) (hN : RelN bx nb) (hk : Keep (rsOf bx) w w') (h : K (.v undef) bx nb w') : Upon P o a w bx nb dr K := by
  intro next Q hn
  rw [hr]
  exact hn _ _ _ _ h (SVok.val undef) (hB.keep hk) hN (Ext.refl _ _) (fun _ => ⟨rfl, rfl⟩)

theorem upon_new {o : Oper} {a : Act} {w : World} {bx : List Box} {nb T : Nat} {cs : List Value} {dr : Bool} {b : Bool} {K : SV → List Box → Nat → World → Prop}
    (hr : (execOp a.eval o).run P w = .ok (.value (.pointer (some ⟨w.heap.size, 0, none⟩))) (w.alloc (.cells cs.toArray T))) (hB : RelB bx w) (hN : RelN bx nb)
    (h : EvNew w (.cells cs.toArray T) fun r w' => bif dr || b then K (.v (.pointer (some ⟨r, 0, none⟩))) bx nb w' else K (.bp nb r 0) (⟨nb, r, T, cs⟩ :: bx) (Nat.succ nb) w') :
    Upon P o a w bx nb dr K := by
  obtain ⟨h⟩ := h
  cases hb : (dr || b)
  · simp only [hb, cond_false] at h
    intro next Q hn
    rw [hr]
    have hd : dr = false := by cases dr <;> simp_all
    refine hn (.bp nb w.heap.size 0) _ _ _ h ?_ ?_ ?_ ?_ (fun e => by rw [hd] at e; cases e)
    · intro i r p e
      injection e with e1 e2 e3
      subst e1 e2
      refine ⟨Nat.lt_succ_self _, fun x hx hi => ?_⟩
      rcases List.mem_cons.1 hx with rfl | hx
      · rfl
      · have := hN.old x hx; omega
    · intro x hx
      rcases List.mem_cons.1 hx with rfl | hx
      · exact heap_alloc_same w _
      · exact (hB.keep (keep_alloc w _)) x hx
    · refine ⟨fun x hx => ?_, ?_⟩
      · rcases List.mem_cons.1 hx with rfl | hx
        · exact Nat.lt_succ_self _
        · exact Nat.lt_succ_of_lt (hN.old x hx)
      · show (w.heap.size :: rsOf bx).Nodup
        refine List.nodup_cons.2 ⟨fun hm => ?_, hN.nd⟩
        obtain ⟨x, hx, he⟩ := List.mem_map.1 hm
        have := hB.lt hx
        omega
    · refine ⟨Nat.le_succ _, fun s hs i r p e => ?_⟩
      obtain ⟨g1, g2⟩ := hs i r p e
      refine ⟨Nat.lt_succ_of_lt g1, fun x hx hi => ?_⟩
      rcases List.mem_cons.1 hx with rfl | hx
      · exact absurd hi (Nat.ne_of_gt g1)
      · exact g2 x hx hi
  · simp only [hb, cond_true] at h
    exact upon_val hr hB hN (keep_alloc w _) h

theorem run_storeAt_one (hC : COk C P) {T : Nat} (hn : (C.ty T).cls ≠ .no) {ad : Addr} {v : Value} {w : World} (hs : v.cells.toList.length = (C.ty T).size) (hv : v.oneCell' = true) {u : Value}
    (hc : w.cell? ad = some u) (hf : w.frozen? ad = false) : (Instr.storeAt T (.pointer (some ad)) v).run P w = .ok () (w.setCell ad v) := by
  have hcs : v.cells = #[v] := by cases v <;> first | rfl | simp [Value.oneCell'] at hv
  have hs' : (C.ty T).size = 1 := by rw [← hs, hcs]; rfl
  have ha0 : ad.add 0 = ad := by simp [Addr.add]
  simp [Instr.storeAt, Instr.sureAddr, storeVar, hC.sizeOf hn, hcs, hs', storeCells, ha0, run_store P w ad v .plain hv, hc, hf]

theorem setRow_list (w : World) (g : Nat) (cur : Array Value) (o : Nat) (vs : List Value) : True := trivial

theorem setsOf_eq : ∀ (vs l : List Value) (o : Nat), o + vs.length ≤ l.length → setsOf l o vs = l.take o ++ vs ++ l.drop (o + vs.length)
  | [], l, o, _ => by simp [setsOf]
  | v :: vs, l, o, h => by
    simp only [List.length_cons] at h
    rw [setsOf, setsOf_eq vs (l.set o v) (o + 1) (by simp; omega)]
    apply List.ext_getElem?
    intro i
    simp only [List.getElem?_append, List.getElem?_take, List.getElem?_drop, List.length_append, List.length_take, List.length_set, List.length_cons, List.getElem?_set, List.getElem?_cons]
    by_cases h1 : i < o
    · simp [h1, show i < o + 1 by omega, show i < min (o+1) l.length by omega, show i < min (o + 1) l.length + vs.length by omega, show i < min o l.length by omega, show i < min o l.length + (vs.length + 1) by omega, show o ≠ i by omega]
    · by_cases h2 : i = o
      · subst h2
        simp [show min i l.length = i by omega, show min (i + 1) l.length = i + 1 by omega, show i < l.length by omega]
        omega
      · simp only [show min o l.length = o by omega, show min (o + 1) l.length = o + 1 by omega]
        by_cases h3 : i < o + 1 + vs.length
        · simp [h3, show ¬ i < o + 1 by omega, show i < o + (vs.length + 1) by omega, show ¬ i < o by omega, show i - o ≠ 0 by omega, show i - o - 1 = i - (o + 1) by omega]
        · simp [h3, show ¬ i < o + (vs.length + 1) by omega, show o ≠ o + 1 + vs.length + (i - (o + 1 + vs.length)) by omega]
          congr 1
          omega
end
end Go.Fw
