/- The walking layer, part M: maps. No condition. -/
import Derived.Test.YtmjalmocaiokhaaGreatFwK
import Derived.MapKept
import Derived.Maps.RangeRun
set_option linter.unusedVariables false
set_option linter.unusedSimpArgs false
namespace Go.Fw
open Go Go.MapKept
open Go.ChangeMaps (setBlock)

/-- How keys are written as values. -/
structure Ky (d : TypeDesc) {κ : Type} (ek : κ → Value) : Prop where
  isKey : ∀ k, IsKey d (ek k)
  inj : ∀ a b, ek a = ek b → a = b

theorem Ky.int (q : IntKind) : Ky (.int q) (fun n : Int => Value.int q n) := ⟨fun _ => rfl, fun a b h => by injection h⟩
theorem Ky.str : Ky .string (fun s : ByteArray => Value.string s) := ⟨fun _ => trivial, fun a b h => by injection h⟩

/-- A map that is known as a function. -/
def HM (w : World) (r : Nat) {κ β : Type} (ek : κ → Value) (R : β → Value → Prop) (f : κ → Option β) : Prop :=
  ∃ es clock, w.heap[r]? = some (.map es clock) ∧ Stamped es clock ∧ (∀ x ∈ es.toList, ∃ k b, x.key = ek k ∧ f k = some b ∧ R b x.val) ∧ ∀ k, f k ≠ none → ∃ x ∈ es.toList, x.key = ek k

/-- A struct is laid into a block of its type. -/
theorem EvDo.storeBlk {P : Program} {C : Ctx} {w : World} {L : List Nat} (hC : COk C P) {T r T' : Nat} {cs vs : List Value} (hn : knownB (C.ty T).cls = true) (hB : HB w r T' cs) (hl : vs.length = (C.ty T).size) (hl' : cs.length = vs.length)
    (h1 : ∀ u ∈ vs, u.oneCell' = true) (hL : ∀ x ∈ L, x ≠ r) {Q : World → Prop} (k : ∀ w', Fr [r] w w' → HB w' r T' vs → Q w') :
    EvDo P w (Instr.storeAt T (.pointer (some ⟨r, 0, none⟩)) (.agg vs.toArray)) L Q := by
  have hrun : (storeCells ⟨r, 0, none⟩ vs).run P w = .ok () (w.setRow r (setsOf cs 0 vs).toArray) := by
    have := run_storeCells_at P r 0 T' vs 0 cs.toArray w hB (by simp; omega) h1
    rw [this, setsOf_eq _ _ _ (by omega)]
    skip
  have hset : setsOf cs 0 vs = vs := by
    rw [setsOf_eq _ _ _ (by omega)]
    simp [hl']
  rw [hset] at hrun
  have hfr : Fr [r] w (w.setRow r vs.toArray) := ⟨rfl, rfl, rfl, by simp, fun k hk hne => setRow_other w r k _ (by simpa using hne)⟩
  refine ⟨_, ?_, Keep.of_fr hfr (fun x hx hm => hL x hx (by simpa using hm)), k _ hfr (setRow_heap w r _ _ T' (0, 0) hB)⟩
  simp [Instr.storeAt, Instr.sureAddr, storeVar, hC.sizeOf (knownB_ok hn), Value.cells, hl, hrun]

def setF {κ β : Type} [DecidableEq κ] (f : κ → Option β) (k : κ) (b : Option β) : κ → Option β := fun a => if a = k then b else f a
theorem setF_self {κ β : Type} [DecidableEq κ] (f : κ → Option β) (k : κ) (b : Option β) : setF f k b k = b := if_pos rfl
theorem setF_ne {κ β : Type} [DecidableEq κ] (f : κ → Option β) {k a : κ} (b : Option β) (h : a ≠ k) : setF f k b a = f a := if_neg h

theorem fr_setBlock {w : World} {r : Nat} {o o' : Obj} (hb : w.heap[r]? = some o) : Fr [r] w (setBlock w r o') :=
  ⟨rfl, rfl, rfl, by simp [setBlock], fun x hx hne => by
    show (w.heap.setIfInBounds r o')[x]? = w.heap[x]?
    exact (heap_set hb).2 x (by simpa using hne)⟩

section
variable {P : Program} {C : Ctx} {w w' : World} {r : Nat} {κ β : Type} {ek : κ → Value} {R : β → Value → Prop} {f : κ → Option β} {S : List Nat} {L : List Nat}

theorem HM.lt (h : HM w r ek R f) : r < w.heap.size := by
  obtain ⟨es, c, h1, _⟩ := h
  rcases Nat.lt_or_ge r w.heap.size with h2 | h2
  · exact h2
  · rw [Array.getElem?_eq_none h2] at h1; cases h1
theorem HM.fr (h : HM w r ek R f) (hf : Fr S w w') (hs : r ∉ S) : HM w' r ek R f := by
  have hl := h.lt
  obtain ⟨es, c, h1, h2⟩ := h
  exact ⟨es, c, by rw [hf.block r hl hs]; exact h1, h2⟩
theorem HM.fr0 (h : HM w r ek R f) (hf : Fr [] w w') : HM w' r ek R f := h.fr hf (by simp)
theorem HM.ne_cells {T : Nat} {cs : List Value} {r' : Nat} (h : HM w r ek R f) (h' : HB w r' T cs) : r ≠ r' := by
  rintro rfl
  obtain ⟨es, c, h1, _⟩ := h
  unfold HB at h'
  rw [h1] at h'; cases h'

/-- The class of a key type. -/
def KeyCls (C : Ctx) (kt : Nat) (d : TypeDesc) : Prop := (∃ q, (C.ty kt).cls = .int q ∧ d = .int q) ∨ ((C.ty kt).cls = .str ∧ d = .string)
theorem KeyCls.int {q : IntKind} {kt : Nat} (h : (C.ty kt).cls = .int q) : KeyCls C kt (.int q) := .inl ⟨q, h, rfl⟩
theorem KeyCls.str {kt : Nat} (h : (C.ty kt).cls = .str) : KeyCls C kt .string := .inr ⟨h, rfl⟩
theorem KeyCls.und (hC : COk C P) {kt : Nat} {d : TypeDesc} (h : KeyCls C kt d) : P.underlying kt = some d := by
  rcases h with ⟨q, h, rfl⟩ | ⟨h, rfl⟩
  · exact hC.int h
  · exact hC.str h

theorem HM.find (h : HM w r ek R f) {d : TypeDesc} (K : Ky d ek) (k : κ) : ∃ es clock, w.heap[r]? = some (.map es clock) ∧ Stamped es clock ∧ (∀ x ∈ es.toList, IsKey d x.key) ∧
    (∀ x ∈ es.toList, ∃ k b, x.key = ek k ∧ f k = some b ∧ R b x.val) ∧ (∀ k, f k ≠ none → ∃ x ∈ es.toList, x.key = ek k) ∧
    ((Instr.findNow d (ek k) es.toList 0 = some none ∧ f k = none ∧ ∀ x ∈ es.toList, x.key ≠ ek k) ∨
     ∃ j e b, Instr.findNow d (ek k) es.toList 0 = some (some (j, e.val)) ∧ es[j]? = some e ∧ e.key = ek k ∧ f k = some b ∧ R b e.val) := by
  obtain ⟨es, c, h1, h2, h3, h4⟩ := h
  have hks : ∀ x ∈ es.toList, IsKey d x.key := fun x hx => by
    obtain ⟨k, b, e, _⟩ := h3 x hx; rw [e]; exact K.isKey k
  refine ⟨es, c, h1, h2, hks, h3, h4, ?_⟩
  rcases findNow_spec (K.isKey k) es.toList 0 hks with ⟨g1, g2⟩ | ⟨j, e, g1, g2, g3⟩
  · refine .inl ⟨g1, ?_, g2⟩
    cases hf : f k with
    | none => rfl
    | some b =>
      obtain ⟨x, hx, hk⟩ := h4 k (by simp [hf])
      exact absurd hk (g2 x hx)
  · obtain ⟨k', b, e1, e2, e3⟩ := h3 e (List.mem_of_getElem? g2)
    have : k' = k := K.inj _ _ (e1.symm.trans g3)
    subst this
    exact .inr ⟨j, e, b, by simpa using g1, by simpa using g2, g3, e2, e3⟩

theorem EvRd.look_ok (hC : COk C P) {t kt et : Nat} {d : TypeDesc} (ht : (C.ty t).cls = .map kt et) (hk : KeyCls C kt d) (he : knownB (C.ty et).cls = true) (K : Ky d ek) (h : HM w r ek R f) (k : κ) {Q : Value → Prop}
    (k1 : ∀ b v, f k = some b → R b v → Q (.tuple #[v, .bool true])) (k2 : ∀ z : Value, f k = none → z.cells.toList = (C.ty et).zero → Q (.tuple #[z, .bool false])) :
    EvRd P w (Instr.lookup t (.map (some r)) (ek k) true) Q := by
  obtain ⟨es, c, h1, h2, h3, _, _, h4⟩ := h.find K k
  obtain ⟨z, hz1, hz2⟩ := hC.zero (knownB_ok he)
  rcases h4 with ⟨g1, g2, _⟩ | ⟨j, e, b, g1, g2, g3, g4, g5⟩
  · exact ⟨_, by simp [Instr.lookup, run_underlying (hC.map ht), MapKept.run_getObj_map h1, MapKept.run_checkKey (hk.und hC) (K.isKey k), MapKept.run_findKey (hk.und hC) g1, hz2, Result.andThen], k2 z g2 hz1⟩
  · exact ⟨_, by simp [Instr.lookup, run_underlying (hC.map ht), MapKept.run_getObj_map h1, MapKept.run_checkKey (hk.und hC) (K.isKey k), MapKept.run_findKey (hk.und hC) g1, Result.andThen], k1 b _ g4 g5⟩
theorem EvRd.look (hC : COk C P) {t kt et : Nat} {d : TypeDesc} (ht : (C.ty t).cls = .map kt et) (hk : KeyCls C kt d) (he : knownB (C.ty et).cls = true) (K : Ky d ek) (h : HM w r ek R f) (k : κ) {Q : Value → Prop}
    (k1 : ∀ b v, f k = some b → R b v → Q v) (k2 : ∀ z : Value, f k = none → z.cells.toList = (C.ty et).zero → Q z) :
    EvRd P w (Instr.lookup t (.map (some r)) (ek k) false) Q := by
  obtain ⟨es, c, h1, h2, h3, _, _, h4⟩ := h.find K k
  obtain ⟨z, hz1, hz2⟩ := hC.zero (knownB_ok he)
  rcases h4 with ⟨g1, g2, _⟩ | ⟨j, e, b, g1, g2, g3, g4, g5⟩
  · exact ⟨_, by simp [Instr.lookup, run_underlying (hC.map ht), MapKept.run_getObj_map h1, MapKept.run_checkKey (hk.und hC) (K.isKey k), MapKept.run_findKey (hk.und hC) g1, hz2, Result.andThen], k2 z g2 hz1⟩
  · exact ⟨_, by simp [Instr.lookup, run_underlying (hC.map ht), MapKept.run_getObj_map h1, MapKept.run_checkKey (hk.und hC) (K.isKey k), MapKept.run_findKey (hk.und hC) g1, Result.andThen], k1 b _ g4 g5⟩
theorem cell_one {z x : Value} (h : z.cells.toList = [x]) (hx : ∀ cs, x ≠ .agg cs) (ha : ∀ cs, z ≠ .agg cs) : z = x := by
  cases z <;> first | (exact absurd rfl (ha _)) | (simpa [Value.cells] using h)

theorem EvTRd.of {P : Program} {S : World → Prop} {sem : Sem Value} {v : Value} {K : Value → Prop} (h : ∀ w, S w → EvRd P w sem (· = v)) (k : K v) : EvTRd P S sem K :=
  ⟨v, fun w hw => by obtain ⟨u, h1, h2⟩ := (h w hw).h; rw [h2] at h1; exact h1, k⟩

theorem EvTRd.look_none {S : World → Prop} (hC : COk C P) {t kt et : Nat} {d : TypeDesc} (ht : (C.ty t).cls = .map kt et) (hk : KeyCls C kt d) (he : knownB (C.ty et).cls = true) (K : Ky d ek) (h : ∀ w, S w → HM w r ek R f) (k : κ) (hf : f k = none) {Q : Value → Prop}
    (k1 : ∀ z : Value, z.cells.toList = (C.ty et).zero → Q (.tuple #[z, .bool false])) : EvTRd P S (Instr.lookup t (.map (some r)) (ek k) true) Q := by
  obtain ⟨z, hz1, hz2⟩ := hC.zero (knownB_ok he)
  refine ⟨.tuple #[z, .bool false], fun w hw => ?_, k1 z hz1⟩
  obtain ⟨es, c, h1, h2, h3, _, _, h4⟩ := (h w hw).find K k
  rcases h4 with ⟨g1, g2, _⟩ | ⟨j, e, b, g1, g2, g3, g4, g5⟩
  · simp [Instr.lookup, run_underlying (hC.map ht), MapKept.run_getObj_map h1, MapKept.run_checkKey (hk.und hC) (K.isKey k), MapKept.run_findKey (hk.und hC) g1, hz2, Result.andThen]
  · rw [hf] at g4; cases g4

variable [DecidableEq κ]

theorem HM.store (hC : COk C P) {t kt et : Nat} {d : TypeDesc} (ht : (C.ty t).cls = .map kt et) (hk : KeyCls C kt d) (K : Ky d ek) (h : HM w r ek R f) (k : κ) {b : β} {v : Value} (hv : R b v) :
    ∃ w', (Instr.mapUpdate t (.map (some r)) (ek k) v).run P w = .ok () w' ∧ Fr [r] w w' ∧ HM w' r ek R (setF f k (some b)) := by
  obtain ⟨es, c, h1, h2, h3, h5, h6, h4⟩ := h.find K k
  rcases h4 with ⟨g1, g2, g3⟩ | ⟨j, e, b', g1, g2, g3, g4, g5⟩
  · refine ⟨setBlock w r (.map (es.push { key := ek k, val := v, born := c }) (c + 1)), ?_, fr_setBlock h1, _, _, (heap_set h1).1, stamped_push h2 g3, ?_, ?_⟩
    · simp [Instr.mapUpdate, run_underlying (hC.map ht), MapKept.run_getObj_map h1, MapKept.run_checkKey (hk.und hC) (K.isKey k), MapKept.run_findKey (hk.und hC) g1, MapKept.run_setObj_map _ h1, Result.andThen, setBlock]
    · intro x hx
      simp only [Array.toList_push, List.mem_append, List.mem_singleton] at hx
      rcases hx with hx | rfl
      · obtain ⟨k', b', e1, e2, e3⟩ := h5 x hx
        have hne : k' ≠ k := by rintro rfl; exact g3 x hx e1
        exact ⟨k', b', e1, by rw [setF_ne _ _ hne]; exact e2, e3⟩
      · exact ⟨k, b, rfl, setF_self _ _ _, hv⟩
    · intro k' hk'
      by_cases hkk : k' = k
      · subst hkk; exact ⟨{ key := ek k', val := v, born := c }, by simp, rfl⟩
      · rw [setF_ne _ _ hkk] at hk'
        obtain ⟨x, hx, hxk⟩ := h6 k' hk'
        exact ⟨x, by simp [Array.mem_toList_iff.1 hx], hxk⟩
  · have hj : es[j]? = some e := g2
    have hkey : ∀ e', es[j]? = some e' → ({ e' with key := ek k, val := v } : MapEntry).key = e'.key := fun e' he' => by rw [hj] at he'; cases he'; exact g3.symm
    refine ⟨setBlock w r (.map (es.modify j fun e => { e with key := ek k, val := v }) c), ?_, fr_setBlock h1, _, _, (heap_set h1).1, stamped_modify h2 _ _ (fun _ _ => rfl) (fun e' _ he' => hkey e' he'), ?_, ?_⟩
    · simp [Instr.mapUpdate, run_underlying (hC.map ht), MapKept.run_getObj_map h1, MapKept.run_checkKey (hk.und hC) (K.isKey k), MapKept.run_findKey (hk.und hC) g1, hj, g3, MapKept.run_keyThatStays (K.isKey k), MapKept.run_setObj_map _ h1, Result.andThen, setBlock]
    · intro x hx
      obtain ⟨i, hi⟩ := List.getElem?_of_mem hx
      rw [Array.getElem?_toList, Array.getElem?_modify] at hi
      by_cases hij : j = i
      · subst hij
        rw [if_pos rfl, hj] at hi
        simp only [Option.map_some, Option.some.injEq] at hi
        subst hi
        exact ⟨k, b, rfl, setF_self _ _ _, hv⟩
      · rw [if_neg hij] at hi
        have hx' : x ∈ es.toList := Array.mem_toList_iff.2 (Array.mem_of_getElem? hi)
        obtain ⟨k', b'', e1, e2, e3⟩ := h5 x hx'
        have hne : k' ≠ k := by
          rintro rfl
          have hnd := h2.2.2
          have a1 : (es.toList.map (·.key))[i]? = some (ek k') := by rw [List.getElem?_map, Array.getElem?_toList, hi]; simp [e1]
          have a2 : (es.toList.map (·.key))[j]? = some (ek k') := by rw [List.getElem?_map, Array.getElem?_toList, hj]; simp [g3]
          have := (List.getElem?_inj (by have := (List.getElem?_eq_some_iff.1 a1).1; exact this) hnd).1 (a1.trans a2.symm)
          exact hij this.symm
        exact ⟨k', b'', e1, by rw [setF_ne _ _ hne]; exact e2, e3⟩
    · intro k' hk'
      have hm : ek k' ∈ es.toList.map (·.key) := by
        by_cases hkk : k' = k
        · subst hkk; exact List.mem_map.2 ⟨e, Array.mem_toList_iff.2 (Array.mem_of_getElem? hj), g3⟩
        · rw [setF_ne _ _ hkk] at hk'
          obtain ⟨x, hx, hxk⟩ := h6 k' hk'
          exact List.mem_map.2 ⟨x, hx, hxk⟩
      rw [← modify_keys j _ hkey] at hm
      obtain ⟨x, hx, e⟩ := List.mem_map.1 hm
      exact ⟨x, hx, e⟩

theorem EvDo.upd (hC : COk C P) {t kt et : Nat} {d : TypeDesc} (ht : (C.ty t).cls = .map kt et) (hk : KeyCls C kt d) (K : Ky d ek) (h : HM w r ek R f) (k : κ) {b : β} {v : Value} (hv : R b v) (hL : ∀ x ∈ L, x ≠ r) {Q : World → Prop}
    (k1 : ∀ w', Fr [r] w w' → HM w' r ek R (setF f k (some b)) → Q w') : EvDo P w (Instr.mapUpdate t (.map (some r)) (ek k) v) L Q := by
  obtain ⟨w', h1, h2, h3⟩ := h.store hC ht hk K k hv
  exact ⟨w', h1, Keep.of_fr h2 (fun x hx hm => hL x hx (by simpa using hm)), k1 w' h2 h3⟩

theorem EvPrim.del (hC : COk C P) {t kt et ty : Nat} {d : TypeDesc} (ht : (C.ty t).cls = .map kt et) (hk : KeyCls C kt d) (K : Ky d ek) (h : HM w r ek R f) (k : κ) (hL : ∀ x ∈ L, x ≠ r) {Q : Value → World → Prop}
    (k1 : ∀ w', Fr [r] w w' → HM w' r ek R (setF f k none) → Q (.tuple #[]) w') : EvPrim P w (Builtin.delete_ #[t, kt] ty #[.map (some r), ek k]) L Q := by
  obtain ⟨es, c, h1, h2, h3, h5, h6, h4⟩ := h.find K k
  have kp : ∀ o, Keep L w (setBlock w r o) := fun o => Keep.of_fr (fr_setBlock h1) (fun x hx hm => hL x hx (by simpa using hm))
  rcases h4 with ⟨g1, g2, g3⟩ | ⟨j, e, b', g1, g2, g3, g4, g5⟩
  · refine ⟨_, setBlock w r (.map es c), ?_, kp _, k1 _ (fr_setBlock h1) ⟨es, c, (heap_set h1).1, h2, ?_, ?_⟩⟩
    · simp [Builtin.delete_, run_underlying (hC.map ht), MapKept.run_getObj_map h1, MapKept.run_checkKey (hk.und hC) (K.isKey k), MapKept.run_findKey (hk.und hC) g1, MapKept.run_setObj_map _ h1, Result.andThen, setBlock]
    · intro x hx
      obtain ⟨k', b', e1, e2, e3⟩ := h5 x hx
      have hne : k' ≠ k := by rintro rfl; exact g3 x hx e1
      exact ⟨k', b', e1, by rw [setF_ne _ _ hne]; exact e2, e3⟩
    · intro k' hk'
      by_cases hkk : k' = k
      · subst hkk; exact absurd (setF_self _ _ _) hk'
      · rw [setF_ne _ _ hkk] at hk'; exact h6 k' hk'
  · have hlt : j < es.size := (Array.getElem?_eq_some_iff.1 g2).1
    have hel : (es.eraseIdxIfInBounds j).toList = es.toList.eraseIdx j := by unfold Array.eraseIdxIfInBounds; rw [dif_pos hlt]; simp
    have hjk : ∀ i x, es.toList[i]? = some x → x.key = ek k → i = j := by
      intro i x hi hx
      have a1 : (es.toList.map (·.key))[i]? = some (ek k) := by rw [List.getElem?_map, hi]; simp [hx]
      have a2 : (es.toList.map (·.key))[j]? = some (ek k) := by rw [List.getElem?_map, Array.getElem?_toList, g2]; simp [g3]
      exact (List.getElem?_inj (List.getElem?_eq_some_iff.1 a1).1 h2.2.2).1 (a1.trans a2.symm)
    refine ⟨_, setBlock w r (.map (es.eraseIdxIfInBounds j) c), ?_, kp _, k1 _ (fr_setBlock h1) ⟨_, c, (heap_set h1).1, stamped_erase h2 _, ?_, ?_⟩⟩
    · simp [Builtin.delete_, run_underlying (hC.map ht), MapKept.run_getObj_map h1, MapKept.run_checkKey (hk.und hC) (K.isKey k), MapKept.run_findKey (hk.und hC) g1, MapKept.run_setObj_map _ h1, Result.andThen, setBlock]
    · intro x hx
      rw [hel] at hx
      obtain ⟨i, hne, hi⟩ := List.mem_eraseIdx_iff_getElem?.1 hx
      obtain ⟨k', b', e1, e2, e3⟩ := h5 x (List.mem_of_getElem? hi)
      have hnk : k' ≠ k := by rintro rfl; exact hne (hjk i x hi e1)
      exact ⟨k', b', e1, by rw [setF_ne _ _ hnk]; exact e2, e3⟩
    · intro k' hk'
      by_cases hkk : k' = k
      · subst hkk; exact absurd (setF_self _ _ _) hk'
      · rw [setF_ne _ _ hkk] at hk'
        obtain ⟨x, hx, hxk⟩ := h6 k' hk'
        obtain ⟨i, hi⟩ := List.getElem?_of_mem hx
        refine ⟨x, ?_, hxk⟩
        rw [hel]
        refine List.mem_eraseIdx_iff_getElem?.2 ⟨i, ?_, hi⟩
        rintro rfl
        rw [Array.getElem?_toList, g2] at hi
        injection hi with hi
        subst hi
        exact hkk (K.inj _ _ (hxk.symm.trans g3))

omit [DecidableEq κ] in
theorem EvPrim.mkMap {t : Nat} {Q : Value → World → Prop} (ek : κ → Value) (R : β → Value → Prop) (k1 : ∀ r w', r = w.heap.size → w'.heap.size = r + 1 → Fr [] w w' → HM w' r ek R (fun _ => none) → Q (.map (some r)) w') : EvPrim P w (Instr.makeMap t none) L Q := by
  refine ⟨_, w.alloc (.map #[] 0), by simp [Instr.makeMap, Result.andThen], keep_alloc w _, k1 _ _ rfl (by show (w.heap.push _).size = _; simp) (Fr.alloc w _) ⟨#[], 0, heap_alloc_same w _, stamped_empty 0, by simp, by simp⟩⟩

/-- A round over a map: the keys that have been handed out, how many are left; the last one handed out. -/
def Rng (w : World) (r it : Nat) (ek : κ → Value) (R : β → Value → Prop) (f : κ → Option β) (done : List κ) (n : Nat) (last : Option κ) : Prop :=
  ∃ es clock seen, w.heap[r]? = some (.map es clock) ∧ Stamped es clock ∧ (∀ x ∈ es.toList, ∃ k b, x.key = ek k ∧ f k = some b ∧ R b x.val) ∧ (∀ k, f k ≠ none → ∃ x ∈ es.toList, x.key = ek k) ∧
    w.heap[it]? = some (.mapIter (some r) clock seen clock) ∧ done.Nodup ∧ (∀ k ∈ done, f k ≠ none) ∧ (∀ x ∈ es.toList, ∀ k, x.key = ek k → (seen.contains x.born = true ↔ k ∈ done)) ∧ n = (leftOf es seen).size ∧
    ∀ k, last = some k → ∃ e ∈ es.toList, e.key = ek k ∧ ∃ s' : Array Nat, seen = s'.push e.born

omit [DecidableEq κ] in
theorem Rng.ne {it : Nat} {done : List κ} {n : Nat} {last : Option κ} (h : Rng w r it ek R f done n last) : it ≠ r := by
  rintro rfl
  obtain ⟨es, c, seen, h1, _, _, _, h5, _⟩ := h
  rw [h1] at h5; cases h5

omit [DecidableEq κ] in
theorem Rng.fr {it : Nat} {done : List κ} {n : Nat} {last : Option κ} (h : Rng w r it ek R f done n last) (hf : Fr S w w') (hs : r ∉ S) (hs' : it ∉ S) : Rng w' r it ek R f done n last := by
  obtain ⟨es, c, seen, h1, h2, h3, h4, h5, h6⟩ := h
  have hlt : ∀ x o, w.heap[x]? = some o → x < w.heap.size := fun x o hx => by
    rcases Nat.lt_or_ge x w.heap.size with h2 | h2
    · exact h2
    · rw [Array.getElem?_eq_none h2] at hx; cases hx
  exact ⟨es, c, seen, by rw [hf.block r (hlt _ _ h1) hs]; exact h1, h2, h3, h4, by rw [hf.block it (hlt _ _ h5) hs']; exact h5, h6⟩

omit [DecidableEq κ] in
theorem EvPrim.rangeMap (hC : COk C P) {t kt et : Nat} (ht : (C.ty t).cls = .map kt et) (h : HM w r ek R f) {Q : Value → World → Prop}
    (k1 : ∀ it w' n, it = w.heap.size → w'.heap.size = it + 1 → Fr [] w w' → Rng w' r it ek R f [] n none → Q (.pointer (some ⟨it, 0, none⟩)) w') : EvPrim P w (Instr.range t (.map (some r))) L Q := by
  have hlt := h.lt
  obtain ⟨es, c, h1, h2, h3, h4⟩ := h
  refine ⟨_, w.alloc (.mapIter (some r) c #[] c), by simp [Instr.range, run_underlying (hC.map ht), MapKept.run_getObj_map h1, Result.andThen], keep_alloc w _, k1 _ _ _ rfl (by show (w.heap.push _).size = _; simp) (Fr.alloc w _)
    ⟨es, c, #[], ?_, h2, h3, h4, heap_alloc_same w _, List.nodup_nil, by simp, by simp, rfl, by simp⟩⟩
  rw [(MapKept.heap_alloc w _).2 r hlt]; exact h1

omit [DecidableEq κ] in
theorem EvPrim.nextMap {ty it : Nat} {done : List κ} {n : Nat} {last : Option κ} (hinj : ∀ a b, ek a = ek b → a = b) (h : Rng w r it ek R f done n last) (hL : ∀ x ∈ L, x ≠ it) {Q : Value → World → Prop}
    (k1 : (∀ k, f k ≠ none → k ∈ done) → Q (.tuple #[.bool false]) w)
    (k2 : ∀ k b v w' n', n' < n → k ∉ done → f k = some b → R b v → Fr [it] w w' → Rng w' r it ek R f (done ++ [k]) n' (some k) → Q (.tuple #[.bool true, ek k, v]) w') : EvPrim P w (Instr.next (.pointer (some ⟨it, 0, none⟩)) false ty) L Q := by
  have hne := h.ne
  obtain ⟨es, c, seen, h1, h2, h3, h4, h5, h6, h7, h8, h9, h10⟩ := h
  rcases run_next_at (P := P) w ty it r c c seen es c h5 h1 (fun x hx => h2.1 x hx) (Nat.le_refl _) with ⟨g1, g2⟩ | ⟨e, he, w1, g1, g2⟩
  · refine ⟨_, w, g2, fun _ _ _ => rfl, k1 fun k hk => ?_⟩
    obtain ⟨x, hx, hxk⟩ := h4 k hk
    refine (h8 x hx k hxk).1 ?_
    cases hc : seen.contains x.born with
    | true => rfl
    | false =>
      exfalso
      have : x ∈ (leftOf es seen).toList := Array.mem_toList_iff.2 (Array.mem_filter.2 ⟨Array.mem_toList_iff.1 hx, by rw [hc]; rfl⟩)
      have := List.length_pos_of_mem this
      simp at this; omega
  · obtain ⟨he1, he2⟩ := mem_left he
    obtain ⟨k, b, e1, e2, e3⟩ := h3 e he1
    have hw1 : w1.heap = w.heap := by rcases g1 with rfl | rfl <;> rfl
    have hfr : Fr [it] w (setBlock w1 it (.mapIter (some r) c (seen.push e.born) c)) := by
      have a : Fr [it] w w1 := by rcases g1 with rfl | rfl; exact Fr.refl _ _; exact (Fr.drew w).nil
      exact a.trans (fr_setBlock (by rw [hw1]; exact h5))
    have hkd : k ∉ done := fun hm => by
      have := (h8 e he1 k e1).2 hm
      rw [he2] at this; cases this
    rw [e1] at g2
    refine ⟨_, _, g2, Keep.of_fr hfr (fun x hx hm => hL x hx (by simpa using hm)), k2 k b _ _ _ (by rw [h9]; exact left_shrinks es seen e he) hkd e2 e3 hfr ⟨es, c, seen.push e.born, ?_, h2, h3, h4, (heap_set (w := w1) (by rw [hw1]; exact h5)).1, ?_, ?_, ?_, rfl, ?_⟩⟩
    · show (w1.heap.setIfInBounds it _)[r]? = _
      rw [(heap_set (w := w1) (o' := .mapIter (some r) c (seen.push e.born) c) (by rw [hw1]; exact h5)).2 r (Ne.symm hne), hw1]; exact h1
    · exact List.nodup_append.2 ⟨h6, by simp, by rintro a ha b' hb' rfl; simp at hb'; exact hkd (hb' ▸ ha)⟩
    · intro k' hk'
      rcases List.mem_append.1 hk' with hk' | hk'
      · exact h7 k' hk'
      · simp at hk'; subst hk'; simp [e2]
    · intro x hx k' hxk
      rw [contains_push, Bool.or_eq_true, h8 x hx k' hxk, List.mem_append, List.mem_singleton, beq_iff_eq]
      constructor
      · rintro (h | h)
        · exact .inl h
        · right
          have : x = e := by
            obtain ⟨i, hi⟩ := List.getElem?_of_mem hx
            obtain ⟨j, hj⟩ := List.getElem?_of_mem he1
            have a1 : (es.toList.map (·.born))[i]? = some e.born := by rw [List.getElem?_map, hi]; simp [h]
            have a2 : (es.toList.map (·.born))[j]? = some e.born := by rw [List.getElem?_map, hj]; simp
            have := (List.getElem?_inj (List.getElem?_eq_some_iff.1 a1).1 h2.2.1).1 (a1.trans a2.symm)
            subst this; rw [hi] at hj; injection hj
          subst this
          exact hinj _ _ (hxk.symm.trans e1)
      · rintro (h | rfl)
        · exact .inl h
        · right
          have : x = e := by
            obtain ⟨i, hi⟩ := List.getElem?_of_mem hx
            obtain ⟨j, hj⟩ := List.getElem?_of_mem he1
            have a1 : (es.toList.map (·.key))[i]? = some (ek k') := by rw [List.getElem?_map, hi]; simp [hxk]
            have a2 : (es.toList.map (·.key))[j]? = some (ek k') := by rw [List.getElem?_map, hj]; simp [e1]
            have := (List.getElem?_inj (List.getElem?_eq_some_iff.1 a1).1 h2.2.2).1 (a1.trans a2.symm)
            subst this; rw [hi] at hj; injection hj
          rw [this]
    · rintro k' hk'
      injection hk' with hk'
      subst hk'
      exact ⟨e, he1, e1, _, rfl⟩

omit [DecidableEq κ] in
theorem EvRd.entryMap {it : Nat} {done : List κ} {n : Nat} {k : κ} (h : Rng w r it ek R f done n (some k)) {Q : Value → Prop} (k1 : ∀ v, Q (.tuple #[ek k, v])) : EvRd P w (Instr.entry (.pointer (some ⟨it, 0, none⟩))) Q := by
  obtain ⟨es, c, seen, h1, h2, _, _, h5, _, _, _, _, h10⟩ := h
  obtain ⟨e, he, e1, s', rfl⟩ := h10 k rfl
  exact ⟨_, run_entry_at w it r c s' es c e h5 h1 he h2.2.1, by rw [e1]; exact k1 _⟩
end
end Go.Fw
