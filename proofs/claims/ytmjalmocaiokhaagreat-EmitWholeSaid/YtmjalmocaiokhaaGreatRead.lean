/- Designs that come in as arguments, read. No condition. -/
import Derived.Test.YtmjalmocaiokhaaGreatCopy
import Derived.WalkKit
import Derived.ProofKit
import Derived.OpenShut
import Derived.Carry
import Derived.SizedLaws
import Derived.Deep.Slices
set_option linter.unusedVariables false
set_option linter.unusedSimpArgs false
set_option maxRecDepth 100000
namespace Go.Proofs.Tab
open Go Go.Fw Go.ChangeShapes Go.WideShapes Go.Deep

theorem weights_all {H : Type} {P : Program} {e : TypeId} {d : DataW H} {n : Nat} (hn : n ∈ d.weights P e) : ∀ {l : List (DataW H)}, d ∈ l → n ∈ DataW.weightsAll P e l
  | [], h => by cases h
  | x :: l, h => by
    rw [DataW.weightsAll, List.mem_append]
    rcases List.mem_cons.1 h with rfl | h
    · exact .inl hn
    · exact .inr (weights_all hn h)

section
variable {H : Type} {enc : TypeId × Value → H} {w : World} {sp : Nat → Bool} {held : Bool} {P : Program}

/-- No part weighs more than what an address space holds. -/
def Lit_ (P : Program) (t : TypeId) (d : DataW H) : Prop := ∀ k ∈ d.weights P t, k ≤ reachBytes

theorem rows_read {α : Type} (R : World → List Value → α → Prop) (Gd : α → Prop) {t e : TypeId} (ht : P.underlying t = some (.slice e)) (hb : 1 ≤ P.bytesOf e) {sz : Nat} (hsz : P.cellsOf e = sz) (h1 : 1 ≤ sz)
    (elem : ∀ (n : Nat) (cs : List Value) (x : DataW H × List MemPlace), cs.length = sz → DataW.trod enc P w 0 sp held n e cs = some x → Lit_ P e x.1 → ∃ a, R w cs a ∧ Gd a)
    {n : Nat} {cs : List Value} {x : DataW H × List MemPlace} (h : DataW.trod enc P w 0 sp held n t cs = some x) (hw : Lit_ P t x.1) :
    ∃ A c l, cs = [.slice A l.length c] ∧ RowsOf w A sz R l ∧ B47 l.length ∧ ∀ a ∈ l, Gd a := by
  rcases open_slice ht h with ⟨rfl, rfl⟩ | ⟨a, len, cap, m, n', D, Pl, rfl, _, hle, _, hm, rfl, hD⟩
  · exact ⟨none, 0, [], rfl, RowsOf.nil, by simp [B47], by simp⟩
  have hlm : len ≤ m := by rw [hm]; split <;> omega
  have hlen : B47 len := by
    have := hw ((((List.range len).map D).length + ((List.range (m - len)).map fun j => D (len + j)).length) * P.bytesOf e) (by simp [DataW.weights, ht])
    have h2 : len ≤ len * P.bytesOf e := Nat.le_mul_of_pos_right _ hb
    have h3 : len * P.bytesOf e ≤ (((List.range len).map D).length + ((List.range (m - len)).map fun j => D (len + j)).length) * P.bytesOf e := Nat.mul_le_mul_right _ (by simp)
    unfold reachBytes at this
    unfold B47
    omega
  have key : ∀ k, k ≤ len → ∃ (rows : List (List Value)) (l : List α), rows.length = k ∧ l.length = k ∧ ∀ i r b, rows[i]? = some r → l[i]? = some b → r.length = sz ∧ (∀ j v, r[j]? = some v → w.cell? ((a.add (i * sz)).add j) = some v) ∧ R w r b ∧ Gd b := by
    intro k
    induction k with
    | zero => intro _; exact ⟨[], [], rfl, rfl, by simp⟩
    | succ k ih =>
      intro hk
      obtain ⟨rows, l, e1, e2, hg⟩ := ih (by omega)
      obtain ⟨cs', hc, htr⟩ := hD k (by omega)
      rw [hsz] at hc
      obtain ⟨_, hl', hcell⟩ := World.cells?_some hc
      obtain ⟨b, hR, hGd⟩ := elem _ _ _ hl' htr fun q hq => hw q (by
        simp only [DataW.weights, ht]
        exact List.mem_cons_of_mem _ (List.mem_append_left _ (weights_all hq (List.mem_map.2 ⟨k, List.mem_range.2 (by omega), rfl⟩))))
      refine ⟨rows ++ [cs'], l ++ [b], by simp [e1], by simp [e2], fun i r b' hr hb' => ?_⟩
      by_cases hi : i < k
      · rw [List.getElem?_append_left (by omega)] at hr hb'
        exact hg i r b' hr hb'
      · have hik : i = k := by
          have := (List.getElem?_eq_some_iff.1 hr).1
          simp at this; omega
        subst hik
        rw [List.getElem?_append_right (by omega), e1, Nat.sub_self] at hr
        rw [List.getElem?_append_right (by omega), e2, Nat.sub_self] at hb'
        injection hr with hr; injection hb' with hb'
        subst hr hb'
        refine ⟨hl', fun j v hj => ?_, hR, hGd⟩
        have := (List.getElem?_eq_some_iff.1 hj).1
        rw [hcell j (by omega)]; exact hj
  obtain ⟨rows, l, e1, e2, hg⟩ := key len (Nat.le_refl _)
  refine ⟨some a, cap, l, by rw [e2], ⟨rows, ⟨fun r hr => ?_, fun hne => ⟨a, rfl, ?_, fun i r hr j v hj => ?_⟩⟩, by omega, fun i r b hr hb' => (hg i r b hr hb').2.2.1⟩, by rw [e2]; exact hlen, fun b hb' => ?_⟩
  · obtain ⟨i, hi, rfl⟩ := List.getElem_of_mem hr
    exact (hg i _ (l[i]'(by omega)) (List.getElem?_eq_getElem hi) (List.getElem?_eq_getElem _)).1
  · have hp : 0 < rows.length := List.length_pos_iff.2 hne
    obtain ⟨g1, g2, _⟩ := hg 0 rows[0] (l[0]'(by omega)) (List.getElem?_eq_getElem hp) (List.getElem?_eq_getElem _)
    have := g2 0 (rows[0][0]'(by omega)) (List.getElem?_eq_getElem _)
    rw [Nat.zero_mul, add_zero', add_zero'] at this
    exact World.block_lt_of_cell? w _ this
  · have hi := (List.getElem?_eq_some_iff.1 hr).1
    have := (hg i r (l[i]'(by omega)) hr (List.getElem?_eq_getElem _)).2.1 j v hj
    rwa [Go.Deep.add_add] at this
  · obtain ⟨i, hi, rfl⟩ := List.getElem_of_mem hb'
    exact (hg i (rows[i]'(by omega)) _ (List.getElem?_eq_getElem _) (List.getElem?_eq_getElem hi)).2.2.2

theorem rows_eq {α : Type} {R : World → List Value → α → Prop} {g : α → List Value} (hR : ∀ r a, R w r a → r = g a) {A : Option Addr} {sz : Nat} {l : List α} (h : RowsOf w A sz R l) : Fw.Rows w A sz (l.map g) := by
  obtain ⟨rows, h1, h2, h3⟩ := h
  have : l.map g = rows := by
    apply List.ext_getElem?
    intro i
    rw [List.getElem?_map]
    by_cases hi : i < l.length
    · rw [List.getElem?_eq_getElem hi, List.getElem?_eq_getElem (by omega)]
      exact congrArg some (hR _ _ (h3 i _ _ (List.getElem?_eq_getElem _) (List.getElem?_eq_getElem hi))).symm
    · rw [List.getElem?_eq_none (by omega), List.getElem?_eq_none (by omega)]; rfl
  rw [this]; exact h1

/-- The parts of a struct. -/
theorem struct_read {t : TypeId} {fs : Array Field} (ht : P.underlying t = some (.struct fs)) {n : Nat} {cs : List Value} {x : DataW H × List MemPlace} (h : DataW.trod enc P w 0 sp held n t cs = some x) (hw : Lit_ P t x.1) :
    ∃ m, ∀ (i : Nat) (f : Field), fs[i]? = some f → ∃ y, DataW.trod enc P w 0 sp held m f.type ((cs.drop f.offset).take (P.cellsOf f.type)) = some y ∧ Lit_ P f.type y.1 := by
  obtain ⟨xs, m, _, rfl, _, hl, hf⟩ := DataW.trod_struct ht h
  refine ⟨m, fun i f hi => ?_⟩
  have hil : i < xs.length := by rw [hl]; exact (Array.getElem?_eq_some_iff.1 hi).1
  refine ⟨xs[i], by rw [hf i f hi]; exact List.getElem?_eq_getElem hil, fun k hk => hw k ?_⟩
  simp only [DataW.weights, ht]
  refine DataW.weights_mem_each (j := i) (t := f.type) (d := xs[i].1) ?_ ?_ k hk
  · rw [List.getElem?_map, Array.getElem?_toList, hi]; rfl
  · rw [List.getElem?_map, List.getElem?_eq_getElem hil]; rfl
theorem lit_string {t : TypeId} {s : ByteArray} (h : Lit_ (H := H) P t (.lit (.string s.data.toList))) : B47 s.size := by
  have := h s.data.toList.length (by simp [DataW.weights])
  rw [Array.length_toList] at this
  unfold reachBytes at this
  show s.data.size ≤ _
  omega
end

section
variable {H : Type} {enc : TypeId × Value → H} {w : World} {sp : Nat → Bool} {held : Bool}

theorem u_node : Tryz.prog.underlying 53 = some (.struct (match Tryz.prog.underlying 53 with | some (.struct fs) => fs | _ => #[])) := by kernel_rfl

theorem nd_read (n : Nat) (cs : List Value) (x : DataW H × List MemPlace) (hl : cs.length = 7) (h : DataW.trod enc Tryz.prog w 0 sp held n 53 cs = some x) (hw : Lit_ Tryz.prog 53 x.1) :
    ∃ a : Nd, cs = a.cells ∧ B47 a.text.size := by
  obtain ⟨m, hf⟩ := struct_read u_node h hw
  match cs, hl with
  | [c0, c1, c2, c3, c4, c5, c6], _ =>
    obtain ⟨y0, h0, _⟩ := hf 0 _ rfl
    obtain ⟨y1, h1, _⟩ := hf 1 _ rfl
    obtain ⟨y2, h2, _⟩ := hf 2 _ rfl
    obtain ⟨y3, h3, _⟩ := hf 3 _ rfl
    obtain ⟨y4, h4, w4⟩ := hf 4 _ rfl
    obtain ⟨y5, h5, _⟩ := hf 5 _ rfl
    obtain ⟨y6, h6, _⟩ := hf 6 _ rfl
    obtain ⟨v0, e0, _⟩ := DataW.trod_int (k := .i8) (by kernel_rfl) h0
    obtain ⟨v1, e1, _⟩ := DataW.trod_int (k := .i8) (by kernel_rfl) h1
    obtain ⟨v2, e2, _⟩ := DataW.trod_int (k := .i64) (by kernel_rfl) h2
    obtain ⟨v3, e3, _⟩ := DataW.trod_int (k := .i64) (by kernel_rfl) h3
    obtain ⟨s4, e4, rfl, _⟩ := DataW.trod_string (by kernel_rfl) h4
    obtain ⟨v5, e5, _⟩ := DataW.trod_int (k := .i64) (by kernel_rfl) h5
    obtain ⟨v6, e6, _⟩ := DataW.trod_int (k := .i64) (by kernel_rfl) h6
    replace e0 : [c0] = _ := e0
    replace e1 : [c1] = _ := e1
    replace e2 : [c2] = _ := e2
    replace e3 : [c3] = _ := e3
    replace e4 : [c4] = _ := e4
    replace e5 : [c5] = _ := e5
    replace e6 : [c6] = _ := e6
    injection e0 with e0; injection e1 with e1; injection e2 with e2; injection e3 with e3; injection e4 with e4; injection e5 with e5; injection e6 with e6
    subst e0 e1 e2 e3 e4 e5 e6
    exact ⟨⟨v0, v1, v2, v3, s4, v5, v6⟩, rfl, lit_string w4⟩

theorem small_read (n : Nat) (cs : List Value) (x : DataW H × List MemPlace) (hl : cs.length = 1) (h : DataW.trod enc Tryz.prog w 0 sp held n 51 cs = some x) (hw : Lit_ Tryz.prog 51 x.1) :
    ∃ a : Int, cs = [.int .i8 a] ∧ True := by
  obtain ⟨v, e, _⟩ := DataW.trod_int (k := .i8) (by kernel_rfl) h
  exact ⟨v, e, trivial⟩
theorem text_read (n : Nat) (cs : List Value) (x : DataW H × List MemPlace) (hl : cs.length = 1) (h : DataW.trod enc Tryz.prog w 0 sp held n 9 cs = some x) (hw : Lit_ Tryz.prog 9 x.1) :
    ∃ s : ByteArray, cs = [.string s] ∧ B47 s.size := by
  obtain ⟨s, e, rfl, _⟩ := DataW.trod_string (by kernel_rfl) h
  exact ⟨s, e, lit_string hw⟩
theorem u_ab : Tryz.prog.underlying 37 = some (.struct (match Tryz.prog.underlying 37 with | some (.struct fs) => fs | _ => #[])) := by kernel_rfl
theorem ab_read (n : Nat) (cs : List Value) (x : DataW H × List MemPlace) (hl : cs.length = 4) (h : DataW.trod enc Tryz.prog w 0 sp held n 37 cs = some x) (hw : Lit_ Tryz.prog 37 x.1) :
    ∃ a : Ab, AbIn All w cs a ∧ SmAb a := by
  obtain ⟨m, hf⟩ := struct_read u_ab h hw
  match cs, hl with
  | [c0, c1, c2, c3], _ =>
    obtain ⟨y0, h0, _⟩ := hf 0 _ rfl
    obtain ⟨y1, h1, w1⟩ := hf 1 _ rfl
    obtain ⟨y2, h2, _⟩ := hf 2 _ rfl
    obtain ⟨y3, h3, w3⟩ := hf 3 _ rfl
    obtain ⟨v0, e0, _⟩ := DataW.trod_int (k := .i64) (by kernel_rfl) h0
    obtain ⟨A1, a1, l1, e1, r1, b1, _⟩ := rows_read (P := Tryz.prog) (e := 51) (fun _ (r : List Value) (a : Int) => r = [.int .i8 a]) (fun _ => True) (by kernel_rfl) (by decide +kernel) (by kernel_rfl) (Nat.le_refl 1) small_read h1 w1
    obtain ⟨v2, e2, _⟩ := DataW.trod_bool (by kernel_rfl) h2
    obtain ⟨A3, a3, l3, e3, r3, b3, g3⟩ := rows_read (P := Tryz.prog) (e := 53) (fun _ (r : List Value) (a : Nd) => r = a.cells) (fun a => B47 a.text.size) (by kernel_rfl) (by decide +kernel) (by kernel_rfl) (by omega : 1 ≤ 7) nd_read h3 w3
    replace e0 : [c0] = _ := e0
    replace e1 : [c1] = _ := e1
    replace e2 : [c2] = _ := e2
    replace e3 : [c3] = _ := e3
    injection e0 with e0; injection e1 with e1; injection e2 with e2; injection e3 with e3
    subst e0 e1 e2 e3
    exact ⟨⟨v0, l1, v2, l3⟩, ⟨A1, a1, A3, a3, rfl, rows_eq (fun _ _ h => h) r1, rows_eq (fun _ _ h => h) r3, OnQ.all _, OnQ.all _⟩, b1, b3, g3⟩
theorem u_ds : Tryz.prog.underlying 33 = some (.struct (match Tryz.prog.underlying 33 with | some (.struct fs) => fs | _ => #[])) := by kernel_rfl
theorem ds_read (n : Nat) (cs : List Value) (x : DataW H × List MemPlace) (hl : cs.length = 6) (h : DataW.trod enc Tryz.prog w 0 sp held n 33 cs = some x) (hw : Lit_ Tryz.prog 33 x.1) :
    ∃ a : Ds, DsIn All w cs a ∧ SmDs a := by
  obtain ⟨m, hf⟩ := struct_read u_ds h hw
  match cs, hl with
  | [c0, c1, c2, c3, c4, c5], _ =>
    obtain ⟨y0, h0, w0⟩ := hf 0 _ rfl
    obtain ⟨y1, h1, _⟩ := hf 1 _ rfl
    obtain ⟨y2, h2, _⟩ := hf 2 _ rfl
    obtain ⟨y3, h3, _⟩ := hf 3 _ rfl
    obtain ⟨y4, h4, w4⟩ := hf 4 _ rfl
    obtain ⟨y5, h5, w5⟩ := hf 5 _ rfl
    obtain ⟨s0, e0, rfl, _⟩ := DataW.trod_string (by kernel_rfl) h0
    obtain ⟨v1, e1, _⟩ := DataW.trod_int (k := .i64) (by kernel_rfl) h1
    obtain ⟨v2, e2, _⟩ := DataW.trod_int (k := .i64) (by kernel_rfl) h2
    obtain ⟨v3, e3, _⟩ := DataW.trod_int (k := .i64) (by kernel_rfl) h3
    obtain ⟨A4, a4, l4, e4, r4, b4, g4⟩ := rows_read (P := Tryz.prog) (e := 9) (fun _ (r : List Value) (a : ByteArray) => r = [.string a]) (fun a => B47 a.size) (by kernel_rfl) (by decide +kernel) (by kernel_rfl) (Nat.le_refl 1) text_read h4 w4
    obtain ⟨A5, a5, l5, e5, r5, b5, g5⟩ := rows_read (P := Tryz.prog) (e := 37) (AbIn All) SmAb (by kernel_rfl) (by decide +kernel) (by kernel_rfl) (by omega : 1 ≤ 4) ab_read h5 w5
    replace e0 : [c0] = _ := e0
    replace e1 : [c1] = _ := e1
    replace e2 : [c2] = _ := e2
    replace e3 : [c3] = _ := e3
    replace e4 : [c4] = _ := e4
    replace e5 : [c5] = _ := e5
    injection e0 with e0; injection e1 with e1; injection e2 with e2; injection e3 with e3; injection e4 with e4; injection e5 with e5
    subst e0 e1 e2 e3 e4 e5
    exact ⟨⟨s0, v1, v2, v3, l4, l5⟩, ⟨A4, a4, A5, a5, rfl, rows_eq (fun _ _ h => h) r4, ⟨r5, OnQ.all _⟩, OnQ.all _⟩, lit_string w0, ⟨b4, g4⟩, b5, g5⟩
/-- A slice of designs. -/
theorem dss_read (n : Nat) (cs : List Value) (x : DataW H × List MemPlace) (h : DataW.trod enc Tryz.prog w 0 sp held n 22 cs = some x) (hw : Lit_ Tryz.prog 22 x.1) :
    ∃ A c l, cs = [.slice A l.length c] ∧ DssIn All w A l ∧ SmDss l := by
  obtain ⟨A, c, l, e, r, b, g⟩ := rows_read (P := Tryz.prog) (e := 33) (DsIn All) SmDs (by kernel_rfl) (by decide +kernel) (by kernel_rfl) (by omega : 1 ≤ 6) ds_read h hw
  exact ⟨A, c, l, e, ⟨r, OnQ.all _⟩, b, g⟩
end
end Go.Proofs.Tab
