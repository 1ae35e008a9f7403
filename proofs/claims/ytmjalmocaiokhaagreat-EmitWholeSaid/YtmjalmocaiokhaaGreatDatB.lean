/- Abilities and designs, as plain Lean, and how they lie in memory. No condition. -/
import Derived.Test.YtmjalmocaiokhaaGreatFwK
set_option linter.unusedVariables false
namespace Go.Fw
open Go

/-- A slice of small ints. -/
def SmallsAt (w : World) (A : Option Addr) (xs : List Int) : Prop := Rows w A 1 (xs.map fun x => [.int .i8 x])
def TextsAt (w : World) (A : Option Addr) (xs : List ByteArray) : Prop := Rows w A 1 (xs.map fun x => [.string x])
def LongsAt (w : World) (A : Option Addr) (xs : List Int) : Prop := IntsAt w A xs
def BytesAt (w : World) (A : Option Addr) (xs : List Int) : Prop := Rows w A 1 (xs.map fun x => [.int .u8 x])

structure Ab where
  on : Int
  slots : List Int
  when : Bool
  tree : List Nd
deriving Inhabited

/-- The cells of an ability. -/
def Ab.cells (a : Ab) (As : Option Addr) (cs : Nat) (At : Option Addr) (ct : Nat) : List Value :=
  [.int .i64 a.on, .slice As a.slots.length cs, .bool a.when, .slice At a.tree.length ct]
/-- Where an address lies, if there is one. -/
def OnQ (Q : Nat → Prop) (A : Option Addr) : Prop := ∀ x, A = some x → Q x.block
def All : Nat → Prop := fun _ => True

/-- Rows of structs that are read by a relation. -/
def RowsOf {α : Type} (w : World) (A : Option Addr) (sz : Nat) (R : World → List Value → α → Prop) (l : List α) : Prop :=
  ∃ rows, Rows w A sz rows ∧ rows.length = l.length ∧ ∀ (i : Nat) (r : List Value) (a : α), rows[i]? = some r → l[i]? = some a → R w r a

/-- An ability whose parts lie in blocks that meet Q. -/
def AbIn (Q : Nat → Prop) (w : World) (r : List Value) (a : Ab) : Prop := ∃ As cs At ct, r = a.cells As cs At ct ∧ SmallsAt w As a.slots ∧ NodesAt w At a.tree ∧ OnQ Q As ∧ OnQ Q At
abbrev AbAt := AbIn All
def AbsIn (Q : Nat → Prop) (w : World) (A : Option Addr) (l : List Ab) : Prop := RowsOf w A 4 (AbIn Q) l ∧ OnQ Q A
abbrev AbsAt := AbsIn All

structure Ds where
  name : ByteArray
  cost : Int
  power : Int
  health : Int
  tags : List ByteArray
  able : List Ab
deriving Inhabited
def Ds.cells (d : Ds) (At : Option Addr) (ct : Nat) (Aa : Option Addr) (ca : Nat) : List Value :=
  [.string d.name, .int .i64 d.cost, .int .i64 d.power, .int .i64 d.health, .slice At d.tags.length ct, .slice Aa d.able.length ca]
def DsIn (Q : Nat → Prop) (w : World) (r : List Value) (d : Ds) : Prop := ∃ At ct Aa ca, r = d.cells At ct Aa ca ∧ TextsAt w At d.tags ∧ AbsIn Q w Aa d.able ∧ OnQ Q At
abbrev DsAt := DsIn All
def DssIn (Q : Nat → Prop) (w : World) (A : Option Addr) (l : List Ds) : Prop := RowsOf w A 6 (DsIn Q) l ∧ OnQ Q A
abbrev DssAt := DssIn All

section
variable {w w' : World} {S : List Nat} {Q Q' : Nat → Prop}
theorem OnQ.all (A : Option Addr) : OnQ All A := fun _ _ => trivial
theorem OnQ.imp {A : Option Addr} (h : OnQ Q A) (hq : ∀ b, Q b → Q' b) : OnQ Q' A := fun x hx => hq _ (h x hx)
theorem OnQ.none_ : OnQ Q none := fun _ h => by cases h
theorem Rows.frQ {A : Option Addr} {sz : Nat} {rows : List (List Value)} (h : Rows w A sz rows) (hq : OnQ Q A) (hf : Fr S w w') (hs : ∀ b, Q b → b ∉ S) : Rows w' A sz rows := h.fr hf fun a ha => hs _ (hq a ha)
theorem RowsOf.frQ {α : Type} {A : Option Addr} {sz : Nat} {R : World → List Value → α → Prop} {l : List α} (hR : ∀ r a, R w r a → R w' r a) (h : RowsOf w A sz R l) (hq : OnQ Q A) (hf : Fr S w w') (hs : ∀ b, Q b → b ∉ S) : RowsOf w' A sz R l := by
  obtain ⟨rows, h1, h2, h3⟩ := h; exact ⟨rows, h1.frQ hq hf hs, h2, fun i r a hr ha => hR _ _ (h3 i r a hr ha)⟩
theorem RowsOf.imp {α : Type} {A : Option Addr} {sz : Nat} {R R' : World → List Value → α → Prop} {l : List α} (hR : ∀ r a, R w r a → R' w r a) (h : RowsOf w A sz R l) : RowsOf w A sz R' l := by
  obtain ⟨rows, h1, h2, h3⟩ := h; exact ⟨rows, h1, h2, fun i r a hr ha => hR _ _ (h3 i r a hr ha)⟩
theorem AbIn.fr {r : List Value} {a : Ab} (h : AbIn Q w r a) (hf : Fr S w w') (hs : ∀ b, Q b → b ∉ S) : AbIn Q w' r a := by
  obtain ⟨As, cs, At, ct, h1, h2, h3, h4, h5⟩ := h; exact ⟨As, cs, At, ct, h1, Rows.frQ h2 h4 hf hs, Rows.frQ h3 h5 hf hs, h4, h5⟩
theorem AbIn.fr0 {r : List Value} {a : Ab} (h : AbIn Q w r a) (hf : Fr [] w w') : AbIn Q w' r a := h.fr hf (by simp)
theorem AbIn.imp {r : List Value} {a : Ab} (h : AbIn Q w r a) (hq : ∀ b, Q b → Q' b) : AbIn Q' w r a := by
  obtain ⟨As, cs, At, ct, h1, h2, h3, h4, h5⟩ := h; exact ⟨As, cs, At, ct, h1, h2, h3, h4.imp hq, h5.imp hq⟩
theorem AbsIn.fr {A : Option Addr} {l : List Ab} (h : AbsIn Q w A l) (hf : Fr S w w') (hs : ∀ b, Q b → b ∉ S) : AbsIn Q w' A l := ⟨RowsOf.frQ (fun _ _ h => h.fr hf hs) h.1 h.2 hf hs, h.2⟩
theorem AbsIn.fr0 {A : Option Addr} {l : List Ab} (h : AbsIn Q w A l) (hf : Fr [] w w') : AbsIn Q w' A l := h.fr hf (by simp)
theorem AbsIn.imp {A : Option Addr} {l : List Ab} (h : AbsIn Q w A l) (hq : ∀ b, Q b → Q' b) : AbsIn Q' w A l := ⟨RowsOf.imp (fun _ _ h => h.imp hq) h.1, h.2.imp hq⟩
theorem DsIn.fr {r : List Value} {d : Ds} (h : DsIn Q w r d) (hf : Fr S w w') (hs : ∀ b, Q b → b ∉ S) : DsIn Q w' r d := by
  obtain ⟨At, ct, Aa, ca, h1, h2, h3, h4⟩ := h; exact ⟨At, ct, Aa, ca, h1, Rows.frQ h2 h4 hf hs, h3.fr hf hs, h4⟩
theorem DsIn.fr0 {r : List Value} {d : Ds} (h : DsIn Q w r d) (hf : Fr [] w w') : DsIn Q w' r d := h.fr hf (by simp)
theorem DsIn.imp {r : List Value} {d : Ds} (h : DsIn Q w r d) (hq : ∀ b, Q b → Q' b) : DsIn Q' w r d := by
  obtain ⟨At, ct, Aa, ca, h1, h2, h3, h4⟩ := h; exact ⟨At, ct, Aa, ca, h1, h2, h3.imp hq, h4.imp hq⟩
theorem DssIn.fr {A : Option Addr} {l : List Ds} (h : DssIn Q w A l) (hf : Fr S w w') (hs : ∀ b, Q b → b ∉ S) : DssIn Q w' A l := ⟨RowsOf.frQ (fun _ _ h => h.fr hf hs) h.1 h.2 hf hs, h.2⟩
theorem DssIn.fr0 {A : Option Addr} {l : List Ds} (h : DssIn Q w A l) (hf : Fr [] w w') : DssIn Q w' A l := h.fr hf (by simp)
theorem DssIn.imp {A : Option Addr} {l : List Ds} (h : DssIn Q w A l) (hq : ∀ b, Q b → Q' b) : DssIn Q' w A l := ⟨RowsOf.imp (fun _ _ h => h.imp hq) h.1, h.2.imp hq⟩

theorem RowsOf.nil {α : Type} {A : Option Addr} {sz : Nat} {R : World → List Value → α → Prop} : RowsOf w A sz R [] := ⟨[], Rows.nil, rfl, by simp⟩
/-- The i-th row. -/
theorem RowsOf.get {α : Type} {A : Option Addr} {sz : Nat} {R : World → List Value → α → Prop} {l : List α} (h : RowsOf w A sz R l) {i : Nat} (hi : i < l.length) :
    ∃ a r, A = some a ∧ a.block < w.heap.size ∧ r.length = sz ∧ R w r l[i] ∧ ∀ j v, r[j]? = some v → w.cell? ((a.add (i * sz)).add j) = some v := by
  obtain ⟨rows, h1, h2, h3⟩ := h
  obtain ⟨a, ha, hb⟩ := h1.at_ (by omega)
  have hr : rows[i]? = some (rows[i]'(by omega)) := List.getElem?_eq_getElem _
  exact ⟨a, _, ha, hb, h1.1 _ (List.getElem_mem _), h3 i _ _ hr (List.getElem?_eq_getElem hi), fun j v hj => h1.cell' ha hr hj⟩
theorem EvIdx.row {α : Type} {A : Option Addr} {sz : Nat} {R : World → List Value → α → Prop} {l : List α} (h : RowsOf w A sz R l) {n : Nat} {i : Nat} {K : Addr → Prop} (h1 : i < l.length) (hn : n = l.length) {sz' : Nat} (hs : sz' = sz)
    (k : ∀ a r, A = some a → r.length = sz → R w r l[i] → (∀ j v, r[j]? = some v → w.cell? ((a.add (i * sz)).add j) = some v) → K (a.add (i * sz))) : EvIdx A n (i : Int) sz' K := by
  obtain ⟨a, r, g1, g2, g3, g4, g5⟩ := h.get h1
  exact ⟨a, g1, by omega, by omega, by rw [hs, Int.toNat_natCast]; exact k a r g1 g3 g4 g5⟩
/-- A whole row. -/
theorem EvLdN.row {a : Addr} {i sz n : Nat} {r : List Value} {K : List Value → Prop} (h : ∀ j v, r[j]? = some v → w.cell? ((a.add (i * sz)).add j) = some v) (hl : r.length = n) (k : K r) : EvLdN w (a.add (i * sz)) n K :=
  ⟨r, hl, h, k⟩
theorem EvLd.row {a : Addr} {r : List Value} {j : Nat} {v : Value} {K : Value → Prop} (h : ∀ j v, r[j]? = some v → w.cell? (a.add j) = some v) (hj : r[j]? = some v) (k : K v) : EvLd w (a.add j) K := ⟨v, h j v hj, k⟩
theorem EvLd.row0 {a : Addr} {r : List Value} {v : Value} {K : Value → Prop} (h : ∀ j v, r[j]? = some v → w.cell? (a.add j) = some v) (hj : r[0]? = some v) (k : K v) : EvLd w a K := ⟨v, by have := h 0 v hj; rwa [add_zero'] at this, k⟩
end

/-! ### Sizes -/
def sizeNodes (t : List Nd) : Nat := t.length + (t.map (·.text.size)).sum
def sizeAb (a : Ab) : Nat := a.slots.length + sizeNodes a.tree
def sizeTexts (l : List ByteArray) : Nat := l.length + (l.map (·.size)).sum
def sizeDs (d : Ds) : Nat := d.name.size + sizeTexts d.tags + (d.able.map fun a => 1 + sizeAb a).sum
def sizeDss (l : List Ds) : Nat := l.length + (l.map sizeDs).sum

/-- No slice and no string is longer than what an address space holds. -/
def B47 (n : Nat) : Prop := n ≤ 140737488355328
def SmTexts (l : List ByteArray) : Prop := B47 l.length ∧ ∀ s ∈ l, B47 s.size
def SmNodes (t : List Nd) : Prop := B47 t.length ∧ ∀ x ∈ t, B47 x.text.size
def SmAb (a : Ab) : Prop := B47 a.slots.length ∧ SmNodes a.tree
def SmDs (d : Ds) : Prop := B47 d.name.size ∧ SmTexts d.tags ∧ B47 d.able.length ∧ ∀ a ∈ d.able, SmAb a
def SmDss (l : List Ds) : Prop := B47 l.length ∧ ∀ d ∈ l, SmDs d

theorem sum_take_succ {α : Type} (f : α → Nat) (l : List α) {i : Nat} (h : i < l.length) : ((l.take (i + 1)).map f).sum = ((l.take i).map f).sum + f l[i] := by
  rw [List.take_succ_eq_append_getElem h, List.map_append, List.sum_append]
  simp

end Go.Fw
